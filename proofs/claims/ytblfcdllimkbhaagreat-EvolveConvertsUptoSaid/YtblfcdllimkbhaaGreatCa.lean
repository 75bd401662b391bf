/- Lemmas and walks for the proof. -/
import Derived.WalkKit
import Derived.MapKept
import Derived.Lib.Builder
import Derived.Lib.UnsafeStr
import Derived.Laws.Externs
import Derived.KernelRfl
import Derived.Laws.MakeOwn
import Derived.Laws.OwnMore
import Derived.Lib.AppendStr
import Derived.StillTail
set_option maxRecDepth 100000
set_option maxHeartbeats 8000000
open List renaming getElem?_map→b9,getElem?_append→uC,getElem?_take→gW,getElem?_drop→vV,eq_nil_of_length_eq_zero→iB,length_cons→bP,foldl_cons→sI,take_append→T9,take_of_length_le→sE,drop_append→JT,drop_of_length_le→UA,nil_append→jT,drop_succ_cons→JP,flatten_cons→fA,drop_take→aDA,map_cons→gC,getElem?_cons_zero→oS,ext_getElem?→iF,getElem?_eq_none_iff→zB,length_map→cE,map_map→fK,mem_of_mem_take→UB,flatten_append→zG,getElem?_append_left→lY,mem_of_mem_drop→aDE,mem_flatten→w8,map_nil→T0,mem_map→dO,map_append→C7,getElem?_set→mP,getElem?_eq_none→iE,mem_iff_getElem?→eN,take_append_of_le_length→aDG,size_toArray→uD,getElem_mem→eM,length_append→bW,length_take→eJ,length_drop→qP,mem_or_eq_of_mem_set→aDH,length_set→lE,mem_append→cL,toList_toArray→C9,mem_cons_of_mem→eD,eq_of_mem_replicate→aDI,length_replicate→aDJ,range_eq_range'→aDK,zip_map'→aDL,append_assoc→gV,take_left→JS,length_pos_iff→aCX,getElem?_range→DG
open Array renaming getD_eq_getD_getElem?→vW,toArray_toList→eL,length_toList→uH,foldl_toList→aDB,toList_zipIdx→aDC,getElem?_map→aDD,getElem?_eq_getElem→nO,getElem?_eq_none→nT,toList_map→DF,getElem?_eq_some_iff→mQ,size_append→aDN,toList_append→aDO,empty_append→aDP,getElem?_modify→qN,getElem?_toList→aC3
open Nat renaming succ_mul→jU,add_assoc→sF,add_zero→E5,zero_add→gJ,le_trans→dM,eq_zero_or_pos→gK,zero_mul→aDF,mul_le_mul_right→gD,zero_le→aP,lt_of_lt_of_le→C8,le_refl→bE,mul_pos→aDM,add_mul→zC,mul_one→T6
open Option renaming map_eq_some_iff→lX,map_some→cQ
open Bool renaming not_eq_true'→oR,false_eq_true→qQ,and_eq_true→bI
open Int renaming toNat_natCast→cP
namespace Go.W
theorem aQ {α:Sort _} {a b:α}:cond true a b=a:=rfl
theorem aI {α:Sort _} {a b:α}:cond false a b=b:=rfl
theorem aM {α:Type _} (a b:α):(some a=some b)=(a=b):=Option.some.injEq a b
theorem dV {α:Type _} {a b:α}:some a=some b->a=b:=Option.some.inj
theorem aX {α:Type _} {l:List α} {i:Nat} (h:i<l.length):l[i]?=some l[i]:=List.getElem?_eq_getElem h
theorem bT {α:Type _} {l:List α} {i:Nat} {a:α}:l[i]?=some a<->∃h:i<l.length,l[i]=a:=List.getElem?_eq_some_iff
theorem cC {α:Type _} {l:List α} {i:Nat} {a:α} (h:l[i]?=some a):a∈l:=List.mem_of_getElem? h
theorem bB (a b:Nat):a<b\/b<=a:=Nat.lt_or_ge a b
theorem dP {p:Prop} [Decidable p] (h:¬p):decide p=false:=decide_eq_false h
theorem gL {p:Prop} [i:Decidable p] (h:decide p=false):¬p:=of_decide_eq_false h
theorem eE {p:Prop} [Decidable p] (h:p):decide p=true:=decide_eq_true h
theorem iO {p:Prop} [i:Decidable p] (h:decide p=true):p:=of_decide_eq_true h
theorem fU {p:Prop} [Decidable p]:(decide p=true)=p:=decide_eq_true_eq
theorem qF {p:Prop} {_:Decidable p}:decide p=false<->¬p:=decide_eq_false_iff_not
end Go.W
namespace Go.W
inductive C where
 |no
 |vl (v:Value)
 |pt (n off:Nat)
 |sl (n len:Nat)
 |qt (n len sz i j:Nat)
 |fz (xs:List (List C))
 |fp (r:List C) (j:Nat)
 |fn (f:FuncId) (cs:List (Bool×List C))
 |dp (n len:Nat)
 |mp (n:Nat)
 |fm (f:FuncId) (fs:List (List C))
def All2 {α β:Type} (R:α->β->Prop) (l:List α) (m:List β):Prop:=l.length=m.length/\∀(i:Nat) (x:α) (y:β),l[i]? = some x->m[i]? = some y->R x y
section
variable {α β:Type} {R:α->β->Prop}
theorem All2.nil:All2 R [] []:=⟨rfl,fun i x y h=>by simp at h⟩
theorem All2.cons {x:α} {y:β} {l:List α} {m:List β} (h:R x y) (k:All2 R l m):All2 R (x::l) (y::m):=by
 refine ⟨by simp[k.1],fun i a b ha hb=>?_⟩
 cases i with
 |zero=>simp at ha hb;subst ha;subst hb;exact h
 |succ i=>exact k.2 i a b (by simpa using ha) (by simpa using hb)
theorem All2.get {l:List α} {m:List β} (h:All2 R l m) {i:Nat} {x:α} (hx:l[i]? = some x):∃y,m[i]? = some y/\R x y:=by
 have hi:i<m.length:=by rw[<-h.1];exact (bT.1 hx).1
 exact ⟨m[i],aX hi,h.2 i x _ hx (aX hi)⟩
theorem All2.get' {l:List α} {m:List β} (h:All2 R l m) {i:Nat} {y:β} (hy:m[i]? = some y):∃x,l[i]? = some x/\R x y:=by
 have hi:i<l.length:=by rw[h.1];exact (bT.1 hy).1
 exact ⟨l[i],aX hi,h.2 i _ y (aX hi) hy⟩
theorem All2.imp {S:α->β->Prop} (hi:∀x y,R x y->S x y) {l:List α} {m:List β} (h:All2 R l m):All2 S l m:=⟨h.1,fun i x y hx hy=>hi _ _ (h.2 i x y hx hy)⟩
theorem All2.map {γ:Type} {S:γ->β->Prop} {f:α->γ} (hi:∀x y,R x y->S (f x) y) {l:List α} {m:List β} (h:All2 R l m):All2 S (l.map f) m:=by
 refine ⟨by simp[h.1],fun i x y hx hy=>?_⟩
 rw[b9] at hx
 cases hl:l[i]? with
 |none=>simp[hl] at hx
 |some z=>simp[hl] at hx;subst hx;exact hi _ _ (h.2 i z y hl hy)
theorem All2.app {l l':List α} {m m':List β} (h:All2 R l m) (k:All2 R l' m'):All2 R (l++l') (m++m'):=by
 refine ⟨by simp[h.1,k.1],fun i x y hx hy=>?_⟩
 rw[uC] at hx hy
 rw[<-h.1] at hy
 split at hx
 · rename_i hlt;rw[if_pos hlt] at hy;exact h.2 i x y hx hy
 · rename_i hlt;rw[if_neg hlt] at hy;exact k.2 _ x y hx hy
theorem All2.take {l:List α} {m:List β} (h:All2 R l m) (k:Nat):All2 R (l.take k) (m.take k):=by
 refine ⟨by simp[h.1],fun i x y hx hy=>?_⟩
 rw[gW] at hx hy
 split at hx
 · rename_i hlt;rw[if_pos hlt] at hy;exact h.2 i x y hx hy
 · cases hx
theorem All2.drop {l:List α} {m:List β} (h:All2 R l m) (k:Nat):All2 R (l.drop k) (m.drop k):=by
 refine ⟨by simp[h.1],fun i x y hx hy=>?_⟩
 rw[vV] at hx hy
 exact h.2 _ x y hx hy
theorem All2.nil_inv {m:List β} (h:All2 R [] m):m=[]:=iB h.1.symm
theorem All2.cons_inv {x:α} {l:List α} {m:List β} (h:All2 R (x::l) m):∃y m',m=y::m'/\R x y/\All2 R l m':=by
 cases m with
 |nil=>have:=h.1;simp at this
 |cons y m'=>exact ⟨y,m',rfl,h.2 0 x y rfl rfl,by simpa using h.1,fun i a b ha hb=>h.2 (i+1) a b (by simpa using ha) (by simpa using hb)⟩
end
structure Gb where
 ob:Option Nat
 row:Bool
 len:Nat
 cap:Nat
 T:TypeId
 vs:List Value
abbrev RO:=Nat->Nat->Option Value
def FK (o:Option (Nat×Nat)) (k:Nat):Option Addr:=o.map fun x=>⟨x.1,x.2+k,none⟩
def bX (o:Option Nat) (k:Nat):Option Addr:=o.map fun b=>⟨b,k,none⟩
def C.shut:C->Bool
 |.vl _ | .fz _=>true
 |_=>false
inductive FzR (ro:RO):List (List C)->Value->Prop
 |mk (xs:List (List C)) (sz:Nat) (o:Option (Nat×Nat)) (oa:Option Addr) (hoa:xs≠[]->oa=FK o 0) (cap:Nat) (vs:Nat->Value) (hz:∀x∈xs,x.length=sz) (hc:xs.length<=cap) (ho:xs≠[]->o.isSome=true)
  (h1:∀k c,xs.flatten[k]? = some c->ro (o.getD (0,0)).1 ((o.getD (0,0)).2+k)=some (vs k)) (h2:∀k v,xs.flatten[k]? = some (.vl v)->vs k=v)
  (h3:∀k ys,xs.flatten[k]? = some (.fz ys)->FzR ro ys (vs k)) (h4:∀c∈xs.flatten,c.shut=true):FzR ro xs (.slice oa xs.length cap)
def C.fv (ro:RO):C->Value->Prop
 |.vl v,u=>u=v
 |.fz xs,u=>FzR ro xs u
 |_,_=>False
def C.rel0 (γ:List Gb) (ro:RO):C->Value->Prop
 |.no,_=>True
 |.vl v,u=>u=v
 |.pt n off,u=>∃g b,γ[n]? = some g/\g.row=false/\g.ob=some b/\u=.pointer (some ⟨b,off,none⟩)
 |.sl n len,u=>∃g,γ[n]? = some g/\g.row=true/\len<=g.len/\(∃o m c,u=.slice o m c)/\(len=g.len->u=.slice (bX g.ob 0) len g.cap)
 |.qt n len sz i j,u=>∃g,γ[n]? = some g/\g.row=true/\len<=g.len/\(∃o,u=.pointer o)/\(len=g.len->∃b,g.ob=some b/\u=.pointer (some ⟨b,i*sz+j,none⟩))
 |.fz xs,u=>FzR ro xs u
 |.fp r j,u=>∃b off,u=.pointer (some ⟨b,off+j,none⟩)/\∀k c,r[k]? = some c->∃v,ro b (off+k)=some v/\c.fv ro v
 |.dp n len,u=>∃g,γ[n]? = some g/\g.row=true/\len<=g.len/\(∃o,u=.pointer o)/\(len=g.len->u=.pointer (bX g.ob 0))
 |.mp n,u=>∃g b,γ[n]? = some g/\g.row=false/\g.ob=some b/\u=.map (some b)
 |.fn _ _,_=>False
 |.fm f fs,u=>∃vs:List Value,u=.func (.func f) vs.toArray #[]/\All2 (fun cs v=>∃us:List Value,v=.agg us.toArray/\All2 (C.fv ro) cs us) fs vs
def CU (γ:List Gb) (ro:RO):Bool×List C->Value->Prop
 | (false,[c]),u=>c.rel0 γ ro u
 | (true,cs),u=>∃vs:List Value,u=.agg vs.toArray/\All2 (C.rel0 γ ro) cs vs
 |_,_=>False
def C.rel (γ:List Gb) (ro:RO):C->Value->Prop
 |.fn f cs,u=>∃vs:List Value,u=.func (.func f) #[] vs.toArray/\All2 (CU γ ro) cs vs
 |c,u=>c.rel0 γ ro u
theorem C.rel_of0 {γ:List Gb} {ro:RO} {c:C} {v:Value} (h:c.rel0 γ ro v):c.rel γ ro v:=by
 cases c<;>first|exact h|exact h.elim
def C.isFn:C->Bool
 |.fn _ _ | .fm _ _=>true
 |_=>false
theorem C.rel_to0 {γ:List Gb} {ro:RO} {c:C} {v:Value} (hc:c.isFn=false) (h:c.rel γ ro v):c.rel0 γ ro v:=by
 cases c<;>first|exact h|cases hc
theorem C.rel_fv {γ:List Gb} {ro:RO} {c:C} {v:Value} (h:c.fv ro v):c.rel γ ro v:=by
 cases c<;>first|exact h|exact h.elim
theorem C.rel_shut {γ:List Gb} {ro:RO} {c:C} (h:c.shut=true) {v:Value}:c.rel γ ro v ↔ c.fv ro v:=by
 cases c<;>simp[C.shut] at h<;>exact Iff.rfl
def Ext (ro ro':RO):Prop:=∀b off v,ro b off=some v->ro' b off=some v
theorem Ext.refl (ro:RO):Ext ro ro:=fun _ _ _ h=>h
theorem Ext.trans {a b c:RO} (h:Ext a b) (k:Ext b c):Ext a c:=fun _ _ _ e=>k _ _ _ (h _ _ _ e)
def Gb.le (g g':Gb):Prop:=g'.row=g.row/\((g'.ob=g.ob/\g'.len=g.len/\g'.cap=g.cap)\/(g.row=true/\g.len<g'.len))
theorem Gb.le_refl (g:Gb):g.le g:=⟨rfl,.inl ⟨rfl,rfl,rfl⟩⟩
theorem Gb.le_trans {a b c:Gb} (h:a.le b) (k:b.le c):a.le c:=by
 obtain ⟨h1,h2⟩:=h;obtain ⟨k1,k2⟩:=k
 refine ⟨k1.trans h1,?_⟩
 rcases h2 with ⟨p,q,r⟩|⟨p,q⟩<;>rcases k2 with ⟨p',q',r'⟩|⟨p',q'⟩
 · exact .inl ⟨p'.trans p,q'.trans q,r'.trans r⟩
 · exact .inr ⟨by rw[<-h1];exact p',by omega⟩
 · exact .inr ⟨p,by omega⟩
 · exact .inr ⟨p,by omega⟩
def GExt (γ γ':List Gb):Prop:=∀(n:Nat) (g:Gb),γ[n]? = some g->∃g',γ'[n]? = some g'/\g.le g'
theorem GExt.refl (γ:List Gb):GExt γ γ:=fun _ g h=>⟨g,h,g.le_refl⟩
theorem GExt.trans {a b c:List Gb} (h:GExt a b) (k:GExt b c):GExt a c:=fun n g e=>by
 obtain ⟨g1,h1,h2⟩:=h n g e
 obtain ⟨g2,k1,k2⟩:=k n g1 h1
 exact ⟨g2,k1,Gb.le_trans h2 k2⟩
theorem FzR.mono {ro ro':RO} (he:Ext ro ro') {xs:List (List C)} {v:Value} (h:FzR ro xs v):FzR ro' xs v:=by
 induction h with
 |mk xs sz o oa hoa cap vs hz hc ho h1 h2 h3 h4 ih=>exact .mk xs sz o oa hoa cap vs hz hc ho (fun k c hk=>he _ _ _ (h1 k c hk)) h2 ih h4
theorem C.fv_mono {ro ro':RO} (he:Ext ro ro') {c:C} {v:Value} (h:c.fv ro v):c.fv ro' v:=by
 cases c<;>first|exact h|exact FzR.mono he h
theorem C.rel0_mono {γ γ':List Gb} {ro ro':RO} (hg:GExt γ γ') (he:Ext ro ro') {c:C} {v:Value} (h:c.rel0 γ ro v):c.rel0 γ' ro' v:=by
 cases c with
 |no=>trivial
 |vl u=>exact h
 |pt n off=>
  obtain ⟨g,b,h1,h2,h3,h4⟩:=h
  obtain ⟨g',k1,k2,k3⟩:=hg n g h1
  rcases k3 with ⟨p,q,r⟩|⟨p,q⟩
  · exact ⟨g',b,k1,k2.trans h2,p.trans h3,h4⟩
  · rw[h2] at p;cases p
 |sl n len=>
  obtain ⟨g,h1,h2,h3,h4,h5⟩:=h
  obtain ⟨g',k1,k2,k3⟩:=hg n g h1
  refine ⟨g',k1,k2.trans h2,?_,h4,?_⟩
  · rcases k3 with ⟨p,q,r⟩|⟨p,q⟩<;>omega
  · intro e
    rcases k3 with ⟨p,q,r⟩|⟨p,q⟩
    · rw[p,r];exact h5 (e.trans q)
    · omega
 |qt n len sz i j=>
  obtain ⟨g,h1,h2,h3,h4,h5⟩:=h
  obtain ⟨g',k1,k2,k3⟩:=hg n g h1
  refine ⟨g',k1,k2.trans h2,?_,h4,?_⟩
  · rcases k3 with ⟨p,q,r⟩|⟨p,q⟩<;>omega
  · intro e
    rcases k3 with ⟨p,q,r⟩|⟨p,q⟩
    · rw[p];exact h5 (e.trans q)
    · omega
 |dp n len=>
  obtain ⟨g,h1,h2,h3,h4,h5⟩:=h
  obtain ⟨g',k1,k2,k3⟩:=hg n g h1
  refine ⟨g',k1,k2.trans h2,?_,h4,?_⟩
  · rcases k3 with ⟨p,q,r⟩|⟨p,q⟩<;>omega
  · intro e
    rcases k3 with ⟨p,q,r⟩|⟨p,q⟩
    · rw[p];exact h5 (e.trans q)
    · omega
 |fz xs=>exact FzR.mono he h
 |fp r j=>
  obtain ⟨b,off,h1,h2⟩:=h
  exact ⟨b,off,h1,fun k c hk=>by obtain ⟨v,p,q⟩:=h2 k c hk;exact ⟨v,he _ _ _ p,C.fv_mono he q⟩⟩
 |mp n=>
  obtain ⟨g,b,h1,h2,h3,h4⟩:=h
  obtain ⟨g',k1,k2,k3⟩:=hg n g h1
  rcases k3 with ⟨p,q,r⟩|⟨p,q⟩
  · exact ⟨g',b,k1,k2.trans h2,p.trans h3,h4⟩
  · rw[h2] at p;cases p
 |fn f cs=>exact h.elim
 |fm f fs=>obtain ⟨vs,h1,h2⟩:=h;exact ⟨vs,h1,h2.imp fun _ _ ⟨us,k1,k2⟩=>⟨us,k1,k2.imp fun _ _=>C.fv_mono he⟩⟩
theorem aGH {γ γ':List Gb} {ro ro':RO} (hi:∀c v,C.rel0 γ ro c v->C.rel0 γ' ro' c v) {x:Bool×List C} {v:Value} (h:CU γ ro x v):CU γ' ro' x v:=by
 obtain ⟨b,cs⟩:=x
 cases b with
 |false=>
  match cs,h with
  |[c],h=>exact hi c v h
 |true=>
  obtain ⟨vs,h1,h2⟩:=h
  exact ⟨vs,h1,h2.imp hi⟩
theorem C.rel_mono {γ γ':List Gb} {ro ro':RO} (hg:GExt γ γ') (he:Ext ro ro') {c:C} {v:Value} (h:c.rel γ ro v):c.rel γ' ro' v:=by
 cases c with
 |fn f cs=>
  obtain ⟨vs,h1,h2⟩:=h
  exact ⟨vs,h1,h2.imp fun x v=>aGH fun _ _=>C.rel0_mono hg he⟩
 |fm f fs=>exact C.rel0_mono hg he (c:=.fm f fs) h
 |_=>exact C.rel_of0 (C.rel0_mono hg he (C.rel_to0 rfl h))
inductive A where
 |c1 (c:C)
 |gs (cs:List C)
def A.rel (γ:List Gb) (ro:RO):A->Value->Prop
 |.c1 c,u=>c.rel γ ro u
 |.gs cs,u=>∃vs:List Value,u=.agg vs.toArray/\All2 (C.rel γ ro) cs vs
def A.ofV:Value->A
 |.agg cs=>.gs (cs.toList.map C.vl)
 |v=>.c1 (.vl v)
def A.cells:A->List C
 |.c1 c=>[c]
 |.gs cs=>cs
def C.one:C->Prop
 |.no=>False
 |.vl v=>v.oneCell'=true
 |_=>True
theorem FzR.slice {ro:RO} {xs:List (List C)} {v:Value} (h:FzR ro xs v):∃o m c,v=.slice o m c:=by cases h;exact ⟨_,_,_,rfl⟩
theorem C.one_rel {γ:List Gb} {ro:RO} {c:C} {v:Value} (h:c.one) (hr:c.rel γ ro v):v.oneCell'=true:=by
 cases c with
 |no=>exact h.elim
 |vl u=>have hr':v=u:=hr;subst hr';exact h
 |pt n off=>obtain ⟨g,b,_,_,_,rfl⟩:=hr;rfl
 |sl n len=>obtain ⟨g,_,_,_,⟨o,m,c,rfl⟩,_⟩:=hr;rfl
 |qt n len sz i j=>obtain ⟨g,_,_,_,⟨o,rfl⟩,_⟩:=hr;rfl
 |fz xs=>obtain ⟨o,m,c,rfl⟩:=FzR.slice hr;rfl
 |fp r j=>obtain ⟨b,off,rfl,_⟩:=hr;rfl
 |fn f cs=>obtain ⟨vs,rfl,_⟩:=hr;rfl
 |fm f cs=>obtain ⟨vs,rfl,_⟩:=hr;rfl
 |mp n=>obtain ⟨g,b,_,_,_,rfl⟩:=hr;rfl
 |dp n len=>obtain ⟨g,_,_,_,⟨o,rfl⟩,_⟩:=hr;rfl
def A.ok:A->Prop
 |.c1 c=>c.one
 |.gs _=>True
theorem A.cells_rel {γ:List Gb} {ro:RO} {a:A} {v:Value} (hr:a.rel γ ro v) (h:a.ok):All2 (C.rel γ ro) a.cells v.cells.toList:=by
 cases a with
 |c1 c=>
  have h1:=C.one_rel h hr
  have:v.cells.toList=[v]:=by cases v<;>simp_all[Value.cells,Value.oneCell']
  rw[this]
  exact .cons hr .nil
 |gs cs=>
  obtain ⟨vs,rfl,h1⟩:=hr
  simpa[A.cells,Value.cells] using h1
inductive S where
 |va (a:A)
 |tu (l:List A)
 |cn (g:Bool) (a:A)
 |un
def S.rel (γ:List Gb) (ro:RO):S->Value->Prop
 |.va a,v=>a.rel γ ro v
 |.tu l,v=>∃vs:List Value,v=.tuple vs.toArray/\All2 (A.rel γ ro) l vs
 |.cn g a,v=>(g=true->a.rel γ ro v)/\(g=false->v=undef)
 |.un,_=>True
def S.ofV:Value->S
 |.tuple vs=>.tu (vs.toList.map A.ofV)
 |v=>.va (.ofV v)
section
variable {γ γ':List Gb} {ro ro':RO}
theorem A.rel_mono (hg:GExt γ γ') (he:Ext ro ro') {a:A} {v:Value} (h:a.rel γ ro v):a.rel γ' ro' v:=by
 cases a with
 |c1 c=>exact C.rel_mono hg he h
 |gs cs=>obtain ⟨vs,h1,h2⟩:=h;exact ⟨vs,h1,h2.imp fun _ _=>C.rel_mono hg he⟩
theorem S.rel_mono (hg:GExt γ γ') (he:Ext ro ro') {s:S} {v:Value} (h:s.rel γ ro v):s.rel γ' ro' v:=by
 cases s with
 |va a=>exact A.rel_mono hg he h
 |tu l=>obtain ⟨vs,h1,h2⟩:=h;exact ⟨vs,h1,h2.imp fun _ _=>A.rel_mono hg he⟩
 |cn g a=>exact ⟨fun e=>A.rel_mono hg he (h.1 e),h.2⟩
 |un=>trivial
theorem uQ (vs:List Value):All2 (C.rel γ ro) (vs.map C.vl) vs:=by
 refine ⟨by simp,fun i x y hx hy=>?_⟩
 rw[b9,hy] at hx
 simp at hx;subst hx;rfl
theorem A.rel_ofV (v:Value):(A.ofV v).rel γ ro v:=by
 unfold A.ofV
 split
 · rename_i cs;exact ⟨cs.toList,by simp,uQ _⟩
 · rfl
theorem S.rel_ofV (v:Value):(S.ofV v).rel γ ro v:=by
 unfold S.ofV
 split
 · rename_i vs
   refine ⟨vs.toList,by simp,by simp,fun i x y hx hy=>?_⟩
   rw[b9,hy] at hx
   simp at hx;subst hx;exact A.rel_ofV _
 · exact A.rel_ofV v
end
inductive B where
 |cells (cs:List C) (T:TypeId)
 |row (xs:List (List C)) (T:TypeId) (sz:Nat)
 |rowx (xs:List (List C)) (T:TypeId) (sz:Nat)
 |map (kd:TypeDesc) (ks:List Value) (vs:List A)
 |dead
def B.live:B->Bool
 |.dead=>false
 |_=>true
abbrev Hp:=List B
abbrev Es:=List (Gb×B)
abbrev Fr:=Nat->S
def gm (E:Es):List Gb:=E.map (·.1)
def hp (E:Es):Hp:=E.map (·.2)
theorem dU {E:Es} {n:Nat} {g:Gb} {blk:B} (h:E[n]? = some (g,blk)):(gm E)[n]? = some g:=by simp[gm,h]
theorem y4 {E:Es} {n:Nat} {g:Gb} {blk:B} (h:E[n]? = some (g,blk)):(hp E)[n]? = some blk:=by simp[hp,h]
theorem dC {E:Es} {n:Nat} {blk:B} (h:(hp E)[n]? = some blk):∃g,E[n]? = some (g,blk):=by
 simp only[hp,b9] at h
 cases he:E[n]? with
 |none=>simp[he] at h
 |some y=>simp[he] at h;exact ⟨y.1,by rw[<-h]⟩
theorem yS {E:Es} {n:Nat} {g:Gb} (h:(gm E)[n]? = some g):∃blk,E[n]? = some (g,blk):=by
 simp only[gm,b9] at h
 cases he:E[n]? with
 |none=>simp[he] at h
 |some y=>simp[he] at h;exact ⟨y.2,by rw[<-h]⟩
theorem fX (E:Es):(hp E).length=E.length:=by simp[hp]
theorem aT4 (E:Es):(gm E).length=E.length:=by simp[gm]
def B.On (γ:List Gb) (ro:RO) (w:World) (g:Gb):B->Prop
 |.cells cs T=>g.row=false/\∃b,g.ob=some b/\w.heap[b]? = some (.cells g.vs.toArray T (0,0))/\All2 (C.rel γ ro) cs g.vs
 |.row xs T sz=>g.row=true/\g.len=xs.length/\(∀x∈xs,x.length=sz)/\(∀c∈xs.flatten,c.shut=true)/\w.ownsRow 0 T sz (.slice (bX g.ob 0) xs.length g.cap) xs.length g.vs/\All2 (C.fv ro) xs.flatten g.vs/\(∀b,g.ob=some b->0<g.cap)
 |.rowx xs T sz=>g.row=true/\g.len=xs.length/\(∀x∈xs,x.length=sz)/\w.ownsRow 0 T sz (.slice (bX g.ob 0) xs.length g.cap) xs.length g.vs/\All2 (C.rel γ ro) xs.flatten g.vs/\(∀b,g.ob=some b->0<g.cap)
 |.map kd ks vs=>g.row=false/\(∀k∈ks,MapKept.IsKey kd k)/\All2 (A.rel γ ro) vs g.vs/\∃(b:Nat) (es:Array MapEntry) (clock:Nat),g.ob=some b/\w.heap[b]? = some (.map es clock)/\es.toList.map (·.key)=ks/\es.toList.map (·.val)=g.vs
 |.dead=>True
structure Ctx where
 w0:World
 pb:List Nat
 ro0:RO
 g0:List Gb
structure Rel (X:Ctx) (E:Es) (ro:RO) (w:World):Prop where
 own:∀(n:Nat) (g:Gb) (blk:B),E[n]? = some (g,blk)->blk.On (gm E) ro w g
 inj:∀(n m:Nat) (gn gm:Gb) (bn bm:B) (b:Nat),E[n]? = some (gn,bn)->E[m]? = some (gm,bm)->gn.ob=some b->gm.ob=some b->bn.live=true->bm.live=true->n=m
 apart:∀(b off:Nat) (v:Value),ro b off=some v->∀(n:Nat) (g:Gb) (blk:B),E[n]? = some (g,blk)->g.ob=some b->blk.live=false
 rd:∀(b off:Nat) (v:Value),ro b off=some v->w.cell? ⟨b,off,none⟩=some v
 ro0:Ext X.ro0 ro
 rob:∀(b off:Nat) (v:Value),ro b off=some v->X.ro0 b off=some v\/X.w0.heap.size<=b\/b∈X.pb
 par:∀(n b:Nat) (g:Gb) (blk:B),E[n]? = some (g,blk)->g.ob=some b->blk.live=true->X.w0.heap.size<=b\/b∈X.pb
 gx:GExt X.g0 (gm E)
 sz:X.w0.heap.size<=w.heap.size
 keep:∀b:Nat,b<X.w0.heap.size->b ∉ X.pb->w.heap[b]? = X.w0.heap[b]?
 os:w.os=X.w0.os
 tape:w.tape=X.w0.tape
 output:w.output=X.w0.output
theorem Rel.drew {X:Ctx} {E:Es} {ro:RO} {w:World} (h:Rel X E ro w):Rel X E ro { w with drawn:=w.drawn+1 }:=
 ⟨h.own,h.inj,h.apart,h.rd,h.ro0,h.rob,h.par,h.gx,h.sz,h.keep,h.os,h.tape,h.output⟩
structure FRel (N:Nat) (γ:List Gb) (ro:RO) (fr:Fr) (a:Act):Prop where
 size:a.tmps.size=N
 slot:∀i:Nat,(fr i).rel γ ro (a.tmps.getD i undef)
 defers:a.defers=[]
theorem FRel.mono {N:Nat} {γ γ':List Gb} {ro ro':RO} (hg:GExt γ γ') (he:Ext ro ro') {fr:Fr} {a:Act} (h:FRel N γ ro fr a):FRel N γ' ro' fr a:=
 ⟨h.size,fun i=>S.rel_mono hg he (h.slot i),h.defers⟩
def put (fr:Fr) (d:Option Nat) (s:S):Fr:=
 match d with
 |some d=>fun i=>if i=d then s else fr i
 |none=>fr
theorem FRel.put {N:Nat} {γ:List Gb} {ro:RO} {fr:Fr} {a:Act} (h:FRel N γ ro fr a) {d:Option Nat} (hd:∀k,d=some k->k<N) {s:S} {v:Value} (hs:s.rel γ ro v):FRel N γ ro (W.put fr d s) (a.put d v):=by
 cases d with
 |none=>exact h
 |some d=>
  have hdN:=hd d rfl
  refine ⟨by simp[Act.put,h.size],fun i=>?_,h.defers⟩
  simp only[W.put,Act.put]
  by_cases hi:i=d
  · subst hi
    rw[if_pos rfl,vW,Array.getElem?_setIfInBounds_self_of_lt (by rw[h.size];exact hdN)]
    exact hs
  · rw[if_neg hi]
    have:=h.slot i
    rw[vW,Array.getElem?_setIfInBounds_ne (by omega)]
    rw[vW] at this
    exact this
inductive O where
 |t (i:Nat)
 |k (v:Value)
 |f (n:FuncId)
def aT:Operand->O
 |.tmp t=>.t t
 |.const v=>.k v
 |.func f=>.f f
 |.global g=>.k (.pointer (some ⟨g,0,none⟩))
def ev (fr:Fr):O->S
 |.t i=>fr i
 |.k v=>S.ofV v
 |.f n=>.va (.c1 (.fn n []))
theorem bC {N:Nat} {γ:List Gb} {ro:RO} {fr:Fr} {a:Act} (h:FRel N γ ro fr a) (x:Operand):(ev fr (aT x)).rel γ ro (a.eval x):=by
 cases x with
 |tmp t=>exact h.slot t
 |const v=>exact S.rel_ofV v
 |global g=>exact S.rel_ofV (.pointer (some ⟨g,0,none⟩))
 |func f=>exact ⟨[],rfl,.nil⟩
inductive Sh where
 |int (k:IntKind)
 |bool
 |str
inductive QI where
 |mv (x:O)
 |bin (op:BinOp) (nw:Bool) (x y:O)
 |eqB (neg:Bool) (x y:O)
 |eqP (neg:Bool) (x y:O)
 |eqT (neg:Bool) (fs:List (Nat×Sh)) (x y:O)
 |b2s (x:O)
 |not (x:O)
 |neg (nw:Bool) (x:O)
 |cvt (k:IntKind) (x:O)
 |fa (off:Nat) (x:O)
 |fld1 (off:Nat) (x:O)
 |fldn (off n:Nat) (x:O)
 |bd (zero:List Value) (parts:List (Nat×Nat×O))
 |ss (x:O) (lo hi:Option O)
 |sf (sz:Nat) (x:O) (lo hi:Option O)
 |lnS (x:O)
 |lnL (x:O)
 |ex (x:O) (i:Nat)
 |nc (x:O)
 |cu (x:O)
 |c4u (u k:Nat) (x:O)
 |usd (x:O)
 |mf (f:FuncId) (xs:List O)
 |mh (f:FuncId) (xs:List O)
 |mx (b:Bool) (x y:O)
 |ixa (len:Nat) (x i:O)
inductive LI where
 |ia (sz:Nat) (x i:O)
 |ld1 (x:O)
 |ldn (n:Nat) (x:O)
 |lk (kd:TypeDesc) (z:Value) (ok:Bool) (x k:O)
 |lm (x:O)
abbrev iS (k:IntKind) (n:Int):S:=.va (.c1 (.vl (.int k n)))
abbrev bS (b:Bool):S:=.va (.c1 (.vl (.bool b)))
abbrev tS (s:ByteArray):S:=.va (.c1 (.vl (.string s)))
def mk (l:List UInt8):ByteArray:=⟨l.toArray⟩
def bl (s:ByteArray):List UInt8:=s.data.toList
@[simp] theorem BG (l:List UInt8):bl (mk l)=l:=rfl
@[simp] theorem qC (s:ByteArray):mk (bl s)=s:=ByteArray.ext (eL (xs:=s.data))
theorem jA (s:ByteArray):s.size=(bl s).length:=(uH (xs:=s.data)).symm
theorem CF (s:ByteArray):s.toList=bl s:=ByteArray.toList_eq s
def inr (k:IntKind) (n:Int):Prop:=k.min<=n/\n<=k.max
def wr (k:IntKind) (nw:Bool) (n:Int):Int:=if nw then n else k.wrap n
def G0 (op:BinOp) (nw:Bool) (k:IntKind) (a b:Int):Option S:=
 match op with
 |.add=>some (iS k (wr k nw (a+b)))
 |.sub=>some (iS k (wr k nw (a-b)))
 |.mul=>some (iS k (wr k nw (a*b)))
 |.quo=>some (iS k (wr k nw (a.tdiv b)))
 |.rem=>some (iS k (a.tmod b))
 |.eql=>some (bS (a==b))
 |.neq=>some (bS (a != b))
 |.lss=>some (bS (decide (a<b)))
 |.leq=>some (bS (decide (a<=b)))
 |.gtr=>some (bS (decide (b<a)))
 |.geq=>some (bS (decide (b<=a)))
 |.shl=>some (iS k (k.wrap (a*2 ^ (min b.toNat k.bits))))
 |.shr=>some (iS k (a.fdiv (2 ^ (min b.toNat k.bits))))
 |.and=>some (iS k (k.wrap (BitVec.ofInt k.bits a &&& BitVec.ofInt k.bits b).toNat))
 |.or=>some (iS k (k.wrap (BitVec.ofInt k.bits a ||| BitVec.ofInt k.bits b).toNat))
 |.xor=>some (iS k (k.wrap (BitVec.ofInt k.bits a ^^^ BitVec.ofInt k.bits b).toNat))
 |.andNot=>some (iS k (k.wrap (BitVec.ofInt k.bits a &&& ~~~ (BitVec.ofInt k.bits b)).toNat))
def HU (op:BinOp) (nw:Bool) (k k':IntKind) (a b:Int):Prop:=
 match op with
 |.add=>k=k'/\(nw=true->inr k (a+b))
 |.sub=>k=k'/\(nw=true->inr k (a-b))
 |.mul=>k=k'/\(nw=true->inr k (a*b))
 |.quo=>k=k'/\b≠0/\(nw=true->inr k (a.tdiv b))
 |.rem=>k=k'/\b≠0
 |.shl | .shr=>0<=b
 |_=>k=k'
def QC (op:BinOp) (a b:ByteArray):Option S:=
 match op with
 |.add=>some (tS (mk (bl a++bl b)))
 |.eql=>some (bS (bl a==bl b))
 |.neq=>some (bS (!(bl a==bl b)))
 |.lss=>some (bS (Op.bytesLess (bl a) (bl b)))
 |.leq=>some (bS (Op.bytesLess (bl a) (bl b)||bl a==bl b))
 |.gtr=>some (bS (!(Op.bytesLess (bl a) (bl b)||bl a==bl b)))
 |.geq=>some (bS (!(Op.bytesLess (bl a) (bl b))))
 |_=>none
def I8 (op:BinOp) (a b:ByteArray):Prop:=
 match op with
 |.add=>(bl a).length+(bl b).length<=9223372036854775807
 |_=>True
theorem AC {k:IntKind} {n:Int} (h:inr k n):k.wrap n=n:=by
 unfold inr IntKind.min IntKind.max at h
 unfold IntKind.wrap
 cases k<;>simp[IntKind.signed,IntKind.bits] at h ⊢<;>omega
theorem HP {k:IntKind} {nw:Bool} {n:Int} (h:nw=true->inr k n):wr k nw n=k.wrap n:=by
 unfold wr;split
 · exact (AC (h ‹_›)).symm
 · rfl
theorem RL {P:Program} {op:BinOp} {nw:Bool} {k k':IntKind} {a b:Int} {t:TypeId} {s:S} (h:G0 op nw k a b=some s) (hc:HU op nw k k' a b) :
 ∃v,(∀γ ro,s.rel γ ro v)/\∀w,(binOp op t (.int k a) (.int k' b)).run P w=.ok v w:=by
 cases op<;>simp only[G0,aM] at h<;>subst h<;>simp only[HU] at hc
 case add=>obtain ⟨rfl,hc⟩:=hc;exact ⟨_,fun _ _=>rfl,fun w=>by simp[binOp,Op.intArith,HP hc]⟩
 case sub=>obtain ⟨rfl,hc⟩:=hc;exact ⟨_,fun _ _=>rfl,fun w=>by simp[binOp,Op.intArith,HP hc]⟩
 case mul=>obtain ⟨rfl,hc⟩:=hc;exact ⟨_,fun _ _=>rfl,fun w=>by simp[binOp,Op.intArith,HP hc]⟩
 case quo=>obtain ⟨rfl,h0,hc⟩:=hc;exact ⟨_,fun _ _=>rfl,fun w=>by simp[binOp,Op.intDiv,h0,HP hc]⟩
 case rem=>obtain ⟨rfl,h0⟩:=hc;exact ⟨_,fun _ _=>rfl,fun w=>by simp[binOp,Op.intDiv,h0]⟩
 case shl=>exact ⟨_,fun _ _=>rfl,fun w=>by simp[binOp,Op.shift,show ¬ b<0 by omega]⟩
 case shr=>exact ⟨_,fun _ _=>rfl,fun w=>by simp[binOp,Op.shift,show ¬ b<0 by omega]⟩
 all_goals (subst hc;exact ⟨_,fun _ _=>rfl,fun w=>by simp[binOp,Op.intBits,Op.intCmp]⟩)
theorem RN {P:Program} {op:BinOp} {a b:ByteArray} {t:TypeId} {s:S} (h:QC op a b=some s) (hc:I8 op a b) :
 ∃v,(∀γ ro,s.rel γ ro v)/\∀w,(binOp op t (.string a) (.string b)).run P w=.ok v w:=by
 cases op<;>simp only[QC,aM,reduceCtorEq] at h<;>subst h<;>simp only[I8] at hc
 case add=>
  refine ⟨_,fun _ _=>rfl,fun w=>?_⟩
  have hsz:¬ (((a.size+b.size:Nat):Int) > IntKind.i64.max):=by
   rw[jA,jA];simp[IntKind.max,IntKind.signed,IntKind.bits];omega
  simp only[binOp,Op.stringOp,hsz,if_false,Sem.run_pure]
  congr 2
 all_goals exact ⟨_,fun _ _=>rfl,fun w=>by simp[binOp,Op.stringOp,CF]⟩
def eqC:Sh->C->C->Option Bool
 |.int _,.vl (.int k a),.vl (.int k' b)=>if k=k' then some (a==b) else none
 |.str,.vl (.string a),.vl (.string b)=>some (bl a==bl b)
 |.bool,.vl (.bool a),.vl (.bool b)=>some (a==b)
 |_,_,_=>none
def W7 (cs ds:List C):List (Nat×Sh)->Option Bool
 |[]=>some true
 | (off,sh)::r=>match cs[off]?,ds[off]? with
  |some c,some d=>match eqC sh c d,W7 cs ds r with
   |some x,some y=>some (x&&y)
   |_,_=>none
  |_,_=>none
def C.gi:Option C->Int
 |some (.vl (.int _ n))=>n
 |_=>0
def GJ (xs:List (List C)):List UInt8:=xs.map fun r=>UInt8.ofNat (C.gi (r[0]?)).toNat
def dW (cs:List C) (off:Nat) (vs:List C):List C:=cs.take off++vs++cs.drop (off+vs.length)
def I9 (fr:Fr):List C->List (Nat×Nat×O)->Option (List C)
 |cs,[]=>some cs
 |cs,(off,_,o)::r=>match ev fr o with
  |.va a=>I9 fr (dW cs off a.cells) r
  |_=>none
def NP (fr:Fr) (len:Nat):List (Nat×Nat×O)->Prop
 |[]=>True
 | (off,n,o)::r=>(match ev fr o with
  |.va a=>a.ok/\a.cells.length=n/\off+n<=len
  |_=>False)/\NP fr len r
def l6 (fr:Fr) (d:Int):Option O->Option Int
 |none=>some d
 |some o=>match ev fr o with | .va (.c1 (.vl (.int _ i)))=>some i|_=>none
def xB (fr:Fr):List O->Option (List (Bool×List C))
 |[]=>some []
 |o::r=>match ev fr o,xB fr r with
  |.va (.c1 c),some l=>if c.isFn then none else some ((false,[c])::l)
  |.va (.gs cs),some l=>if cs.any C.isFn then none else some ((true,cs)::l)
  |_,_=>none
def rX (fr:Fr):List O->Option (List (List C))
 |[]=>some []
 |o::r=>match ev fr o,rX fr r with
  |.va (.gs cs),some l=>if cs.all C.shut then some (cs::l) else none
  |_,_=>none
def XJ:Bool×List C->A
 | (false,[c])=>.c1 c
 | (_,cs)=>.gs cs
def IH:Value->Value->Bool
 |.int _ a,.int _ b=>a==b
 |.string a,.string b=>bl a==bl b
 |.bool a,.bool b=>a==b
 |_,_=>false
def mG:List Value->Value->Option Nat
 |[],_=>none
 |k::ks,q=>bif IH q k then some 0 else (mG ks q).map (· + 1)
def j0 (ks:List Value) (vs:List A) (q:Value):Option A:=(mG ks q).bind fun i=>vs[i]?
def mN (ks:List Value) (q:Value):List Value:=match mG ks q with|some _=>ks|none=>ks++[q]
def nE (ks:List Value) (vs:List A) (q:Value) (v:A):List A:=match mG ks q with|some i=>vs.set i v|none=>vs++[v]
def lkS (z:Value) (ok:Bool) (r:Option A):S:=match r with
 |some a=>bif ok then .tu [a,.c1 (.vl (.bool true))] else .va a
 |none=>bif ok then .tu [A.ofV z,.c1 (.vl (.bool false))] else .va (A.ofV z)
def qv (fr:Fr) (H:Hp):QI->Option S
 |.mv x=>some (ev fr x)
 |.bin op nw x y=>match ev fr x,ev fr y with
  |.va (.c1 (.vl (.int k a))),.va (.c1 (.vl (.int _ b)))=>G0 op nw k a b
  |.va (.c1 (.vl (.string a))),.va (.c1 (.vl (.string b)))=>QC op a b
  |_,_=>none
 |.eqB neg x y=>match ev fr x,ev fr y with
  |.va (.c1 (.vl (.bool a))),.va (.c1 (.vl (.bool b)))=>some (bS (bif neg then !(a==b) else a==b))
  |_,_=>none
 |.eqP neg x y=>match ev fr x,ev fr y with
  |.va (.c1 (.pt _ _)),.va (.c1 (.vl (.pointer none)))=>some (bS neg)
  |.va (.c1 (.vl (.pointer a))),.va (.c1 (.vl (.pointer none)))=>some (bS (bif neg then a.isSome else a.isNone))
  |.va (.c1 (.pt n o)),.va (.c1 (.pt m o'))=>if n=m/\o=o' then some (bS (!neg)) else none
  |_,_=>none
 |.eqT neg fs x y=>match ev fr x,ev fr y with
  |.va (.gs cs),.va (.gs ds)=>(W7 cs ds fs).map fun b=>bS (bif neg then !b else b)
  |_,_=>none
 |.b2s x=>match ev fr x with
  |.va (.c1 (.vl (.slice none _ _)))=>some (tS (mk []))
  |.va (.c1 (.sl n _))=>match H[n]? with
   |some (.row xs _ _)=>some (tS (mk (GJ xs)))
   |_=>none
  |_=>none
 |.not x=>match ev fr x with
  |.va (.c1 (.vl (.bool b)))=>some (bS (!b))
  |_=>none
 |.neg nw x=>match ev fr x with
  |.va (.c1 (.vl (.int k a)))=>G0 .sub nw k 0 a
  |_=>none
 |.cvt k x=>match ev fr x with
  |.va (.c1 (.vl (.int _ a)))=>some (iS k (k.wrap a))
  |_=>none
 |.fa off x=>match ev fr x with
  |.va (.c1 (.pt n o))=>some (.va (.c1 (.pt n (o+off))))
  |.va (.c1 (.qt n len sz i j))=>some (.va (.c1 (.qt n len sz i (j+off))))
  |.va (.c1 (.fp r j))=>some (.va (.c1 (.fp r (j+off))))
  |_=>none
 |.fld1 off x=>match ev fr x with
  |.va (.gs cs)=>(cs[off]?).map fun c=>.va (.c1 c)
  |_=>none
 |.fldn off n x=>match ev fr x with
  |.va (.gs cs)=>some (.va (.gs ((cs.drop off).take n)))
  |_=>none
 |.bd zero parts=>(I9 fr (zero.map C.vl) parts).map fun cs=>.va (.gs cs)
 |.ss x lo hi=>match ev fr x with
  |.va (.c1 (.vl (.string s)))=>match l6 fr 0 lo,l6 fr (bl s).length hi with
   |some l,some h=>some (tS (mk (((bl s).take h.toNat).drop l.toNat)))
   |_,_=>none
  |_=>none
 |.sf _ x lo hi=>match ev fr x with
  |.va (.c1 (.fz xs))=>match l6 fr 0 lo,l6 fr xs.length hi with
   |some l,some h=>some (.va (.c1 (.fz ((xs.take h.toNat).drop l.toNat))))
   |_,_=>none
  |_=>none
 |.lnS x=>match ev fr x with
  |.va (.c1 (.vl (.string s)))=>some (iS .i64 (bl s).length)
  |_=>none
 |.lnL x=>match ev fr x with
  |.va (.c1 (.sl _ n))=>some (iS .i64 n)
  |.va (.c1 (.fz xs))=>some (iS .i64 xs.length)
  |.va (.c1 (.vl (.slice _ n _)))=>some (iS .i64 n)
  |_=>none
 |.ex x i=>match ev fr x with
  |.tu l=>(l[i]?).map fun a=>.va a
  |_=>none
 |.nc x=>match ev fr x with
  |.va (.c1 (.pt n o))=>some (.va (.c1 (.pt n o)))
  |.va (.c1 (.qt n len sz i j))=>some (.va (.c1 (.qt n len sz i j)))
  |.va (.c1 (.fp r j))=>some (.va (.c1 (.fp r j)))
  |.va (.c1 (.fn f ns))=>some (.va (.c1 (.fn f ns)))
  |_=>none
 |.cu x=>match ev fr x with
  |.va (.c1 (.pt n o))=>some (.va (.c1 (.pt n o)))
  |_=>none
 |.c4u _ _ x=>match ev fr x with
  |.va (.c1 (.pt n o))=>some (.va (.c1 (.pt n o)))
  |_=>none
 |.usd x=>match ev fr x with
  |.va (.c1 (.sl n len))=>some (.va (.c1 (.dp n len)))
  |_=>none
 |.mx b x y=>match ev fr x,ev fr y with
  |.va (.c1 (.vl (.int k a))),.va (.c1 (.vl (.int _ c)))=>some (iS k (bif b then max a c else min a c))
  |_,_=>none
 |.ixa _ x i=>match ev fr x,ev fr i with
  |.va (.gs cs),.va (.c1 (.vl (.int _ k)))=>(cs[k.toNat]?).map fun c=>.va (.c1 c)
  |_,_=>none
 |.mf f xs=>(xB fr xs).map fun l=>.va (.c1 (.fn f l))
 |.mh f xs=>(rX fr xs).map fun l=>.va (.c1 (.fm f l))
def nG (H:Hp) (n len sz:Nat):Prop:=
 match H[n]? with
 |some (.row xs _ sz')=>xs.length=len/\sz'=sz
 |some (.rowx xs _ sz')=>xs.length=len/\sz'=sz
 |_=>False
def qc (fr:Fr) (H:Hp):QI->Prop
 |.bin op nw x y=>match ev fr x,ev fr y with
  |.va (.c1 (.vl (.int k a))),.va (.c1 (.vl (.int k' b)))=>HU op nw k k' a b
  |.va (.c1 (.vl (.string a))),.va (.c1 (.vl (.string b)))=>I8 op a b
  |_,_=>False
 |.neg nw x=>match ev fr x with
  |.va (.c1 (.vl (.int k a)))=>nw=true->inr k (0-a)
  |_=>False
 |.b2s x=>match ev fr x with
  |.va (.c1 (.vl (.slice none _ _)))=>True
  |.va (.c1 (.sl n len))=>match H[n]? with
   |some (.row xs _ sz)=>xs.length=len/\sz=1/\∀r∈xs,r=[.vl (.int .u8 (C.gi (r[0]?)))]
   |_=>False
  |_=>False
 |.fa _ x=>match ev fr x with
  |.va (.c1 (.qt n len sz _ _))=>nG H n len sz
  |_=>True
 |.nc x=>match ev fr x with
  |.va (.c1 (.qt n len sz _ _))=>nG H n len sz
  |_=>True
 |.cu x=>match ev fr x with
  |.va (.c1 (.pt n o))=>match H[n]? with
   |some (.cells cs _)=>o<cs.length
   |_=>False
  |_=>False
 |.c4u u k x=>match ev fr x with
  |.va (.c1 (.pt n o))=>match H[n]? with
   |some (.cells cs T)=>o=0/\T=u/\cs.length=k
   |_=>False
  |_=>False
 |.usd x=>match ev fr x with
  |.va (.c1 (.sl n len))=>match H[n]? with
   |some (.row xs _ _)=>xs.length=len
   |_=>False
  |_=>False
 |.lnL x=>match ev fr x with
  |.va (.c1 (.sl n len))=>match H[n]? with
   |some (.row xs _ _)=>xs.length=len
   |some (.rowx xs _ _)=>xs.length=len
   |_=>False
  |_=>True
 |.fldn off n x=>match ev fr x with
  |.va (.gs cs)=>off+n<=cs.length
  |_=>False
 |.bd zero parts=>NP fr zero.length parts
 |.ixa len _ i=>match ev fr i with
  |.va (.c1 (.vl (.int _ k)))=>0<=k/\k<len
  |_=>False
 |.ss x lo hi=>match ev fr x with
  |.va (.c1 (.vl (.string s)))=>match l6 fr 0 lo,l6 fr (bl s).length hi with
   |some l,some h=>0<=l/\l<=h/\h<=(bl s).length
   |_,_=>False
  |_=>False
 |.sf sz x lo hi=>match ev fr x with
  |.va (.c1 (.fz xs))=>match l6 fr 0 lo,l6 fr xs.length hi with
   |some l,some h=>(0<=l/\l<=h/\h<=xs.length)/\0<sz/\∀r∈xs,r.length=sz
   |_,_=>False
  |_=>False
 |_=>True
def vL (fr:Fr) (H:Hp) (i:LI) (K:S->Prop):Prop:=
 match i with
 |.ia sz x i=>match ev fr x,ev fr i with
  |.va (.c1 (.sl n len)),.va (.c1 (.vl (.int _ k)))=>((0<=k/\k<len)/\nG H n len sz)/\K (.va (.c1 (.qt n len sz k.toNat 0)))
  |.va (.c1 (.fz xs)),.va (.c1 (.vl (.int _ k)))=>((0<=k/\k<xs.length)/\∀r,xs[k.toNat]? = some r->r.length=sz)/\∀r,xs[k.toNat]? = some r->K (.va (.c1 (.fp r 0)))
  |_,_=>False
 |.ld1 x=>match ev fr x with
  |.va (.c1 (.pt n off))=>(match H[n]? with
   |some (.cells cs _)=>(match cs[off]? with|some c=>K (.va (.c1 c))|none=>False)
   |_=>False)
  |.va (.c1 (.qt n len sz i j))=>(match H[n]? with
   |some (.row xs _ sz')=>(xs.length=len/\sz'=sz/\i<xs.length)/\∀r,xs[i]? = some r->(match r[j]? with|some c=>K (.va (.c1 c))|none=>False)
   |some (.rowx xs _ sz')=>(xs.length=len/\sz'=sz/\i<xs.length)/\∀r,xs[i]? = some r->(match r[j]? with|some c=>K (.va (.c1 c))|none=>False)
   |_=>False)
  |.va (.c1 (.fp r j))=>(match r[j]? with|some c=>K (.va (.c1 c))|none=>False)
  |_=>False
 |.ldn n x=>match ev fr x with
  |.va (.c1 (.pt m off))=>(match H[m]? with
   |some (.cells cs _)=>off+n<=cs.length/\K (.va (.gs ((cs.drop off).take n)))
   |_=>False)
  |.va (.c1 (.qt m len sz i j))=>(match H[m]? with
   |some (.row xs _ sz')=>(xs.length=len/\sz'=sz/\i<xs.length)/\∀r,xs[i]? = some r->j+n<=r.length/\K (.va (.gs ((r.drop j).take n)))
   |some (.rowx xs _ sz')=>(xs.length=len/\sz'=sz/\i<xs.length)/\∀r,xs[i]? = some r->j+n<=r.length/\K (.va (.gs ((r.drop j).take n)))
   |_=>False)
  |.va (.c1 (.fp r j))=>j+n<=r.length/\K (.va (.gs ((r.drop j).take n)))
  |_=>False
 |.lk kd z ok x k=>match ev fr x,ev fr k with
  |.va (.c1 (.mp n)),.va (.c1 (.vl q))=>(match H[n]? with
   |some (.map kd' ks vs)=>(kd'=kd/\MapKept.IsKey kd q)/\K (lkS z ok (j0 ks vs q))
   |_=>False)
  |_,_=>False
 |.lm x=>match ev fr x with
  |.va (.c1 (.mp n))=>(match H[n]? with
   |some (.map _ ks _)=>K (iS .i64 ks.length)
   |_=>False)
  |_=>False
def WD (P:Program) (t:TypeId):Option Sh:=
 match P.underlying t with
 |some (.int k)=>some (.int k)
 |some .bool=>some .bool
 |some .string=>some .str
 |_=>none
def qW (P:Program) (t:TypeId):Option Bool:=
 match P.underlying t with
 |some (.struct _)=>some true
 |some (.array _ _)=>some true
 |some _=>some false
 |none=>none
def kC (P:Program) (t:TypeId):Option Nat:=(P.info? t).map (·.size)
def M6 (P:Program) (fs:Array Field):List (Nat×Operand)->Option (List (Nat×Nat×O))
 |[]=>some []
 | (i,x)::r=>match fs[i]? with
  |some f=>match kC P f.type,M6 P fs r with
   |some n,some l=>some ((f.offset,n,aT x)::l)
   |_,_=>none
  |none=>none
def AG (P:Program) (fs:List Field):Option (List (Nat×Nat)):=fs.mapM (fun f=>(P.info? f.type).map fun i=>(f.offset,i.size))
def LO (P:Program):List Field->Option (List (Nat×Sh))
 |[]=>some []
 |f::r=>match WD P f.type,qW P f.type,LO P r with
  |some sh,some false,some l=>if !(f.name == "_") then some ((f.offset,sh)::l) else none
  |_,_,_=>none
def YA (len:Nat) (e:TypeId) (n:Nat):Array Field:=(Array.range len).map fun i=>⟨"",e,i*n,false,"","",0⟩
def WL (P:Program) (c:Call):Option QI:=
 match c.callee,c.args.toList,c.argTypes.toList with
 |.builtin .len,[x],[t]=>match P.underlying t with
  |some .string=>some (.lnS (aT x))
  |some (.slice _)=>some (.lnL (aT x))
  |_=>none
 |.builtin .max,[x,y],[t,_]=>match P.underlying t with
  |some (.int _)=>some (.mx true (aT x) (aT y))
  |_=>none
 |.builtin .min,[x,y],[t,_]=>match P.underlying t with
  |some (.int _)=>some (.mx false (aT x) (aT y))
  |_=>none
 |.builtin .unsafeSliceData,[x],[t]=>match P.underlying t with
  |some (.slice _)=>some (.usd (aT x))
  |_=>none
 |.value (.func f),[x],[_]=>match P.funcs[f]? with
  |some fn=>if fn.name == "internal/abi.NoEscape" && fn.origin == "" && fn.body.isNone then some (.mv (aT x)) else none
  |none=>none
 |_,_,_=>none
def RP (P:Program) (nw:Bool) (op:Op):Option QI:=
 match op with
 |.move x=>some (.mv (aT x))
 |.assign x=>some (.mv (aT x))
 |.binOp op t x y _=>match P.underlying t with
  |some (.int _)=>some (.bin op nw (aT x) (aT y))
  |some .string=>some (.bin op nw (aT x) (aT y))
  |some .bool=>match op with
   |.eql=>some (.eqB false (aT x) (aT y))
   |.neq=>some (.eqB true (aT x) (aT y))
   |_=>none
  |some (.pointer e)=>if (P.info? e).isNone then none else match op with
   |.eql=>some (.eqP false (aT x) (aT y))
   |.neq=>some (.eqP true (aT x) (aT y))
   |_=>none
  |some (.struct fs)=>if !P.stoodInHeld t&&!P.eqGuardType P.depth t then match LO P fs.toList,op with
   |some l,.eql=>some (.eqT false l (aT x) (aT y))
   |some l,.neq=>some (.eqT true l (aT x) (aT y))
   |_,_=>none
   else none
  |_=>none
 |.unOp .not _ x=>some (.not (aT x))
 |.unOp .neg _ x=>some (.neg false (aT x))
 |.convert src dst x=>match P.underlying src,P.underlying dst with
  |some (.int _),some (.int k)=>some (.cvt k (aT x))
  |some (.pointer e),some .unsafePointer=>match kC P e with
   |some (_+1)=>some (.cu (aT x))
   |_=>none
  |some .unsafePointer,some (.pointer u)=>match kC P u with
   |some k=>if liesAt P P.depth u (k / P.cellsOf u) 0 u 1 then some (.c4u u k (aT x)) else none
   |none=>none
  |some (.slice e),some .string=>match P.underlying e with
   |some (.int .u8)=>some (.b2s (aT x))
   |_=>none
  |_,_=>none
 |.fieldAddr s x f=>match P.underlying s with
  |some (.struct fs)=>match fs[f]? with
   |some f=>match kC P f.type with
    |some (_+1)=>some (.fa f.offset (aT x))
    |_=>none
   |none=>none
  |_=>none
 |.field s x f=>match P.underlying s with
  |some (.struct fs)=>match fs[f]? with
   |some f=>match qW P f.type,kC P f.type with
    |some true,some n=>some (.fldn f.offset n (aT x))
    |some false,some _=>some (.fld1 f.offset (aT x))
    |_,_=>none
   |none=>none
  |_=>none
 |.build t parts=>match P.underlying t,P.info? t with
  |some (.struct fs),some i=>match i.zero,AG P fs.toList with
   |some z,some _=>(M6 P fs parts.toList).map fun l=>.bd z.cells.toList l
   |_,_=>none
  |some (.array len e),some i=>match i.zero,kC P e with
   |some z,some n=>(M6 P (YA len e n) parts.toList).map fun l=>.bd z.cells.toList l
   |_,_=>none
  |_,_=>none
 |.index t x i=>match P.underlying t with
  |some (.array len e)=>match qW P e,kC P e with
   |some false,some 1=>some (.ixa len (aT x) (aT i))
   |_,_=>none
  |_=>none
 |.slice t x lo hi mx=>match P.underlying t,mx with
  |some .string,none=>some (.ss (aT x) (lo.map aT) (hi.map aT))
  |some (.slice e),none=>match kC P e with
   |some n=>some (.sf n (aT x) (lo.map aT) (hi.map aT))
   |none=>none
  |_,_=>none
 |.call c=>WL P c
 |.extract x i=>some (.ex (aT x) i)
 |.nilCheck x=>some (.nc (aT x))
 |.makeFunc fn first cs=>match fn with
  |.func f=>if first.isEmpty then some (.mf f (cs.toList.map aT)) else if cs.isEmpty then some (.mh f (first.toList.map aT)) else none
  |_=>none
 |_=>none
def W5 (P:Program) (op:Op):Option LI:=
 match op with
 |.load t x=>match qW P t,kC P t with
  |some true,some n=>some (.ldn n (aT x))
  |some false,some _=>some (.ld1 (aT x))
  |_,_=>none
 |.indexAddr t x i=>match P.underlying t with
  |some (.slice e)=>match kC P e with
   |some n=>some (.ia n (aT x) (aT i))
   |none=>none
  |_=>none
 |.lookup t x i ok=>match P.underlying t with
  |some (.map k e)=>match P.underlying k,(P.info? e).map (·.zero) with
   |some kd,some (some z)=>some (.lk kd z ok (aT x) (aT i))
   |_,_=>none
  |_=>none
 |.call c=>match c.callee,c.args.toList,c.argTypes.toList with
  |.builtin .len,[x],[t]=>match P.underlying t with
   |some (.map _ _)=>some (.lm (aT x))
   |_=>none
  |_,_,_=>none
 |_=>none
def trX (P:Program) (op:Op):Option (O×O):=
 match op with
 |.index t x i=>match P.underlying t with
  |some .string=>some (aT x,aT i)
  |_=>none
 |_=>none
def QOk (P:Program) (o:Oper) (E:Es) (ro:RO) (a:Act) (s:S):Prop:=
 ∃v,s.rel (gm E) ro v/\∀X w,Rel X E ro w->(execOp a.eval o).run P w=.ok (.value v) w
theorem TQ (off:Nat):∀(vs:List Value) (k:Nat) (cur:List Value),off+k+vs.length<=cur.length->
 ((vs.zipIdx k).foldl (fun (cs:Array Value) (x:Value×Nat)=>cs.setIfInBounds (off+x.2) x.1) cur.toArray)=(cur.take (off+k)++vs++cur.drop (off+k+vs.length)).toArray:=by
 intro vs
 induction vs with
 |nil=>intro k cur _;simp
 |cons v vs ih=>
  intro k cur hk
  simp only[bP] at hk
  simp only[List.zipIdx_cons,sI,List.setIfInBounds_toArray]
  rw[ih (k+1) _ (by simp;omega)]
  congr 1
  have hp:off+k<cur.length:=by omega
  rw[List.set_eq_take_append_cons_drop,if_pos hp]
  have e1:(cur.take (off+k)).length=off+k:=by simp;omega
  have t1:List.take (off+(k+1)) (cur.take (off+k)++v::cur.drop (off+k+1))=cur.take (off+k)++[v]:=by
   rw[T9,e1,sE (by omega),show off+(k+1)-(off+k)=1 by omega];simp
  have t2:List.drop (off+(k+1)+vs.length) (cur.take (off+k)++v::cur.drop (off+k+1))=cur.drop (off+k+(vs.length+1)):=by
   rw[JT,e1,UA (by omega),show off+(k+1)+vs.length-(off+k)=vs.length+1 by omega]
   simp only[jT,JP,List.drop_drop]
   congr 1;omega
  rw[t1,t2]
  simp
theorem vM {xs:List (List C)} {sz:Nat} (h:∀x∈xs,x.length=sz):∀{i j:Nat},i<xs.length->j<sz->xs.flatten[i*sz+j]? = (xs[i]?).bind (·[j]?):=by
 induction xs with
 |nil=>intro i j hi;simp at hi
 |cons x r ih=>
  intro i j hi hj
  have hx:x.length=sz:=h x (by simp)
  cases i with
  |zero=>simp[uC,hx,hj]
  |succ i=>
   simp only[fA,uC,hx]
   rw[if_neg (by rw[jU];omega),show (i+1)*sz+j-sz=i*sz+j by rw[jU];omega]
   simpa using ih (fun y hy=>h y (by simp[hy])) (by simpa using hi) hj
section
variable {P:Program} {o:Oper} {N:Nat} {fr:Fr} {a:Act} {E:Es} {ro:RO} {s:S} {nw:Bool} {X0:Ctx} {w0:World}
theorem aX3 (hf:FRel N (gm E) ro fr a) {x:Operand} (ho:o.op=.move x\/o.op=.assign x):QOk P o E ro a (ev fr (aT x)):=
 ⟨a.eval x,bC hf x,fun X w _=>by rcases ho with ho|ho<;>simp[execOp,ho]⟩
theorem aWB (hf:FRel N (gm E) ro fr a) {op:BinOp} {t t':TypeId} {x y:Operand} (ho:o.op=.binOp op t x y t') {k k':IntKind} {m n:Int}
 (hx:ev fr (aT x)=iS k m) (hy:ev fr (aT y)=iS k' n) (h:G0 op nw k m n=some s) (hc:HU op nw k k' m n):QOk P o E ro a s:=by
 have h1:=bC hf x;have h2:=bC hf y
 rw[hx] at h1;rw[hy] at h2
 have h1':a.eval x=.int k m:=h1
 have h2':a.eval y=.int k' n:=h2
 obtain ⟨v,hv,hr⟩:=RL (P:=P) (t:=t) h hc
 exact ⟨v,hv _ _,fun X w _=>by simp only[execOp,ho,h1',h2'];simp[hr,eqGuard]⟩
theorem aRP (hf:FRel N (gm E) ro fr a) {op:BinOp} {t t':TypeId} {x y:Operand} (ho:o.op=.binOp op t x y t') {m n:ByteArray}
 (hx:ev fr (aT x)=tS m) (hy:ev fr (aT y)=tS n) (h:QC op m n=some s) (hc:I8 op m n):QOk P o E ro a s:=by
 have h1:=bC hf x;have h2:=bC hf y
 rw[hx] at h1;rw[hy] at h2
 have h1':a.eval x=.string m:=h1
 have h2':a.eval y=.string n:=h2
 obtain ⟨v,hv,hr⟩:=RN (P:=P) (t:=t) h hc
 exact ⟨v,hv _ _,fun X w _=>by simp only[execOp,ho,h1',h2'];simp[hr,eqGuard]⟩
theorem aIH (hf:FRel N (gm E) ro fr a) {neg:Bool} {t t':TypeId} {x y:Operand} (ho:o.op=.binOp (if neg then .neq else .eql) t x y t') (ht:P.underlying t=some .bool) {m n:Bool}
 (hx:ev fr (aT x)=bS m) (hy:ev fr (aT y)=bS n):QOk P o E ro a (bS (bif neg then !(m==n) else m==n)):=by
 have h1:=bC hf x;have h2:=bC hf y
 rw[hx] at h1;rw[hy] at h2
 have h1':a.eval x=.bool m:=h1
 have h2':a.eval y=.bool n:=h2
 refine ⟨_,rfl,fun X w _=>?_⟩
 have he:(Op.equal t (.bool m) (.bool n)).run P w=.ok (m==n) w:=by
  rw[Op.equal,show Op.maxDepth=9999+1 from rfl,Op.equalIn]
  simp[underlying,ht]
 cases neg<;>simp only[execOp,ho,h1',h2']<;>simp[eqGuard,binOp,he]
theorem aY2 (hf:FRel N (gm E) ro fr a) {t:TypeId} {x:Operand} (ho:o.op=.unOp .not t x) {m:Bool} (hx:ev fr (aT x)=bS m):QOk P o E ro a (bS (!m)):=by
 have h1:=bC hf x
 rw[hx] at h1
 have h1':a.eval x=.bool m:=h1
 exact ⟨_,rfl,fun X w _=>by simp[execOp,ho,h1',Op.unary]⟩
theorem a0U (hf:FRel N (gm E) ro fr a) {t:TypeId} {x:Operand} (ho:o.op=.unOp .neg t x) {k:IntKind} {m:Int} (hx:ev fr (aT x)=iS k m) (hc:nw=true->inr k (0-m)) :
 QOk P o E ro a (iS k (wr k nw (0-m))):=by
 have h1:=bC hf x
 rw[hx] at h1
 have h1':a.eval x=.int k m:=h1
 exact ⟨_,rfl,fun X w _=>by rw[HP hc];simp[execOp,ho,h1',Op.unary,Op.intArith]⟩
theorem a13 (hf:FRel N (gm E) ro fr a) {t u:TypeId} {x:Operand} (ho:o.op=.convert t u x) {k0 k' k:IntKind} (ht:P.underlying t=some (.int k0)) (hu:P.underlying u=some (.int k')) {m:Int} (hx:ev fr (aT x)=iS k m) :
 QOk P o E ro a (iS k' (k'.wrap m)):=by
 have h1:=bC hf x
 rw[hx] at h1
 have h1':a.eval x=.int k m:=h1
 exact ⟨_,rfl,fun X w _=>by simp[execOp,ho,h1',convert,underlying,ht,hu,Conv.intToInt]⟩
theorem a7J (hf:FRel N (gm E) ro fr a) {i:Nat} {x:Operand} (ho:o.op=.extract x i) {l:List A} (hx:ev fr (aT x)=.tu l) {y:A} (hy:l[i]? = some y):QOk P o E ro a (.va y):=by
 have h1:=bC hf x
 rw[hx] at h1
 obtain ⟨vs,h1',h2⟩:=h1
 obtain ⟨v,hv,hr⟩:=h2.get hy
 exact ⟨v,hr,fun X w _=>by simp[execOp,ho,h1',Instr.extract,hv]⟩
theorem aY5 (hf:FRel N (gm E) ro fr a) {t:TypeId} {x:Operand} (ho:o.op=.call { callee:=.builtin .len,args:=#[x],argTypes:=#[t] })
 (ht:P.underlying t=some .string) (hs:qv fr (hp E) (.lnS (aT x))=some s):QOk P o E ro a s:=by
 have h1:=bC hf x
 simp only[qv] at hs
 split at hs<;>simp only[aM,reduceCtorEq] at hs
 rename_i l he
 subst hs
 rw[he] at h1
 have h1':a.eval x=.string l:=h1
 refine ⟨_,rfl,fun X w _=>?_⟩
 simp[execOp,ho,h1',resolve,invoke,builtin,Builtin.len_,underlying,ht,goInt,jA]
theorem aZL (hf:FRel N (gm E) ro fr a) (hr0:Rel X0 E ro w0) {t e:TypeId} {x:Operand} (ho:o.op=.call { callee:=.builtin .len,args:=#[x],argTypes:=#[t] })
 (ht:P.underlying t=some (.slice e)) (hs:qv fr (hp E) (.lnL (aT x))=some s) (hc:qc fr (hp E) (.lnL (aT x))):QOk P o E ro a s:=by
 have h1:=bC hf x
 simp only[qv] at hs
 simp only[qc] at hc
 have key:∀{u:Option Addr} {n c:Nat},a.eval x=.slice u n c->QOk P o E ro a (iS .i64 n):=fun {u n c} h=>by
  refine ⟨_,rfl,fun X w _=>?_⟩
  simp[execOp,ho,h,resolve,invoke,builtin,Builtin.len_,underlying,ht,goInt]
 split at hs<;>simp only[aM,reduceCtorEq] at hs
 · rename_i n len he
   subst hs
   rw[he] at h1 hc
   obtain ⟨g,h2,h3,h4,⟨u,m,c,h5⟩,h6⟩:=h1
   simp only at hc
   split at hc
   · rename_i xs T sz hH
     obtain ⟨g',hE⟩:=dC hH
     obtain ⟨_,hl,_⟩:=hr0.own n g' _ hE
     have:g'=g:=by have:=dU hE;rw[h2] at this;exact (dV this).symm
     subst this
     exact key (h6 (by omega))
   · rename_i xs T sz hH
     obtain ⟨g',hE⟩:=dC hH
     obtain ⟨_,hl,_⟩:=hr0.own n g' _ hE
     have:g'=g:=by have:=dU hE;rw[h2] at this;exact (dV this).symm
     subst this
     exact key (h6 (by omega))
   · exact hc.elim
 · rename_i xs he
   subst hs
   rw[he] at h1
   have h1':FzR ro xs (a.eval x):=h1
   generalize hv:a.eval x=v at h1'
   cases h1'
   exact key hv
 · rename_i u n c he
   subst hs
   rw[he] at h1
   have h1':a.eval x=.slice u n c:=h1
   exact key h1'
theorem fM {t:TypeId} {n:Nat} (h:kC P t=some n) (w:World):(sizeOf t).run P w=.ok n w:=by
 unfold kC at h
 cases hi:P.info? t with
 |none=>simp[hi] at h
 |some i=>simp[hi] at h;simp[sizeOf,typeInfo,hi,h]
theorem lU {t:TypeId} {b:Bool} (h:qW P t=some b) (w:World):(isAgg t).run P w=.ok b w:=by
 unfold qW at h
 cases hi:P.underlying t with
 |none=>simp[hi] at h
 |some d=>cases d<;>simp[hi] at h<;>subst h<;>simp[isAgg,underlying,hi]
theorem gG (b k n:Nat):(⟨b,k,none⟩:Addr).add n=⟨b,k+n,none⟩:=by
 unfold Addr.add;split
 · simp_all
 · rfl
theorem sM (hr0:Rel X0 E ro w0) {n len sz i j:Nat} {v:Value} (h:C.rel (gm E) ro (.qt n len sz i j) v) (hH:nG (hp E) n len sz):∃g b blk,E[n]? = some (g,blk)/\g.ob=some b/\v=.pointer (some ⟨b,i*sz+j,none⟩):=by
 obtain ⟨g,h2,h3,h4,h5,h6⟩:=h
 unfold nG at hH
 split at hH
 · rename_i xs T sz' hH'
   obtain ⟨hl,rfl⟩:=hH
   obtain ⟨g',hE⟩:=dC hH'
   obtain ⟨_,hl2,_⟩:=hr0.own n g' _ hE
   have:g'=g:=by have:=dU hE;rw[h2] at this;exact (dV this).symm
   subst this
   obtain ⟨b,hb,hv⟩:=h6 (by omega)
   exact ⟨g',b,_,hE,hb,hv⟩
 · rename_i xs T sz' hH'
   obtain ⟨hl,rfl⟩:=hH
   obtain ⟨g',hE⟩:=dC hH'
   obtain ⟨_,hl2,_⟩:=hr0.own n g' _ hE
   have:g'=g:=by have:=dU hE;rw[h2] at this;exact (dV this).symm
   subst this
   obtain ⟨b,hb,hv⟩:=h6 (by omega)
   exact ⟨g',b,_,hE,hb,hv⟩
 · exact hH.elim
theorem a94 (hf:FRel N (gm E) ro fr a) (hr0:Rel X0 E ro w0) {t:TypeId} {x:Operand} {f:Nat} (ho:o.op=.fieldAddr t x f) {fs:Array Field} (ht:P.underlying t=some (.struct fs)) {fd:Field} (hfd:fs[f]? = some fd)
 {k:Nat} (hk:kC P fd.type=some (k+1)) (hs:qv fr (hp E) (.fa fd.offset (aT x))=some s) (hc:qc fr (hp E) (.fa fd.offset (aT x))):QOk P o E ro a s:=by
 have h1:=bC hf x
 simp only[qv] at hs
 simp only[qc] at hc
 have key:∀{b q:Nat},a.eval x=.pointer (some ⟨b,q,none⟩)->∀X w,Rel X E ro w->(execOp a.eval o).run P w=.ok (.value (.pointer (some ⟨b,q+fd.offset,none⟩))) w:=fun {b q} h X w _=>by
  simp[execOp,ho,h,Instr.fieldAt,underlying,ht,hfd,Instr.sureAddr,fieldPlace,fM hk,gG]
 split at hs<;>simp only[aM,reduceCtorEq] at hs<;>rename_i he<;>subst hs<;>rw[he] at h1
 · obtain ⟨g,b,h2,h3,h4,h5⟩:=h1
   exact ⟨_,⟨g,b,h2,h3,h4,rfl⟩,key h5⟩
 · rename_i n len sz i j
   rw[he] at hc
   obtain ⟨g,b,blk,hE,hb,hv⟩:=sM hr0 h1 hc
   obtain ⟨g',h2,h3,h4,h5,h6⟩:=h1
   have:g'=g:=by have:=dU hE;rw[h2] at this;exact (dV this)
   subst this
   exact ⟨_,⟨g',h2,h3,h4,⟨_,rfl⟩,fun _=>⟨b,hb,by rw[<-sF]⟩⟩,key hv⟩
 · obtain ⟨b,off,h2,h3⟩:=h1
   exact ⟨_,⟨b,off,by rw[<-sF],h3⟩,key h2⟩
theorem aTP (hf:FRel N (gm E) ro fr a) {t:TypeId} {x:Operand} {f:Nat} (ho:o.op=.field t x f) {fs:Array Field} (ht:P.underlying t=some (.struct fs)) {fd:Field} (hfd:fs[f]? = some fd)
 (hk:qW P fd.type=some false) (hs:qv fr (hp E) (.fld1 fd.offset (aT x))=some s):QOk P o E ro a s:=by
 have h1:=bC hf x
 simp only[qv] at hs
 split at hs<;>simp only[lX,reduceCtorEq] at hs
 rename_i cs he
 obtain ⟨c,hcs,rfl⟩:=hs
 rw[he] at h1
 obtain ⟨vs,h1',h2⟩:=h1
 obtain ⟨v,hv,hr⟩:=h2.get hcs
 refine ⟨v,hr,fun X w _=>?_⟩
 simp[execOp,ho,h1',Instr.field,underlying,ht,hfd,part,lU hk,asAgg,hv]
theorem aSI (hf:FRel N (gm E) ro fr a) {t:TypeId} {x:Operand} {f:Nat} (ho:o.op=.field t x f) {fs:Array Field} (ht:P.underlying t=some (.struct fs)) {fd:Field} (hfd:fs[f]? = some fd)
 (hk:qW P fd.type=some true) {n:Nat} (hz:kC P fd.type=some n) (hs:qv fr (hp E) (.fldn fd.offset n (aT x))=some s):QOk P o E ro a s:=by
 have h1:=bC hf x
 simp only[qv] at hs
 split at hs<;>simp only[aM,reduceCtorEq] at hs
 rename_i cs he
 subst hs
 rw[he] at h1
 obtain ⟨vs,h1',h2⟩:=h1
 refine ⟨.agg ((vs.drop fd.offset).take n).toArray,⟨_,rfl,(h2.drop _).take _⟩,fun X w _=>?_⟩
 simp[execOp,ho,h1',Instr.field,underlying,ht,hfd,part,lU hk,fM hz,asAgg]
theorem a9O (hf:FRel N (gm E) ro fr a) (hr0:Rel X0 E ro w0) {x:Operand} (ho:o.op=.nilCheck x) (hs:qv fr (hp E) (.nc (aT x))=some s) (hc:qc fr (hp E) (.nc (aT x))):QOk P o E ro a s:=by
 have h1:=bC hf x
 simp only[qv] at hs
 simp only[qc] at hc
 split at hs<;>simp only[aM,reduceCtorEq] at hs<;>rename_i he<;>subst hs<;>rw[he] at h1
 · refine ⟨_,h1,fun X w _=>?_⟩
   obtain ⟨g,b,h2,h3,h4,h5⟩:=h1
   simp[execOp,ho,h5]
 · refine ⟨_,h1,fun X w _=>?_⟩
   rw[he] at hc
   obtain ⟨g,b,blk,hE,hb,hv⟩:=sM hr0 h1 hc
   simp[execOp,ho,hv]
 · refine ⟨_,h1,fun X w _=>?_⟩
   obtain ⟨b,off,h2,h3⟩:=h1
   simp[execOp,ho,h2]
 · refine ⟨_,h1,fun X w _=>?_⟩
   obtain ⟨bs,h2,h3⟩:=h1
   simp[execOp,ho,h2]
theorem aM5 (hf:FRel N (gm E) ro fr a) {neg:Bool} {t t' e:TypeId} {x y:Operand} (ho:o.op=.binOp (if neg then .neq else .eql) t x y t') (ht:P.underlying t=some (.pointer e)) (hinf:(P.info? e).isNone=false)
 (hs:qv fr (hp E) (.eqP neg (aT x) (aT y))=some s):QOk P o E ro a s:=by
 have h1:=bC hf x;have h2:=bC hf y
 have he:∀(p:Option Addr) (w:World),(Op.equal t (.pointer p) (.pointer none)).run P w=.ok p.isNone w:=fun p w=>by
  rw[Op.equal,show Op.maxDepth=9999+1 from rfl,Op.equalIn]
  cases p<;>simp[underlying,ht]
 have he2:∀(p:Addr) (w:World),(Op.equal t (.pointer (some p)) (.pointer (some p))).run P w=.ok true w:=fun p w=>by
  have key:∀d:Nat,(Op.equalIn (d+1) t (.pointer (some p)) (.pointer (some p))).run P w=.ok true w:=fun d=>by
   cases hj:P.info? e with
   |none=>simp[hj] at hinf
   |some j=>simp[Op.equalIn,run_underlying ht,sizeOf,typeInfo,hj,run_sameAddr_same]
  simp[Op.equal,Op.maxDepth,key 9999]
 simp only[qv] at hs
 split at hs<;>try simp only[aM,reduceCtorEq] at hs
 · rename_i hex hey
   subst hs
   rw[hex] at h1;rw[hey] at h2
   obtain ⟨g,b,_,_,_,h1'⟩:=h1
   have h2':a.eval y=.pointer none:=h2
   exact ⟨_,rfl,fun X w _=>by cases neg<;>simp[execOp,ho,h1',h2',eqGuard,binOp,he]⟩
 · rename_i p hex hey
   subst hs
   rw[hex] at h1;rw[hey] at h2
   have h1':a.eval x=.pointer p:=h1
   have h2':a.eval y=.pointer none:=h2
   exact ⟨_,rfl,fun X w _=>by cases neg<;>simp[execOp,ho,h1',h2',eqGuard,binOp,he]⟩
 · rename_i n o1 m o2 hex hey
   split at hs<;>simp only[aM,reduceCtorEq] at hs
   rename_i hnm
   obtain ⟨rfl,rfl⟩:=hnm
   subst hs
   rw[hex] at h1;rw[hey] at h2
   obtain ⟨g,b,k1,_,k3,h1'⟩:=h1
   obtain ⟨g2,b2,l1,_,l3,h2'⟩:=h2
   rw[k1] at l1
   simp only[aM] at l1
   subst l1
   rw[k3] at l3
   simp only[aM] at l3
   subst l3
   exact ⟨_,rfl,fun X w _=>by cases neg<;>simp[execOp,ho,h1',h2',eqGuard,binOp,he2]⟩
theorem ER (hf:FRel N (gm E) ro fr a) {d:Int} {x:Option Operand} {l:Int} (h:l6 fr d (x.map aT)=some l):(x=none/\l=d)\/∃y k,x=some y/\a.eval y=.int k l:=by
 cases x with
 |none=>simp[l6] at h;exact .inl ⟨rfl,h.symm⟩
 |some y=>
  simp only[cQ,l6] at h
  split at h<;>simp only[aM,reduceCtorEq] at h
  rename_i k i he
  subst h
  have h1:=bC hf y
  rw[he] at h1
  exact .inr ⟨y,k,rfl,h1⟩
theorem a7L (hf:FRel N (gm E) ro fr a) {t:TypeId} {x:Operand} {lo hi:Option Operand} (ho:o.op=.slice t x lo hi none) (ht:P.underlying t=some .string)
 (hs:qv fr (hp E) (.ss (aT x) (lo.map aT) (hi.map aT))=some s) (hc:qc fr (hp E) (.ss (aT x) (lo.map aT) (hi.map aT))):QOk P o E ro a s:=by
 have h1:=bC hf x
 simp only[qv] at hs
 simp only[qc] at hc
 split at hs<;>first|(simp only[reduceCtorEq] at hs;done)|skip
 rename_i str he
 split at hs<;>simp only[aM,reduceCtorEq] at hs
 rename_i l h hl hh
 subst hs
 rw[he] at h1 hc
 simp only[hl,hh] at hc
 have h1':a.eval x=.string str:=h1
 obtain ⟨c0,c1,c2⟩:=hc
 refine ⟨_,rfl,fun X w _=>?_⟩
 have hx:∀i j,str.extract i j=mk (((bl str).take j).drop i):=fun i j=>by
  apply ByteArray.ext
  apply Array.ext'
  simp[mk,bl,ByteArray.data_extract,List.extract_eq_take_drop,aDA]
 have hsz:str.size=(bl str).length:=jA str
 have hh0:0<=h:=by omega
 rcases ER hf hl with ⟨rfl,rfl⟩|⟨yl,kl,rfl,hyl⟩<;>rcases ER hf hh with ⟨rfl,rfl⟩|⟨yh,kh,rfl,hyh⟩ <;>
  simp[execOp,Instr.sliceAt,Instr.slice,Instr.sliceBounds,Instr.sliceBound,asIntOf,underlying, *]
 all_goals (intro hn;omega)
theorem aMV (hf:FRel N (gm E) ro fr a) {op:BinOp} {t t':TypeId} {x y:Operand} (ho:o.op=.binOp op t x y t') (hs:qv fr (hp E) (.bin op nw (aT x) (aT y))=some s) (hc:qc fr (hp E) (.bin op nw (aT x) (aT y))) :
 QOk P o E ro a s:=by
 simp only[qv] at hs
 simp only[qc] at hc
 split at hs
 · rename_i k m k' n hx hy
   rw[hx,hy] at hc
   exact aWB hf ho hx hy hs hc
 · rename_i m n hx hy
   rw[hx,hy] at hc
   exact aRP hf ho hx hy hs hc
 · cases hs
end
theorem rU {R:C->Value->Prop} {cs vs:List C} {cur us:List Value} {off:Nat} (h:All2 R cs cur) (k:All2 R vs us):All2 R (dW cs off vs) (cur.take off++us++cur.drop (off+us.length)):=by
 unfold dW
 rw[k.1]
 exact ((h.take _).app k).app (h.drop _)
section
variable {P:Program} {o:Oper} {N:Nat} {fr:Fr} {a:Act} {E:Es} {ro:RO} {s:S} {nw:Bool} {X0:Ctx} {w0:World}
theorem GY {fs:Array Field}:∀{l:List (Nat×Operand)} {l':List (Nat×Nat×O)},M6 P fs l=some l'->
 ∀{places:Array (Nat×Nat)},(∀(i:Nat) (f:Field) (n:Nat),fs[i]? = some f->kC P f.type=some n->places[i]? = some (f.offset,n))->
 ∀(cs:List C) (cur:List Value),All2 (C.rel (gm E) ro) cs cur->NP fr cs.length l'->∀{r:List C},FRel N (gm E) ro fr a->I9 fr cs l'=some r->
 ∃res,Instr.fill (places[·]?) cur.toArray (l.map fun x=>(x.1,a.eval x.2))=some (List.toArray res)/\All2 (C.rel (gm E) ro) r res
 |[],l',h,places,hp,cs,cur,hcc,hc,r,hf,hv=>by
  simp only[M6,aM] at h
  subst h
  simp only[I9,aM] at hv
  subst hv
  exact ⟨cur,rfl,hcc⟩
 | (i,x)::l,l',h,places,hp,cs,cur,hcc,hc,r,hf,hv=>by
  simp only[M6] at h
  split at h
  · rename_i f hfi
    split at h
    · rename_i n l2 hn hl2
      simp only[aM] at h
      subst h
      simp only[I9] at hv
      simp only[NP] at hc
      have hx:=bC hf x
      split at hv
      · rename_i y hy
        rw[hy] at hx hc
        have hx':y.rel (gm E) ro (a.eval x):=hx
        simp only at hc
        obtain ⟨⟨hok,hlen,hle⟩,hc2⟩:=hc
        have hcv:=A.cells_rel hx' hok
        have hl3:(a.eval x).cells.toList.length=n:=by rw[<-hcv.1];exact hlen
        have hl4:(a.eval x).cells.size=n:=by simpa using hl3
        have hspl:(dW cs f.offset y.cells).length=cs.length:=by simp[dW];omega
        rw[<-hspl] at hc2
        obtain ⟨res,ih,ihr⟩:=GY hl2 hp (dW cs f.offset y.cells) _ (rU hcc hcv) hc2 hf hv
        refine ⟨res,?_,ihr⟩
        simp only[gC,Instr.fill,hp i f n hfi hn]
        rw[if_neg (by have:=hcc.1;simp;omega)]
        rw[<-ih]
        congr 1
        have:=TQ f.offset (a.eval x).cells.toList 0 cur (by have:=hcc.1;simp at hl3 ⊢;omega)
        simp only[E5] at this
        rw[<-aDB,aDC,this]
      · cases hv
    · cases h
  · cases h
theorem C6:∀{fs:List Field} {pl:List (Nat×Nat)},AG P fs=some pl->∀(i:Nat) (f:Field) (n:Nat),fs[i]? = some f->kC P f.type=some n->pl[i]? = some (f.offset,n)
 |[],pl,h,i,f,n,hf,hn=>by simp at hf
 |g::fs,pl,h,i,f,n,hf,hn=>by
  simp only[AG,List.mapM_cons,Option.bind_eq_bind,Option.pure_def,Option.bind_eq_some_iff] at h
  obtain ⟨y,hy,r,hr,hpl⟩:=h
  simp only[aM] at hpl
  subst hpl
  cases i with
  |zero=>
   simp only[oS,aM] at hf
   subst hf
   unfold kC at hn
   cases hi:P.info? g.type with
   |none=>simp[hi] at hy
   |some i=>simp[hi] at hy hn;subst hn;simp[<-hy]
  |succ i=>simpa using C6 (fs:=fs) (pl:=r) hr i f n (by simpa using hf) hn
theorem bAR (hf:FRel N (gm E) ro fr a) {t:TypeId} {parts:Array (Nat×Operand)} (ho:o.op=.build t parts) {fs:Array Field} (ht:P.underlying t=some (.struct fs)) {i:TypeInfo} (hi:P.info? t=some i)
 {z:Value} (hz:i.zero=some z) {pl:List (Nat×Nat)} (hp':AG P fs.toList=some pl) {l:List (Nat×Nat×O)} (hl:M6 P fs parts.toList=some l)
 (hs:qv fr (hp E) (.bd z.cells.toList l)=some s) (hc:qc fr (hp E) (.bd z.cells.toList l)):QOk P o E ro a s:=by
 simp only[qv,lX] at hs
 obtain ⟨cs,hcs,rfl⟩:=hs
 simp only[qc] at hc
 obtain ⟨res,hfill,hres⟩:=GY (places:=pl.toArray) hl (fun i f n h1 h2=>by simpa using C6 hp' i f n (by simpa using h1) h2) (z.cells.toList.map C.vl) z.cells.toList (uQ _) (by simpa using hc) hf hcs
 refine ⟨.agg res.toArray,⟨res,rfl,hres⟩,fun X w _=>?_⟩
 rw[eL] at hfill
 simp only[execOp,ho,Instr.build]
 simp[underlying,ht,typeInfo,zeroValue,hi,hz,Array.mapM_eq_mapM_toList,run_places w _ _ hp']
 have e2:(fun (x:Nat)=>pl.toArray[x]?)=(fun x=>pl[x]?):=by funext x;simp
 rw[e2] at hfill
 have e3:(List.map (fun x=>(x.1,a.eval x.2)) parts.toList)=List.map (fun x=>(x.fst,a.eval x.snd)) parts.toList:=rfl
 simp only[hfill]
 simp
theorem NQ {p q:Nat->Option (Nat×Nat)} (h:∀i x,p i=some x->q i=some x):∀(l:List (Nat×Value)) (cells r:Array Value),Instr.fill p cells l=some r->Instr.fill q cells l=some r
 |[],_,_,hf=>hf
 | (i,v)::l,cells,r,hf=>by
  simp only[Instr.fill] at hf ⊢
  cases hp:p i with
  |none=>simp[hp] at hf
  |some x=>
   obtain ⟨off,size⟩:=x
   rw[hp] at hf
   rw[h i _ hp]
   simp only at hf ⊢
   split at hf
   · cases hf
   · rename_i hc
     rw[if_neg hc]
     exact NQ h l _ r hf
theorem aZ4 (hf:FRel N (gm E) ro fr a) {t e:TypeId} {len n:Nat} {parts:Array (Nat×Operand)} (ho:o.op=.build t parts) (ht:P.underlying t=some (.array len e)) {i:TypeInfo} (hi:P.info? t=some i)
 {z:Value} (hz:i.zero=some z) (hn:kC P e=some n) {l:List (Nat×Nat×O)} (hl:M6 P (YA len e n) parts.toList=some l)
 (hs:qv fr (hp E) (.bd z.cells.toList l)=some s) (hc:qc fr (hp E) (.bd z.cells.toList l)):QOk P o E ro a s:=by
 simp only[qv,lX] at hs
 obtain ⟨cs,hcs,rfl⟩:=hs
 simp only[qc] at hc
 have hget:∀(k:Nat) (f:Field),(YA len e n)[k]? = some f->k<len/\f=⟨"",e,k*n,false,"","",0⟩:=fun k f hk=>by
  unfold YA at hk
  rw[aDD] at hk
  rcases bB k len with h|h
  · rw[nO (by simpa using h)] at hk
    simp at hk
    exact ⟨h,hk.symm⟩
  · rw[nT (by simpa using h)] at hk;cases hk
 obtain ⟨res,hfill,hres⟩:=GY (places:=(Array.range len).map fun k=>(k*n,n)) hl (fun k f m h1 h2=>by
  obtain ⟨hk,rfl⟩:=hget k f h1
  simp only[hn,aM] at h2
  subst h2
  simp[hk]) (z.cells.toList.map C.vl) z.cells.toList (uQ _) (by simpa using hc) hf hcs
 refine ⟨.agg res.toArray,⟨res,rfl,hres⟩,fun X w _=>?_⟩
 rw[eL] at hfill
 have hfill2:=NQ (q:=fun k=>some (k*n,n)) (fun k x hk=>by
  simp only[aDD] at hk
  rcases bB k len with h|h
  · rw[nO (by simpa using h)] at hk
    simpa using hk
  · rw[nT (by simpa using h)] at hk;cases hk) _ _ _ hfill
 simp only[execOp,ho,Instr.build]
 simp[underlying,ht,typeInfo,zeroValue,hi,hz,fM hn]
 have e3:(List.map (fun x=>(x.1,a.eval x.2)) parts.toList)=List.map (fun x=>(x.fst,a.eval x.snd)) parts.toList:=rfl
 simp only[hfill2]
 simp
theorem aTM (hf:FRel N (gm E) ro fr a) {t t':TypeId} {x y:Operand} {b:Bool} (ho:o.op=.call { callee:=.builtin (if b then .max else .min),args:=#[x,y],argTypes:=#[t,t'] })
 (hs:qv fr (hp E) (.mx b (aT x) (aT y))=some s):QOk P o E ro a s:=by
 have h1:=bC hf x;have h2:=bC hf y
 simp only[qv] at hs
 split at hs<;>simp only[aM,reduceCtorEq] at hs
 rename_i k m k' n hx hy
 subst hs
 rw[hx] at h1;rw[hy] at h2
 have h1':a.eval x=.int k m:=h1
 have h2':a.eval y=.int k' n:=h2
 refine ⟨.int k (bif b then max m n else min m n),rfl,fun X w _=>?_⟩
 cases b with
 |true=>
  have e:(if m<n then n else m)=max m n:=by split<;>omega
  simp[execOp,ho,h1',h2',resolve,invoke,builtin,Builtin.max_,Builtin.max2,e]
 |false=>
  have e:(if n<m then n else m)=min m n:=by split<;>omega
  simp[execOp,ho,h1',h2',resolve,invoke,builtin,Builtin.min_,Builtin.min2,e]
theorem a2S (hf:FRel N (gm E) ro fr a) {t e:TypeId} {len:Nat} {x y:Operand} (ho:o.op=.index t x y) (ht:P.underlying t=some (.array len e)) (ha:qW P e=some false) (hn:kC P e=some 1)
 (hs:qv fr (hp E) (.ixa len (aT x) (aT y))=some s) (hc:qc fr (hp E) (.ixa len (aT x) (aT y))):QOk P o E ro a s:=by
 have h1:=bC hf x;have h2:=bC hf y
 simp only[qv] at hs
 split at hs<;>simp only[lX,reduceCtorEq] at hs
 rename_i cs k m hx hy
 obtain ⟨c,hcs,rfl⟩:=hs
 simp only[qc,hy] at hc
 rw[hx] at h1;rw[hy] at h2
 obtain ⟨vs,h1',hvs⟩:=h1
 have h2':a.eval y=.int k m:=h2
 obtain ⟨v,hv,hrel⟩:=hvs.get hcs
 refine ⟨v,hrel,fun X w _=>?_⟩
 simp[execOp,ho,h1',h2',Instr.index,asIntOf,run_underlying ht,hc.1,hc.2,part,lU ha,fM hn,hv,Result.andThen]
theorem aFY {t:TypeId} {sh:Sh} (h:WD P t=some sh):(∀k,sh=.int k->P.underlying t=some (.int k))/\(sh=.str->P.underlying t=some .string)/\(sh=.bool->P.underlying t=some .bool):=by
 unfold WD at h
 split at h<;>simp only[aM,reduceCtorEq] at h<;>subst h<;>simp_all
theorem UV (w:World) {d:Nat} {t:TypeId} {sh:Sh} (h:WD P t=some sh) {c e:C} {u v:Value} (hu:c.rel (gm E) ro u) (hv:e.rel (gm E) ro v) {x:Bool} (hx:eqC sh c e=some x):(Op.equalIn (d+1) t u v).run P w=.ok x w:=by
 obtain ⟨h1,h2,h3⟩:=aFY h
 unfold eqC at hx
 split at hx
 · rename_i k k1 a1 k2 b1
   have hu':u=.int k1 a1:=hu
   have hv':v=.int k2 b1:=hv
   subst hu';subst hv'
   split at hx
   · rename_i hk;simp only[aM] at hx;subst hx;subst hk;exact run_equalIn_int w d _ _ _ _ _ (h1 _ rfl)
   · cases hx
 · rename_i a1 b1
   have hu':u=.string a1:=hu
   have hv':v=.string b1:=hv
   subst hu';subst hv'
   simp only[aM] at hx;subst hx;exact (run_equalIn_string w d _ _ _ (h2 rfl)).trans (by rw[CF,CF])
 · rename_i a1 b1
   have hu':u=.bool a1:=hu
   have hv':v=.bool b1:=hv
   subst hu';subst hv'
   simp only[aM] at hx;subst hx;exact run_equalIn_bool' w d _ _ _ (h3 rfl)
 · cases hx
theorem WV (w:World) {d:Nat} {cs ds:List C} {us vs:List Value} (hu:All2 (C.rel (gm E) ro) cs us) (hv:All2 (C.rel (gm E) ro) ds vs):∀{fs:List Field} {l:List (Nat×Sh)} {b:Bool},LO P fs=some l->W7 cs ds l=some b->
 (Op.eqFields (d+1) us.toArray vs.toArray fs).run P w=.ok b w
 |[],l,b,h,hb=>by
  simp only[LO,aM] at h
  subst h
  simp only[W7,aM] at hb
  subst hb
  simp[Op.eqFields]
 |f::fs,l,b,h,hb=>by
  simp only[LO] at h
  split at h
  · rename_i sh l' hsh hag hl'
    split at h
    · rename_i hc
      simp only[aM] at h
      subst h
      simp only[oR,beq_eq_false_iff_ne] at hc
      simp only[W7] at hb
      split at hb
      · rename_i c e hce hde
        split at hb
        · rename_i x y hx hy
          simp only[aM] at hb
          subst hb
          have ih:=WV w (d:=d) hu hv hl' hy
          obtain ⟨u,hu1,hu2⟩:=hu.get hce
          obtain ⟨v,hv1,hv2⟩:=hv.get hde
          have hp1:(part f.type us.toArray f.offset).run P w=.ok u w:=by simp[part,lU hag,hu1]
          have hp2:(part f.type vs.toArray f.offset).run P w=.ok v w:=by simp[part,lU hag,hv1]
          have hq:=UV w (d:=d) hsh hu2 hv2 hx
          simp only[Op.eqFields,ne_eq,hc,not_false_eq_true,if_true,Sem.run_bind,hp1,hp2,hq,Result.andThen_ok]
          cases x
          · simp
          · simp only[Bool.not_true,qQ,if_false,Bool.true_and];exact ih
        · cases hb
      · cases hb
    · cases h
  · cases h
theorem aKZ (hf:FRel N (gm E) ro fr a) {neg:Bool} {t t':TypeId} {x y:Operand} (ho:o.op=.binOp (if neg then .neq else .eql) t x y t') {fs:Array Field} (ht:P.underlying t=some (.struct fs)) (hp':P.stoodInHeld t=false)
 (hg:P.eqGuardType P.depth t=false) {l:List (Nat×Sh)} (hl:LO P fs.toList=some l) (hs:qv fr (hp E) (.eqT neg l (aT x) (aT y))=some s):QOk P o E ro a s:=by
 have h1:=bC hf x;have h2:=bC hf y
 simp only[qv] at hs
 split at hs
 · rename_i cs ds hx hy
   simp only[lX] at hs
   obtain ⟨b,hb,rfl⟩:=hs
   rw[hx] at h1;rw[hy] at h2
   obtain ⟨us,h1',h3⟩:=h1
   obtain ⟨vs,h2',h4⟩:=h2
   refine ⟨_,rfl,fun X w _=>?_⟩
   have hfo:P.fieldsOf t=fs:=by simp[Program.fieldsOf,ht]
   have he:(Op.equalIn 10000 t (.agg us.toArray) (.agg vs.toArray)).run P w=.ok b w:=by
    rw[show (10000:Nat)=9998+1+1 from rfl,run_equalIn_struct w _ t _ _ (by rw[hfo];exact ht) hp',hfo]
    exact WV w h3 h4 hl hb
   cases neg
   · simp only[execOp,ho,h1',h2',qQ,if_false,Sem.run_bind,run_eqGuard_agg w _ _ _ _ _ _ hg,Result.andThen_ok,run_eql_struct,he]
     simp
   · simp only[execOp,ho,h1',h2',if_true,Sem.run_bind,run_eqGuard_agg w _ _ _ _ _ _ hg,Result.andThen_ok,run_neq_struct,he]
     simp
 · cases hs
theorem a20 (hf:FRel N (gm E) ro fr a) (hr0:Rel X0 E ro w0) {t u e:TypeId} {x:Operand} (ho:o.op=.convert t u x) (ht:P.underlying t=some (.slice e)) (he:P.underlying e=some (.int .u8)) (hu:P.underlying u=some .string)
 (hs:qv fr (hp E) (.b2s (aT x))=some s) (hc:qc fr (hp E) (.b2s (aT x))):QOk P o E ro a s:=by
 have h1:=bC hf x
 simp only[qv] at hs
 simp only[qc] at hc
 split at hs
 · rename_i len cap hx
   simp only[aM] at hs
   subst hs
   rw[hx] at h1
   have h1':a.eval x=.slice none len cap:=h1
   refine ⟨_,rfl,fun X w _=>?_⟩
   have hr:(convert t u (.slice none len cap)).run P w=.ok (.string .empty) w:=by
    rw[run_convert_bytes_string w t u e _ _ _ ht he hu];rfl
   simp only[execOp,ho,h1',Sem.run_bind,hr,Result.andThen_ok]
   rfl
 · rename_i n len hx
   rw[hx] at h1 hc
   simp only at hc
   split at hs<;>simp only[aM,reduceCtorEq] at hs
   rename_i xs T sz hH
   subst hs
   simp only[hH] at hc
   obtain ⟨hlen,rfl,hrow⟩:=hc
   obtain ⟨g,hE⟩:=dC hH
   obtain ⟨g',k2,k3,k4,_,k6⟩:=h1
   obtain ⟨_,hl2,_⟩:=hr0.own n g _ hE
   have:g'=g:=by have:=dU hE;rw[k2] at this;exact (dV this)
   subst this
   have h1':=k6 (by omega)
   refine ⟨_,rfl,fun X w hr=>?_⟩
   obtain ⟨_,_,hx1,_,hown,hrel,_⟩:=hr.own n _ _ hE
   let ns:List Int:=xs.map fun r=>C.gi (r[0]?)
   have hflat:g'.vs=ns.map (Value.int .u8):=by
    have e1:xs.flatten=ns.map fun n=>C.vl (.int .u8 n):=by
     have:∀(l:List (List C)),(∀r∈l,r=[.vl (.int .u8 (C.gi (r[0]?)))])->l.flatten=(l.map fun r=>C.gi (r[0]?)).map fun n=>C.vl (.int .u8 n):=by
      intro l
      induction l with
      |nil=>intro _;rfl
      |cons r l ih=>
       intro h
       have hr0:=h r (by simp)
       simp only[fA,gC,ih (fun y hy=>h y (by simp[hy]))]
       conv=>lhs;rw[hr0]
       rfl
     exact this xs hrow
    rw[e1] at hrel
    apply iF
    intro i
    cases hi:g'.vs[i]? with
    |none=>
     rw[zB] at hi
     rw[eq_comm,zB]
     have:=hrel.1;simp at this ⊢;omega
    |some v=>
     obtain ⟨c,hc1,hc2⟩:=hrel.get' hi
     rw[b9] at hc1 ⊢
     cases hn:ns[i]? with
     |none=>simp[hn] at hc1
     |some m=>simp[hn] at hc1;subst hc1;simp only[C.fv] at hc2;simp[hc2]
   have hfold:∀(l:List Int) (b:ByteArray),l.foldl (fun r n=>r.push (UInt8.ofNat n.toNat)) b=mk (bl b++l.map fun n=>UInt8.ofNat n.toNat):=by
    intro l
    induction l with
    |nil=>intro b;simp
    |cons n l ih=>
     intro b
     rw[sI,ih]
     congr 1
     simp[bl]
   have hres:(convert t u (.slice (bX g'.ob 0) len g'.cap)).run P w=.ok (.string (mk (GJ xs))) w:=by
    rw[run_convert_bytes_string w t u e _ _ _ ht he hu]
    cases hob:g'.ob with
    |none=>
     rw[hob] at hown
     rcases hown.2 with ⟨_,h0⟩|⟨g,c',cur,hv,_⟩
     · have:xs=[]:=iB h0
       subst this
       rfl
     · simp[bX] at hv
    |some b=>
     rw[hob] at hown
     have hcell:=World.ownsRow.cells (h:=hown) (g:=b) rfl
     have hload:(loadCells ⟨b,0,none⟩ len).run P w=.ok (ns.map (Value.int .u8)).toArray w:=by
      have:=run_loadCells_list (P:=P) w ⟨b,0,none⟩ (ns.map (Value.int .u8)) (fun j v hv=>hcell j v (by rw[hflat];exact hv))
      rw[cE,cE,hlen] at this
      exact this
     have:=run_bytesToString (P:=P) w ⟨b,0,none⟩ len g'.cap ns hload
     simp only[bX,cQ]
     rw[this,hfold]
     congr 2
     simp only[GJ,ns,bl,fK]
     rfl
   rw[hlen] at *
   simp only[execOp,ho,h1',Sem.run_bind,hres,Result.andThen_ok]
   rfl
 · cases hs
theorem a8E (hf:FRel N (gm E) ro fr a) {t e:TypeId} {x:Operand} {lo hi:Option Operand} (ho:o.op=.slice t x lo hi none) (ht:P.underlying t=some (.slice e)) {sz:Nat} (hz:kC P e=some sz)
 (hs:qv fr (hp E) (.sf sz (aT x) (lo.map aT) (hi.map aT))=some s) (hc:qc fr (hp E) (.sf sz (aT x) (lo.map aT) (hi.map aT))):QOk P o E ro a s:=by
 have h1:=bC hf x
 simp only[qv] at hs
 simp only[qc] at hc
 split at hs<;>first|(simp only[reduceCtorEq] at hs;done)|skip
 rename_i xs he
 split at hs<;>simp only[aM,reduceCtorEq] at hs
 rename_i l h hl hh
 subst hs
 rw[he] at h1 hc
 simp only[hl,hh] at hc
 obtain ⟨⟨c0,c1,c2⟩,c3,c4⟩:=hc
 have h1':FzR ro xs (a.eval x):=h1
 generalize hv:a.eval x=v at h1'
 obtain ⟨_,sz',ob,oa,koa,cap,vs,k1,k2,k3,k4,k5,k6,k7⟩:=h1'
 have hh0:0<=h:=by omega
 have hlen:((xs.take h.toNat).drop l.toNat).length=h.toNat-l.toNat:=by simp;omega
 have hflat:∀(ys:List (List C)),(∀r∈ys,r.length=sz)->∀n,(ys.drop n).flatten=ys.flatten.drop (n*sz):=by
  intro ys
  induction ys with
  |nil=>intro _ n;simp
  |cons r ys ih=>
   intro hr n
   cases n with
   |zero=>simp
   |succ n=>
    have hrl:=hr r (by simp)
    simp only[JP,fA]
    rw[ih (fun y hy=>hr y (by simp[hy])),JT,show List.drop ((n+1)*sz) r=[] from List.drop_eq_nil_iff.2 (by rw[hrl,jU];omega),hrl,jU]
    simp
 have hpre:∀(k:Nat) (c:C),((xs.take h.toNat).drop l.toNat).flatten[k]? = some c->xs.flatten[l.toNat*sz+k]? = some c:=by
  intro k c hk
  rw[hflat _ (fun r hr=>c4 r (UB hr)),vV] at hk
  have:(xs.take h.toNat).flatten <+: xs.flatten:=by
   conv=>rhs;rw[<-List.take_append_drop h.toNat xs]
   rw[zG];exact List.prefix_append _ _
  obtain ⟨r,hr⟩:=this
  rw[<-hr]
  rw[lY (bT.1 hk).1]
  exact hk
 have hrun:∀X w,Rel X E ro w->(execOp a.eval o).run P w=.ok (.value (.slice (if cap=l.toNat then oa else oa.map (·.add (l.toNat*sz))) (h.toNat-l.toNat) (cap-l.toNat))) w:=by
  intro X w _
  rcases ER hf hl with ⟨rfl,rfl⟩|⟨yl,kl,rfl,hyl⟩<;>rcases ER hf hh with ⟨rfl,rfl⟩|⟨yh,kh,rfl,hyh⟩
  · simp[execOp,ho,hv,Instr.sliceAt,Instr.slice,Instr.sliceBounds,underlying,ht,fM hz]
  · have q1:h<=cap:=by omega
    simp[execOp,ho,hv,Instr.sliceAt,Instr.slice,Instr.sliceBounds,Instr.sliceBound,asIntOf,underlying,ht,fM hz,hyh,hh0,q1]
  · have q1:l<=(xs.length:Int):=by omega
    simp[execOp,ho,hv,Instr.sliceAt,Instr.slice,Instr.sliceBounds,Instr.sliceBound,asIntOf,underlying,ht,fM hz,hyl,c0,q1]
  · have q1:h<=cap:=by omega
    have q2:l<=max h 0:=by omega
    simp[execOp,ho,hv,Instr.sliceAt,Instr.slice,Instr.sliceBounds,Instr.sliceBound,asIntOf,underlying,ht,fM hz,hyl,hyh,hh0,q1,q2,c0]
 refine ⟨_,?_,hrun⟩
 show FzR ro _ _
 rw[<-hlen]
 have mem:∀r∈(xs.take h.toNat).drop l.toNat,r∈xs:=fun r hr=>UB (aDE hr)
 by_cases hcl:cap=l.toNat
 · rw[if_pos hcl]
   have hnil:(xs.take h.toNat).drop l.toNat=[]:=iB (by rw[hlen];omega)
   rw[hnil]
   exact .mk [] sz ob oa (fun h=>absurd rfl h) _ (fun _=>undef) (by simp) (by simp) (by simp) (by simp) (by simp) (by simp) (by simp)
 · rw[if_neg hcl]
   have hsz:∀r∈xs,sz'=sz:=fun r hr=>by rw[<-k1 r hr,c4 r hr]
   have hmap:(xs.take h.toNat).drop l.toNat≠[]->oa.map (·.add (l.toNat*sz))=FK (ob.map fun y=>(y.1,y.2+l.toNat*sz)) 0:=fun hne=>by
    rw[koa (fun e=>by subst e;simp at hne)]
    cases ob<;>simp[FK,gG]
   refine .mk _ sz _ _ hmap _ (fun k=>vs (l.toNat*sz+k)) (fun r hr=>c4 r (mem r hr)) (by rw[hlen];omega) (fun hne=>?_) (fun k c hk=>?_) (fun k u hk=>?_) (fun k ys hk=>?_) (fun c hc=>?_)
   · have:xs≠[]:=fun e=>by subst e;simp at hne
     have:=k3 this
     cases ob<;>simp at this ⊢
   · have:=k4 _ c (hpre k c hk)
     have hob:ob.isSome=true:=k3 (fun e=>by subst e;simp at hk)
     cases ob with
     |none=>simp at hob
     |some y=>simpa[sF] using this
   · exact k5 _ u (hpre k _ hk)
   · exact k6 _ ys (hpre k _ hk)
   · obtain ⟨r,hr,hcr⟩:=w8.1 hc
     exact k7 c (w8.2 ⟨r,mem r hr,hcr⟩)
theorem H9 (hr0:Rel X0 E ro w0) {n o:Nat} {v:Value} (h:C.rel (gm E) ro (.pt n o) v) {cs:List C} {T:TypeId} (hH:(hp E)[n]? = some (.cells cs T)) :
 ∃b,v=.pointer (some ⟨b,o,none⟩)/\∀X w,Rel X E ro w->w.shape? b=some (T,cs.length):=by
 obtain ⟨g,b,k1,k2,k3,k4⟩:=h
 obtain ⟨g',hE⟩:=dC hH
 have:g=g':=by have:=dU hE;rw[k1] at this;exact (dV this)
 subst this
 refine ⟨b,k4,fun X w hr=>?_⟩
 obtain ⟨_,b',hb',hh,hrel⟩:=hr.own n g _ hE
 rw[k3] at hb'
 simp only[aM] at hb'
 subst hb'
 simp[World.shape?,hh,hrel.1]
theorem a5T (hf:FRel N (gm E) ro fr a) (hr0:Rel X0 E ro w0) {t u e:TypeId} {x:Operand} (ho:o.op=.convert t u x) (ht:P.underlying t=some (.pointer e)) (hu:P.underlying u=some .unsafePointer) {k:Nat} (hz:kC P e=some (k+1))
 (hs:qv fr (hp E) (.cu (aT x))=some s) (hc:qc fr (hp E) (.cu (aT x))):QOk P o E ro a s:=by
 have h1:=bC hf x
 simp only[qv] at hs
 simp only[qc] at hc
 split at hs<;>simp only[aM,reduceCtorEq] at hs
 rename_i n off he
 subst hs
 rw[he] at h1 hc
 simp only at hc
 split at hc<;>try exact hc.elim
 rename_i cs T hH
 obtain ⟨b,hv,hsh⟩:=H9 hr0 h1 hH
 refine ⟨_,h1,fun X w hr=>?_⟩
 unfold kC at hz
 cases hj:P.info? e with
 |none=>simp[hj] at hz
 |some j=>
  simp[hj] at hz
  have:=Lib.run_to_unsafe (P:=P) (w:=w) (src:=t) (dst:=u) ⟨b,off,none⟩ ht hu hj (by omega) (hsh X w hr) hc
  simp only[execOp,ho,hv]
  simp[this]
theorem a1H (hf:FRel N (gm E) ro fr a) (hr0:Rel X0 E ro w0) {t u e:TypeId} {x:Operand} (ho:o.op=.convert t u x) (ht:P.underlying t=some .unsafePointer) (hu:P.underlying u=some (.pointer e)) {k:Nat} (hz:kC P e=some k)
 (hl:liesAt P P.depth e (k / P.cellsOf e) 0 e 1=true) (hs:qv fr (hp E) (.c4u e k (aT x))=some s) (hc:qc fr (hp E) (.c4u e k (aT x))):QOk P o E ro a s:=by
 have h1:=bC hf x
 simp only[qv] at hs
 simp only[qc] at hc
 split at hs<;>simp only[aM,reduceCtorEq] at hs
 rename_i n off he
 subst hs
 rw[he] at h1 hc
 simp only at hc
 split at hc<;>try exact hc.elim
 rename_i cs T hH
 obtain ⟨rfl,rfl,rfl⟩:=hc
 obtain ⟨b,hv,hsh⟩:=H9 hr0 h1 hH
 refine ⟨_,h1,fun X w hr=>?_⟩
 unfold kC at hz
 cases hj:P.info? T with
 |none=>simp[hj] at hz
 |some j=>
  have:=Lib.run_from_unsafe (P:=P) (w:=w) (src:=t) (dst:=u) ⟨b,0,none⟩ ht hu hj (hsh X w hr) hl
  simp only[execOp,ho,hv]
  simp[this]
theorem a0X (hf:FRel N (gm E) ro fr a) (hr0:Rel X0 E ro w0) {t e:TypeId} {x:Operand} (ho:o.op=.call { callee:=.builtin .unsafeSliceData,args:=#[x],argTypes:=#[t] })
 (ht:P.underlying t=some (.slice e)) (hs:qv fr (hp E) (.usd (aT x))=some s) (hc:qc fr (hp E) (.usd (aT x))):QOk P o E ro a s:=by
 have h1:=bC hf x
 simp only[qv] at hs
 simp only[qc] at hc
 split at hs<;>simp only[aM,reduceCtorEq] at hs
 rename_i n len he
 subst hs
 rw[he] at h1 hc
 simp only at hc
 split at hc<;>try exact hc.elim
 rename_i xs T sz hH
 obtain ⟨g',hE⟩:=dC hH
 obtain ⟨_,hl,_,_,_,_,hpos⟩:=hr0.own n g' _ hE
 obtain ⟨g,h2,h3,h4,_,h6⟩:=h1
 have:g'=g:=by have:=dU hE;rw[h2] at this;exact (dV this).symm
 subst this
 have hv:=h6 (by omega)
 refine ⟨.pointer (bX g'.ob 0),⟨g',h2,h3,h4,⟨_,rfl⟩,fun _=>rfl⟩,fun X w _=>?_⟩
 cases hob:g'.ob with
 |none=>
  rw[hob] at hv
  have hr:∀ty l c,(Builtin.unsafeSliceData_ #[t] ty #[.slice none l c]).run P w=.ok (.pointer none) w:=fun _ _ _=>rfl
  simp[execOp,ho,hv,resolve,invoke,builtin,hr,bX]
 |some b=>
  rw[hob] at hv
  have:=hpos b hob
  have hne:g'.cap≠0:=by omega
  have hr:∀ty l c,c≠0->(Builtin.unsafeSliceData_ #[t] ty #[.slice (some ⟨b,0,none⟩) l c]).run P w=.ok (.pointer (some ⟨b,0,none⟩)) w:=fun ty l c h=>by
   have:Builtin.unsafeSliceData_ #[t] ty #[.slice (some ⟨b,0,none⟩) l c]=(if c≠0 then pure (.pointer (some ⟨b,0,none⟩)) else _):=rfl
   rw[this,if_pos h];rfl
  simp[execOp,ho,hv,resolve,invoke,builtin,hr _ _ _ hne,bX]
theorem N6:Extern.allGenericRows.lookup "internal/abi.NoEscape" = none:=by kernel_rfl
theorem ne2:Extern.allTypedRows.lookup "internal/abi.NoEscape" = none:=by kernel_rfl
theorem ne3:Extern.allRows.lookup "internal/abi.NoEscape" = some Extern.AbiNoEscape.same:=by kernel_rfl
theorem ne4:Extern.allNextRows.lookup "internal/abi.NoEscape" = none:=by kernel_rfl
theorem ne5:Extern.allNextRows.lookup "" = none:=by kernel_rfl
theorem a6P (hf:FRel N (gm E) ro fr a) {f:FuncId} {t:TypeId} {x:Operand} (ho:o.op=.call { callee:=.value (.func f),args:=#[x],argTypes:=#[t] }) {fn:Func} (hfn:P.funcs[f]? = some fn)
 (h1:fn.name="internal/abi.NoEscape") (h2:fn.origin="") (h3:fn.body.isNone=true):QOk P o E ro a (ev fr (aT x)):=by
 refine ⟨a.eval x,bC hf x,fun X w _=>?_⟩
 have:=run_callFunc_extern (P:=P) (f:=f) (e:=Extern.AbiNoEscape.same) hfn (by rw[h1];decide) h3 (by simp[Extern.findNext,h1,h2,ne4,ne5]) (by simp[Extern.find,h1,N6,ne2,ne3]) #[a.eval x] w
 simp only[execOp,ho,resolve]
 simp[Act.eval,Deferred.ofValue,invoke] at this ⊢
 rw[this]
 rfl
theorem HA {N:Nat} {γ:List Gb} {ro:RO} {fr:Fr} {a:Act} (hf:FRel N γ ro fr a):∀{xs:List Operand} {l:List (Bool×List C)},xB fr (xs.map aT)=some l->All2 (CU γ ro) l (xs.map a.eval)
 |[],l,h=>by simp only[T0,xB,aM] at h;subst h;exact .nil
 |x::xs,l,h=>by
  have h1:=bC hf x
  simp only[gC,xB] at h
  split at h
  · rename_i c l' hx hl
    split at h
    · cases h
    · rename_i hc
      simp only[aM] at h
      subst h
      rw[hx] at h1
      exact .cons (C.rel_to0 (by simpa using hc) h1) (HA hf hl)
  · rename_i cs l' hx hl
    split at h
    · cases h
    · rename_i hc
      simp only[aM] at h
      subst h
      rw[hx] at h1
      obtain ⟨vs,h2,h3⟩:=h1
      refine .cons ⟨vs,h2,h3.1,fun i c v hc1 hv=>C.rel_to0 ?_ (h3.2 i c v hc1 hv)⟩ (HA hf hl)
      have:=hc
      simp only[List.any_eq_true,not_exists,not_and,Bool.not_eq_true] at this
      exact this c (cC hc1)
  · cases h
theorem a9U {P:Program} {N:Nat} {ro:RO} {fr:Fr} {a:Act} {E:Es} {o:Oper} (hf:FRel N (gm E) ro fr a) {f:FuncId} {first cs:Array Operand} (ho:o.op=.makeFunc (.func f) first cs) (hfe:first=#[]) {l:List (Bool×List C)} (hl:xB fr (cs.toList.map aT)=some l):QOk P o E ro a (.va (.c1 (.fn f l))):=by
 refine ⟨.func (.func f) #[] (cs.map a.eval),⟨cs.toList.map a.eval,by rw[<-DF,eL],HA hf hl⟩,fun X w hr=>?_⟩
 subst hfe
 simp[execOp,ho,Instr.makeFunc]
theorem N7 {N:Nat} {γ:List Gb} {ro:RO} {fr:Fr} {a:Act} (hf:FRel N γ ro fr a):∀{xs:List Operand} {l:List (List C)},rX fr (xs.map aT)=some l->All2 (fun cs v=>∃us:List Value,v=.agg us.toArray/\All2 (C.fv ro) cs us) l (xs.map a.eval)
 |[],l,h=>by simp only[T0,rX,aM] at h;subst h;exact .nil
 |x::xs,l,h=>by
  have h1:=bC hf x
  simp only[gC,rX] at h
  split at h
  · rename_i cs l' hx hl
    split at h
    · rename_i hc
      simp only[aM] at h
      subst h
      rw[hx] at h1
      obtain ⟨us,h2,h3⟩:=h1
      exact .cons ⟨us,h2,h3.1,fun i c v hc1 hv=>(C.rel_shut (List.all_eq_true.1 hc c (cC hc1))).1 (h3.2 i c v hc1 hv)⟩ (N7 hf hl)
    · cases h
  · cases h
theorem a6M {P:Program} {N:Nat} {ro:RO} {fr:Fr} {a:Act} {E:Es} {o:Oper} (hf:FRel N (gm E) ro fr a) {f:FuncId} {first cs:Array Operand} (ho:o.op=.makeFunc (.func f) first cs) (hfe:cs=#[]) {l:List (List C)} (hl:rX fr (first.toList.map aT)=some l):QOk P o E ro a (.va (.c1 (.fm f l))):=by
 refine ⟨.func (.func f) (first.map a.eval) #[],⟨first.toList.map a.eval,by rw[<-DF,eL],N7 hf hl⟩,fun X w hr=>?_⟩
 subst hfe
 simp[execOp,ho,Instr.makeFunc]
theorem VC (hf:FRel N (gm E) ro fr a) (hr0:Rel X0 E ro w0) {i:QI} (hi:RP P nw o.op=some i) (hs:qv fr (hp E) i=some s) (hc:qc fr (hp E) i):QOk P o E ro a s:=by
 cases ho:o.op<;>rw[ho] at hi<;>simp only[RP,reduceCtorEq,aM] at hi
 case move x=>subst hi;simp only[qv,aM] at hs;subst hs;exact aX3 hf (.inl ho)
 case assign x=>subst hi;simp only[qv,aM] at hs;subst hs;exact aX3 hf (.inr ho)
 case binOp op t x y t'=>
  split at hi
  · simp only[aM] at hi;subst hi;exact aMV hf ho hs hc
  · simp only[aM] at hi;subst hi;exact aMV hf ho hs hc
  · rename_i ht
    split at hi<;>simp only[aM,reduceCtorEq] at hi<;>subst hi<;>simp only[qv] at hs<;>split at hs<;>simp only[aM,reduceCtorEq] at hs<;>subst hs
    · rename_i hx hy;exact aIH (neg:=false) hf ho ht hx hy
    · rename_i hx hy;exact aIH (neg:=true) hf ho ht hx hy
  · rename_i e ht
    split at hi
    · cases hi
    · rename_i hinf
      have hinf:(P.info? e).isNone=false:=by cases hj:P.info? e<;>simp_all
      split at hi<;>simp only[aM,reduceCtorEq] at hi<;>subst hi
      · exact aM5 (neg:=false) hf ho ht hinf hs
      · exact aM5 (neg:=true) hf ho ht hinf hs
  · rename_i fs ht
    split at hi
    · rename_i hcc
      simp only[bI,oR] at hcc
      split at hi<;>simp only[aM,reduceCtorEq] at hi<;>rename_i hl<;>subst hi
      · exact aKZ (neg:=false) hf ho ht hcc.1 hcc.2 hl hs
      · exact aKZ (neg:=true) hf ho ht hcc.1 hcc.2 hl hs
    · cases hi
  · cases hi
 case unOp op t x=>
  cases op<;>simp only[aM,reduceCtorEq] at hi<;>subst hi
  · simp only[qv] at hs;simp only[qc] at hc
    split at hs
    · rename_i k m hx;rw[hx] at hc;simp only[G0,aM] at hs;subst hs;exact a0U hf ho hx hc
    · cases hs
  · simp only[qv] at hs
    split at hs<;>simp only[aM,reduceCtorEq] at hs
    rename_i b hx;subst hs;exact aY2 hf ho hx
 case convert t u x=>
  split at hi
  · rename_i ht hu
    simp only[aM] at hi
    subst hi
    simp only[qv] at hs
    split at hs<;>simp only[aM,reduceCtorEq] at hs
    rename_i k m hx;subst hs;exact a13 hf ho ht hu hx
  · rename_i e ht hu
    split at hi<;>simp only[aM,reduceCtorEq] at hi
    rename_i k hz;subst hi;exact a5T hf hr0 ho ht hu hz hs hc
  · rename_i e ht hu
    split at hi
    · rename_i k hz
      split at hi<;>simp only[aM,reduceCtorEq] at hi
      rename_i hl;subst hi;exact a1H hf hr0 ho ht hu hz hl hs hc
    · cases hi
  · rename_i e ht hu
    split at hi<;>simp only[aM,reduceCtorEq] at hi
    rename_i he;subst hi;exact a20 hf hr0 ho ht he hu hs hc
  · cases hi
 case fieldAddr t x f=>
  split at hi
  · rename_i fs ht
    split at hi
    · rename_i fd hfd
      split at hi<;>simp only[aM,reduceCtorEq] at hi
      rename_i k hk;subst hi;exact a94 hf hr0 ho ht hfd hk hs hc
    · cases hi
  · cases hi
 case field t x f=>
  split at hi
  · rename_i fs ht
    split at hi
    · rename_i fd hfd
      split at hi<;>simp only[aM,reduceCtorEq] at hi
      · rename_i n hk hz;subst hi;exact aSI hf ho ht hfd hk hz hs
      · rename_i hk hz;subst hi;exact aTP hf ho ht hfd hk hs
    · cases hi
  · cases hi
 case extract x j=>
  subst hi
  simp only[qv] at hs
  split at hs
  · rename_i l hx;simp only[lX] at hs;obtain ⟨y,hy,rfl⟩:=hs;exact a7J hf ho hx hy
  · cases hs
 case makeFunc fn first cs=>
  split at hi
  · rename_i f
    split at hi
    · rename_i hfe
      simp only[aM] at hi
      subst hi
      simp only[qv,lX] at hs
      obtain ⟨l,hl,rfl⟩:=hs
      exact a9U hf ho (by simpa using hfe) hl
    · split at hi<;>simp only[aM,reduceCtorEq] at hi
      rename_i hce
      subst hi
      simp only[qv,lX] at hs
      obtain ⟨l,hl,rfl⟩:=hs
      exact a6M hf ho (by simpa using hce) hl
  · cases hi
 case nilCheck x=>subst hi;exact a9O hf hr0 ho hs hc
 case build t parts=>
  split at hi
  · rename_i fs i ht hi'
    split at hi
    · rename_i z pl hz hp
      simp only[lX] at hi
      obtain ⟨l,hl,rfl⟩:=hi
      exact bAR hf ho ht hi' hz hp hl hs hc
    · cases hi
  · rename_i len e i ht hi'
    split at hi
    · rename_i z n hz hn
      simp only[lX] at hi
      obtain ⟨l,hl,rfl⟩:=hi
      exact aZ4 hf ho ht hi' hz hn hl hs hc
    · cases hi
  · cases hi
 case index t x y=>
  split at hi
  · rename_i len e ht
    split at hi<;>simp only[aM,reduceCtorEq] at hi
    rename_i ha hn
    subst hi
    exact a2S hf ho ht ha hn hs hc
  · cases hi
 case slice t x lo hi' mx=>
  split at hi
  · rename_i ht
    simp only[aM] at hi
    subst hi
    exact a7L hf ho ht hs hc
  · rename_i e ht
    split at hi<;>simp only[aM,reduceCtorEq] at hi
    rename_i n hz
    subst hi
    exact a8E hf ho ht hz hs hc
  · cases hi
 case call c=>
  obtain ⟨cl,args,ats⟩:=c
  simp only[WL] at hi
  split at hi
  · rename_i x t ha hat
    obtain rfl:args=#[x]:=by rw[<-eL (xs:=args),ha]
    obtain rfl:ats=#[t]:=by rw[<-eL (xs:=ats),hat]
    split at hi<;>simp only[aM,reduceCtorEq] at hi
    · rename_i ht;subst hi;exact aY5 hf ho ht hs
    · rename_i e ht;subst hi;exact aZL hf hr0 ho ht hs hc
  · rename_i x y t t' ha hat
    obtain rfl:args=#[x,y]:=by rw[<-eL (xs:=args),ha]
    obtain rfl:ats=#[t,t']:=by rw[<-eL (xs:=ats),hat]
    split at hi<;>simp only[aM,reduceCtorEq] at hi
    subst hi;exact aTM (b:=true) hf ho hs
  · rename_i x y t t' ha hat
    obtain rfl:args=#[x,y]:=by rw[<-eL (xs:=args),ha]
    obtain rfl:ats=#[t,t']:=by rw[<-eL (xs:=ats),hat]
    split at hi<;>simp only[aM,reduceCtorEq] at hi
    subst hi;exact aTM (b:=false) hf ho hs
  · rename_i x t ha hat
    obtain rfl:args=#[x]:=by rw[<-eL (xs:=args),ha]
    obtain rfl:ats=#[t]:=by rw[<-eL (xs:=ats),hat]
    split at hi<;>simp only[aM,reduceCtorEq] at hi
    rename_i e ht;subst hi;exact a0X hf hr0 ho ht hs hc
  · rename_i f x t ha hat
    obtain rfl:args=#[x]:=by rw[<-eL (xs:=args),ha]
    obtain rfl:ats=#[t]:=by rw[<-eL (xs:=ats),hat]
    split at hi
    · rename_i fn hfn
      split at hi<;>simp only[aM,reduceCtorEq] at hi
      rename_i hc3
      simp only[bI,beq_iff_eq] at hc3
      subst hi
      simp only[qv,aM] at hs
      subst hs
      exact a6P hf ho hfn hc3.1.1 hc3.1.2 hc3.2
    · cases hi
  · cases hi
theorem U9 (hf:FRel N (gm E) ro fr a) {x y:O} (hi:trX P o.op=some (x,y)) {l:ByteArray} {k:IntKind} {n:Int} (hx:ev fr x=tS l) (hy:ev fr y=iS k n) (hc:0<=n/\n<(bl l).length) :
 ∃c:UInt8,(bl l)[n.toNat]? = some c/\QOk P o E ro a (iS .u8 c.toNat):=by
 unfold trX at hi
 split at hi
 · rename_i t x' i' ho
   split at hi<;>simp only[aM,Prod.mk.injEq,reduceCtorEq] at hi
   rename_i ht
   obtain ⟨rfl,rfl⟩:=hi
   have h1:=bC hf x';have h2:=bC hf i'
   rw[hx] at h1;rw[hy] at h2
   have h1':a.eval x'=.string l:=h1
   have h2':a.eval i'=.int k n:=h2
   have hlt:n.toNat<l.size:=by rw[jA];omega
   have hlt2:n.toNat<(bl l).length:=by omega
   have hg:l[n.toNat]? = some (bl l)[n.toNat]:=by rw[getElem?_pos l n.toNat hlt];rfl
   refine ⟨(bl l)[n.toNat],aX hlt2,_,rfl,fun X w _=>?_⟩
   simp[execOp,ho,h1',h2',Instr.index,asIntOf,underlying,ht,hc.1,hg]
 · cases hi
theorem aUH {xs:List (List C)} {v:Value} (h:FzR ro xs v) {i sz:Nat} {r:List C} (hr:xs[i]? = some r) (hz:r.length=sz) :
 ∃b off cap,v=.slice (some ⟨b,off,none⟩) xs.length cap/\∀k c,r[k]? = some c->∃u,ro b (off+i*sz+k)=some u/\c.fv ro u:=by
 obtain ⟨_,sz',ob,oa,koa,cap,vs,k1,k2,k3,k4,k5,k6,k7⟩:=h
 have hi:i<xs.length:=(bT.1 hr).1
 have hob:=k3 (fun e=>by subst e;simp at hi)
 obtain rfl:=koa (fun e=>by subst e;simp at hi)
 have hmem:=cC hr
 have hs:sz'=sz:=by rw[<-k1 r hmem,hz]
 subst hs
 cases ob with
 |none=>simp at hob
 |some y=>
  refine ⟨y.1,y.2,_,rfl,fun k c hk=>?_⟩
  have hklt:k<sz':=by rw[<-hz];exact (bT.1 hk).1
  have hfl:xs.flatten[i*sz'+k]? = some c:=by rw[vM k1 hi hklt,hr];exact hk
  refine ⟨vs (i*sz'+k),by have:=k4 _ c hfl;simpa[sF] using this,?_⟩
  have hsh:=k7 c (cC hfl)
  cases c with
  |vl u=>exact k5 _ u hfl
  |fz ys=>exact k6 _ ys hfl
  |_=>simp[C.shut] at hsh
theorem a6I (hf:FRel N (gm E) ro fr a) (hr0:Rel X0 E ro w0) {t e:TypeId} {x i:Operand} {n:Nat} (ho:o.op=.indexAddr t x i) (ht:P.underlying t=some (.slice e)) (hz:kC P e=some n) {K:S->Prop}
 (hv:vL fr (hp E) (.ia n (aT x) (aT i)) K):∃s,K s/\QOk P o E ro a s:=by
 have h1:=bC hf x;have h2:=bC hf i
 simp only[vL] at hv
 split at hv
 · rename_i nm len k m hex hei
   rw[hex] at h1;rw[hei] at h2
   obtain ⟨⟨⟨c0,c1⟩,c2⟩,hK⟩:=hv
   refine ⟨_,hK,?_⟩
   have h2':a.eval i=.int k m:=h2
   obtain ⟨g,h3,h4,h5,h6,h7⟩:=h1
   unfold nG at c2
   split at c2
   · rename_i xs T sz' hH
     obtain ⟨hl,rfl⟩:=c2
     obtain ⟨g',hE⟩:=dC hH
     obtain ⟨_,hl2,_,_,hown,_⟩:=hr0.own nm g' _ hE
     have:g=g':=by have:=dU hE;rw[h3] at this;exact (dV this)
     subst this
     have h1':=h7 (by omega)
     rcases hown.2 with ⟨_,h0⟩|⟨b,cap'',cur,hv',_⟩
     · omega
     · have hob:g.ob=some b:=by
        cases hg:g.ob with
        |none=>rw[hg] at hv';simp[bX] at hv'
        |some b'=>rw[hg] at hv';simp[bX] at hv';simp[hv'.1]
       rw[hob] at h1'
       refine ⟨.pointer (some ⟨b,m.toNat*sz'+0,none⟩),⟨g,h3,h4,h5,⟨_,rfl⟩,fun _=>⟨b,hob,rfl⟩⟩,fun X w _=>?_⟩
       simp[execOp,ho,h1',h2',Instr.indexAt,asIntOf,underlying,ht,c0,c1,fM hz,bX,gG]
   · rename_i xs T sz' hH
     obtain ⟨hl,rfl⟩:=c2
     obtain ⟨g',hE⟩:=dC hH
     obtain ⟨_,hl2,_,hown,_⟩:=hr0.own nm g' _ hE
     have:g=g':=by have:=dU hE;rw[h3] at this;exact (dV this)
     subst this
     have h1':=h7 (by omega)
     rcases hown.2 with ⟨_,h0⟩|⟨b,cap'',cur,hv',_⟩
     · omega
     · have hob:g.ob=some b:=by
        cases hg:g.ob with
        |none=>rw[hg] at hv';simp[bX] at hv'
        |some b'=>rw[hg] at hv';simp[bX] at hv';simp[hv'.1]
       rw[hob] at h1'
       refine ⟨.pointer (some ⟨b,m.toNat*sz'+0,none⟩),⟨g,h3,h4,h5,⟨_,rfl⟩,fun _=>⟨b,hob,rfl⟩⟩,fun X w _=>?_⟩
       simp[execOp,ho,h1',h2',Instr.indexAt,asIntOf,underlying,ht,c0,c1,fM hz,bX,gG]
   · exact c2.elim
 · rename_i xs k m hex hei
   rw[hex] at h1;rw[hei] at h2
   obtain ⟨⟨⟨c0,c1⟩,c2⟩,hK⟩:=hv
   have h2':a.eval i=.int k m:=h2
   have h1':FzR ro xs (a.eval x):=h1
   have hlt:m.toNat<xs.length:=by omega
   have hr:=aX hlt
   refine ⟨_,hK _ hr,?_⟩
   obtain ⟨b,off,cap,h3,h4⟩:=aUH h1' hr (c2 _ hr)
   refine ⟨.pointer (some ⟨b,off+m.toNat*n+0,none⟩),⟨b,off+m.toNat*n,rfl,h4⟩,fun X w _=>?_⟩
   simp[execOp,ho,h3,h2',Instr.indexAt,asIntOf,underlying,ht,c0,c1,fM hz,gG]
 · exact hv.elim
theorem NZ (hr0:Rel X0 E ro w0) {n len sz i j b:Nat} {g:Gb} {xs:List (List C)} {T:TypeId} (hE:E[n]? = some (g,.row xs T sz)) (hb:g.ob=some b) {r:List C} (hr:xs[i]? = some r) :
 ∀k c,r[k]? = some c->∃u,c.rel (gm E) ro u/\g.vs[i*sz+k]? = some u/\∀X w,Rel X E ro w->w.cell? ⟨b,i*sz+k,none⟩=some u:=by
 intro k c hk
 obtain ⟨_,hl2,hx1,hsh,hown,hrel,_⟩:=hr0.own n g _ hE
 have hi:i<xs.length:=(bT.1 hr).1
 have hkl:k<sz:=by rw[<-hx1 r (cC hr)];exact (bT.1 hk).1
 have hfl:xs.flatten[i*sz+k]? = some c:=by rw[vM hx1 hi hkl,hr];exact hk
 obtain ⟨u,hu1,hu2⟩:=hrel.get hfl
 refine ⟨u,(C.rel_shut (hsh c (cC hfl))).2 hu2,hu1,fun X w hr=>?_⟩
 obtain ⟨_,_,_,_,hown',_,_⟩:=hr.own n g _ hE
 rw[hb] at hown'
 have:=World.ownsRow.cells (h:=hown') (g:=b) rfl (i*sz+k) u hu1
 rwa [gG,gJ] at this
theorem IS (hr0:Rel X0 E ro w0) {n sz i b:Nat} {g:Gb} {xs:List (List C)} {T:TypeId} (hE:E[n]? = some (g,.rowx xs T sz)) (hb:g.ob=some b) {r:List C} (hr:xs[i]? = some r) :
 ∀k c,r[k]? = some c->∃u,c.rel (gm E) ro u/\g.vs[i*sz+k]? = some u/\∀X w,Rel X E ro w->w.cell? ⟨b,i*sz+k,none⟩=some u:=by
 intro k c hk
 obtain ⟨_,hl2,hx1,hown,hrel,_⟩:=hr0.own n g _ hE
 have hi:i<xs.length:=(bT.1 hr).1
 have hkl:k<sz:=by rw[<-hx1 r (cC hr)];exact (bT.1 hk).1
 have hfl:xs.flatten[i*sz+k]? = some c:=by rw[vM hx1 hi hkl,hr];exact hk
 obtain ⟨u,hu1,hu2⟩:=hrel.get hfl
 refine ⟨u,hu2,hu1,fun X w hr=>?_⟩
 obtain ⟨_,_,_,hown',_,_⟩:=hr.own n g _ hE
 rw[hb] at hown'
 have:=World.ownsRow.cells (h:=hown') (g:=b) rfl (i*sz+k) u hu1
 rwa [gG,gJ] at this
theorem aZO (hf:FRel N (gm E) ro fr a) (hr0:Rel X0 E ro w0) {t:TypeId} {x:Operand} (ho:o.op=.load t x) (ht:qW P t=some false) {K:S->Prop} (hv:vL fr (hp E) (.ld1 (aT x)) K):∃s,K s/\QOk P o E ro a s:=by
 have h1:=bC hf x
 have key:∀{b q:Nat} {u:Value} {c:C},a.eval x=.pointer (some ⟨b,q,none⟩)->c.rel (gm E) ro u->(∀X w,Rel X E ro w->w.cell? ⟨b,q,none⟩=some u)->QOk P o E ro a (.va (.c1 c)):=fun {b q u c} h hc hw=>by
  refine ⟨u,hc,fun X w hr=>?_⟩
  simp[execOp,ho,h,Instr.loadAt,Instr.sureAddr,loadVar,lU ht,hw X w hr]
 simp only[vL] at hv
 split at hv
 · rename_i n off hex
   rw[hex] at h1
   split at hv<;>try exact hv.elim
   rename_i cs T hH
   split at hv<;>try exact hv.elim
   rename_i c hc
   refine ⟨_,hv,?_⟩
   obtain ⟨g,hE⟩:=dC hH
   obtain ⟨_,b,hb,hh,hrel⟩:=hr0.own n g _ hE
   obtain ⟨g',b',k1,k2,k3,k4⟩:=h1
   have:g'=g:=by have:=dU hE;rw[k1] at this;exact (dV this)
   subst this
   rw[hb] at k3
   simp only[aM] at k3
   subst k3
   obtain ⟨u,hu1,hu2⟩:=hrel.get hc
   refine key k4 hu2 fun X w hr=>?_
   obtain ⟨_,b2,hb2,hh2,_⟩:=hr.own n g' _ hE
   rw[hb] at hb2
   simp only[aM] at hb2
   subst hb2
   simp[World.cell?,hh2,hu1]
 · rename_i n len sz i j hex
   rw[hex] at h1
   split at hv<;>try exact hv.elim
   · rename_i xs T sz' hH
     obtain ⟨⟨c0,rfl,c2⟩,hK⟩:=hv
     obtain ⟨g,b,blk,hE,hb,hv'⟩:=sM hr0 h1 (by unfold nG;rw[hH];exact ⟨c0,rfl⟩)
     have hH2:=y4 hE
     rw[hH] at hH2
     simp only[aM] at hH2
     subst hH2
     have hr:=aX c2
     have hK:=hK _ hr
     split at hK<;>try exact hK.elim
     rename_i c hc
     refine ⟨_,hK,?_⟩
     obtain ⟨u,hu1,hu2,hu3⟩:=NZ (len:=len) (j:=j) hr0 hE hb hr j c hc
     exact key hv' hu1 hu3
   · rename_i xs T sz' hH
     obtain ⟨⟨c0,rfl,c2⟩,hK⟩:=hv
     obtain ⟨g,b,blk,hE,hb,hv'⟩:=sM hr0 h1 (by unfold nG;rw[hH];exact ⟨c0,rfl⟩)
     have hH2:=y4 hE
     rw[hH] at hH2
     simp only[aM] at hH2
     subst hH2
     have hr:=aX c2
     have hK:=hK _ hr
     split at hK<;>try exact hK.elim
     rename_i c hc
     refine ⟨_,hK,?_⟩
     obtain ⟨u,hu1,hu2,hu3⟩:=IS hr0 hE hb hr j c hc
     exact key hv' hu1 hu3
 · rename_i r j hex
   rw[hex] at h1
   split at hv<;>try exact hv.elim
   rename_i c hc
   refine ⟨_,hv,?_⟩
   obtain ⟨b,off,k1,k2⟩:=h1
   obtain ⟨u,hu1,hu2⟩:=k2 j c hc
   have hsh:c.shut=true:=by cases c<;>first|rfl|exact hu2.elim
   exact key k1 ((C.rel_shut hsh).2 hu2) fun X w hr=>hr.rd _ _ _ hu1
 · exact hv.elim
theorem a09 (hf:FRel N (gm E) ro fr a) (hr0:Rel X0 E ro w0) {t:TypeId} {x:Operand} (ho:o.op=.load t x) (ht:qW P t=some true) {n:Nat} (hz:kC P t=some n) {K:S->Prop} (hv:vL fr (hp E) (.ldn n (aT x)) K):∃s,K s/\QOk P o E ro a s:=by
 have h1:=bC hf x
 have key:∀{b q:Nat} {cs:List C},cs.length=n->a.eval x=.pointer (some ⟨b,q,none⟩)->(∀k c,cs[k]? = some c->∃u,c.rel (gm E) ro u/\∀X w,Rel X E ro w->w.cell? ⟨b,q+k,none⟩=some u)->QOk P o E ro a (.va (.gs cs)):=fun {b q cs} hl h hc=>by
  have:∃us:List Value,us.length=n/\∀k c u,cs[k]? = some c->us[k]? = some u->c.rel (gm E) ro u/\∀X w,Rel X E ro w->w.cell? ⟨b,q+k,none⟩=some u:=by
   subst hl
   clear h ho ht hz hv h1
   induction cs generalizing q with
   |nil=>exact ⟨[],rfl,fun k c u h=>by simp at h⟩
   |cons c cs ih=>
    obtain ⟨u,hu1,hu2⟩:=hc 0 c rfl
    obtain ⟨us,hus,hus2⟩:=ih (q:=q+1) (fun k c' hk=>by
     obtain ⟨u',h1,h2⟩:=hc (k+1) c' (by simpa using hk)
     exact ⟨u',h1,fun X w hr=>by have:=h2 X w hr;rwa [show q+(k+1)=q+1+k by omega] at this⟩)
    refine ⟨u::us,by simp[hus],fun k c' u' h1 h2=>?_⟩
    cases k with
    |zero=>simp at h1 h2;subst h1;subst h2;exact ⟨hu1,hu2⟩
    |succ k=>
     obtain ⟨q1,q2⟩:=hus2 k c' u' (by simpa using h1) (by simpa using h2)
     exact ⟨q1,fun X w hr=>by have:=q2 X w hr;rwa [show q+1+k=q+(k+1) by omega] at this⟩
  obtain ⟨us,hus,hus2⟩:=this
  refine ⟨.agg us.toArray,⟨us,rfl,by omega,fun k c u h1 h2=>(hus2 k c u h1 h2).1⟩,fun X w hr=>?_⟩
  have hload:(loadCells ⟨b,q,none⟩ n).run P w=.ok us.toArray w:=by
   have:=run_loadCells_list (P:=P) w ⟨b,q,none⟩ us (fun j v hv=>by
    have hj:j<cs.length:=by rw[hl,<-hus];exact (bT.1 hv).1
    rw[gG]
    exact (hus2 j _ v (aX hj) hv).2 X w hr)
   rwa [hus] at this
  simp[execOp,ho,h,Instr.loadAt,Instr.sureAddr,loadVar,lU ht,fM hz,hload]
 have sub:∀{cs:List C} {off:Nat},off+n<=cs.length->((cs.drop off).take n).length=n/\∀k c,((cs.drop off).take n)[k]? = some c->cs[off+k]? = some c:=fun {cs off} hle=>by
  refine ⟨by simp;omega,fun k c hk=>?_⟩
  rw[gW] at hk
  split at hk
  · rwa [vV] at hk
  · cases hk
 simp only[vL] at hv
 split at hv
 · rename_i m off hex
   rw[hex] at h1
   split at hv<;>try exact hv.elim
   rename_i cs T hH
   obtain ⟨hle,hK⟩:=hv
   refine ⟨_,hK,?_⟩
   obtain ⟨g,hE⟩:=dC hH
   obtain ⟨_,b,hb,hh,hrel⟩:=hr0.own m g _ hE
   obtain ⟨g',b',k1,k2,k3,k4⟩:=h1
   have:g'=g:=by have:=dU hE;rw[k1] at this;exact (dV this)
   subst this
   rw[hb] at k3
   simp only[aM] at k3
   subst k3
   obtain ⟨s1,s2⟩:=sub hle
   refine key s1 k4 fun k c hk=>?_
   obtain ⟨u,hu1,hu2⟩:=hrel.get (s2 k c hk)
   refine ⟨u,hu2,fun X w hr=>?_⟩
   obtain ⟨_,b2,hb2,hh2,_⟩:=hr.own m g' _ hE
   rw[hb] at hb2
   simp only[aM] at hb2
   subst hb2
   simp[World.cell?,hh2,hu1]
 · rename_i m len sz i j hex
   rw[hex] at h1
   split at hv<;>try exact hv.elim
   · rename_i xs T sz' hH
     obtain ⟨⟨c0,rfl,c2⟩,hK⟩:=hv
     obtain ⟨g,b,blk,hE,hb,hv'⟩:=sM hr0 h1 (by unfold nG;rw[hH];exact ⟨c0,rfl⟩)
     have hH2:=y4 hE
     rw[hH] at hH2
     simp only[aM] at hH2
     subst hH2
     have hr:=aX c2
     obtain ⟨hle,hK⟩:=hK _ hr
     refine ⟨_,hK,?_⟩
     obtain ⟨s1,s2⟩:=sub hle
     refine key s1 hv' fun k c hk=>?_
     obtain ⟨u,hu1,hu2,hu3⟩:=NZ (len:=len) (j:=j) hr0 hE hb hr (j+k) c (s2 k c hk)
     exact ⟨u,hu1,fun X w hr=>by have:=hu3 X w hr;rwa [<-sF] at this⟩
   · rename_i xs T sz' hH
     obtain ⟨⟨c0,rfl,c2⟩,hK⟩:=hv
     obtain ⟨g,b,blk,hE,hb,hv'⟩:=sM hr0 h1 (by unfold nG;rw[hH];exact ⟨c0,rfl⟩)
     have hH2:=y4 hE
     rw[hH] at hH2
     simp only[aM] at hH2
     subst hH2
     have hr:=aX c2
     obtain ⟨hle,hK⟩:=hK _ hr
     refine ⟨_,hK,?_⟩
     obtain ⟨s1,s2⟩:=sub hle
     refine key s1 hv' fun k c hk=>?_
     obtain ⟨u,hu1,hu2,hu3⟩:=IS hr0 hE hb hr (j+k) c (s2 k c hk)
     exact ⟨u,hu1,fun X w hr=>by have:=hu3 X w hr;rwa [<-sF] at this⟩
 · rename_i r j hex
   rw[hex] at h1
   obtain ⟨hle,hK⟩:=hv
   refine ⟨_,hK,?_⟩
   obtain ⟨b,off,k1,k2⟩:=h1
   obtain ⟨s1,s2⟩:=sub hle
   refine key s1 k1 fun k c hk=>?_
   obtain ⟨u,hu1,hu2⟩:=k2 (j+k) c (s2 k c hk)
   have hsh:c.shut=true:=by cases c<;>first|rfl|exact hu2.elim
   exact ⟨u,(C.rel_shut hsh).2 hu2,fun X w hr=>by have:=hr.rd _ _ _ hu1;rwa [<-sF] at this⟩
 · exact hv.elim
theorem M5 {d:TypeDesc} {a b:Value} (ha:MapKept.IsKey d a) (hb:MapKept.IsKey d b):IH a b=true ↔ a=b:=by
 cases d<;>cases a<;>cases b<;>simp_all[MapKept.IsKey,IH]
 rename_i x y
 constructor
 · intro h;rw[<-qC x,<-qC y,h]
 · intro h;rw[h]
theorem sT {d:TypeDesc} {q:Value} (hq:MapKept.IsKey d q):∀(es:List MapEntry),(∀x∈es,MapKept.IsKey d x.key)->∀i,(mG (es.map (·.key)) q=none/\Instr.findNow d q es i=some none)\/
 ∃j e,mG (es.map (·.key)) q=some j/\es[j]? = some e/\e.key=q/\Instr.findNow d q es i=some (some (i+j,e.val))
 |[],_,_=>.inl ⟨rfl,rfl⟩
 |x::es,h,i=>by
  obtain ⟨r,hr,hiff⟩:=MapKept.sameNow_of_keys hq (h x (.head _))
  have hke:=M5 hq (h x (.head _))
  simp only[gC,mG]
  cases hk:IH q x.key with
  |true=>
   have e1:=hke.1 hk
   have:r=true:=hiff.2 e1
   subst this
   exact .inr ⟨0,x,rfl,rfl,e1.symm,by simp[Instr.findNow,hr]⟩
  |false=>
   have:r=false:=by
    cases r with
    |false=>rfl
    |true=>rw[hke.2 (hiff.1 rfl)] at hk;cases hk
   subst this
   rcases sT hq es (fun y hy=>h y (.tail _ hy)) (i+1) with ⟨h1,h2⟩|⟨j,e,h1,h2,h3,h4⟩
   · exact .inl ⟨by simp[h1],by simp[Instr.findNow,hr,h2]⟩
   · refine .inr ⟨j+1,e,by simp[h1],by simpa using h2,h3,?_⟩
     simp only[Instr.findNow,hr,h4]
     rw[show i+1+j=i+(j+1) by omega]
theorem QR {X:Ctx} {w:World} (hr:Rel X E ro w) {n:Nat} {v:Value} (h1:(C.mp n).rel (gm E) ro v) {kd:TypeDesc} {ks:List Value} {vs:List A} (hH:(hp E)[n]? = some (.map kd ks vs)) :
 ∃g b,E[n]? = some (g,.map kd ks vs)/\g.ob=some b/\v=.map (some b)/\(∀k∈ks,MapKept.IsKey kd k)/\All2 (A.rel (gm E) ro) vs g.vs:=by
 obtain ⟨g,hE⟩:=dC hH
 obtain ⟨_,hk,hv,b,es,clock,hb,hh,_,_⟩:=hr.own n g _ hE
 obtain ⟨g',b',k1,k2,k3,k4⟩:=h1
 have:g'=g:=by have:=dU hE;rw[k1] at this;exact (dV this)
 subst this
 rw[hb] at k3
 simp only[aM] at k3
 subst k3
 exact ⟨g',b,hE,hb,k4,hk,hv⟩
theorem a8W (hf:FRel N (gm E) ro fr a) (hr0:Rel X0 E ro w0) {t kt et:TypeId} {x y:Operand} {ok:Bool} {kd:TypeDesc} {z:Value} {inf:TypeInfo} (ho:o.op=.lookup t x y ok) (ht:P.underlying t=some (.map kt et)) (hkt:P.underlying kt=some kd) (hinf:P.info? et=some inf) (hz:inf.zero=some z)
 {K:S->Prop} (hv:vL fr (hp E) (.lk kd z ok (aT x) (aT y)) K):∃s,K s/\QOk P o E ro a s:=by
 have h1:=bC hf x;have h2:=bC hf y
 simp only[vL] at hv
 split at hv<;>try exact hv.elim
 rename_i n q hx hy
 rw[hx] at h1;rw[hy] at h2
 have h2':a.eval y=q:=h2
 split at hv<;>try exact hv.elim
 rename_i kd' ks vs hH
 obtain ⟨⟨rfl,hq⟩,hK⟩:=hv
 obtain ⟨g,b,hE,hb,hxv,hks,hvs⟩:=QR hr0 h1 hH
 have hzv:∀w,(zeroValue et).run P w=.ok z w:=fun w=>by simp[zeroValue,typeInfo,hinf,hz]
 have key:∀X w,Rel X E ro w->∃es clock,w.heap[b]? = some (.map es clock)/\es.toList.map (·.key)=ks/\es.toList.map (·.val)=g.vs:=fun X w hr=>by
  obtain ⟨_,_,_,b',es,clock,hb',hh,hk,hvv⟩:=hr.own n g _ hE
  rw[hb] at hb'
  simp only[aM] at hb'
  subst hb'
  exact ⟨es,clock,hh,hk,hvv⟩
 have mem:∀(es:Array MapEntry),es.toList.map (·.key)=ks->∀e∈es.toList,MapKept.IsKey kd' e.key:=fun es hes e he=>hks _ (by rw[<-hes];exact dO.2 ⟨e,he,rfl⟩)
 cases hm:mG ks q with
 |none=>
  have hg:j0 ks vs q=none:=by unfold j0;rw[hm];rfl
  rw[hg] at hK
  refine ⟨_,hK,(if ok then .tuple #[z,.bool false] else z),?_,fun X w hr=>?_⟩
  · cases ok with
    |true=>exact ⟨[z,.bool false],rfl,.cons (A.rel_ofV z) (.cons rfl .nil)⟩
    |false=>exact A.rel_ofV z
  · obtain ⟨es,clock,hh,hk,hvv⟩:=key X w hr
    rcases sT hq es.toList (mem es hk) 0 with ⟨_,h4⟩|⟨j,e,h3,_⟩
    · simp[execOp,ho,hxv,h2',Instr.lookup,run_underlying ht,MapKept.run_getObj_map hh,MapKept.run_checkKey hkt hq,MapKept.run_findKey hkt h4,hzv,Result.andThen]
    · rw[hk,hm] at h3;cases h3
 |some j=>
  obtain ⟨es,clock,hh,hk,hvv⟩:=key X0 w0 hr0
  rcases sT hq es.toList (mem es hk) 0 with ⟨h3,_⟩|⟨j',e,h3,h5,_,_⟩
  · rw[hk,hm] at h3;cases h3
  · rw[hk,hm] at h3
    simp only[aM] at h3
    subst h3
    have hgv:g.vs[j]? = some e.val:=by rw[<-hvv,b9,h5];rfl
    obtain ⟨y',hy',hyr⟩:=hvs.get' hgv
    have hg:j0 ks vs q=some y':=by unfold j0;rw[hm];exact hy'
    rw[hg] at hK
    refine ⟨_,hK,(if ok then .tuple #[e.val,.bool true] else e.val),?_,fun X w hr=>?_⟩
    · cases ok with
      |true=>exact ⟨[e.val,.bool true],rfl,.cons hyr (.cons rfl .nil)⟩
      |false=>exact hyr
    · obtain ⟨es2,clock2,hh2,hk2,hvv2⟩:=key X w hr
      rcases sT hq es2.toList (mem es2 hk2) 0 with ⟨h3,_⟩|⟨j2,e2,h3,h6,_,h7⟩
      · rw[hk2,hm] at h3;cases h3
      · rw[hk2,hm] at h3
        simp only[aM] at h3
        subst h3
        have he:e2.val=e.val:=by
         have:g.vs[j]? = some e2.val:=by rw[<-hvv2,b9,h6];rfl
         rw[hgv] at this;exact (dV this).symm
        simp[execOp,ho,hxv,h2',Instr.lookup,run_underlying ht,MapKept.run_getObj_map hh2,MapKept.run_checkKey hkt hq,MapKept.run_findKey hkt h7,he,Result.andThen]
theorem a83 (hf:FRel N (gm E) ro fr a) (hr0:Rel X0 E ro w0) {t kt et:TypeId} {x:Operand} (ho:o.op=.call { callee:=.builtin .len,args:=#[x],argTypes:=#[t] }) (ht:P.underlying t=some (.map kt et))
 {K:S->Prop} (hv:vL fr (hp E) (.lm (aT x)) K):∃s,K s/\QOk P o E ro a s:=by
 have h1:=bC hf x
 simp only[vL] at hv
 split at hv<;>try exact hv.elim
 rename_i n hx
 rw[hx] at h1
 split at hv<;>try exact hv.elim
 rename_i kd ks vs hH
 obtain ⟨g,b,hE,hb,hxv,_,_⟩:=QR hr0 h1 hH
 refine ⟨_,hv,.int .i64 ks.length,rfl,fun X w hr=>?_⟩
 obtain ⟨_,_,_,b',es,clock,hb',hh,hk,_⟩:=hr.own n g _ hE
 rw[hb] at hb'
 simp only[aM] at hb'
 subst hb'
 have hl:es.size=ks.length:=by rw[<-hk];simp
 simp[execOp,ho,hxv,resolve,invoke,builtin,Builtin.len_,run_underlying ht,MapKept.run_getObj_map hh,Result.andThen,hl,goInt]
theorem EX (hf:FRel N (gm E) ro fr a) (hr0:Rel X0 E ro w0) {i:LI} (hi:W5 P o.op=some i) {K:S->Prop} (hv:vL fr (hp E) i K):∃s,K s/\QOk P o E ro a s:=by
 cases ho:o.op<;>rw[ho] at hi<;>simp only[W5,reduceCtorEq] at hi
 case load t x=>
  split at hi<;>simp only[aM,reduceCtorEq] at hi
  · rename_i n ht hn;subst hi;exact a09 hf hr0 ho ht hn hv
  · rename_i n ht hn;subst hi;exact aZO hf hr0 ho ht hv
 case indexAddr t x y=>
  split at hi
  · rename_i e ht
    split at hi<;>simp only[aM,reduceCtorEq] at hi
    rename_i n hn;subst hi;exact a6I hf hr0 ho ht hn hv
  · cases hi
 case lookup t x y ok=>
  split at hi
  · rename_i k e ht
    split at hi<;>simp only[aM,reduceCtorEq] at hi
    rename_i kd z hk hz
    subst hi
    cases hinf:P.info? e with
    |none=>rw[hinf] at hz;cases hz
    |some inf=>
     rw[hinf] at hz
     simp only[cQ,aM] at hz
     exact a8W hf hr0 ho ht hk hinf hz hv
  · cases hi
 case call c=>
  obtain ⟨cl,args,ats⟩:=c
  simp only at hi
  split at hi
  · rename_i x t ha hat
    obtain rfl:args=#[x]:=by rw[<-eL (xs:=args),ha]
    obtain rfl:ats=#[t]:=by rw[<-eL (xs:=ats),hat]
    split at hi<;>simp only[aM,reduceCtorEq] at hi
    rename_i k e ht
    subst hi
    exact a83 hf hr0 ho ht hv
  · cases hi
end
def C.pub0 (n:Nat) (xs:List (List C)):C->C
 |.sl m l=>if m=n then (if l=xs.length then .fz xs else .no) else .sl m l
 |.qt m l sz i j=>if m=n then .no else .qt m l sz i j
 |.dp m l=>if m=n then .no else .dp m l
 |c=>c
def C.pub (n:Nat) (xs:List (List C)):C->C
 |.sl m l=>if m=n then (if l=xs.length then .fz xs else .no) else .sl m l
 |.qt m l sz i j=>if m=n then .no else .qt m l sz i j
 |.dp m l=>if m=n then .no else .dp m l
 |.fn g cs=>.fn g (cs.map fun x=>(x.1,x.2.map (C.pub0 n xs)))
 |c=>c
def A.pub (n:Nat) (xs:List (List C)):A->A
 |.c1 c=>.c1 (c.pub n xs)
 |.gs cs=>.gs (cs.map (C.pub n xs))
def S.pub (n:Nat) (xs:List (List C)):S->S
 |.va a=>.va (a.pub n xs)
 |.tu l=>.tu (l.map (A.pub n xs))
 |.cn g a=>.cn g (a.pub n xs)
 |.un=>.un
def B.pub (n:Nat) (xs:List (List C)):B->B
 |.cells cs T=>.cells (cs.map (C.pub n xs)) T
 |.row ys T sz=>.row ys T sz
 |.rowx ys T sz=>.rowx (ys.map fun r=>r.map (C.pub n xs)) T sz
 |.map kd ks vs=>.map kd ks (vs.map (A.pub n xs))
 |.dead=>.dead
def cS (n:Nat) (xs:List (List C)) (H:Hp):Hp:=(H.set n .dead).map (B.pub n xs)
inductive EI where
 |st (n:Nat) (x y:O)
 |al (zero:Value) (T:TypeId)
 |bx (T:TypeId) (x:O)
 |bsl (T:TypeId) (sz:Nat) (xs:List O)
 |bslx (T:TypeId) (sz:Nat) (xs:List O)
 |ap (T:TypeId) (sz bytes:Nat) (x y:O)
 |apz (T:TypeId) (sz bytes:Nat) (x y:O)
 |aps (T:TypeId) (x y:O)
 |us (T:TypeId) (x y:O)
 |mm (kd:TypeDesc)
 |mk (T:TypeId) (sz bytes:Nat) (zs:List Value) (x y:O)
 |mu (kd:TypeDesc) (x k y:O)
def rows (fr:Fr):List O->Option (List (List C))
 |[]=>some []
 |o::r=>match ev fr o,rows fr r with
  |.va a,some l=>some (a.cells::l)
  |_,_=>none
def pN:S->Prop
 |.va a=>a.ok
 |_=>False
def H3 (fr:Fr):List O->Prop
 |[]=>True
 |o::r=>pN (ev fr o)/\H3 fr r
def aK6 (l:List C):Prop:=∀c∈l,c.shut=true/\c.one
def sV (l:List (List C)):Prop:=∀r∈l,aK6 r
def vA (fr:Fr) (H:Hp) (T:TypeId) (sz bytes:Nat) (x:O) (ys:List (List C)) (K:S->Hp->Prop):Prop:=
 match ev fr x with
 |.va (.c1 (.vl (.slice none 0 0)))=>ys.length*bytes<=140737488355328/\K (.va (.c1 (.sl H.length ys.length))) (H++[.row ys T sz])
 |.va (.c1 (.sl n len))=>(match H[n]? with
  |some (.row xs T1 sz1)=>(xs.length=len/\T1=T/\sz1=sz)/\(len+ys.length)*bytes<=140737488355328/\K (.va (.c1 (.sl n (len+ys.length)))) (H.set n (.row (xs++ys) T sz))
  |_=>False)
 |_=>False
def C.nf:C->C
 |.vl (.slice none 0 0)=>.fz []
 |c=>c
def vZ (fr:Fr) (H:Hp) (T:TypeId) (sz bytes:Nat) (x:O) (ys:List (List C)) (K:S->Hp->Prop):Prop:=
 match ev fr x with
 |.va (.c1 (.sl n len))=>(match H[n]? with
  |some (.row xs T1 sz1)=>(xs.length=len/\T1=T/\sz1=sz/\0<ys.length)/\(len+ys.length)*bytes<=140737488355328/\K (.va (.c1 (.fz (xs++ys.map (List.map C.nf))))) (cS n xs H)
  |_=>False)
 |_=>False
def vE (fr:Fr) (H:Hp) (K:S->Hp->Prop):EI->Prop
 |.st n x y=>match ev fr x,ev fr y with
  |.va (.c1 x),.va y=>(y.ok/\(∀c∈y.cells,c.one)/\y.cells.length=n)/\(match x with
   |.pt nm off=>match H[nm]? with
    |some (.cells cs T)=>off+y.cells.length<=cs.length/\K .un (H.set nm (.cells (dW cs off y.cells) T))
    |_=>False
   |.qt nm len sz i j=>match H[nm]? with
    |some (.row xs T sz')=>(xs.length=len/\sz'=sz/\i<xs.length/\j+y.cells.length<=sz/\∀c∈y.cells,c.shut=true)/\∀r,xs[i]? = some r->K .un (H.set nm (.row (xs.set i (dW r j y.cells)) T sz))
    |some (.rowx xs T sz')=>(xs.length=len/\sz'=sz/\i<xs.length/\j+y.cells.length<=sz)/\∀r,xs[i]? = some r->K .un (H.set nm (.rowx (xs.set i (dW r j y.cells)) T sz))
    |_=>False
   |_=>False)
  |_,_=>False
 |.al zero T=>K (.va (.c1 (.pt H.length 0))) (H++[.cells (zero.cells.toList.map C.vl) T])
 |.bx T x=>match ev fr x with
  |.va a=>a.ok/\K (.va (.c1 (.pt H.length 0))) (H++[.cells a.cells T])
  |_=>False
 |.bsl T sz xs=>match rows fr xs with
  |some l=>(H3 fr xs/\(∀x∈l,x.length=sz)/\sV l)/\K (.va (.c1 (.sl H.length l.length))) (H++[.row l T sz])
  |none=>False
 |.bslx T sz xs=>match rows fr xs with
  |some l=>(H3 fr xs/\∀x∈l,x.length=sz)/\K (.va (.c1 (.sl H.length l.length))) (H++[.rowx l T sz])
  |none=>False
 |.ap T sz bytes x y=>match ev fr y with
  |.va (.c1 (.sl m k))=>(match H[m]? with
   |some (.row ys _ sz2)=>(ys.length=k/\sz2=sz/\sV ys)/\vA fr H T sz bytes x ys K
   |_=>False)
  |.va (.c1 (.fz ys))=>((∀r∈ys,r.length=sz)/\sV ys)/\vA fr H T sz bytes x ys K
  |.va (.c1 (.vl (.slice _ 0 _)))=>vA fr H T sz bytes x [] K
  |_=>False
 |.apz T sz bytes x y=>match ev fr y with
  |.va (.c1 (.sl m k))=>(match H[m]? with
   |some (.row ys _ sz2)=>(ys.length=k/\sz2=sz/\sV ys)/\vZ fr H T sz bytes x ys K
   |_=>False)
  |_=>False
 |.aps T x y=>match ev fr y with
  |.va (.c1 (.vl (.string s)))=>vA fr H T 1 1 x ((bl s).map fun c=>[.vl (.int .u8 c.toNat)]) K
  |_=>False
 |.us T x y=>match ev fr x,ev fr y with
  |.va (.c1 (.dp n len)),.va (.c1 (.vl (.int .i64 k)))=>(match H[n]? with
   |some (.row xs T' sz)=>(T'=T/\k=len/\xs.length=len/\sz=1/\(∀r∈xs,∃c:UInt8,r=[.vl (.int .u8 c.toNat)])/\len<=140737488355328)/\K (tS (mk (GJ xs))) (H.set n .dead)
   |_=>False)
  |_,_=>False
 |.mm kd=>K (.va (.c1 (.mp H.length))) (H++[.map kd [] []])
 |.mk T sz bytes zs x y=>match ev fr x,ev fr y with
  |.va (.c1 (.vl (.int _ k))),.va (.c1 (.vl (.int _ m)))=>(k=m/\0<=k/\k*bytes<=140737488355328/\k<=140737488355328)/\(k=0->K (.va (.c1 (.fz []))) H)/\(0<k->K (.va (.c1 (.sl H.length k.toNat))) (H++[.row (List.replicate k.toNat (zs.map C.vl)) T sz]))
  |_,_=>False
 |.mu kd x k y=>match ev fr x,ev fr k,ev fr y with
  |.va (.c1 (.mp n)),.va (.c1 (.vl q)),.va v=>(match H[n]? with
   |some (.map kd' ks vs)=>(kd'=kd/\MapKept.IsKey kd q)/\K .un (H.set n (.map kd (mN ks q) (nE ks vs q v)))
   |_=>False)
  |_,_,_=>False
def aFU:Value->Bool
 |.int .u8 n=>n==0
 |_=>false
theorem aNL {z:Value} (h:aFU z=true):z=.int .u8 0:=by
 unfold aFU at h
 split at h
 · simp at h;rw[h]
 · cases h
def EI.ext:EI->EI
 |.bsl T sz xs=>.bslx T sz xs
 |.ap T sz b x y=>.apz T sz b x y
 |i=>i
def BP (P:Program) (op:Op):Option EI:=
 match op with
 |.store t x y=>match qW P t,kC P t with
  |some _,some n=>some (.st n (aT x) (aT y))
  |_,_=>none
 |.alloc t=>match (P.info? t).map (·.zero) with
  |some (some z)=>some (.al z t)
  |_=>none
 |.box t x=>some (.bx t (aT x))
 |.makeSlice t x y=>match P.underlying t with
  |some (.slice e)=>match P.info? e with
   |some i=>match i.zero with
    |some z=>if z.cells.size=i.size/\0<i.size then some (.mk e i.size i.bytes z.cells.toList (aT x) (aT y)) else none
    |none=>none
   |none=>none
  |_=>none
 |.makeMap t r=>if r.isSome then none else match P.underlying t with
  |some (.map k _)=>(P.underlying k).map .mm
  |_=>none
 |.mapUpdate t m k v=>match P.underlying t with
  |some (.map kt _)=>(P.underlying kt).map fun kd=>.mu kd (aT m) (aT k) (aT v)
  |_=>none
 |.buildSlice t len parts=>match P.underlying t with
  |some (.slice e)=>match P.info? e with
   |some i=>match i.zero with
    |some z=>if z.cells.size=i.size/\0<i.size/\len*i.size<=16777216/\0<len/\len<=maxLen/\parts.toList.map (·.1)=List.range len then some (.bsl e i.size (parts.toList.map fun p=>aT p.2)) else none
    |none=>none
   |none=>none
  |_=>none
 |.call c=>match c.callee,c.args.toList,c.argTypes.toList with
  |.builtin .append,[x,y],[t,t']=>match P.underlying t with
   |some (.slice e)=>match P.info? e with
    |some i=>match i.zero with
     |some z=>if z.cells.size=i.size/\0<i.size/\t=t'/\0<i.bytes then some (.ap e i.size i.bytes (aT x) (aT y))
      else if aFU z=true/\i.size=1/\i.bytes=1 then (match P.underlying t' with
       |some .string=>some (.aps e (aT x) (aT y))
       |_=>none) else none
     |none=>none
    |none=>none
   |_=>none
  |.builtin .unsafeString,[x,y],[t,_]=>match P.underlying t with
   |some (.pointer e)=>match P.underlying e with
    |some (.int .u8)=>if P.cellsOf e=1 then some (.us e (aT x) (aT y)) else none
    |_=>none
   |_=>none
  |_,_,_=>none
 |_=>none
theorem B.On.same {γ γ':List Gb} {ro ro':RO} {w w':World} {g:Gb} {blk:B} (h:blk.On γ ro w g) (hg:GExt γ γ') (hr:Ext ro ro') (he:∀k,g.ob=some k->w'.heap[k]? = w.heap[k]?):blk.On γ' ro' w' g:=by
 cases blk with
 |cells cs T=>
  obtain ⟨h1,b,hb,hh,h2⟩:=h
  exact ⟨h1,b,hb,by rw[he b hb];exact hh,h2.imp fun _ _=>C.rel_mono hg hr⟩
 |row xs T sz=>
  obtain ⟨h0,h1,h2,h3,⟨h4,h5⟩,h6,h7⟩:=h
  refine ⟨h0,h1,h2,h3,⟨h4,?_⟩,h6.imp fun _ _=>C.fv_mono hr,h7⟩
  rcases h5 with h5|⟨b,cap',cur,hv,hb,hh,r⟩
  · exact .inl h5
  · have hob:g.ob=some b:=by
     cases hgo:g.ob with
     |none=>rw[hgo] at hv;simp[bX] at hv
     |some b'=>rw[hgo] at hv;simp[bX] at hv;simp[hv.1]
    exact .inr ⟨b,cap',cur,hv,hb,by rw[he b hob];exact hh,r⟩
 |rowx xs T sz=>
  obtain ⟨h0,h1,h2,⟨h4,h5⟩,h6,h7⟩:=h
  refine ⟨h0,h1,h2,⟨h4,?_⟩,h6.imp fun _ _=>C.rel_mono hg hr,h7⟩
  rcases h5 with h5|⟨b,cap',cur,hv,hb,hh,r⟩
  · exact .inl h5
  · have hob:g.ob=some b:=by
     cases hgo:g.ob with
     |none=>rw[hgo] at hv;simp[bX] at hv
     |some b'=>rw[hgo] at hv;simp[bX] at hv;simp[hv.1]
    exact .inr ⟨b,cap',cur,hv,hb,by rw[he b hob];exact hh,r⟩
 |map kd ks vs=>
  obtain ⟨h1,h2,h3,b,es,clock,hb,hh,h4⟩:=h
  exact ⟨h1,h2,h3.imp fun _ _=>A.rel_mono hg hr,b,es,clock,hb,by rw[he b hb];exact hh,h4⟩
 |dead=>trivial
section
variable {X:Ctx} {E:Es} {ro:RO} {w w':World}
theorem Rel.cell_lt (h:Rel X E ro w) {b off:Nat} {c:Value} (hc:ro b off=some c):b<w.heap.size:=by
 have:=h.rd b off c hc
 simp only[World.cell?] at this
 rcases bB b w.heap.size with hb|hb
 · exact hb
 · rw[nT hb] at this;cases this
theorem B.On.lt {γ:List Gb} {g:Gb} {blk:B} (h:blk.On γ ro w g) (hl:blk.live=true) {b:Nat} (hb:g.ob=some b):b<w.heap.size:=by
 cases blk with
 |cells cs T=>
  obtain ⟨_,b',hb',hh,_⟩:=h
  rw[hb] at hb'
  simp only[aM] at hb'
  subst hb'
  exact (mQ.1 hh).1
 |row xs T sz=>
  obtain ⟨_,_,_,_,⟨_,h3⟩,_⟩:=h
  rw[hb] at h3
  rcases h3 with ⟨h3,_⟩|⟨g,cap',cur,hv,hg,hh,r⟩
  · simp[bX] at h3
  · simp[bX] at hv
    rw[hv.1]
    exact (mQ.1 hh).1
 |rowx xs T sz=>
  obtain ⟨_,_,_,⟨_,h3⟩,_⟩:=h
  rw[hb] at h3
  rcases h3 with ⟨h3,_⟩|⟨g,cap',cur,hv,hg,hh,r⟩
  · simp[bX] at h3
  · simp[bX] at hv
    rw[hv.1]
    exact (mQ.1 hh).1
 |map kd ks vs=>
  obtain ⟨_,_,_,b',es,clock,hb',hh,_⟩:=h
  rw[hb] at hb'
  simp only[aM] at hb'
  subst hb'
  exact (mQ.1 hh).1
 |dead=>simp[B.live] at hl
theorem jF {n:Nat} {g g':Gb} {blk blk':B} (hn:E[n]? = some (g,blk)) (hle:g.le g'):GExt (gm E) (gm (E.set n (g',blk'))):=by
 intro m gg hm
 obtain ⟨bk,hE⟩:=yS hm
 by_cases hnm:n=m
 · subst hnm
   rw[hn] at hE
   simp only[aM,Prod.mk.injEq] at hE
   obtain ⟨rfl,rfl⟩:=hE
   refine ⟨g',?_,hle⟩
   simp[gm,(bT.1 hn).1]
 · exact ⟨gg,by simp[gm,hnm,hE],gg.le_refl⟩
theorem eS (l:Es):GExt (gm E) (gm (E++l)):=by
 intro m gg hm
 refine ⟨gg,?_,gg.le_refl⟩
 simp only[gm,C7]
 rw[lY (by simpa[gm] using (bT.1 hm).1)]
 exact hm
theorem Rel.swap (h:Rel X E ro w) {n:Nat} {g g':Gb} {blk blk':B} (hn:E[n]? = some (g,blk)) (hl:blk.live=true) (hle:g.le g') (hsz:w.heap.size<=w'.heap.size)
 (h1:w'.os=w.os) (h2:w'.tape=w.tape) (h3:w'.output=w.output) (hon:blk'.On (gm (E.set n (g',blk'))) ro w' g')
 (hc:(g'.ob=g.ob/\∀k,some k≠g.ob->w'.heap[k]? = w.heap[k]?)\/(g'.ob=some w.heap.size/\∀k,k<w.heap.size->w'.heap[k]? = w.heap[k]?)):Rel X (E.set n (g',blk')) ro w':=by
 have hlt:n<E.length:=(bT.1 hn).1
 have hext:=jF (blk':=blk') hn hle
 have hget:∀(j:Nat) (y:Gb×B),(E.set n (g',blk'))[j]? = some y->(j=n/\y=(g',blk'))\/(j≠n/\E[j]? = some y):=by
  intro j y hy
  rw[mP] at hy
  split at hy
  · rename_i he;subst he;exact .inl ⟨rfl,by first|exact (dV hy).symm|(rw[if_pos hlt] at hy;exact (dV hy).symm)⟩
  · rename_i he;exact .inr ⟨fun e=>he e.symm,hy⟩
 have old:∀(j k:Nat) (gj:Gb) (bk:B),E[j]? = some (gj,bk)->gj.ob=some k->bk.live=true->k<w.heap.size:=fun j k gj bk hy hk hl=>(h.own j _ bk hy).lt hl hk
 have keep:∀(j k:Nat) (gj:Gb) (bk:B),j≠n->E[j]? = some (gj,bk)->gj.ob=some k->bk.live=true->w'.heap[k]? = w.heap[k]?:=by
  intro j k gj bk hj hy hgk hlv
  rcases hc with ⟨_,hk⟩|⟨_,hk⟩
  · exact hk k fun e=>hj (h.inj j n gj g bk blk k hy hn hgk e.symm hlv hl)
  · exact hk k (old j k gj bk hy hgk hlv)
 have ne:∀(j k:Nat) (gj:Gb) (bk:B),j≠n->E[j]? = some (gj,bk)->gj.ob=some k->bk.live=true->g'.ob≠some k:=by
  intro j k gj bk hj hy hgk hlv e
  rcases hc with ⟨e2,_⟩|⟨e2,_⟩
  · exact hj (h.inj j n gj g bk blk k hy hn hgk (by rw[<-e2];exact e) hlv hl)
  · have:=old j k gj bk hy hgk hlv;rw[e2] at e;simp at e;omega
 refine ⟨fun j g1 bk hy=>?_,fun j m gj gm bj bm k hy hz ej em lj lm=>?_,fun k off c hcc j gj bk hy ej=>?_,fun k off c hcc=>?_,h.ro0,h.rob,fun j k gj bk hy ej lj=>?_,h.gx.trans hext,dM h.sz hsz,fun k hk hp=>?_,by rw[h1];exact h.os,by rw[h2];exact h.tape,by rw[h3];exact h.output⟩
 · rcases hget j _ hy with ⟨rfl,he⟩|⟨hne,hy'⟩
   · simp only[Prod.mk.injEq] at he;obtain ⟨rfl,rfl⟩:=he;exact hon
   · by_cases hlv:bk.live=true
     · exact (h.own j g1 bk hy').same hext (Ext.refl _) fun k hk=>keep j k g1 bk hne hy' hk hlv
     · cases bk<;>simp[B.live] at hlv;trivial
 · rcases hget j _ hy with ⟨rfl,he⟩|⟨hne,hy'⟩<;>rcases hget m _ hz with ⟨rfl,he2⟩|⟨hne2,hz'⟩
   · rfl
   · simp only[Prod.mk.injEq] at he;obtain ⟨rfl,rfl⟩:=he;exact absurd ej (ne m k gm bm hne2 hz' em lm)
   · simp only[Prod.mk.injEq] at he2;obtain ⟨rfl,rfl⟩:=he2;exact absurd em (ne j k gj bj hne hy' ej lj)
   · exact h.inj j m gj gm bj bm k hy' hz' ej em lj lm
 · rcases hget j _ hy with ⟨rfl,he⟩|⟨hne,hy'⟩
   · simp only[Prod.mk.injEq] at he
     obtain ⟨rfl,rfl⟩:=he
     rcases hc with ⟨e2,_⟩|⟨e2,_⟩
     · have:=h.apart k off c hcc j g blk hn (by rw[<-e2];exact ej);rw[hl] at this;cases this
     · rw[e2] at ej;simp only[aM] at ej;have:=h.cell_lt hcc;omega
   · exact h.apart k off c hcc j gj bk hy' ej
 · have hs:w'.heap[k]? = w.heap[k]?:=by
    rcases hc with ⟨_,hk⟩|⟨_,hk⟩
    · exact hk k fun e=>by have:=h.apart k off c hcc n g blk hn e.symm;rw[hl] at this;cases this
    · exact hk k (h.cell_lt hcc)
   have:=h.rd k off c hcc
   rw[<-this]
   simp only[World.cell?,hs]
 · rcases hget j _ hy with ⟨rfl,he⟩|⟨hne,hy'⟩
   · simp only[Prod.mk.injEq] at he
     obtain ⟨rfl,rfl⟩:=he
     rcases hc with ⟨e2,_⟩|⟨e2,_⟩
     · exact h.par j k g blk hn (by rw[<-e2];exact ej) hl
     · rw[e2] at ej;simp only[aM] at ej;have:=h.sz;omega
   · exact h.par j k gj bk hy' ej lj
 · have hs:w'.heap[k]? = w.heap[k]?:=by
    rcases hc with ⟨_,hk'⟩|⟨_,hk'⟩
    · exact hk' k fun e=>by rcases h.par n k g blk hn e.symm hl with h'|h'<;>first|omega|exact hp h'
    · exact hk' k (by have:=h.sz;omega)
   rw[hs]
   exact h.keep k hk hp
theorem Rel.new (h:Rel X E ro w) {blk:B} {g:Gb} (hb:∀k,k<w.heap.size->w'.heap[k]? = w.heap[k]?) (hsz:w.heap.size<=w'.heap.size)
 (h1:w'.os=w.os) (h2:w'.tape=w.tape) (h3:w'.output=w.output) (hob:g.ob=none\/g.ob=some w.heap.size) (hon:blk.On (gm (E++[(g,blk)])) ro w' g):Rel X (E++[(g,blk)]) ro w':=by
 have hext:GExt (gm E) (gm (E++[(g,blk)])):=eS _
 have hget:∀(n:Nat) (y:Gb×B),(E++[(g,blk)])[n]? = some y->(n=E.length/\y=(g,blk))\/(n<E.length/\E[n]? = some y):=by
  intro n y hy
  rw[uC] at hy
  split at hy
  · exact .inr ⟨by assumption,hy⟩
  · rename_i hge
    have:n-E.length=0:=by
     rcases gK (n-E.length) with h0|h0
     · exact h0
     · rw[iE (by simp;omega)] at hy;cases hy
    rw[this] at hy
    exact .inl ⟨by omega,by simpa using hy.symm⟩
 have old:∀(n k:Nat) (gn:Gb) (bk:B),E[n]? = some (gn,bk)->gn.ob=some k->bk.live=true->k<w.heap.size:=fun n k gn bk hy hk hl=>(h.own n _ bk hy).lt hl hk
 refine ⟨fun n g' bk hy=>?_,fun n m gn gm bn bm k hy hz en em ln lm=>?_,fun k off c hc n gn bk hy en=>?_,fun k off c hc=>?_,h.ro0,h.rob,fun n k gn bk hy en ln=>?_,h.gx.trans hext,dM h.sz hsz,fun k hk hp=>?_,by rw[h1];exact h.os,by rw[h2];exact h.tape,by rw[h3];exact h.output⟩
 · rcases hget n _ hy with ⟨rfl,he⟩|⟨hlt,hy'⟩
   · simp only[Prod.mk.injEq] at he;obtain ⟨rfl,rfl⟩:=he;exact hon
   · by_cases hlv:bk.live=true
     · exact (h.own n g' bk hy').same hext (Ext.refl _) fun k hk=>hb k (old n k g' bk hy' hk hlv)
     · cases bk<;>simp[B.live] at hlv;trivial
 · rcases hget n _ hy with ⟨rfl,he⟩|⟨hlt,hy'⟩<;>rcases hget m _ hz with ⟨rfl,he2⟩|⟨hlt2,hz'⟩
   · rfl
   · simp only[Prod.mk.injEq] at he;obtain ⟨rfl,rfl⟩:=he;have:=old m k gm bm hz' em lm;rcases hob with hob|hob<;>rw[hob] at en<;>simp at en;omega
   · simp only[Prod.mk.injEq] at he2;obtain ⟨rfl,rfl⟩:=he2;have:=old n k gn bn hy' en ln;rcases hob with hob|hob<;>rw[hob] at em<;>simp at em;omega
   · exact h.inj n m gn gm bn bm k hy' hz' en em ln lm
 · rcases hget n _ hy with ⟨rfl,he⟩|⟨hlt,hy'⟩
   · simp only[Prod.mk.injEq] at he;obtain ⟨rfl,rfl⟩:=he;have:=h.cell_lt hc;rcases hob with hob|hob<;>rw[hob] at en<;>simp at en;omega
   · exact h.apart k off c hc n gn bk hy' en
 · have:=h.rd k off c hc
   rw[<-this]
   simp only[World.cell?,hb k (h.cell_lt hc)]
 · rcases hget n _ hy with ⟨rfl,he⟩|⟨hlt,hy'⟩
   · simp only[Prod.mk.injEq] at he;obtain ⟨rfl,rfl⟩:=he;rcases hob with hob|hob<;>rw[hob] at en<;>simp at en;have:=h.sz;omega
   · exact h.par n k gn bk hy' en ln
 · rw[hb k (by have:=h.sz;omega)]
   exact h.keep k hk hp
end
def gI (P:Program) (o:Oper) (a:Act) (w:World) (X:Ctx) (E:Es) (ro:RO) (R:S->Hp->Prop):Prop:=
 ∀next Q,(∀s v E' ro' w',R s (hp E')->s.rel (gm E') ro' v->GExt (gm E) (gm E')->Ext ro ro'->Rel X E' ro' w'->next (a.put o.dst v) w')->o.wp P a w next Q
theorem aNP {R:List Gb} {ro:RO} {cs:List C} {us:List Value} (h:All2 (C.rel R ro) cs us) (h1:∀c∈cs,c.one):∀v∈us,v.oneCell'=true:=by
 intro v hv
 obtain ⟨i,hi⟩:=eN.1 hv
 obtain ⟨c,hc,hr⟩:=h.get' hi
 exact C.one_rel (h1 c (cC hc)) hr
theorem KH {xs:List (List C)} {sz:Nat} (h:∀x∈xs,x.length=sz):∀{i j:Nat} {vs:List C},i<xs.length->j+vs.length<=sz->
 (xs.set i (dW (xs.getD i []) j vs)).flatten=dW xs.flatten (i*sz+j) vs:=by
 induction xs with
 |nil=>intro i j vs hi;simp at hi
 |cons x r ih=>
  intro i j vs hi hj
  have hx:x.length=sz:=h x (by simp)
  cases i with
  |zero=>
   simp only[List.set_cons_zero,List.getD_cons_zero,fA,dW,aDF,gJ]
   rw[aDG (by omega),List.drop_append_of_le_length (by omega)]
   simp
  |succ i=>
   have:=ih (fun z hz=>h z (by simp[hz])) (i:=i) (j:=j) (vs:=vs) (by simpa using hi) hj
   rw[List.set_cons_succ,List.getD_cons_succ,fA,this]
   simp only[dW,jU,fA]
   have e1:(x++r.flatten).take (i*sz+sz+j)=x++r.flatten.take (i*sz+j):=by
    rw[T9,hx,sE (by omega),show i*sz+sz+j-sz=i*sz+j by omega]
   have e2:(x++r.flatten).drop (i*sz+sz+j+vs.length)=r.flatten.drop (i*sz+j+vs.length):=by
    rw[JT,hx,UA (by omega),show i*sz+sz+j+vs.length-sz=i*sz+j+vs.length by omega,jT]
   rw[e1,e2]
   simp
theorem F0 {sz:Nat}:∀(l:List (List C)),(∀x∈l,x.length=sz)->(l.flatten).length=l.length*sz
 |[],_=>by simp
 |x::r,h=>by simp[h x (by simp),F0 r (fun y hy=>h y (by simp[hy])),jU];omega
theorem FN {cur V:List Value} {p L:Nat} (h:p+V.length<=L) (hL:L<=cur.length):(cur.take p++V++cur.drop (p+V.length)).take L=(cur.take L).take p++V++(cur.take L).drop (p+V.length):=by
 have e0:(cur.take p++V).length=p+V.length:=by simp;omega
 rw[T9,e0,sE (by omega),List.take_take,Nat.min_eq_left (by omega),aDA]
theorem FH {xs:List (List C)} {sz:Nat} (h:∀x∈xs,x.length=sz) {i j:Nat} {vs r:List C} (hr:xs[i]? = some r) (hj:j+vs.length<=sz) :
 (xs.set i (dW r j vs)).flatten=dW xs.flatten (i*sz+j) vs:=by
 have:=KH h (vs:=vs) (bT.1 hr).1 hj
 rwa [List.getD_eq_getElem?_getD,hr] at this
section
variable {P:Program} {o:Oper} {N:Nat} {fr:Fr} {a:Act} {E:Es} {ro:RO} {X:Ctx} {w:World} {R:S->Hp->Prop}
theorem iN (E:Es) (n:Nat) (g:Gb) (blk:B):hp (E.set n (g,blk))=(hp E).set n blk:=by simp[hp,List.map_set]
theorem lJ (E:Es) (g:Gb) (blk:B):hp (E++[(g,blk)])=hp E++[blk]:=by simp[hp]
theorem a8O (hf:FRel N (gm E) ro fr a) (hr:Rel X E ro w) {t:TypeId} {x y:Operand} {n:Nat} (ho:o.op=.store t x y) (hz:kC P t=some n) (hv:vE fr (hp E) R (.st n (aT x) (aT y))):gI P o a w X E ro R:=by
 intro next Q hK
 have h1:=bC hf x;have h2:=bC hf y
 simp only[vE] at hv
 split at hv
 case h_2=>exact hv.elim
 rename_i px py hx hy
 rw[hx] at h1;rw[hy] at h2
 have h2':py.rel (gm E) ro (a.eval y):=h2
 have h1':px.rel (gm E) ro (a.eval x):=h1
 obtain ⟨⟨hok,hone,hlen⟩,hv⟩:=hv
 have hcells:=A.cells_rel h2' hok
 generalize hus:(a.eval y).cells.toList=us at hcells
 have hul:us.length=n:=by rw[<-hcells.1];exact hlen
 have hsize:(a.eval y).cells.size=n:=by rw[<-hul,<-hus];simp
 have hcs:(a.eval y).cells=us.toArray:=by rw[<-hus]
 have h1o:=aNP hcells hone
 have hstore:∀(b k:Nat) (cur:Array Value) (T:TypeId),a.eval x=.pointer (some ⟨b,k,none⟩)->w.heap[b]? = some (.cells cur T (0,0))->k+us.length<=cur.size->
  (execOp a.eval o).run P w=.ok .skip (w.setRow b (cur.toList.take k++us++cur.toList.drop (k+us.length)).toArray):=by
  intro b k cur T hp hh hk
  have hs:=run_storeCells_at P b k T us 0 cur w hh (by simpa using hk) h1o
  simp only[E5] at hs
  simp only[execOp,ho,hp]
  simp[Instr.storeAt,Instr.sureAddr,storeVar,fM hz,hcs,hs,hul]
 cases px with
 |pt nm off=>
  simp only at hv
  split at hv
  case h_2=>exact hv.elim
  rename_i cs T hH
  obtain ⟨hle,hR⟩:=hv
  obtain ⟨g,hE⟩:=dC hH
  obtain ⟨hrow,b',hb',hh,hrel⟩:=hr.own nm _ _ hE
  obtain ⟨g',b,k1,k2,k3,k4⟩:=h1'
  have:g'=g:=by have:=dU hE;rw[k1] at this;exact (dV this)
  subst this
  rw[hb'] at k3
  simp only[aM] at k3
  subst k3
  have hbnd:off+us.length<=g'.vs.toArray.size:=by rw[uD,<-hrel.1,<-hcells.1];exact hle
  have hrun:=hstore b' off _ T k4 hh hbnd
  have hoth:=fun k (hk:k≠b')=>setRow_other w b' k ((g'.vs.toArray.toList.take off++us++g'.vs.toArray.toList.drop (off+us.length)).toArray) hk
  have hnew:=setRow_heap w b' _ (g'.vs.toArray.toList.take off++us++g'.vs.toArray.toList.drop (off+us.length)).toArray T _ hh
  unfold Oper.wp
  rw[hrun,Oper.upon_skip]
  have hle':g'.le { g' with vs:=g'.vs.take off++us++g'.vs.drop (off+us.length) }:=⟨rfl,.inl ⟨rfl,rfl,rfl⟩⟩
  have hext:=jF (blk':=.cells (dW cs off py.cells) T) hE hle'
  refine hK .un undef (E.set nm ({ g' with vs:=g'.vs.take off++us++g'.vs.drop (off+us.length) },.cells (dW cs off py.cells) T)) ro _ (by rw[iN];exact hR) trivial hext (Ext.refl _)
   (hr.swap hE rfl hle' (by simp[World.setRow]) rfl rfl rfl ⟨hrow,b',hb',by simpa using hnew,?_⟩ (.inl ⟨rfl,fun k hk=>hoth k fun e=>hk (by rw[hb',e])⟩))
  exact rU (hrel.imp fun _ _=>C.rel_mono hext (Ext.refl _)) (hcells.imp fun _ _=>C.rel_mono hext (Ext.refl _))
 |qt nm len sz i j=>
  simp only at hv
  split at hv
  case h_3=>exact hv.elim
  · rename_i xs T sz' hH
    obtain ⟨⟨c0,rfl,hi,hle,hsh⟩,hR⟩:=hv
    obtain ⟨g,b,blk,hE,hb,hv'⟩:=sM hr h1' (by unfold nG;rw[hH];exact ⟨c0,rfl⟩)
    have hH2:=y4 hE
    rw[hH] at hH2
    simp only[aM] at hH2
    subst hH2
    have hri:=aX hi
    have hR:=hR _ hri
    obtain ⟨hrow,hglen,hxl,hshx,⟨hvl,hown⟩,hrel,hpos⟩:=hr.own nm _ _ hE
    rw[hb] at hown
    rcases hown with ⟨hv,hn⟩|⟨b2,cap',cur,hv,hg0,hh,hncap,hcm,hsz,htake⟩
    · omega
    obtain ⟨rfl,hcapeq⟩:b=b2/\g.cap=cap':=by simpa[bX] using hv
    subst hcapeq
    have hmul:(i+1)*sz'<=xs.length*sz':=gD _ hi
    have hmul2:xs.length*sz'<=g.cap*sz':=gD _ hncap
    rw[jU] at hmul
    have hxi:(xs[i]).length=sz':=hxl _ (eM hi)
    have hle2:j+us.length<=sz':=by rw[<-hcells.1];exact hle
    have hrun:=hstore b (i*sz'+j) cur T hv' hh (by rw[hsz];exact dM (by omega) (dM hmul hmul2))
    have hoth:=fun k (hk:k≠b)=>setRow_other w b k ((cur.toList.take (i*sz'+j)++us++cur.toList.drop (i*sz'+j+us.length)).toArray) hk
    have hnew:=setRow_heap w b cur ((cur.toList.take (i*sz'+j)++us++cur.toList.drop (i*sz'+j+us.length)).toArray) T _ hh
    unfold Oper.wp
    rw[hrun,Oper.upon_skip]
    have hspl:(dW xs[i] j py.cells).length=sz':=by simp only[dW,bW,eJ,qP];omega
    have hle':g.le { g with vs:=g.vs.take (i*sz'+j)++us++g.vs.drop (i*sz'+j+us.length) }:=⟨rfl,.inl ⟨rfl,rfl,rfl⟩⟩
    have hvl2:g.vs.length=xs.length*sz':=hvl
    have hmem:∀x∈xs.set i (dW xs[i] j py.cells),x.length=sz':=by
     intro x hx
     rcases aDH hx with hx|hx
     · exact hxl x hx
     · rw[hx,hspl]
    have hflat:=FH hxl hri hle
    refine hK .un undef (E.set nm ({ g with vs:=g.vs.take (i*sz'+j)++us++g.vs.drop (i*sz'+j+us.length) },.row (xs.set i (dW xs[i] j py.cells)) T sz')) ro _ (by rw[iN];exact hR) trivial (jF hE hle') (Ext.refl _)
     (hr.swap hE rfl hle' (by simp[World.setRow]) rfl rfl rfl ⟨hrow,by rw[lE];exact hglen,hmem,?_,⟨?_,.inr ⟨b,g.cap,_,?_,aP _,hnew,?_,hcm,?_,?_⟩⟩,?_,hpos⟩ (.inl ⟨rfl,fun k hk=>hoth k fun e=>hk (by rw[hb,e])⟩))
    · intro c hc
      rw[hflat] at hc
      simp only[dW,cL] at hc
      rcases hc with (hc|hc)|hc
      · exact hshx c (UB hc)
      · exact hsh c hc
      · exact hshx c (aDE hc)
    · simp only[bW,eJ,qP,lE];omega
    · rw[lE];simp[bX,hb]
    · simpa using hncap
    · have:i*sz'+j+us.length<=cur.size:=by rw[hsz];exact dM (by omega) (dM hmul hmul2)
      simp only[uD,bW,eJ,qP,uH]
      rw[<-hsz]
      omega
    · rw[lE,<-htake,C9]
      exact FN (by omega) (by simp;rw[hsz];exact hmul2)
    · rw[hflat]
      refine rU hrel ⟨hcells.1,fun k c u hc hu=>?_⟩
      exact (C.rel_shut (hsh c (cC hc))).1 (hcells.2 k c u hc hu)
  · rename_i xs T sz' hH
    obtain ⟨⟨c0,rfl,hi,hle⟩,hR⟩:=hv
    obtain ⟨g,b,blk,hE,hb,hv'⟩:=sM hr h1' (by unfold nG;rw[hH];exact ⟨c0,rfl⟩)
    have hH2:=y4 hE
    rw[hH] at hH2
    simp only[aM] at hH2
    subst hH2
    have hri:=aX hi
    have hR:=hR _ hri
    obtain ⟨hrow,hglen,hxl,⟨hvl,hown⟩,hrel,hpos⟩:=hr.own nm _ _ hE
    rw[hb] at hown
    rcases hown with ⟨hv,hn⟩|⟨b2,cap',cur,hv,hg0,hh,hncap,hcm,hsz,htake⟩
    · omega
    obtain ⟨rfl,hcapeq⟩:b=b2/\g.cap=cap':=by simpa[bX] using hv
    subst hcapeq
    have hmul:(i+1)*sz'<=xs.length*sz':=gD _ hi
    have hmul2:xs.length*sz'<=g.cap*sz':=gD _ hncap
    rw[jU] at hmul
    have hxi:(xs[i]).length=sz':=hxl _ (eM hi)
    have hle2:j+us.length<=sz':=by rw[<-hcells.1];exact hle
    have hrun:=hstore b (i*sz'+j) cur T hv' hh (by rw[hsz];exact dM (by omega) (dM hmul hmul2))
    have hoth:=fun k (hk:k≠b)=>setRow_other w b k ((cur.toList.take (i*sz'+j)++us++cur.toList.drop (i*sz'+j+us.length)).toArray) hk
    have hnew:=setRow_heap w b cur ((cur.toList.take (i*sz'+j)++us++cur.toList.drop (i*sz'+j+us.length)).toArray) T _ hh
    unfold Oper.wp
    rw[hrun,Oper.upon_skip]
    have hspl:(dW xs[i] j py.cells).length=sz':=by simp only[dW,bW,eJ,qP];omega
    have hle':g.le { g with vs:=g.vs.take (i*sz'+j)++us++g.vs.drop (i*sz'+j+us.length) }:=⟨rfl,.inl ⟨rfl,rfl,rfl⟩⟩
    have hvl2:g.vs.length=xs.length*sz':=hvl
    have hmem:∀x∈xs.set i (dW xs[i] j py.cells),x.length=sz':=by
     intro x hx
     rcases aDH hx with hx|hx
     · exact hxl x hx
     · rw[hx,hspl]
    have hflat:=FH hxl hri hle
    refine hK .un undef (E.set nm ({ g with vs:=g.vs.take (i*sz'+j)++us++g.vs.drop (i*sz'+j+us.length) },.rowx (xs.set i (dW xs[i] j py.cells)) T sz')) ro _ (by rw[iN];exact hR) trivial (jF hE hle') (Ext.refl _)
     (hr.swap hE rfl hle' (by simp[World.setRow]) rfl rfl rfl ⟨hrow,by rw[lE];exact hglen,hmem,⟨?_,.inr ⟨b,g.cap,_,?_,aP _,hnew,?_,hcm,?_,?_⟩⟩,?_,hpos⟩ (.inl ⟨rfl,fun k hk=>hoth k fun e=>hk (by rw[hb,e])⟩))
    · simp only[bW,eJ,qP,lE];omega
    · rw[lE];simp[bX,hb]
    · simpa using hncap
    · have:i*sz'+j+us.length<=cur.size:=by rw[hsz];exact dM (by omega) (dM hmul hmul2)
      simp only[uD,bW,eJ,qP,uH]
      rw[<-hsz]
      omega
    · rw[lE,<-htake,C9]
      exact FN (by omega) (by simp;rw[hsz];exact hmul2)
    · rw[hflat]
      have hext:=jF (blk':=.rowx (xs.set i (dW xs[i] j py.cells)) T sz') hE hle'
      exact rU (hrel.imp fun _ _=>C.rel_mono hext (Ext.refl _)) (hcells.imp fun _ _=>C.rel_mono hext (Ext.refl _))
 |_=>exact hv.elim
theorem kH (w:World) (o:Obj):∀k,k<w.heap.size->(w.alloc o).heap[k]? = w.heap[k]?:=fun k hk=>RowKit.Below.heap_alloc w o k hk
theorem iW (w:World) (o:Obj):w.heap.size<=(w.alloc o).heap.size:=by simp
theorem a6L (hr:Rel X E ro w) {t:TypeId} {i:TypeInfo} {z:Value} (ho:o.op=.alloc t) (hi:P.info? t=some i) (hz:i.zero=some z) (hv:vE fr (hp E) R (.al z t)):gI P o a w X E ro R:=by
 intro next Q hK
 simp only[vE] at hv
 unfold Oper.wp
 have hrun:(execOp a.eval o).run P w=.ok (.value (.pointer (some ⟨w.heap.size,0,none⟩))) (w.alloc (.cells z.cells t)):=by
  simp[execOp,ho,Instr.alloc,zeroValue,typeInfo,hi,hz,newVar,newRow]
 rw[hrun,Oper.upon_value]
 let g:Gb:=⟨some w.heap.size,false,0,0,t,z.cells.toList⟩
 rw[fX] at hv
 refine hK (.va (.c1 (.pt E.length 0))) _ (E++[(g,.cells (z.cells.toList.map C.vl) t)]) ro _ (by rw[lJ];exact hv) ⟨g,w.heap.size,by simp[gm],rfl,rfl,rfl⟩ (eS _) (Ext.refl _) (hr.new (g:=g) (blk:=.cells (z.cells.toList.map C.vl) t) (kH w _) (iW w _) rfl rfl rfl (.inr rfl) ⟨rfl,w.heap.size,rfl,?_,uQ _⟩)
 rw[heap_alloc_new]
theorem NB {α:Type} {sz:Nat}:∀{xs:List (List α)},(∀x∈xs,x.length=sz)->xs.flatten.length=xs.length*sz
 |[],_=>by simp
 |x::xs,h=>by
  rw[fA,bW,NB fun y hy=>h y (eD _ hy),h x (by simp),bP,jU,Nat.add_comm]
theorem NM {α:Type} {sz:Nat}:∀{xs:List (List α)},(∀x∈xs,x.length=sz)->∀{i j:Nat},j<sz->xs.flatten[i*sz+j]? = (xs[i]?).bind (·[j]?)
 |[],_,i,j,_=>by simp
 |x::xs,h,0,j,hj=>by
  have:=h x (by simp)
  rw[fA,aDF,gJ,lY (by omega)];rfl
 |x::xs,h,i+1,j,hj=>by
  have hx:=h x (by simp)
  rw[fA,jU,List.getElem?_append_right (by omega),show i*sz+sz+j-x.length=i*sz+j by omega,NM (fun y hy=>h y (eD _ hy)) hj]
  rfl
theorem aBH (z:Array Value) (n:Nat):(madeCells z (n*z.size)).toList=(List.replicate n z.toList).flatten:=by
 refine iF fun j=>?_
 have hz:∀x∈List.replicate n z.toList,x.length=z.size:=fun x hx=>by rw[aDI hx];simp
 by_cases hj:j<n*z.size
 · have hpos:0<z.size:=by
    rcases gK z.size with h|h
    · rw[h] at hj;omega
    · exact h
   have hi:j / z.size<n:=(Nat.div_lt_iff_lt_mul hpos).2 hj
   have hm:=Nat.mod_lt j hpos
   have h1:=NM hz (i:=j / z.size) (j:=j % z.size) hm
   rw[Nat.mul_comm,Nat.div_add_mod] at h1
   rw[h1]
   simp[madeCells,hj,hi,hm]
 · rw[iE (by simp[madeCells];omega),iE (by rw[NB hz,aDJ];omega)]
theorem Rel.aside {X:Ctx} {E:Es} {ro:RO} {w w':World} (h:Rel X E ro w) (hk:∀b:Nat,b<w.heap.size->w'.heap[b]? = w.heap[b]?) (hz:w.heap.size<=w'.heap.size) (e1:w'.os=w.os) (e2:w'.tape=w.tape) (e3:w'.output=w.output):Rel X E ro w' where
 own:=fun n g blk hn=>by
  by_cases hl:blk.live=true
  · exact (h.own n g blk hn).same (.refl _) (.refl _) fun b hb=>hk b ((h.own n g blk hn).lt hl hb)
  · cases blk<;>simp[B.live] at hl;trivial
 inj:=h.inj
 apart:=h.apart
 rd:=fun b off v hv=>by
  have h1:=h.rd b off v hv
  have h2:=h.cell_lt hv
  unfold World.cell? at h1 ⊢
  rw[hk b h2];exact h1
 ro0:=h.ro0
 rob:=h.rob
 par:=h.par
 gx:=h.gx
 sz:=dM h.sz hz
 keep:=fun b hb hp=>by rw[hk b (C8 hb h.sz)];exact h.keep b hb hp
 os:=e1.trans h.os
 tape:=e2.trans h.tape
 output:=e3.trans h.output
theorem a7D (hf:FRel N (gm E) ro fr a) (hr:Rel X E ro w) {t e:TypeId} {i:TypeInfo} {z:Value} {x y:Operand} (ho:o.op=.makeSlice t x y) (ht:P.underlying t=some (.slice e)) (hi:P.info? e=some i) (hz:i.zero=some z) (hzs:z.cells.size=i.size) (hsz:0<i.size)
 (hv:vE fr (hp E) R (.mk e i.size i.bytes z.cells.toList (aT x) (aT y))):gI P o a w X E ro R:=by
 intro next Q hK
 have h1:=bC hf x;have h2:=bC hf y
 simp only[vE] at hv
 split at hv
 case h_2=>exact hv.elim
 rename_i kx k ky m hx hy
 rw[hx] at h1;rw[hy] at h2
 have h1':a.eval x=.int kx k:=h1
 have h2':a.eval y=.int ky m:=h2
 obtain ⟨⟨rfl,c0,c1,c2⟩,hv0,hv1⟩:=hv
 obtain ⟨n,rfl⟩:=Int.eq_ofNat_of_zero_le c0
 have hrun0:=run_make (P:=P) w t e i z ht hi hz kx ky n n (by omega) (Int.le_refl _) (by rw[Int.mul_comm];omega) (by omega)
 simp only[cP] at hrun0
 have hrun:(execOp a.eval o).run P w=.ok (.value (.slice (some ⟨w.heap.size,0,none⟩) n n)) (w.alloc (.cells (madeCells z.cells (n*i.size)) e)):=by
  simp[execOp,ho,h1',h2',hrun0]
 unfold Oper.wp
 rw[hrun,Oper.upon_value]
 rcases gK n with h0|hpos
 · subst h0
   refine hK _ _ E ro _ (hv0 rfl) ?_ (GExt.refl _) (Ext.refl _) (hr.aside (fun b hb=>kH w _ b hb) (iW w _) rfl rfl rfl)
   exact FzR.mk (ro:=ro) [] 1 none (some ⟨w.heap.size,0,none⟩) (fun h=>absurd rfl h) 0 (fun _=>undef) (by simp) (by simp) (by simp) (by simp) (by simp) (by simp) (by simp)
 · have hv1:=hv1 (by omega)
   rw[fX,cP] at hv1
   let g:Gb:=⟨some w.heap.size,true,n,n,e,(madeCells z.cells (n*i.size)).toList⟩
   have hfl:(madeCells z.cells (n*i.size)).toList=(List.replicate n z.cells.toList).flatten:=by rw[<-hzs];exact aBH z.cells n
   have hfx:(List.replicate n (z.cells.toList.map C.vl)).flatten=((List.replicate n z.cells.toList).flatten).map C.vl:=by
    rw[List.map_flatten,List.map_replicate]
   refine hK (.va (.c1 (.sl E.length n))) _ (E++[(g,.row (List.replicate n (z.cells.toList.map C.vl)) e i.size)]) ro _ (by rw[lJ];exact hv1) ⟨g,by simp[gm],rfl,bE _,⟨_,_,_,rfl⟩,fun _=>rfl⟩ (eS _) (Ext.refl _)
    (hr.new (g:=g) (blk:=.row (List.replicate n (z.cells.toList.map C.vl)) e i.size) (kH w _) (iW w _) rfl rfl rfl (.inr rfl) ⟨rfl,by simp[g],fun r hr=>?_,fun c hc=>?_,?_,?_,fun _ _=>hpos⟩)
   · rw[aDI hr];simpa using hzs
   · rw[hfx] at hc
     obtain ⟨v,_,rfl⟩:=dO.1 hc
     rfl
   · have:=World.ownsRow_lit (base:=0) (e:=e) w (madeCells z.cells (n*i.size)) n (aP _) (by unfold maxLen;omega) (size_madeCells _ _)
     rw[aDJ]
     exact this
   · rw[hfx]
     show All2 (C.fv ro) _ (madeCells z.cells (n*i.size)).toList
     rw[hfl]
     refine ⟨by simp,fun k c v h1 h2=>?_⟩
     rw[b9,h2] at h1
     simp at h1;subst h1;rfl
theorem bAL (hf:FRel N (gm E) ro fr a) (hr:Rel X E ro w) {t:TypeId} {x:Operand} (ho:o.op=.box t x) (hv:vE fr (hp E) R (.bx t (aT x))):gI P o a w X E ro R:=by
 intro next Q hK
 have h1:=bC hf x
 simp only[vE] at hv
 split at hv
 case h_2=>exact hv.elim
 rename_i y hy
 rw[hy] at h1
 have h1':y.rel (gm E) ro (a.eval x):=h1
 obtain ⟨hok,hv⟩:=hv
 have hc:=A.cells_rel h1' hok
 unfold Oper.wp
 have hrun:(execOp a.eval o).run P w=.ok (.value (.pointer (some ⟨w.heap.size,0,none⟩))) (w.alloc (.cells (a.eval x).cells t)):=by
  simp[execOp,ho,Instr.box,newVar,newRow]
 rw[hrun,Oper.upon_value]
 let g:Gb:=⟨some w.heap.size,false,0,0,t,(a.eval x).cells.toList⟩
 rw[fX] at hv
 refine hK (.va (.c1 (.pt E.length 0))) _ (E++[(g,.cells y.cells t)]) ro _ (by rw[lJ];exact hv) ⟨g,w.heap.size,by simp[gm],rfl,rfl,rfl⟩ (eS _) (Ext.refl _) (hr.new (g:=g) (blk:=.cells y.cells t) (kH w _) (iW w _) rfl rfl rfl (.inr rfl) ⟨rfl,w.heap.size,rfl,?_,hc.imp fun _ _=>C.rel_mono (eS _) (Ext.refl _)⟩)
 rw[heap_alloc_new]
theorem C1 (hf:FRel N (gm E) ro fr a):∀{xs:List Operand} {l:List (List C)},rows fr (xs.map aT)=some l->H3 fr (xs.map aT)->l.length=xs.length/\∀(j:Nat) (x:Operand) (y:List C),xs[j]? = some x->l[j]? = some y->All2 (C.rel (gm E) ro) y (a.eval x).cells.toList
 |[],l,h,_=>by simp[rows] at h;subst h;exact ⟨rfl,fun j x y hx=>by simp at hx⟩
 |x::xs,l,h,hok=>by
  simp only[gC,rows] at h
  simp only[gC,H3] at hok
  have h1:=bC hf x
  split at h
  · rename_i y r hy hrs
    simp only[aM] at h
    subst h
    rw[hy] at h1 hok
    have h1':y.rel (gm E) ro (a.eval x):=h1
    obtain ⟨hl,hg⟩:=C1 hf hrs hok.2
    refine ⟨by simp[hl],fun j x' y' hx hy'=>?_⟩
    cases j with
    |zero=>
     simp only[oS,aM] at hx hy'
     subst hx;subst hy'
     exact A.cells_rel h1' hok.1
    |succ j=>exact hg j x' y' (by simpa using hx) (by simpa using hy')
  · cases h
theorem A3 {sz:Nat}:∀(vs:List Value) (rs:List (List Value)) (k:Nat) (pre rest:List Value),vs.length=rs.length->pre.length=k*sz->rest.length=rs.length*sz->(∀r∈rs,r.length=sz)->
 (∀(j:Nat) (v:Value) (r:List Value),vs[j]? = some v->rs[j]? = some r->v.cells=r.toArray)->
 Instr.fill (fun i=>some (i*sz,sz)) (pre++rest).toArray ((List.range' k vs.length).zip vs)=some (pre++rs.flatten).toArray
 |[],rs,k,pre,rest,hl,hp,hrl,hs,hg=>by
  have:rs=[]:=iB (by simpa using hl.symm)
  subst this
  have:rest=[]:=iB (by simpa using hrl)
  subst this
  simp[Instr.fill]
 |v::vs,[],k,pre,rest,hl,hp,hrl,hs,hg=>by simp at hl
 |v::vs,r::rs,k,pre,rest,hl,hp,hrl,hs,hg=>by
  have hr:=hs r (by simp)
  have hv:=hg 0 v r rfl rfl
  simp only[bP,jU] at hrl
  have ih:=A3 (sz:=sz) vs rs (k+1) (pre++r) (rest.drop sz) (by simpa using hl) (by simp[hp,hr,jU]) (by simp;omega) (fun y hy=>hs y (by simp[hy]))
   (fun j v' r' h1 h2=>hg (j+1) v' r' (by simpa using h1) (by simpa using h2))
  simp only[bP,List.range'_succ,List.zip_cons_cons,Instr.fill,hv]
  rw[if_neg (by simp[hr];omega)]
  have hfs:=TQ (k*sz) r 0 (pre++rest) (by simp[hr];omega)
  simp only[E5,hr] at hfs
  rw[<-aDB,aDC,C9,hfs]
  have e1:(pre++rest).take (k*sz)=pre:=by rw[aDG (by omega),sE (by omega)]
  have e2:(pre++rest).drop (k*sz+sz)=rest.drop sz:=by rw[JT,UA (by omega),hp];simp
  rw[e1,e2,ih]
  simp
theorem vG {R:C->Value->Prop}:∀(l:List (List C)) (rs:List (List Value)),l.length=rs.length->(∀(j:Nat) (y:List C) (r:List Value),l[j]? = some y->rs[j]? = some r->All2 R y r)->All2 R l.flatten rs.flatten
 |[],rs,h,_=>by have:rs=[]:=iB (by simpa using h.symm);subst this;exact .nil
 |y::l,[],h,_=>by simp at h
 |y::l,r::rs,h,hg=>by
  simp only[fA]
  exact (hg 0 y r rfl rfl).app (vG l rs (by simpa using h) fun j y' r' h1 h2=>hg (j+1) y' r' (by simpa using h1) (by simpa using h2))
theorem a19 (hf:FRel N (gm E) ro fr a) (hr:Rel X E ro w) {t e:TypeId} {len:Nat} {parts:Array (Nat×Operand)} {i:TypeInfo} {z:Value} (ho:o.op=.buildSlice t len parts) (ht:P.underlying t=some (.slice e))
 (hi:P.info? e=some i) (hz:i.zero=some z) (hzs:z.cells.size=i.size) (hsz:0<i.size) (hb:len*i.size<=16777216) (hl0:0<len) (hlm:len<=maxLen) (hp':parts.toList.map (·.1)=List.range len)
 (hv:vE fr (hp E) R (.bsl e i.size (parts.toList.map fun p=>aT p.2))):gI P o a w X E ro R:=by
 intro next Q hK
 simp only[vE] at hv
 split at hv
 case h_2=>exact hv.elim
 rename_i l hl
 obtain ⟨⟨hok,hlen,hsh⟩,hv⟩:=hv
 have hmap:(parts.toList.map fun p=>aT p.2)=((parts.toList.map (·.2)).map aT):=by simp
 rw[hmap] at hl hok
 obtain ⟨hll,hg⟩:=C1 hf hl hok
 have hpl:parts.toList.length=len:=by have:=congrArg List.length hp';simpa using this
 have hll':l.length=len:=by rw[hll];simpa using hpl
 let rs:List (List Value):=parts.toList.map fun p=>(a.eval p.2).cells.toList
 have hrsl:rs.length=len:=by simpa[rs] using hpl
 have hall:∀(j:Nat) (y:List C) (r:List Value),l[j]? = some y->rs[j]? = some r->All2 (C.rel (gm E) ro) y r:=by
  intro j y r h1 h2
  simp only[rs,b9] at h2
  cases hpj:parts.toList[j]? with
  |none=>simp[hpj] at h2
  |some p=>simp only[hpj,cQ,aM] at h2;subst h2;exact hg j p.2 y (by simp[hpj]) h1
 have hrs:∀r∈rs,r.length=i.size:=by
  intro r hr
  obtain ⟨j,hj⟩:=eN.1 hr
  have hjl:j<l.length:=by rw[hll',<-hrsl];exact (bT.1 hj).1
  have:=(hall j _ r (aX hjl) hj).1
  rw[<-this];exact hlen _ (eM hjl)
 have hflr:rs.flatten.length=len*i.size:=by
  have:∀(q:List (List Value)),(∀r∈q,r.length=i.size)->q.flatten.length=q.length*i.size:=by
   intro q
   induction q with
   |nil=>intro _;simp
   |cons r q ih=>
    intro h
    have h1:=ih (fun y hy=>h y (by simp[hy]))
    rw[fA,bW,h1,h r (by simp),bP,jU];omega
  rw[this rs hrs,hrsl]
 have hzip:(parts.map fun (x:Nat×Operand)=>(x.1,a.eval x.2)).toList=(List.range' 0 (parts.toList.map fun p=>a.eval p.2).length).zip (parts.toList.map fun p=>a.eval p.2):=by
  rw[<-aDK,cE,hpl,<-hp']
  simp[aDL]
 have hfill:=A3 (sz:=i.size) (parts.toList.map fun p=>a.eval p.2) rs 0 [] ((Array.range (len*i.size)).map (fun j=>z.cells[j % z.cells.size]!)).toList (by simp[rs]) (by simp) (by simp[hrsl]) hrs
  (fun j v r h1 h2=>by
    simp only[rs,b9] at h1 h2
    cases hpj:parts.toList[j]? with
    |none=>simp[hpj] at h1
    |some p=>
     simp only[hpj,cQ,aM] at h1 h2
     subst h1;subst h2
     simp)
 simp only[jT,eL] at hfill
 rw[<-hzip] at hfill
 unfold Oper.wp
 have hrun:(execOp a.eval o).run P w=.ok (.value (.slice (some ⟨w.heap.size,0,none⟩) len len)) (w.alloc (.cells rs.flatten.toArray e)):=by
  have h1:¬ (len*i.size > 2 ^ 24):=by omega
  have h2:¬ (len*i.size=0):=by have:=aDM hl0 hsz;omega
  simp only[execOp,ho,Instr.buildSlice]
  simp only[Sem.run_bind,underlying,run_program,Result.andThen_ok,ht,Sem.run_pure,sizeOf,typeInfo,hi,zeroValue,hz,h1,h2,if_false]
  rw[hfill]
  simp[newRow]
 rw[hrun,Oper.upon_value]
 let g:Gb:=⟨some w.heap.size,true,len,len,e,rs.flatten⟩
 rw[fX] at hv
 have hflat:=vG l rs (by rw[hll',hrsl]) hall
 have hshf:∀c∈l.flatten,c.shut=true:=fun c hc=>by
  obtain ⟨r,h1,h2⟩:=w8.1 hc
  exact (hsh r h1 c h2).1
 refine hK (.va (.c1 (.sl E.length l.length))) _ (E++[(g,.row l e i.size)]) ro _ (by rw[lJ];exact hv) ⟨g,by simp[gm],rfl,by rw[hll'];exact bE _,⟨_,_,_,rfl⟩,fun _=>by rw[hll'];rfl⟩ (eS _) (Ext.refl _)
  (hr.new (g:=g) (blk:=.row l e i.size) (kH w _) (iW w _) rfl rfl rfl (.inr rfl) ⟨rfl,hll'.symm,hlen,hshf,⟨by rw[hflr,hll'],.inr ⟨w.heap.size,len,_,by rw[hll'];rfl,aP _,heap_alloc_new w _,by rw[hll'];exact bE _,hlm,?_,?_⟩⟩,?_,fun _ _=>hl0⟩)
 · rw[uD,hflr]
 · rw[C9,sE (by rw[hflr,hll'];exact bE _)]
 · exact ⟨hflat.1,fun k c u h1 h2=>(C.rel_shut (hshf c (cC h1))).1 (hflat.2 k c u h1 h2)⟩
theorem aQX (hf:FRel N (gm E) ro fr a) (hr:Rel X E ro w) {t e:TypeId} {len:Nat} {parts:Array (Nat×Operand)} {i:TypeInfo} {z:Value} (ho:o.op=.buildSlice t len parts) (ht:P.underlying t=some (.slice e))
 (hi:P.info? e=some i) (hz:i.zero=some z) (hzs:z.cells.size=i.size) (hsz:0<i.size) (hb:len*i.size<=16777216) (hl0:0<len) (hlm:len<=maxLen) (hp':parts.toList.map (·.1)=List.range len)
 (hv:vE fr (hp E) R (.bslx e i.size (parts.toList.map fun p=>aT p.2))):gI P o a w X E ro R:=by
 intro next Q hK
 simp only[vE] at hv
 split at hv
 case h_2=>exact hv.elim
 rename_i l hl
 obtain ⟨⟨hok,hlen⟩,hv⟩:=hv
 have hmap:(parts.toList.map fun p=>aT p.2)=((parts.toList.map (·.2)).map aT):=by simp
 rw[hmap] at hl hok
 obtain ⟨hll,hg⟩:=C1 hf hl hok
 have hpl:parts.toList.length=len:=by have:=congrArg List.length hp';simpa using this
 have hll':l.length=len:=by rw[hll];simpa using hpl
 let rs:List (List Value):=parts.toList.map fun p=>(a.eval p.2).cells.toList
 have hrsl:rs.length=len:=by simpa[rs] using hpl
 have hall:∀(j:Nat) (y:List C) (r:List Value),l[j]? = some y->rs[j]? = some r->All2 (C.rel (gm E) ro) y r:=by
  intro j y r h1 h2
  simp only[rs,b9] at h2
  cases hpj:parts.toList[j]? with
  |none=>simp[hpj] at h2
  |some p=>simp only[hpj,cQ,aM] at h2;subst h2;exact hg j p.2 y (by simp[hpj]) h1
 have hrs:∀r∈rs,r.length=i.size:=by
  intro r hr
  obtain ⟨j,hj⟩:=eN.1 hr
  have hjl:j<l.length:=by rw[hll',<-hrsl];exact (bT.1 hj).1
  have:=(hall j _ r (aX hjl) hj).1
  rw[<-this];exact hlen _ (eM hjl)
 have hflr:rs.flatten.length=len*i.size:=by
  have:∀(q:List (List Value)),(∀r∈q,r.length=i.size)->q.flatten.length=q.length*i.size:=by
   intro q
   induction q with
   |nil=>intro _;simp
   |cons r q ih=>
    intro h
    have h1:=ih (fun y hy=>h y (by simp[hy]))
    rw[fA,bW,h1,h r (by simp),bP,jU];omega
  rw[this rs hrs,hrsl]
 have hzip:(parts.map fun (x:Nat×Operand)=>(x.1,a.eval x.2)).toList=(List.range' 0 (parts.toList.map fun p=>a.eval p.2).length).zip (parts.toList.map fun p=>a.eval p.2):=by
  rw[<-aDK,cE,hpl,<-hp']
  simp[aDL]
 have hfill:=A3 (sz:=i.size) (parts.toList.map fun p=>a.eval p.2) rs 0 [] ((Array.range (len*i.size)).map (fun j=>z.cells[j % z.cells.size]!)).toList (by simp[rs]) (by simp) (by simp[hrsl]) hrs
  (fun j v r h1 h2=>by
    simp only[rs,b9] at h1 h2
    cases hpj:parts.toList[j]? with
    |none=>simp[hpj] at h1
    |some p=>
     simp only[hpj,cQ,aM] at h1 h2
     subst h1;subst h2
     simp)
 simp only[jT,eL] at hfill
 rw[<-hzip] at hfill
 unfold Oper.wp
 have hrun:(execOp a.eval o).run P w=.ok (.value (.slice (some ⟨w.heap.size,0,none⟩) len len)) (w.alloc (.cells rs.flatten.toArray e)):=by
  have h1:¬ (len*i.size > 2 ^ 24):=by omega
  have h2:¬ (len*i.size=0):=by have:=aDM hl0 hsz;omega
  simp only[execOp,ho,Instr.buildSlice]
  simp only[Sem.run_bind,underlying,run_program,Result.andThen_ok,ht,Sem.run_pure,sizeOf,typeInfo,hi,zeroValue,hz,h1,h2,if_false]
  rw[hfill]
  simp[newRow]
 rw[hrun,Oper.upon_value]
 let g:Gb:=⟨some w.heap.size,true,len,len,e,rs.flatten⟩
 rw[fX] at hv
 have hflat:=vG l rs (by rw[hll',hrsl]) hall
 refine hK (.va (.c1 (.sl E.length l.length))) _ (E++[(g,.rowx l e i.size)]) ro _ (by rw[lJ];exact hv) ⟨g,by simp[gm],rfl,by rw[hll'];exact bE _,⟨_,_,_,rfl⟩,fun _=>by rw[hll'];rfl⟩ (eS _) (Ext.refl _)
  (hr.new (g:=g) (blk:=.rowx l e i.size) (kH w _) (iW w _) rfl rfl rfl (.inr rfl) ⟨rfl,hll'.symm,hlen,⟨by rw[hflr,hll'],.inr ⟨w.heap.size,len,_,by rw[hll'];rfl,aP _,heap_alloc_new w _,by rw[hll'];exact bE _,hlm,?_,?_⟩⟩,?_,fun _ _=>hl0⟩)
 · rw[uD,hflr]
 · rw[C9,sE (by rw[hflr,hll'];exact bE _)]
 · exact hflat.imp fun _ _=>C.rel_mono (eS _) (Ext.refl _)
theorem JA {t ty e:TypeId} {i:TypeInfo} {z:Value} (ht:P.underlying t=some (.slice e)) (hi:P.info? e=some i) (hz:i.zero=some z) (hzs:z.cells.size=i.size) (hsz:0<i.size)
 {ob:Option Nat} {n cap:Nat} {xs:List Value} (hown:w.ownsRow 0 e i.size (.slice (bX ob 0) n cap) n xs) {ad:Addr} {m c:Nat} {news:List Value} (hl:news.length=m*i.size)
 (hnews:∀j u,news[j]? = some u->w.cell? (ad.add j)=some u) (h1:∀u∈news,u.oneCell'=true) (hby:0<i.bytes) (hbytes:(n+m)*i.bytes<=140737488355328) :
 ∃ob' cap' w',(Builtin.append_ #[t,t] ty #[.slice (bX ob 0) n cap,.slice (some ad) m c]).run P w=.ok (.slice (bX ob' 0) (n+m) cap') w'/\
  w'.ownsRow 0 e i.size (.slice (bX ob' 0) (n+m) cap') (n+m) (xs++news)/\w.heap.size<=w'.heap.size/\w'.os=w.os/\w'.tape=w.tape/\w'.output=w.output/\
  ((ob'=ob/\∀k,some k≠ob->w'.heap[k]? = w.heap[k]?)\/(ob'=some w.heap.size/\∀k,k<w.heap.size->w'.heap[k]? = w.heap[k]?))/\n+m<=cap'/\(m=0->ob'=ob/\cap'=cap):=by
 have hsm:n+m<=140737488355328:=dM (Nat.le_mul_of_pos_right _ hby) hbytes
 have h63:n+m<=maxLen:=by unfold maxLen;omega
 have hlen:(xs++news).length=(n+m)*i.size:=by rw[bW,hown.1,hl,zC]
 have grown:∀(old:Nat),old<n+m->
  (w.drew.alloc (.cells (xs.toArray++news.toArray++Builtin.zeroCells z.cells (grownCap w (n+m) old e-(n+m))) e)).ownsRow 0 e i.size
    (.slice (bX (some w.heap.size) 0) (n+m) (grownCap w (n+m) old e)) (n+m) (xs++news):=by
  intro old ho
  have hge:=grownCap_ge w (n+m) old e
  have hcm:grownCap w (n+m) old e<=maxLen:=grownCap_le_maxLen w (n+m) old e h63
  refine ⟨hlen,.inr ⟨w.heap.size,_,_,rfl,aP _,heap_alloc_new w.drew _,hge,hcm,?_,?_⟩⟩
  · simp only[aDN,uD,size_zeroCells,hzs,hown.1,hl,<-zC]
    congr 1
    omega
  · simp only[aDO,gV]
    rw[<-gV,<-hlen]
    exact JS
 have hold:∀(o:Obj) (k:Nat),k<w.heap.size->(w.drew.alloc o).heap[k]? = w.heap[k]?:=fun o k hk=>RowKit.Below.heap_alloc w.drew o k hk
 rcases hown.2 with ⟨hv,hn⟩|⟨g,cap0,cur,hv,hbg,hg,hnc,hcm,hcs,htake⟩
 · simp only[Value.slice.injEq] at hv
   obtain ⟨hob,hn0,hc0⟩:=hv
   have hobn:ob=none:=by cases ob<;>simp[bX] at hob;rfl
   subst hobn hn0 hc0
   have hx:xs=[]:=iB (by simpa using hown.1)
   subst hx
   by_cases hm:m=0
   · subst hm
     have hn':news=[]:=iB (by simpa using hl)
     subst hn'
     refine ⟨none,0,w,?_,World.ownsRow_nil w 0 e i.size,bE _,rfl,rfl,rfl,.inl ⟨rfl,fun _ _=>rfl⟩,bE _,fun _=>⟨rfl,rfl⟩⟩
     simp[Builtin.append_,run_underlying ht,sizeOf,typeInfo,hi,Builtin.lenOf,Builtin.firstCells,loadCells,loadCellsFrom,bX]
   · have hr:=run_append_nil (P:=P) w t ty e i z ht hi hz ad m c news hl hnews (by omega) (by omega) (by have hb:=hbytes;simp only[gJ] at hb;omega)
     have hgr:=grown 0 (by omega)
     simp only[gJ,jT,aDP] at hgr ⊢
     refine ⟨some w.heap.size,_,_,hr,hgr,by simp,rfl,rfl,rfl,.inr ⟨rfl,fun k hk=>hold _ k hk⟩,grownCap_ge w m 0 e,fun h=>absurd h hm⟩
 · simp only[Value.slice.injEq,true_and] at hv
   obtain ⟨hob,rfl⟩:=hv
   have hobg:ob=some g:=by cases ob<;>simp[bX] at hob;rw[hob]
   subst hobg
   by_cases hroom:n+m<=cap
   · have hfit:n*i.size+news.length<=cur.size:=by rw[hl,hcs,<-zC];exact gD _ hroom
     have hr:=run_append_room (P:=P) w t ty e i ht hi g n cap cur hg ad m c news hl hnews h1 hroom hfit
     refine ⟨some g,cap,_,hr,⟨hlen,.inr ⟨g,cap,_,rfl,hbg,setRow_heap w g cur _ e _ hg,hroom,hcm,?_,?_⟩⟩,by simp,rfl,rfl,rfl,.inl ⟨rfl,fun k hk=>setRow_other w g k _ (fun e=>hk (by rw[e]))⟩,hroom,fun _=>⟨rfl,rfl⟩⟩
     · simp only[uD,bW,eJ,qP,uH]
       omega
     · rw[htake,<-hlen]
       exact JS
   · have holds:∀j u,xs[j]? = some u->w.cell? ((⟨g,0,none⟩:Addr).add j)=some u:=hown.cells (g:=g) rfl
     have hr:=run_append_grow (P:=P) w t ty e i z ht hi hz ⟨g,0,none⟩ n cap xs hown.1 holds ad m c news hl hnews (by omega) (by omega) (growslice_fits (by omega) hbytes)
     have hgr:=grown cap (by omega)
     exact ⟨some w.heap.size,_,_,hr,hgr,by simp,rfl,rfl,rfl,.inr ⟨rfl,fun k hk=>hold _ k hk⟩,grownCap_ge w (n+m) cap e,fun h=>absurd hnc (by omega)⟩
theorem xA {t u ty e:TypeId} {i:TypeInfo} (ht:P.underlying t=some (.slice e)) (hu:P.underlying u=some .string) (hi:P.info? e=some i) (hz:i.zero=some (.int .u8 0)) (hs1:i.size=1) (hb1:i.bytes=1)
 {ob:Option Nat} {n cap:Nat} {xs:List Value} (hown:w.ownsRow 0 e 1 (.slice (bX ob 0) n cap) n xs) (s:ByteArray) (hm:s.size≠0) (hbytes:n+s.size<=140737488355328) :
 ∃ob' cap' w',(Builtin.append_ #[t,u] ty #[.slice (bX ob 0) n cap,.string s]).run P w=.ok (.slice (bX ob' 0) (n+s.size) cap') w'/\
  w'.ownsRow 0 e 1 (.slice (bX ob' 0) (n+s.size) cap') (n+s.size) (xs++Lib.strCells s)/\w.heap.size<=w'.heap.size/\w'.os=w.os/\w'.tape=w.tape/\w'.output=w.output/\
  ((ob'=ob/\∀k,some k≠ob->w'.heap[k]? = w.heap[k]?)\/(ob'=some w.heap.size/\∀k,k<w.heap.size->w'.heap[k]? = w.heap[k]?))/\n+s.size<=cap':=by
 have h63:n+s.size<=maxLen:=by unfold maxLen;omega
 have hxl:xs.length=n:=by simpa using hown.1
 have hlen:(xs++Lib.strCells s).length=(n+s.size)*1:=by rw[bW,hxl,Lib.strCells_length,T6]
 have grown:∀(old:Nat),old<n+s.size->
  (w.drew.alloc (.cells (xs.toArray++(Lib.strCells s).toArray++Builtin.zeroCells (Value.int .u8 0).cells (grownCap w (n+s.size) old e-(n+s.size))) e)).ownsRow 0 e 1
    (.slice (bX (some w.heap.size) 0) (n+s.size) (grownCap w (n+s.size) old e)) (n+s.size) (xs++Lib.strCells s):=by
  intro old ho
  have hge:=grownCap_ge w (n+s.size) old e
  have hcm:grownCap w (n+s.size) old e<=maxLen:=grownCap_le_maxLen w (n+s.size) old e h63
  refine ⟨hlen,.inr ⟨w.heap.size,_,_,rfl,aP _,heap_alloc_new w.drew _,hge,hcm,?_,?_⟩⟩
  · have hz1:(Value.int IntKind.u8 0).cells.size=1:=rfl
    simp only[aDN,uD,size_zeroCells,hz1,hxl,Lib.strCells_length]
    omega
  · simp only[aDO,gV]
    rw[<-gV,<-hlen]
    exact JS
 have hold:∀(o:Obj) (k:Nat),k<w.heap.size->(w.drew.alloc o).heap[k]? = w.heap[k]?:=fun o k hk=>RowKit.Below.heap_alloc w.drew o k hk
 rcases hown.2 with ⟨hv,hn⟩|⟨g,cap0,cur,hv,hbg,hg,hnc,hcm,hcs,htake⟩
 · simp only[Value.slice.injEq] at hv
   obtain ⟨hob,hn0,hc0⟩:=hv
   have hobn:ob=none:=by cases ob<;>simp[bX] at hob;rfl
   subst hobn hn0 hc0
   have hx:xs=[]:=iB hxl
   subst hx
   have hr:=run_append_nil_string (P:=P) w t u ty e i (.int .u8 0) ht hu hi hz s (by omega) (by omega) (by rw[hb1];omega)
   have hgr:=grown 0 (by omega)
   simp only[gJ,jT,aDP] at hgr ⊢
   have e1:(s.data.map fun b=>Value.int .u8 b.toNat)=(Lib.strCells s).toArray:=by
    apply Array.ext'
    simp[Lib.strCells]
   rw[e1] at hr
   exact ⟨some w.heap.size,_,_,hr,hgr,by simp,rfl,rfl,rfl,.inr ⟨rfl,fun k hk=>hold _ k hk⟩,grownCap_ge w s.size 0 e⟩
 · simp only[Value.slice.injEq,true_and] at hv
   obtain ⟨hob,rfl⟩:=hv
   have hobg:ob=some g:=by cases ob<;>simp[bX] at hob;rw[hob]
   subst hobg
   by_cases hroom:n+s.size<=cap
   · have hcs':cur.size=cap:=by simpa using hcs
     have hr:=Lib.run_append_room_string (P:=P) w t u ty e i ht hu hi hs1 g n cap cur hg s hroom (by omega)
     refine ⟨some g,cap,_,hr,⟨hlen,.inr ⟨g,cap,_,rfl,hbg,setRow_heap w g cur _ e _ hg,hroom,hcm,?_,?_⟩⟩,by simp,rfl,rfl,rfl,.inl ⟨rfl,fun k hk=>setRow_other w g k _ (fun e=>hk (by rw[e]))⟩,hroom⟩
     · simp only[uD,bW,eJ,qP,uH,Lib.strCells_length]
       omega
     · have ht':cur.toList.take n=xs:=by simpa using htake
       rw[ht',<-hlen]
       exact JS
   · have holds:∀j u,xs[j]? = some u->w.cell? ((⟨g,0,none⟩:Addr).add j)=some u:=hown.cells (g:=g) rfl
     have hr:=Lib.run_append_grow_string (P:=P) w t u ty e i (.int .u8 0) ht hu hi hz ⟨g,0,none⟩ n cap xs (by rw[hs1];simpa using hxl) holds s (by omega) (by omega) (by rw[hb1];exact growslice_fits (by omega) (by omega))
     have hgr:=grown cap (by omega)
     exact ⟨some w.heap.size,_,_,hr,hgr,by simp,rfl,rfl,rfl,.inr ⟨rfl,fun k hk=>hold _ k hk⟩,grownCap_ge w (n+s.size) cap e⟩
theorem xE {t u ty e:TypeId} {i:TypeInfo} (ht:P.underlying t=some (.slice e)) (hu:P.underlying u=some .string) (hi:P.info? e=some i) {base:Option Addr} {n cap:Nat} (hn:n<=cap) (s:ByteArray) (hm:s.size=0) :
 (Builtin.append_ #[t,u] ty #[.slice base n cap,.string s]).run P w=.ok (.slice base n cap) w:=by
 have hf:=Lib.run_firstCells_string (P:=P) w i.size s
 have hc:Lib.strCells s=[]:=iB (by rw[Lib.strCells_length];exact hm)
 rw[hm,hc] at hf
 cases base<;>simp[Builtin.append_,run_underlying ht,run_underlying hu,sizeOf,typeInfo,hi,Builtin.lenOf,hm,hf,hn,storeCells]
theorem HS {t ty e:TypeId} {i:TypeInfo} (ht:P.underlying t=some (.slice e)) (hi:P.info? e=some i) {base sa:Option Addr} {n cap c:Nat} (hn:n<=cap) :
 (Builtin.append_ #[t,t] ty #[.slice base n cap,.slice sa 0 c]).run P w=.ok (.slice base n cap) w:=by
 cases base<;>cases sa<;>simp[Builtin.append_,run_underlying ht,sizeOf,typeInfo,hi,Builtin.lenOf,Builtin.firstCells,loadCells,loadCellsFrom,hn,storeCells]
end
section
variable {P:Program} {o:Oper} {N:Nat} {fr:Fr} {a:Act} {E:Es} {ro:RO} {X:Ctx} {w:World} {R:S->Hp->Prop}
structure Src (P:Program) (a:Act) (ro:RO) (w:World) (t t2 ty e:TypeId) (y:Operand) (ys:List (List C)) (sz bytes:Nat) where
 news:List Value
 hl:news.length=ys.length*sz
 hz:∀r∈ys,r.length=sz
 hsh:sV ys
 hrel:All2 (C.fv ro) ys.flatten news
 zero:ys=[]->∀(base:Option Addr) (n cap:Nat),n<=cap->(Builtin.append_ #[t,t2] ty #[.slice base n cap,a.eval y]).run P w=.ok (.slice base n cap) w
 told:ys≠[]->∀(ob:Option Nat) (n cap:Nat) (xs:List Value),w.ownsRow 0 e sz (.slice (bX ob 0) n cap) n xs->(n+ys.length)*bytes<=140737488355328->
  ∃ob' cap' w',(Builtin.append_ #[t,t2] ty #[.slice (bX ob 0) n cap,a.eval y]).run P w=.ok (.slice (bX ob' 0) (n+ys.length) cap') w'/\
   w'.ownsRow 0 e sz (.slice (bX ob' 0) (n+ys.length) cap') (n+ys.length) (xs++news)/\w.heap.size<=w'.heap.size/\w'.os=w.os/\w'.tape=w.tape/\w'.output=w.output/\
   ((ob'=ob/\∀k,some k≠ob->w'.heap[k]? = w.heap[k]?)\/(ob'=some w.heap.size/\∀k,k<w.heap.size->w'.heap[k]? = w.heap[k]?))/\n+ys.length<=cap'
theorem aNR {ro:RO} {ys:List (List C)} {news:List Value} (hsh:sV ys) (hrel:All2 (C.fv ro) ys.flatten news):∀u∈news,u.oneCell'=true:=by
 intro u hu
 obtain ⟨j,hj⟩:=eN.1 hu
 obtain ⟨c,hc,hr⟩:=hrel.get' hj
 obtain ⟨r,h1,h2⟩:=w8.1 (cC hc)
 obtain ⟨h3,h4⟩:=hsh r h1 c h2
 exact C.one_rel (γ:=[]) h4 ((C.rel_shut h3).2 hr)
def Src.slice {t ty e:TypeId} {y:Operand} {i:TypeInfo} {z:Value} (ht:P.underlying t=some (.slice e)) (hi:P.info? e=some i) (hz0:i.zero=some z) (hzs:z.cells.size=i.size) (hsz:0<i.size) (hby:0<i.bytes) {ys:List (List C)}
 (sa:Option Addr) (c:Nat) (news:List Value) (hy:a.eval y=.slice sa ys.length c) (hl:news.length=ys.length*i.size) (hz:∀r∈ys,r.length=i.size) (hsh:sV ys) (hrel:All2 (C.fv ro) ys.flatten news)
 (hc:∀ad,sa=some ad->∀(j:Nat) (u:Value),news[j]? = some u->w.cell? (ad.add j)=some u) (hn:sa=none->ys=[]):Src P a ro w t t ty e y ys i.size i.bytes where
 news:=news
 hl:=hl
 hz:=hz
 hsh:=hsh
 hrel:=hrel
 zero:=fun h base n cap hle=>by
  subst h
  rw[hy]
  exact HS ht hi hle
 told:=fun h ob n cap xs hown hb=>by
  cases hsa:sa with
  |none=>exact absurd (hn hsa) h
  |some ad=>
   obtain ⟨ob',cap',w',hrun,r1,r2,r3,r4,r5,r6,r7,_⟩:=JA (w:=w) (P:=P) (ty:=ty) (c:=c) ht hi hz0 hzs hsz hown hl (hc ad hsa) (aNR hsh hrel) hby hb
   exact ⟨ob',cap',w',by rw[hy,hsa];exact hrun,r1,r2,r3,r4,r5,r6,r7⟩
theorem aGD (l:List C):(l.map fun c=>[c]).flatten=l:=by
 induction l with
 |nil=>rfl
 |cons c l ih=>simp only[gC,fA,ih];rfl
theorem aEN (l:List Value):All2 (C.fv ro) (l.map C.vl) l:=by
 refine ⟨by simp,fun i x y hx hy=>?_⟩
 rw[b9,hy] at hx
 simp at hx;subst hx;rfl
def Src.str {t u ty e:TypeId} {y:Operand} {i:TypeInfo} (ht:P.underlying t=some (.slice e)) (hu:P.underlying u=some .string) (hi:P.info? e=some i) (hz0:i.zero=some (.int .u8 0)) (hs1:i.size=1) (hb1:i.bytes=1)
 (s:ByteArray) (hy:a.eval y=.string s):Src P a ro w t u ty e y ((bl s).map fun c=>[.vl (.int .u8 c.toNat)]) 1 1 where
 news:=Lib.strCells s
 hl:=by rw[Lib.strCells_length,cE,<-jA,T6]
 hz:=fun r hr=>by
  obtain ⟨c,_,rfl⟩:=dO.1 hr
  rfl
 hsh:=fun r hr c hc=>by
  obtain ⟨d,_,rfl⟩:=dO.1 hr
  simp only[List.mem_cons,List.not_mem_nil,or_false] at hc
  subst hc
  exact ⟨rfl,rfl⟩
 hrel:=by
  have e1:((bl s).map fun c=>[C.vl (.int .u8 c.toNat)])=((Lib.strCells s).map C.vl).map fun c=>[c]:=by
   simp only[Lib.strCells,bl,fK];rfl
  rw[e1,aGD]
  exact aEN _
 zero:=fun h base n cap hle=>by
  rw[hy]
  refine xE ht hu hi hle s ?_
  rw[jA]
  have:=congrArg List.length h
  simpa using this
 told:=fun h ob n cap xs hown hb=>by
  rw[cE,<-jA] at *
  rw[hy]
  exact xA ht hu hi hz0 hs1 hb1 hown s (fun e=>h (by rw[jA] at e;rw[iB e];rfl)) (by omega)
theorem JG (hf:FRel N (gm E) ro fr a) (hr:Rel X E ro w) {t t2 e:TypeId} {x y:Operand} (ho:o.op=.call { callee:=.builtin .append,args:=#[x,y],argTypes:=#[t,t2] })
 {ys:List (List C)} {sz bytes:Nat} (s:Src P a ro w t t2 o.type e y ys sz bytes)
 (hv:vA fr (hp E) e sz bytes (aT x) ys R):gI P o a w X E ro R:=by
 intro next Q hK
 have h1:=bC hf x
 have hshf:∀c∈ys.flatten,c.shut=true:=fun c hc=>by
  obtain ⟨r,h1,h2⟩:=w8.1 hc
  exact (s.hsh r h1 c h2).1
 unfold vA at hv
 split at hv
 · rename_i hx
   obtain ⟨hb,hR⟩:=hv
   rw[hx] at h1
   have h1':a.eval x=.slice none 0 0:=h1
   rw[fX] at hR
   by_cases hm:ys=[]
   · subst hm
     have hrun:(execOp a.eval o).run P w=.ok (.value (.slice none 0 0)) w:=by
      have:=s.zero rfl none 0 0 (bE _)
      simp only[execOp,ho,resolve]
      simp[h1',invoke,builtin,this]
     unfold Oper.wp
     rw[hrun,Oper.upon_value]
     let g:Gb:=⟨none,true,0,0,e,[]⟩
     exact hK (.va (.c1 (.sl E.length 0))) _ (E++[(g,.row [] e sz)]) ro _ (by rw[lJ];exact hR) ⟨g,by simp[gm],rfl,bE _,⟨_,_,_,rfl⟩,fun _=>rfl⟩ (eS _) (Ext.refl _)
      (hr.new (g:=g) (blk:=.row [] e sz) (fun _ _=>rfl) (bE _) rfl rfl rfl (.inl rfl) ⟨rfl,rfl,by simp,by simp,World.ownsRow_nil w 0 e sz,.nil,fun b hb=>by simp[g] at hb⟩)
   · have hown:w.ownsRow 0 e sz (.slice (bX none 0) 0 0) 0 []:=World.ownsRow_nil w 0 e sz
     obtain ⟨ob',cap',w',hrun,hown',hszw,e1,e2,e3,hc,hcap⟩:=s.told hm none 0 0 [] hown (by simpa using hb)
     have hob:ob'=none\/ob'=some w.heap.size:=by rcases hc with ⟨h,_⟩|⟨h,_⟩<;>simp[h]
     have hkeep:∀k,k<w.heap.size->w'.heap[k]? = w.heap[k]?:=by
      rcases hc with ⟨_,h⟩|⟨_,h⟩
      · exact fun k _=>h k (by simp)
      · exact h
     unfold Oper.wp
     have hrun2:(execOp a.eval o).run P w=.ok (.value (.slice (bX ob' 0) ys.length cap')) w':=by
      have h3:(none:Option Addr)=bX none 0:=rfl
      simp only[gJ] at hrun
      rw[h3] at h1'
      simp only[execOp,ho,resolve,Array.map]
      simp[h1',invoke,builtin,hrun]
     rw[hrun2,Oper.upon_value]
     simp only[gJ,jT] at hown' hcap
     let g:Gb:=⟨ob',true,ys.length,cap',e,s.news⟩
     exact hK (.va (.c1 (.sl E.length ys.length))) _ (E++[(g,.row ys e sz)]) ro _ (by rw[lJ];exact hR) ⟨g,by simp[gm],rfl,bE _,⟨_,_,_,rfl⟩,fun _=>rfl⟩ (eS _) (Ext.refl _)
      (hr.new (g:=g) (blk:=.row ys e sz) hkeep hszw e1 e2 e3 hob ⟨rfl,rfl,s.hz,hshf,hown',s.hrel,fun _ _=>C8 (aCX.2 hm) hcap⟩)
 · rename_i n len hx
   rw[hx] at h1
   split at hv
   case h_2=>exact hv.elim
   rename_i xs T1 sz1 hH
   obtain ⟨⟨hxl,rfl,rfl⟩,hb,hR⟩:=hv
   obtain ⟨g,hE⟩:=dC hH
   obtain ⟨hrow,hglen,hxs1,hxsh,hown,hrel,_⟩:=hr.own n _ _ hE
   obtain ⟨g',k1,k2,k3,k4,k5⟩:=h1
   have:g'=g:=by have:=dU hE;rw[k1] at this;exact (dV this)
   subst this
   have h1':=k5 (by omega)
   have hlecap:len<=g'.cap:=by
    rcases hown.2 with ⟨hv,hn⟩|⟨b,cap0,cur,hv,_,_,hnc,_⟩
    · omega
    · simp only[Value.slice.injEq] at hv;omega
   by_cases hm:ys=[]
   · subst hm
     have hrun:(execOp a.eval o).run P w=.ok (.value (.slice (bX g'.ob 0) len g'.cap)) w:=by
      have:=s.zero rfl (bX g'.ob 0) len g'.cap hlecap
      simp only[execOp,ho,resolve]
      simp[h1',invoke,builtin,this]
     unfold Oper.wp
     rw[hrun,Oper.upon_value]
     simp only[List.append_nil,List.length_nil,E5] at hR
     have hset:(hp E).set n (.row xs T1 sz1)=hp E:=by
      apply iF
      intro j
      rw[mP]
      split
      · rename_i hj;subst hj;rw[if_pos (bT.1 hH).1,hH]
      · rfl
     rw[hset] at hR
     exact hK _ _ E ro _ hR ⟨g',k1,k2,k3,⟨_,_,_,rfl⟩,fun _=>rfl⟩ (GExt.refl _) (Ext.refl _) hr
   · rw[hxl] at hown
     have hpos:0<ys.length:=aCX.2 hm
     obtain ⟨ob',cap',w',hrun,hown',hszw,e1,e2,e3,hc,hcap⟩:=s.told hm g'.ob len g'.cap g'.vs hown hb
     unfold Oper.wp
     have hrun2:(execOp a.eval o).run P w=.ok (.value (.slice (bX ob' 0) (len+ys.length) cap')) w':=by
      simp only[execOp,ho,resolve]
      simp[h1',invoke,builtin,hrun]
     rw[hrun2,Oper.upon_value]
     let g2:Gb:=⟨ob',true,len+ys.length,cap',T1,g'.vs++s.news⟩
     have hle:g'.le g2:=⟨hrow.symm,.inr ⟨hrow,by show g'.len<len+ys.length;omega⟩⟩
     refine hK (.va (.c1 (.sl n (len+ys.length)))) _ (E.set n (g2,.row (xs++ys) T1 sz1)) ro _ (by rw[iN];exact hR) ⟨g2,?_,rfl,bE _,⟨_,_,_,rfl⟩,fun _=>rfl⟩ (jF hE hle) (Ext.refl _)
      (hr.swap (g':=g2) (blk':=.row (xs++ys) T1 sz1) hE rfl hle hszw e1 e2 e3 ⟨rfl,?_,?_,?_,?_,?_,fun _ _=>by show 0<cap';omega⟩ hc)
     · simp[gm,(bT.1 hE).1]
     · show len+ys.length=_;rw[bW];omega
     · intro r hr'
       rcases cL.1 hr' with hr'|hr'
       · exact hxs1 r hr'
       · exact s.hz r hr'
     · intro c hc
       rw[zG] at hc
       rcases cL.1 hc with hc|hc
       · exact hxsh c hc
       · exact hshf c hc
     · rw[bW,hxl];exact hown'
     · rw[zG];exact hrel.app s.hrel
 · exact hv.elim
theorem a9R (hf:FRel N (gm E) ro fr a) (hr:Rel X E ro w) {t e:TypeId} {x y:Operand} {i:TypeInfo} {z:Value} (ho:o.op=.call { callee:=.builtin .append,args:=#[x,y],argTypes:=#[t,t] })
 (ht:P.underlying t=some (.slice e)) (hi:P.info? e=some i) (hz:i.zero=some z) (hzs:z.cells.size=i.size) (hsz:0<i.size) (hby:0<i.bytes)
 (hv:vE fr (hp E) R (.ap e i.size i.bytes (aT x) (aT y))):gI P o a w X E ro R:=by
 have h2:=bC hf y
 simp only[vE] at hv
 split at hv
 · rename_i m k hy
   rw[hy] at h2
   split at hv
   case h_2=>exact hv.elim
   rename_i ys T2 sz2 hH
   obtain ⟨⟨hk,rfl,hsh⟩,hv⟩:=hv
   obtain ⟨g,hE⟩:=dC hH
   obtain ⟨hrow,hglen,hys1,hysh,hown,hrel,_⟩:=hr.own m _ _ hE
   obtain ⟨g',k1,k2,k3,k4,k5⟩:=h2
   have:g'=g:=by have:=dU hE;rw[k1] at this;exact (dV this)
   subst this
   have h2':=k5 (by omega)
   subst hk
   refine JG hf hr ho (Src.slice ht hi hz hzs hsz hby (bX g'.ob 0) g'.cap g'.vs h2' hown.1 hys1 hsh hrel (fun ad had=>?_) (fun hn=>?_)) hv
   · cases hob:g'.ob with
     |none=>rw[hob] at had;simp[bX] at had
     |some b=>
      rw[hob] at had hown
      simp only[bX,cQ,aM] at had
      subst had
      exact World.ownsRow.cells (h:=hown) (g:=b) rfl
   · rcases hown.2 with ⟨hv,h0⟩|⟨b,cap0,cur,hv,_⟩
     · exact iB h0
     · rw[hn] at hv;simp at hv
 · rename_i ys hy
   rw[hy] at h2
   obtain ⟨⟨hys,hsh⟩,hv⟩:=hv
   have h2':FzR ro ys (a.eval y):=h2
   generalize hev:a.eval y=v at h2'
   obtain ⟨_,sz',ob,oa,koa,cap,vs,k1,k2,k3,k4,k5,k6,k7⟩:=h2'
   refine JG hf hr ho (Src.slice ht hi hz hzs hsz hby oa cap ((List.range ys.flatten.length).map vs) hev (by rw[cE,List.length_range,F0 _ hys]) hys hsh ⟨by simp,fun j c u h1 h2=>?_⟩ (fun ad had j u hu=>?_) (fun hn=>?_)) hv
   · have hj:j<ys.flatten.length:=(bT.1 h1).1
     rw[b9,DG hj] at h2
     simp only[cQ,aM] at h2
     subst h2
     have hs:=k7 c (cC h1)
     cases c with
     |vl u=>exact k5 _ u h1
     |fz zs=>exact k6 _ zs h1
     |_=>simp[C.shut] at hs
   · have hj:j<ys.flatten.length:=by have:=(bT.1 hu).1;simpa using this
     rw[koa (fun e=>by subst e;simp at hj)] at had
     cases ob with
     |none=>simp[FK] at had
     |some p=>
      simp only[FK,cQ,aM,E5] at had
      subst had
      rw[b9,DG hj] at hu
      simp only[cQ,aM] at hu
      subst hu
      rw[gG]
      exact hr.rd _ _ _ (by simpa using k4 j _ (aX hj))
   · by_cases hne:ys=[]
     · exact hne
     · rw[koa hne] at hn
       cases ob with
       |none=>have:=k3 hne;simp at this
       |some p=>simp[FK] at hn
 · rename_i u c hy
   rw[hy] at h2
   have h2':a.eval y=.slice u 0 c:=h2
   exact JG hf hr ho (Src.slice ht hi hz hzs hsz hby (ys:=[]) u c [] h2' (by simp) (by simp) (fun r hr=>by simp at hr) .nil (fun ad _ j u hu=>by simp at hu) (fun _=>rfl)) hv
 · exact hv.elim
theorem a0M (hf:FRel N (gm E) ro fr a) (hr:Rel X E ro w) {t u e:TypeId} {x y:Operand} {i:TypeInfo} (ho:o.op=.call { callee:=.builtin .append,args:=#[x,y],argTypes:=#[t,u] })
 (ht:P.underlying t=some (.slice e)) (hu:P.underlying u=some .string) (hi:P.info? e=some i) (hz:i.zero=some (.int .u8 0)) (hs1:i.size=1) (hb1:i.bytes=1)
 (hv:vE fr (hp E) R (.aps e (aT x) (aT y))):gI P o a w X E ro R:=by
 have h2:=bC hf y
 simp only[vE] at hv
 split at hv
 · rename_i s hy
   rw[hy] at h2
   exact JG hf hr ho (Src.str ht hu hi hz hs1 hb1 s h2) hv
 · exact hv.elim
theorem a5Q (hf:FRel N (gm E) ro fr a) (hr:Rel X E ro w) {t t' e:TypeId} {x y:Operand} (ho:o.op=.call { callee:=.builtin .unsafeString,args:=#[x,y],argTypes:=#[t,t'] })
 (ht:P.underlying t=some (.pointer e)) (hce:P.cellsOf e=1) (hv:vE fr (hp E) R (.us e (aT x) (aT y))):gI P o a w X E ro R:=by
 intro next Q hK
 have h1:=bC hf x;have h2:=bC hf y
 simp only[vE] at hv
 split at hv
 case h_2=>exact hv.elim
 rename_i n len k hx hy
 rw[hx] at h1;rw[hy] at h2
 have h2':a.eval y=.int .i64 k:=h2
 split at hv<;>try exact hv.elim
 rename_i xs T sz hH
 obtain ⟨⟨rfl,rfl,hlen,rfl,hby,hbig⟩,hR⟩:=hv
 obtain ⟨g,hE⟩:=dC hH
 obtain ⟨hrow,hgl,hz,hsh,hown,hrel,_⟩:=hr.own n g _ hE
 obtain ⟨g',k1,k2,k3,_,k5⟩:=h1
 have:g'=g:=by have:=dU hE;rw[k1] at this;exact (dV this)
 subst this
 have h1':=k5 (by omega)
 let l:=GJ xs
 have hll:l.length=len:=by simp[l,GJ,hlen]
 have hcells:∀(j:Nat) (c:UInt8),l[j]? = some c->g'.vs[j]? = some (.int .u8 c.toNat):=by
  intro j c hj
  have hj2:j<xs.length:=by have:=(bT.1 hj).1;omega
  obtain ⟨c',hc'⟩:=hby _ (eM hj2)
  have hjc:l[j]? = some c':=by
   simp only[l,GJ,b9,aX hj2,cQ,hc']
   simp[C.gi]
  rw[hjc] at hj
  simp only[aM] at hj
  subst hj
  have hfl:xs.flatten[j]? = some (.vl (.int .u8 c'.toNat)):=by
   have:=vM hz (i:=j) (j:=0) hj2 (by omega)
   simp only[T6,E5] at this
   rw[this,aX hj2,hc']
   rfl
  obtain ⟨u,hu,hrr⟩:=hrel.get hfl
  have hrr':u=.int .u8 c'.toNat:=hrr
  rw[hu,hrr']
 have dead:∀{w':World},w.heap.size<=w'.heap.size->w'.os=w.os->w'.tape=w.tape->w'.output=w.output->(∀k,some k≠g'.ob->w'.heap[k]? = w.heap[k]?)->Rel X (E.set n (g',.dead)) ro w':=
  fun h1 h2 h3 h4 h5=>hr.swap (g':=g') (blk':=.dead) hE rfl g'.le_refl h1 h2 h3 h4 trivial (.inl ⟨rfl,h5⟩)
 have fin:∀{w':World},(execOp a.eval o).run P w=.ok (.value (.string (mk l))) w'->w.heap.size<=w'.heap.size->w'.os=w.os->w'.tape=w.tape->w'.output=w.output->(∀k,some k≠g'.ob->w'.heap[k]? = w.heap[k]?)->o.wp P a w next Q:=by
  intro w' hrun h1 h2 h3 h4 h5
  unfold Oper.wp
  rw[hrun,Oper.upon_value]
  exact hK (tS (mk l)) _ (E.set n (g',.dead)) ro w' (by rw[iN];exact hR) rfl (jF hE g'.le_refl) (Ext.refl _) (dead h1 h2 h3 h4 h5)
 by_cases h0:len=0
 · subst h0
   have hl0:l=[]:=iB hll
   refine fin (w':=w) ?_ (bE _) rfl rfl rfl (fun _ _=>rfl)
   have hr0:∀(p:Option Addr),(Builtin.unsafeString_ #[t,t'] o.type #[.pointer p,.int .i64 0]).run P w=.ok (.string .empty) w:=fun p=>by cases p<;>rfl
   simp only[execOp,ho,resolve]
   simp[h1',h2',invoke,builtin,hr0,hl0]
   rfl
 · cases hob:g'.ob with
   |none=>
    rw[hob] at hown
    rcases hown.2 with ⟨_,h⟩|⟨b,c',cur,hv,_⟩
    · omega
    · simp[bX] at hv
   |some b=>
    rw[hob] at hown h1'
    rcases hown.2 with ⟨hv,_⟩|⟨b2,cap,cur,hv,_,hh,hnc,_,hcs,_⟩
    · simp[bX] at hv
    · simp only[bX,cQ,Value.slice.injEq,aM,Addr.mk.injEq,true_and,and_true] at hv
      obtain ⟨rfl,hcap⟩:=hv
      have hcell:∀(j:Nat) (c:UInt8),l[j]? = some c->w.cell? ((⟨b,0,none⟩:Addr).add j)=some (.int .u8 c.toNat):=fun j c hj=>World.ownsRow.cells (h:=hown) (g:=b) rfl j _ (hcells j c hj)
      have hus:=Lib.run_unsafeString_row (P:=P) w t t' o.type _ ht hce b cur.size (by simp[World.shape?,hh]) l (fun e=>h0 (by rw[<-hll,e];rfl)) (by rw[hll,hcs];omega) (by omega) hcell
      refine fin (w':=w.freeze ⟨b,0,none⟩ l.length) ?_ ?_ ?_ ?_ ?_ ?_
      · rw[hll] at hus
        simp only[execOp,ho,resolve]
        simp only[Array.map,bX,cQ] at h1' ⊢
        simp[h1',h2',invoke,builtin,hus,hll]
        rfl
      · unfold World.freeze;split<;>simp
      · unfold World.freeze;split<;>rfl
      · unfold World.freeze;split<;>rfl
      · unfold World.freeze;split<;>rfl
      · intro k hk
        rw[hob] at hk
        unfold World.freeze
        split
        · rfl
        · simp only[qN]
          rw[if_neg (fun e=>hk (by rw[e]))]
theorem a5Y (hr:Rel X E ro w) {t kt et:TypeId} {kd:TypeDesc} (ho:o.op=.makeMap t none) (hv:vE fr (hp E) R (.mm kd)):gI P o a w X E ro R:=by
 intro next Q hK
 simp only[vE] at hv
 unfold Oper.wp
 have hrun:(execOp a.eval o).run P w=.ok (.value (.map (some w.heap.size))) (w.alloc (.map #[] 0)):=by
  simp[execOp,ho,Instr.makeMap]
 rw[hrun,Oper.upon_value]
 let g:Gb:=⟨some w.heap.size,false,0,0,0,[]⟩
 rw[fX] at hv
 refine hK (.va (.c1 (.mp E.length))) _ (E++[(g,.map kd [] [])]) ro _ (by rw[lJ];exact hv) ⟨g,w.heap.size,by simp[gm],rfl,rfl,rfl⟩ (eS _) (Ext.refl _) (hr.new (g:=g) (blk:=.map kd [] []) (kH w _) (iW w _) rfl rfl rfl (.inr rfl) ⟨rfl,fun k hk=>(by cases hk),.nil,w.heap.size, #[],0,rfl,?_,rfl,rfl⟩)
 rw[heap_alloc_new]
theorem aF9 {α β:Type} {R:α->β->Prop} {l:List α} {m:List β} (h:All2 R l m) (j:Nat) {x:α} {y:β} (hxy:R x y):All2 R (l.set j x) (m.set j y):=by
 refine ⟨by simp[h.1],fun i a b ha hb=>?_⟩
 rw[mP] at ha hb
 split at ha
 · rename_i hj
   rw[if_pos hj] at hb
   split at ha
   · split at hb
     · cases ha;cases hb;exact hxy
     · cases hb
   · cases ha
 · rename_i hj
   rw[if_neg hj] at hb
   exact h.2 i a b ha hb
theorem bAH (hf:FRel N (gm E) ro fr a) (hr:Rel X E ro w) {t kt et:TypeId} {kd:TypeDesc} {x k y:Operand} (ho:o.op=.mapUpdate t x k y) (ht:P.underlying t=some (.map kt et)) (hkt:P.underlying kt=some kd)
 (hv:vE fr (hp E) R (.mu kd (aT x) (aT k) (aT y))):gI P o a w X E ro R:=by
 intro next Q hK
 have h1:=bC hf x;have h2:=bC hf k;have h3:=bC hf y
 simp only[vE] at hv
 split at hv<;>try exact hv.elim
 rename_i n q v hx hk hy
 rw[hx] at h1;rw[hk] at h2;rw[hy] at h3
 have h2':a.eval k=q:=h2
 have h3':v.rel (gm E) ro (a.eval y):=h3
 split at hv<;>try exact hv.elim
 rename_i kd' ks vs hH
 obtain ⟨⟨rfl,hq⟩,hR⟩:=hv
 obtain ⟨g,b,hE,hb,hxv,hks,hvs⟩:=QR hr h1 hH
 obtain ⟨hrow,_,_,b',es,clock,hb',hh,hes,hev⟩:=hr.own n g _ hE
 rw[hb] at hb'
 simp only[aM] at hb'
 subst hb'
 have hmem:∀e∈es.toList,MapKept.IsKey kd' e.key:=fun e he=>hks _ (by rw[<-hes];exact dO.2 ⟨e,he,rfl⟩)
 unfold Oper.wp
 have fin:∀(es':Array MapEntry) (clock':Nat),(execOp a.eval o).run P w=.ok .skip { w with heap:=w.heap.setIfInBounds b (.map es' clock') }->es'.toList.map (·.key)=mN ks q->
  (∃vs',es'.toList.map (·.val)=vs'/\All2 (A.rel (gm E) ro) (nE ks vs q v) vs')->o.upon P a next Q ((execOp a.eval o).run P w):=by
  intro es' clock' hrun hk' hv'
  obtain ⟨vs',hev',hvs'⟩:=hv'
  rw[hrun,Oper.upon_skip]
  have hset:=MapKept.heap_set (o':=Obj.map es' clock') hh
  refine hK .un undef (E.set n ({ g with vs:=vs' },.map kd' (mN ks q) (nE ks vs q v))) ro _ (by rw[iN];exact hR) trivial (jF hE ⟨rfl,.inl ⟨rfl,rfl,rfl⟩⟩) (Ext.refl _)
   (hr.swap hE rfl ⟨rfl,.inl ⟨rfl,rfl,rfl⟩⟩ (by simp) rfl rfl rfl ⟨hrow,fun k' hk''=>?_,?_,b,es',clock',hb,hset.1,hk',hev'⟩ (.inl ⟨rfl,fun k' hk''=>hset.2 k' fun e=>hk'' (by rw[hb,e])⟩))
  · unfold mN at hk''
    split at hk''
    · exact hks k' hk''
    · rcases cL.1 hk'' with h|h
      · exact hks k' h
      · rw[List.mem_singleton.1 h];exact hq
  · exact hvs'.imp fun _ _=>A.rel_mono (jF (g':={ g with vs:=vs' }) hE ⟨rfl,.inl ⟨rfl,rfl,rfl⟩⟩) (Ext.refl _)
 rcases sT hq es.toList hmem 0 with ⟨h4,h5⟩|⟨j,e,h4,h5,h6,h7⟩
 · rw[hes] at h4
   refine fin (es.push { key:=q,val:=a.eval y,born:=clock }) (clock+1) ?_ ?_ ⟨_,rfl,?_⟩
   · simp[execOp,ho,hxv,h2',Instr.mapUpdate,run_underlying ht,MapKept.run_getObj_map hh,MapKept.run_checkKey hkt hq,MapKept.run_findKey hkt h5,MapKept.run_setObj_map _ hh,Result.andThen]
   · unfold mN;rw[h4];simp[<-hes]
   · unfold nE;rw[h4]
     simp only[Array.toList_push,C7,gC,T0,hev]
     exact hvs.app (.cons h3' .nil)
 · rw[hes] at h4
   have hj:es[j]? = some e:=by simpa using h5
   refine fin (es.modify j fun e=>{ e with key:=q,val:=a.eval y }) clock ?_ ?_ ⟨_,rfl,?_⟩
   · simp[execOp,ho,hxv,h2',Instr.mapUpdate,run_underlying ht,MapKept.run_getObj_map hh,MapKept.run_checkKey hkt hq,MapKept.run_findKey hkt h7,hj,h6,MapKept.run_keyThatStays hq,MapKept.run_setObj_map _ hh,Result.andThen]
   · unfold mN;rw[h4]
     simp only
     rw[<-hes]
     refine iF fun i=>?_
     simp only[b9,aC3,qN]
     split
     · rename_i hji;subst hji;rw[hj];simp[h6]
     · rfl
   · unfold nE;rw[h4]
     simp only
     have e1:(es.modify j fun e=>{ e with key:=q,val:=a.eval y }).toList.map (·.val)=(es.toList.map (·.val)).set j (a.eval y):=by
      refine iF fun i=>?_
      simp only[b9,aC3,qN,mP,cE,uH]
      split
      · rename_i hji
        subst hji
        have:=(mQ.1 hj).1
        rw[hj];simp[this]
      · rfl
     rw[e1,hev]
     exact aF9 hvs j h3'
theorem ZW (hf:FRel N (gm E) ro fr a) (hr:Rel X E ro w) {i:EI} (hi:BP P o.op=some i) (hv:vE fr (hp E) R i.ext) (hna:∀T sz b x y,i≠.ap T sz b x y) (hall:∀j,BP P o.op=some j->vE fr (hp E) R j->gI P o a w X E ro R):gI P o a w X E ro R:=by
 cases i
 case ap T sz b x y=>exact absurd rfl (hna T sz b x y)
 case bsl e sz xs=>
  cases ho:o.op<;>rw[ho] at hi<;>simp only[BP,reduceCtorEq,aM] at hi
  case store t x y=>split at hi<;>simp at hi
  case alloc t=>split at hi<;>simp at hi
  case makeMap t r=>
   split at hi
   · cases hi
   · split at hi<;>simp at hi
  case makeSlice t x y=>
   split at hi<;>try (cases hi;done)
   split at hi<;>try (cases hi;done)
   split at hi<;>try (cases hi;done)
   split at hi<;>simp at hi
  case mapUpdate t m k v=>split at hi<;>simp at hi
  case buildSlice t len parts=>
   split at hi<;>try (cases hi;done)
   rename_i e' ht
   split at hi<;>try (cases hi;done)
   rename_i inf hinf
   split at hi<;>try (cases hi;done)
   rename_i z hz
   split at hi<;>simp only[aM,reduceCtorEq,EI.bsl.injEq] at hi
   rename_i hc
   obtain ⟨c1,c2,c3,c4,c5,c6⟩:=hc
   obtain ⟨rfl,rfl,rfl⟩:=hi
   exact aQX hf hr ho ht hinf hz c1 c2 c3 c4 c5 c6 hv
  case call c=>
   obtain ⟨cl,args,ats⟩:=c
   simp only at hi
   split at hi
   · split at hi<;>try (cases hi;done)
     split at hi<;>try (cases hi;done)
     split at hi<;>try (cases hi;done)
     split at hi
     · simp at hi
     · split at hi<;>try (cases hi;done)
       split at hi<;>simp at hi
   · split at hi<;>try (cases hi;done)
     split at hi<;>try (cases hi;done)
     split at hi<;>simp at hi
   · cases hi
 all_goals exact hall _ hi hv
theorem WN (hf:FRel N (gm E) ro fr a) (hr:Rel X E ro w) {i:EI} (hi:BP P o.op=some i) (hv:vE fr (hp E) R i):gI P o a w X E ro R:=by
 cases ho:o.op<;>rw[ho] at hi<;>simp only[BP,reduceCtorEq,aM] at hi
 case alloc t=>
  split at hi<;>simp only[aM,reduceCtorEq] at hi
  rename_i z hz
  subst hi
  cases hinf:P.info? t with
  |none=>simp[hinf] at hz
  |some inf=>simp only[hinf,cQ,aM] at hz;exact a6L hr ho hinf hz hv
 case box t x=>subst hi;exact bAL hf hr ho hv
 case makeSlice t x y=>
  split at hi<;>try (cases hi;done)
  rename_i e ht
  split at hi<;>try (cases hi;done)
  rename_i inf hinf
  split at hi<;>try (cases hi;done)
  rename_i z hz
  split at hi<;>simp only[aM,reduceCtorEq] at hi
  rename_i hc
  subst hi
  exact a7D hf hr ho ht hinf hz hc.1 hc.2 hv
 case makeMap t r=>
  split at hi
  · cases hi
  · rename_i hrn
    cases r with
    |some r=>simp at hrn
    |none=>
     split at hi
     · rename_i k e ht
       simp only[lX] at hi
       obtain ⟨kd,hk,rfl⟩:=hi
       exact a5Y (kt:=k) (et:=e) hr ho hv
     · cases hi
 case mapUpdate t m k v=>
  split at hi
  · rename_i kt e ht
    simp only[lX] at hi
    obtain ⟨kd,hk,rfl⟩:=hi
    exact bAH hf hr ho ht hk hv
  · cases hi
 case store t x y=>
  split at hi<;>simp only[aM,reduceCtorEq] at hi
  rename_i n h1 hn
  subst hi;exact a8O hf hr ho hn hv
 case buildSlice t len parts=>
  split at hi<;>try (cases hi;done)
  rename_i e ht
  split at hi<;>try (cases hi;done)
  rename_i inf hinf
  split at hi<;>try (cases hi;done)
  rename_i z hz
  split at hi<;>simp only[aM,reduceCtorEq] at hi
  rename_i hc
  obtain ⟨c1,c2,c3,c4,c5,c6⟩:=hc
  subst hi
  exact a19 hf hr ho ht hinf hz c1 c2 c3 c4 c5 c6 hv
 case call c=>
  obtain ⟨cl,args,ats⟩:=c
  simp only at hi
  split at hi
  · rename_i x y t t' ha hat
    obtain rfl:args=#[x,y]:=by rw[<-eL (xs:=args),ha]
    obtain rfl:ats=#[t,t']:=by rw[<-eL (xs:=ats),hat]
    split at hi<;>try (cases hi;done)
    rename_i e ht
    split at hi<;>try (cases hi;done)
    rename_i inf hinf
    split at hi<;>try (cases hi;done)
    rename_i z hz
    split at hi
    · rename_i hc
      simp only[aM] at hi
      obtain ⟨c1,c2,rfl,c4⟩:=hc
      subst hi
      exact a9R hf hr ho ht hinf hz c1 c2 c4 hv
    · split at hi<;>try (cases hi;done)
      rename_i hc
      obtain ⟨c1,c2,c3⟩:=hc
      split at hi<;>simp only[aM,reduceCtorEq] at hi
      rename_i hu
      subst hi
      exact a0M hf hr ho ht hu hinf (by rw[hz,aNL c1]) c2 c3 hv
  · rename_i x y t t' ha hat
    obtain rfl:args=#[x,y]:=by rw[<-eL (xs:=args),ha]
    obtain rfl:ats=#[t,t']:=by rw[<-eL (xs:=ats),hat]
    split at hi<;>try (cases hi;done)
    rename_i e ht
    split at hi<;>try (cases hi;done)
    split at hi<;>simp only[aM,reduceCtorEq] at hi
    rename_i hce
    subst hi
    exact a5Q hf hr ho ht hce hv
  · cases hi
end
abbrev Spec:=List S->Hp->(S->Hp->Prop)->Prop
def A.flat:A->Prop
 |.c1 (.vl _)=>True
 |.gs cs=>∀c∈cs,∃v,c=.vl v
 |_=>False
structure Fun where
 pre:List S->Prop
 val:List S->A
 flat:∀az,pre az->(val az).flat
def Fun.sp (p:Fun):Spec:=fun xs H K=>(p.pre xs/\H=[])/\K (.va (p.val xs)) []
structure Entry where
 sp:Spec
 fn:Option Fun
def Entry.s (s:Spec):Entry:=⟨s,none⟩
def Entry.f (p:Fun):Entry:=⟨p.sp,some p⟩
abbrev eX:=List (FuncId×Entry)
inductive I where
 |q (i:QI)
 |ix (x y:O)
 |l (i:LI)
 |e (i:EI)
 |pick (c x y:O)
 |cl (f:FuncId) (xs:List O) (σ:List Nat)
 |ca (x:O) (xs:List O) (σ:List Nat)
 |cq (f:FuncId) (xs:List O)
structure J where
 d:Option Nat
 g:Option (Nat×Bool)
 i:I
inductive OJ where
 |q (j:J)
 |m (j:J)
 |rc (j:J)
 |fk (a b:J) (ra rb:List J)
inductive PC where
 |skip
 |seq (x y:PC)
 |reg (js:List J)
 |ord (l:List OJ)
 |cond (o:O) (x y:PC)
 |block (id:Nat) (x:PC)
 |loop (x:PC)
 |exit (id:Nat)
 |ret
 |gh (x:PC)
 |no
inductive Ex where
 |n
 |e (id:Nat)
 |r
def O.sl:O->List Nat
 |.t i=>[i]
 |_=>[]
def O.sls:List O->List Nat
 |[]=>[]
 |o::r=>o.sl++O.sls r
def O.slo:Option O->List Nat
 |none=>[]
 |some o=>o.sl
def O.slp:List (Nat×Nat×O)->List Nat
 |[]=>[]
 | (_,_,o)::r=>o.sl++O.slp r
def QI.sl:QI->List Nat
 |.mv x | .not x | .neg _ x | .cvt _ x | .fa _ x | .fld1 _ x | .fldn _ _ x | .lnS x | .lnL x | .ex x _ | .nc x=>x.sl
 |.b2s x | .cu x | .c4u _ _ x | .usd x=>x.sl
 |.bin _ _ x y | .eqB _ x y | .eqP _ x y | .eqT _ _ x y=>x.sl++y.sl
 |.bd _ ps=>O.slp ps
 |.mf _ xs | .mh _ xs=>O.sls xs
 |.mx _ x y | .ixa _ x y=>x.sl++y.sl
 |.ss x lo hi=>x.sl++(O.slo lo++O.slo hi)
 |.sf _ x lo hi=>x.sl++(O.slo lo++O.slo hi)
def LI.sl:LI->List Nat
 |.ia _ x y=>x.sl++y.sl
 |.ld1 x=>x.sl
 |.ldn _ x=>x.sl
 |.lk _ _ _ x k=>x.sl++k.sl
 |.lm x=>x.sl
def EI.sl:EI->List Nat
 |.st _ x y=>x.sl++y.sl
 |.al _ _=>[]
 |.bx _ x=>x.sl
 |.bsl _ _ xs=>O.sls xs
 |.bslx _ _ xs=>O.sls xs
 |.ap _ _ _ x y=>x.sl++y.sl
 |.apz _ _ _ x y=>x.sl++y.sl
 |.us _ x y=>x.sl++y.sl
 |.aps _ x y=>x.sl++y.sl
 |.mm _=>[]
 |.mk _ _ _ _ x y=>x.sl++y.sl
 |.mu _ x k y=>x.sl++(k.sl++y.sl)
def S.st:S->S
 |.cn _ a=>.va a
 |s=>s
def S.gd:S->Prop
 |.cn g _=>g=true
 |_=>True
def fst (fr:Fr):Fr:=fun i=>(fr i).st
def cZ (fr:Fr):List Nat->Prop
 |[]=>True
 |i::r=>(fr i).gd/\cZ fr r
def S.cnd (g:Bool):S->S
 |.va a=>.cn g a
 |_=>.un
def gv (fr:Fr) (sl:Nat) (want:Bool):Option Bool:=
 match fr sl with
 |.va (.c1 (.vl (.bool b)))=>some (b==want)
 |.cn g (.c1 (.vl (.bool b)))=>some (g&&(b==want))
 |.cn false _=>some false
 |_=>none
def yZ (b:Bool):A->A->A
 |.c1 (.vl (.bool x)),.c1 (.vl (.bool y))=>.c1 (.vl (.bool (bif b then x else y)))
 |x,y=>bif b then x else y
def dum:S:=.cn false (.c1 .no)
def lM (fr:Fr) (sl:Nat) (want:Bool):Fr:=put fr (some sl) (bS want)
def u4 (fr:Fr) (sl:Nat) (want:Bool):Fr:=
 match fr sl with
 |.va (.c1 (.vl (.bool _)))=>put fr (some sl) (bS (!want))
 |_=>fr
def C.ren0 (f:Nat->Option Nat):C->C
 |.pt n off=>match f n with|some m=>.pt m off|none=>.no
 |.sl n l=>match f n with|some m=>.sl m l|none=>.no
 |.qt n l sz i j=>match f n with|some m=>.qt m l sz i j|none=>.no
 |.dp n l=>match f n with|some m=>.dp m l|none=>.no
 |.mp n=>match f n with|some m=>.mp m|none=>.no
 |c=>c
def C.ren (f:Nat->Option Nat):C->C
 |.pt n off=>match f n with|some m=>.pt m off|none=>.no
 |.sl n l=>match f n with|some m=>.sl m l|none=>.no
 |.qt n l sz i j=>match f n with|some m=>.qt m l sz i j|none=>.no
 |.dp n l=>match f n with|some m=>.dp m l|none=>.no
 |.mp n=>match f n with|some m=>.mp m|none=>.no
 |.fn g cs=>.fn g (cs.map fun x=>(x.1,x.2.map (C.ren0 f)))
 |c=>c
def A.ren (f:Nat->Option Nat):A->A
 |.c1 c=>.c1 (c.ren f)
 |.gs cs=>.gs (cs.map (C.ren f))
def S.ren (f:Nat->Option Nat):S->S
 |.va a=>.va (a.ren f)
 |.tu l=>.tu (l.map (A.ren f))
 |.cn g a=>.cn g (a.ren f)
 |.un=>.un
def B.ren (f:Nat->Option Nat):B->B
 |.cells cs T=>.cells (cs.map (C.ren f)) T
 |.row xs T sz=>.row xs T sz
 |.rowx xs T sz=>.rowx (xs.map fun r=>r.map (C.ren f)) T sz
 |.map kd ks vs=>.map kd ks (vs.map (A.ren f))
 |.dead=>.dead
def gN:List Nat->Nat->Option Nat
 |[],_=>none
 |m::σ,n=>if m=n then some 0 else (gN σ n).map (· + 1)
def back (σ:List Nat) (L:Nat) (j:Nat):Option Nat:=match σ[j]? with|some n=>some n|none=>some (L+(j-σ.length))
def qR (k:Nat) (n:Nat):Option Nat:=if n<k then some n else none
def wI (H:Hp) (σ:List Nat):Hp:=σ.map fun n=>H.getD n .dead
def vN:List Nat->Hp->Hp->Hp
 |[],H,H'=>H++H'
 |n::σ,H,H'=>vN σ (H.set n (H'.headD .dead)) H'.tail
def sp (Γ:eX) (f:FuncId):Spec:=fun az H K=>
 match Γ with
 |[]=>False
 | (g,s)::r=>if g=f then s.sp az H K else sp r f az H K
def A6 (Γ:eX) (f:FuncId):Option Fun:=
 match Γ with
 |[]=>none
 | (g,s)::r=>if g=f then s.fn else A6 r f
def A.nf:A->A
 |.c1 c=>.c1 c.nf
 |.gs cs=>.gs (cs.map C.nf)
def S.nf:S->S
 |.va a=>.va a.nf
 |.tu l=>.tu (l.map A.nf)
 |.cn g a=>.cn g a.nf
 |.un=>.un
def C.bor0 (H:Hp):C->C
 |.sl n l=>match H[n]? with
  |some (.row xs _ _)=>if l=xs.length then .fz xs else .no
  |_=>.no
 |.pt _ _ | .qt _ _ _ _ _ | .dp _ _ | .mp _=>.no
 |c=>c
def C.bor (H:Hp):C->C
 |.sl n l=>match H[n]? with
  |some (.row xs _ _)=>if l=xs.length then .fz xs else .no
  |_=>.no
 |.pt _ _ | .qt _ _ _ _ _ | .dp _ _ | .mp _=>.no
 |.fn g cs=>.fn g (cs.map fun x=>(x.1,x.2.map (C.bor0 H)))
 |c=>c
def A.bor (H:Hp):A->A
 |.c1 c=>.c1 (c.bor H)
 |.gs cs=>.gs (cs.map (C.bor H))
def S.bor (H:Hp):S->S
 |.va a=>.va (a.bor H)
 |_=>.un
def aFC:C:=.vl (.slice none 0 0)
inductive Gh (k0:Nat) (Q:Fr->Hp->Prop):Fr->Hp->Prop
 |done {fr:Fr} {H:Hp}:Q fr H->Gh k0 Q fr H
 |wk {fr:Fr} {H:Hp} (fr':Fr):(∀i,fr' i=fr i\/fr' i=.un)->Gh k0 Q fr' H->Gh k0 Q fr H
 |cut {fr:Fr} {H:Hp} (k:Nat):k0<=k->Gh k0 Q (fun i=>(fr i).ren (qR k)) ((H.take k).map (B.ren (qR k)))->Gh k0 Q fr H
 |sel {fr:Fr} {H:Hp} (ns:List Nat):ns.Nodup->(∀n∈ns,n<H.length)->ns.take k0=List.range k0->Gh k0 Q (fun i=>(fr i).ren (gN ns)) ((wI H ns).map (B.ren (gN ns)))->Gh k0 Q fr H
 |kill {fr:Fr} {H:Hp} (n:Nat):Gh k0 Q fr (H.set n .dead)->Gh k0 Q fr H
 |nil {fr:Fr} {H:Hp} (sl T sz:Nat):fr sl=.va (.c1 aFC)->Gh k0 Q (put fr (some sl) (.va (.c1 (.sl H.length 0)))) (H++[.row [] T sz])->Gh k0 Q fr H
 |nilc {fr:Fr} {H:Hp} (nm k T sz:Nat) (cs:List C) (T':TypeId):H[nm]? = some (.cells cs T')->cs[k]? = some aFC->Gh k0 Q fr (H.set nm (.cells (cs.set k (.sl H.length 0)) T')++[.row [] T sz])->Gh k0 Q fr H
 |nf {fr:Fr} {H:Hp} (sl:Nat):Gh k0 Q (put fr (some sl) (fr sl).nf) H->Gh k0 Q fr H
 |pub {fr:Fr} {H:Hp} (n:Nat) (xs:List (List C)) (T:TypeId) (sz:Nat):H[n]? = some (.row xs T sz)->Gh k0 Q (fun i=>(fr i).pub n xs) (cS n xs H)->Gh k0 Q fr H
 |opn {fr:Fr} {H:Hp} (n:Nat) (xs:List (List C)) (T:TypeId) (sz:Nat):H[n]? = some (.row xs T sz)->Gh k0 Q fr (H.set n (.rowx xs T sz))->Gh k0 Q fr H
 |nfr {fr:Fr} {H:Hp} (n:Nat) (xs:List (List C)) (T:TypeId) (sz:Nat):H[n]? = some (.rowx xs T sz)->Gh k0 Q fr (H.set n (.rowx (xs.map (List.map C.nf)) T sz))->Gh k0 Q fr H
 |shu {fr:Fr} {H:Hp} (n:Nat) (xs:List (List C)) (T:TypeId) (sz:Nat):H[n]? = some (.rowx xs T sz)->(∀c∈xs.flatten,c.shut=true)->Gh k0 Q fr (H.set n (.row xs T sz))->Gh k0 Q fr H
inductive Fin (k0:Nat) (K:S->Hp->Prop):S->Hp->Prop
 |done {r:S} {H:Hp}:K r H->Fin k0 K r H
 |sel {r:S} {H:Hp} (ns:List Nat):ns.Nodup->(∀n∈ns,n<H.length)->ns.take k0=List.range k0->Fin k0 K (r.ren (gN ns)) ((wI H ns).map (B.ren (gN ns)))->Fin k0 K r H
 |kill {r:S} {H:Hp} (n:Nat):Fin k0 K r (H.set n .dead)->Fin k0 K r H
 |nilc {r:S} {H:Hp} (nm k T sz:Nat) (cs:List C) (T':TypeId):H[nm]? = some (.cells cs T')->cs[k]? = some aFC->Fin k0 K r (H.set nm (.cells (cs.set k (.sl H.length 0)) T')++[.row [] T sz])->Fin k0 K r H
 |pub {r:S} {H:Hp} (n:Nat) (xs:List (List C)) (T:TypeId) (sz:Nat):H[n]? = some (.row xs T sz)->Fin k0 K (r.pub n xs) (cS n xs H)->Fin k0 K r H
 |opn {r:S} {H:Hp} (n:Nat) (xs:List (List C)) (T:TypeId) (sz:Nat):H[n]? = some (.row xs T sz)->Fin k0 K r (H.set n (.rowx xs T sz))->Fin k0 K r H
 |nfr {r:S} {H:Hp} (n:Nat) (xs:List (List C)) (T:TypeId) (sz:Nat):H[n]? = some (.rowx xs T sz)->Fin k0 K r (H.set n (.rowx (xs.map (List.map C.nf)) T sz))->Fin k0 K r H
 |shu {r:S} {H:Hp} (n:Nat) (xs:List (List C)) (T:TypeId) (sz:Nat):H[n]? = some (.rowx xs T sz)->(∀c∈xs.flatten,c.shut=true)->Fin k0 K r (H.set n (.row xs T sz))->Fin k0 K r H
def IE (Γ:eX) (H:Hp) (f:FuncId) (az:List S) (σ:List Nat) (K:S->Hp->Prop):Prop:=
 (σ.Nodup/\∀n∈σ,n<H.length)/\sp Γ f (az.map fun s=>s.nf.ren (gN σ)) ((wI H σ).map (B.ren (gN σ))) (fun r H'=>K (r.ren (back σ H.length)) (vN σ H (H'.map (B.ren (back σ H.length)))))
def vI (Γ:eX) (fr:Fr) (H:Hp) (K:S->Hp->Prop):I->Prop
 |.e i=>cZ fr i.sl/\vE (fst fr) H K i
 |.cl f xs σ=>cZ fr (O.sls xs)/\IE Γ H f (xs.map fun o=>ev (fst fr) o) σ K
 |.ca x xs σ=>cZ fr (x.sl++O.sls xs)/\(match ev (fst fr) x with
  |.va (.c1 (.fn f ns))=>IE Γ H f ((xs.map fun o=>ev (fst fr) o)++ns.map fun x=>S.va (XJ x)) σ K
  |.va (.c1 (.fm f fs))=>IE Γ H f ((fs.map fun cs=>S.va (.gs cs))++xs.map fun o=>ev (fst fr) o) σ K
  |_=>False)
 |_=>False
def IL (Γ:eX) (fr:Fr) (H:Hp) (f:FuncId) (xs:List O) (g:Prop) (K:A->Prop):Prop:=
 match A6 Γ f with
 |none=>False
 |some p=>(g->cZ fr (O.sls xs)/\p.pre (xs.map fun o=>((ev (fst fr) o).bor H).nf))/\K (p.val (xs.map fun o=>((ev (fst fr) o).bor H).nf))
def nV (Γ:eX) (fr:Fr) (H:Hp) (K:Fr->Hp->Prop) (d:Option Nat):I->Prop
 |.q i=>match qv (fst fr) H i with
  |some s=>cZ fr i.sl/\qc (fst fr) H i/\K (put fr d s) H
  |none=>False
 |.ix x y=>match ev (fst fr) x,ev (fst fr) y with
  |.va (.c1 (.vl (.string s))),.va (.c1 (.vl (.int _ k)))=>(cZ fr (x.sl++y.sl)/\0<=k/\k<(bl s).length)/\∀c:UInt8,(bl s)[k.toNat]? = some c->K (put fr d (iS .u8 c.toNat)) H
  |_,_=>False
 |.l i=>cZ fr i.sl/\vL (fst fr) H i fun s=>K (put fr d s) H
 |.pick c x y=>match ev (fst fr) c,ev (fst fr) x,ev (fst fr) y with
  |.va (.c1 (.vl (.bool b))),.va ax,.va ay=>cZ fr c.sl/\(b=true->cZ fr x.sl)/\(b=false->cZ fr y.sl)/\K (put fr d (.va (yZ b ax ay))) H
  |_,_,_=>False
 |.cq f xs=>IL Γ fr H f xs True fun a=>K (put fr d (.va a)) H
 |i=>vI Γ fr H (fun s H'=>K (put fr d s) H') i
def lq (fr:Fr) (H:Hp):LI->Option S
 |.ld1 x=>match ev fr x with
  |.va (.c1 (.pt n off))=>match H[n]? with
   |some (.cells cs _)=>(cs[off]?).map fun c=>.va (.c1 c)
   |_=>none
  |_=>none
 |.ldn n x=>match ev fr x with
  |.va (.c1 (.pt m off))=>match H[m]? with
   |some (.cells cs _)=>if off+n<=cs.length then some (.va (.gs ((cs.drop off).take n))) else none
   |_=>none
  |_=>none
 |_=>none
theorem aZH {fr:Fr} {H:Hp} {i:LI} {s:S} (h:lq fr H i=some s):vL fr H i (· = s):=by
 cases i with
 |ia sz x y=>simp[lq] at h
 |ld1 x=>
  simp only[lq] at h
  simp only[vL]
  split at h<;>try (simp at h;done)
  rename_i n off hx
  split at h<;>try (simp at h;done)
  rename_i cs T hH
  simp only[hx,hH]
  cases hc:cs[off]? with
  |none=>simp[hc] at h
  |some c=>simp[hc] at h;exact h
 |lk kd z ok x k=>simp[lq] at h
 |lm x=>simp[lq] at h
 |ldn n x=>
  simp only[lq] at h
  simp only[vL]
  split at h<;>try (simp at h;done)
  rename_i m off hx
  split at h<;>try (simp at h;done)
  rename_i cs T hH
  simp only[hx,hH]
  split at h
  · rename_i hle;simp at h;exact ⟨hle,h⟩
  · cases h
def l8 (Γ:eX) (fr:Fr) (H:Hp) (K:Fr->Hp->Prop) (d:Option Nat) (sl:Nat) (want g:Bool):I->Prop
 |.q i=>match qv (fst fr) H i with
  |some s=>(g=true->cZ fr i.sl/\qc (fst fr) H i)/\K (put fr d (s.cnd g)) H
  |none=>g=false/\K (put fr d dum) H
 |.ix x y=>match ev (fst fr) x,ev (fst fr) y with
  |.va (.c1 (.vl (.string s))),.va (.c1 (.vl (.int _ k)))=>(g=true->cZ fr (x.sl++y.sl)/\0<=k/\k<(bl s).length)/\∀c:UInt8,(g=true->(bl s)[k.toNat]? = some c)->K (put fr d (.cn g (.c1 (.vl (.int .u8 c.toNat))))) H
  |_,_=>g=false/\K (put fr d dum) H
 |.l i=>match lq (fst fr) H i with
  |some s=>(g=true->cZ fr i.sl)/\K (put fr d (s.cnd g)) H
  |none=>(g=true->cZ (lM fr sl want) i.sl/\vL (fst (lM fr sl want)) H i fun s=>K (put (lM fr sl want) d s) H)/\(g=false->K (put (u4 fr sl want) d dum) H)
 |.pick c x y=>match ev (fst fr) c,ev (fst fr) x,ev (fst fr) y with
  |.va (.c1 (.vl (.bool b))),.va ax,.va ay=>(g=true->cZ fr c.sl/\(b=true->cZ fr x.sl)/\(b=false->cZ fr y.sl))/\K (put fr d (.cn g (yZ b ax ay))) H
  |_,_,_=>g=false/\K (put fr d dum) H
 |.cq f xs=>IL Γ fr H f xs (g=true) fun a=>K (put fr d (.cn g a)) H
 |i=>(g=true->vI Γ (lM fr sl want) H (fun s H'=>K (put (lM fr sl want) d s) H') i)/\(g=false->K (put (u4 fr sl want) d dum) H)
def vJ (Γ:eX) (fr:Fr) (H:Hp) (K:Fr->Hp->Prop) (j:J):Prop:=
 match j.g with
 |none=>nV Γ fr H K j.d j.i
 |some (sl,want)=>match gv fr sl want with
  |none=>False
  |some g=>l8 Γ fr H K j.d sl want g j.i
def vR (Γ:eX):List J->Fr->Hp->(Fr->Hp->Prop)->Prop
 |[],fr,H,K=>K fr H
 |j::r,fr,H,K=>vJ Γ fr H (fun fr' H'=>vR Γ r fr' H' K) j
def J.dn (j:J):Nat:=j.d.getD 0
def BS (Γ:eX):List J->Fr->Hp->Prop
 |[],_,_=>True
 |j::r,fr,H=>vJ Γ fr H (fun fr' _=>fr' j.dn=fr j.dn) j/\BS Γ r fr H
def vO (Γ:eX):List OJ->Fr->Hp->(Fr->Hp->Prop)->Prop
 |[],fr,H,K=>K fr H
 |.q j::r,fr,H,K=>vJ Γ fr H (fun fr' _=>vO Γ r (put fr j.d (fr' j.dn)) H K) j
 |.m j::r,fr,H,K=>vJ Γ fr H (fun fr' H'=>vO Γ r fr' H' K) j
 |.rc j::r,fr,H,K=>vJ Γ fr H (fun fr' _=>fr' j.dn=fr j.dn) j/\vO Γ r fr H K
 |.fk a b ra rb::r,fr,H,K=>vJ Γ fr H (fun f1 H1=>BS Γ ra f1 H1/\vJ Γ f1 H1 (fun f2 H2=>vO Γ r f2 H2 K) b) a/\vJ Γ fr H (fun f1 H1=>BS Γ rb f1 H1/\vJ Γ f1 H1 (fun f2 H2=>vO Γ r f2 H2 K) a) b
def vc (Γ:eX) (k0:Nat):PC->Fr->Hp->(Ex->Fr->Hp->Prop)->Prop
 |.skip,fr,H,K=>K .n fr H
 |.seq x y,fr,H,K=>vc Γ k0 x fr H (fun e fr' H'=>match e with | .n=>vc Γ k0 y fr' H' K|e=>K e fr' H')
 |.reg js,fr,H,K=>vR Γ js fr H (K .n)
 |.ord l,fr,H,K=>vO Γ l fr H (K .n)
 |.cond o x y,fr,H,K=>match ev (fst fr) o with
  |.va (.c1 (.vl (.bool b)))=>cZ fr o.sl/\(b=true->vc Γ k0 x fr H K)/\(b=false->vc Γ k0 y fr H K)
  |_=>False
 |.block id x,fr,H,K=>vc Γ k0 x fr H (fun e fr' H'=>match e with | .e j=>if j=id then K .n fr' H' else K (.e j) fr' H'|e=>K e fr' H')
 |.loop x,fr,H,K=>∃Inv:Nat->Fr->Hp->Prop,(Gh k0 (fun fr H=>∃m,Inv m fr H) fr H)/\
  ∀m fr H,Inv m fr H->vc Γ k0 x fr H (fun e fr' H'=>match e with | .n=>Gh k0 (fun fr'' H''=>∃m',m'<m/\Inv m' fr'' H'') fr' H'|e=>K e fr' H')
 |.gh x,fr,H,K=>Gh k0 (fun fr' H'=>vc Γ k0 x fr' H' K) fr H
 |.exit id,fr,H,K=>K (.e id) fr H
 |.no,_,_,_=>False
 |.ret,fr,H,K=>K .r fr H
def yP (P:Program) (f:FuncId):Bool:=
 match P.funcs[f]? with
 |some fn=>fn.body.isSome&&!(fn.name == "runtime.NumGoroutine")
 |none=>false
inductive CH where
 |own (σ:List Nat)
 |q
structure Hint where
 σ:Nat->Nat->CH
 gh:Nat->Bool
def mK (P:Program) (nw:Bool) (σ:CH) (op:Op):Option I:=
 match RP P nw op with
 |some i=>some (.q i)
 |none=>match W5 P op with
  |some i=>some (.l i)
  |none=>match trX P op with
   |some (x,y)=>some (.ix x y)
   |none=>match BP P op with
    |some i=>some (.e (match σ with | .q=>i.ext | .own _=>i))
    |none=>match op with
     |.pick c x y=>some (.pick (aT c) (aT x) (aT y))
     |.call c=>match c.callee with
      |.value (.func f)=>some (match σ with | .own l=>.cl f (c.args.toList.map aT) l | .q=>.cq f (c.args.toList.map aT))
      |.value (.tmp t)=>match σ with
       |.own l=>some (.ca (.t t) (c.args.toList.map aT) l)
       |.q=>none
      |_=>none
     |_=>none
def FI (ops:Array Oper):Option (Nat×Bool)->Option (Option (Nat×Bool))
 |none=>some none
 |some (j,want)=>match (ops[j]?).bind (·.dst) with
  |some d=>some (some (d,want))
  |none=>none
def xY (P:Program) (nw:Bool) (N:Nat) (ops:Array Oper) (σ:CH) (o:Oper):Option J:=
 match mK P nw σ o.op,FI ops o.guard with
 |some i,some g=>match o.dst with
  |some d=>if d<N then some ⟨o.dst,g,i⟩ else none
  |none=>some ⟨o.dst,g,i⟩
 |_,_=>none
def nY (P:Program) (nw:Bool) (N:Nat) (ops:Array Oper) (h:Nat->CH):Nat->List Oper->Option (List J)
 |_,[]=>some []
 |k,o::r=>match xY P nw N ops (h k) o,nY P nw N ops h (k+1) r with
  |some j,some js=>some (j::js)
  |_,_=>none
def J.quiet (j:J):Bool:=
 match j.i with
 |.q _ | .ix _ _ | .l _ | .pick _ _ _=>true
 |_=>false
def J.quietC (j:J):Bool:=
 match j.i with
 |.q _ | .ix _ _ | .l _ | .pick _ _ _ | .cq _ _=>true
 |_=>false
def i7:List J->Nat
 |[]=>0
 |j::r=>if j.quiet then i7 r+1 else 0
def eK:List J->Nat
 |[]=>0
 |j::r=>if j.quietC then eK r+1 else 0
def B9 (P:Program) (o:Oper):Bool:=
 o.guard.isNone&&match o.op with
  |.move _ | .assign _=>true
  |.binOp .add t _ _ _ | .binOp .sub t _ _ _=>(match P.underlying t with|some (.int _)=>true|_=>false)
  |_=>false
def II (ops:Array Oper) (n:Nat):Nat->List Nat->List Nat
 |0,acc=>acc
 |i+1,acc=>II ops n i (if (List.range (n+1)).all fun j=>!(decide (i<j)&&Region.waitsFor .any ops j i)||acc.contains j then i::acc else acc)
def r9 (ops:Array Oper) (n:Nat):List Nat:=II ops n n []
def wA (ops:Array Oper) (n:Nat):List Nat:=(List.range n).filter fun i=>!(r9 ops n).contains i
def IB (ls:List Nat) (l:Array Bool):Array Bool:=ls.foldl (fun l i=>l.setIfInBounds i true) l
def tU (ops:Array Oper):List Nat->Array Bool->Bool
 |[],_=>true
 |k::r,l=>(Region.ready .any ops l).contains k&&Region.free .any ops l k&&tU ops r (l.setIfInBounds k true)
def F6 (ops:Array Oper) (n:Nat):List Nat->Array Bool->Bool
 |[],l=>Region.seqB .any ops (ops.size-n) n l
 |k::r,l=>decide (k<n)&&(Region.ready .any ops l).contains k&&Region.free .any ops l k&&F6 ops n r (l.setIfInBounds k true)
def BJ (ops:Array Oper) (n:Nat) (ls:List Nat):Bool:=
 (List.range n).all fun i=>ls.contains i||(List.range (n+1)).any fun j=>decide (i<j)&&!ls.contains j&&Region.waitsFor .any ops j i
def PA (P:Program) (ops:Array Oper) (n:Nat):Bool:=
 Region.noSelect ops&&decide (n<ops.size)&&BJ ops n (r9 ops n)&&Region.chainB .any ops n&&tU ops (r9 ops n) (Array.replicate ops.size false) &&
  F6 ops n (wA ops n) (IB (r9 ops n) (Array.replicate ops.size false))&&(r9 ops n).all (fun i=>match ops[i]? with|some o=>B9 P o|none=>false) &&
  decide ((r9 ops n).length+((wA ops n).length+(ops.size-n))=ops.size)
def hY {α:Type} (l:List α) (is:List Nat):List α:=is.filterMap (l[·]?)
def IR (ops:Array Oper) (js:List J):List J:=hY js (r9 ops (eK js))++(hY js (wA ops (eK js))++js.drop (eK js))
def XK (P:Program):Op->Bool
 |.buildSlice t _ _=>match P.underlying t with
  |some (.slice e)=>match P.info? e with
   |some i=>i.zero.isSome
   |none=>false
  |_=>false
 |_=>false
def ID (P:Program) (ops:Array Oper) (n:Nat):Bool:=
 Region.noSelect ops&&decide (n+1<ops.size)&&Region.chainB .any ops n&&Region.chainB .any ops (n+1)&&BJ ops (n+1) []&&F6 ops n (List.range n) (Array.replicate ops.size false) &&
  (match ops[n]? with
  |some on=>on.guard.isNone&&XK P on.op&&(List.range n).all fun j=>!Region.waitsFor .any ops j n&&(Region.waitsFor .any ops n j||(match ops[j]? with
   |some oj=>on.apart ops oj
   |none=>true))
  |none=>false)
def I.sl:I->List Nat
 |.q i=>i.sl
 |.ix x y=>x.sl++y.sl
 |.l i=>i.sl
 |.e i=>i.sl
 |.pick c x y=>c.sl++(x.sl++y.sl)
 |.cl _ xs _=>O.sls xs
 |.ca x xs _=>x.sl++O.sls xs
 |.cq _ xs=>O.sls xs
def J.rds (j:J):List Nat:=(match j.g with|some (sl,_)=>[sl]|none=>[])++j.i.sl
def J.gix (j:J):Bool:=match j.g,j.i with
 |some _,.ix _ _=>true
 |_,_=>false
def qOf (j:J) (o:Oper):Bool:=j.quiet&&!j.gix&&j.d.isSome&&(match o.op with | .assign _=>false|_=>true)
structure Mk where
 cs:List Value
 T:TypeId
 sz:Option Nat
def lT:EI->Option Mk
 |.al z T=>some ⟨z.cells.toList,T,none⟩
 |.bsl T sz [.k v]=>if v.cells.size=sz then some ⟨v.cells.toList,T,some sz⟩ else none
 |_=>none
def aOf (j:J):Bool:=match j with
 |⟨some _,none,.e i⟩=>(lT i).isSome
 |_=>false
def fT (ops:Array Oper) (js:List J) (i:Nat):Bool:=match js[i]?,ops[i]? with
 |some j,some o=>qOf j o
 |_,_=>false
def dX (js:List J) (i:Nat):Bool:=match js[i]? with
 |some j=>aOf j
 |none=>false
def tG (js:List J) (i:Nat):Option Nat:=(js[i]?).bind (·.d)
def BL (js:List J) (i:Nat):List Nat:=match js[i]? with
 |some j=>j.rds
 |none=>[]
def X3 (ops:Array Oper):List Nat->List Nat->List Nat
 |[],s=>s
 |k::r,s=>X3 ops r (if s.any fun t=>Region.waitsFor .any ops t k then k::s else s)
def kU (ops:Array Oper) (i:Nat):List Nat:=X3 ops (List.range ops.size).reverse [i]
def SX (ops:Array Oper) (pre:List Nat) (i:Nat):Bool:=!pre.contains i&&(List.range ops.size).all fun k=>!Region.waitsFor .any ops i k||pre.contains k
def P2 (ops:Array Oper) (js:List J):Nat->List Nat->List Nat
 |0,_=>[]
 |f+1,pre=>match (List.range ops.size).find? (fun i=>SX ops pre i&&fT ops js i) with
  |some i=>i::P2 ops js f (pre++[i])
  |none=>match (List.range ops.size).find? (fun i=>SX ops pre i&&!dX js i) with
   |some i=>i::P2 ops js f (pre++[i])
   |none=>match (List.range ops.size).find? (SX ops pre) with
    |some i=>i::P2 ops js f (pre++[i])
    |none=>[]
def A7 (ops:Array Oper) (js:List J):List Nat:=P2 ops js ops.size []
def qS (ops:Array Oper) (js:List J) (i:Nat):List Nat->Bool
 |[k]=>!fT ops js i&&!dX js i&&!fT ops js k&&!dX js k&&!Region.waitsFor .any ops i k&&!Region.waitsFor .any ops k i
 |_=>false
def z6 (ops:Array Oper) (js:List J):List Nat->Option (List Nat)
 |[]=>none
 |[i,k]=>if qS ops js i [k] then some [k,i] else none
 |i::r=>(z6 ops js r).map (i::·)
def aGI (ops:Array Oper) (js:List J) (pre:List Nat) (i:Nat) (r:List Nat):Bool:=
 decide (i<ops.size)&&!pre.contains i&&(match ops[i]? with|some o=>o.after.all fun e=>!Region.binds .any e||pre.contains e.on|none=>false) &&
 (!(fT ops js i||dX js i)||pre.all fun k=>!(BL js k).any fun s=>tG js i==some s) &&
 (pre.all fun k=>!(BL js i).any (fun s=>tG js k==some s)||!(fT ops js k)||(kU ops i).contains k) &&
 (match tG js i with
   |some d=>pre.all fun k=>!(tG js k==some d)
   |none=>true) &&
 (!(fT ops js i)||!(BL js i).any fun s=>tG js i==some s) &&
 (fT ops js i||qS ops js i r||r.all fun j=>dX js j||Region.waitsFor .any ops j i||r.any fun k=>!dX js k&&Region.waitsFor .any ops j k) &&
 (!(dX js i)||pre.all fun k=>!dX js k)
def C3 (ops:Array Oper) (js:List J):List Nat->List Nat->Bool
 |_,[]=>true
 |pre,i::r=>aGI ops js pre i r&&C3 ops js (pre++[i]) r
def XC (ops:Array Oper) (js:List J):Bool:=Region.noSelect ops&&decide ((A7 ops js).length=ops.size)&&C3 ops js [] (A7 ops js)&&(match z6 ops js (A7 ops js) with|some l=>C3 ops js [] l|none=>true)
def OA (js:List J) (qs kd:List Nat):List J:=qs.filterMap fun k=>if kd.contains k then none else js[k]?
def BO (js:List J) (qs kd:List Nat):List OJ:=(OA js qs kd).map OJ.rc
def iT (ops:Array Oper) (js:List J):List Nat->List Nat->List Nat->List OJ
 |_,_,[]=>[]
 |qs,kd,i::r=>match js[i]? with
  |none=>[]
  |some j=>if fT ops js i then .q j::iT ops js (qs++[i]) kd r else if qS ops js i r then (match r with
   |[k]=>(match js[k]? with
    |some jk=>.fk j jk (OA js qs (kd++kU ops i)) (OA js qs (kd++kU ops k))::BO js qs (kd++kU ops i++kU ops k)
    |none=>[])
   |_=>[]) else .m j::(BO js qs (kd++kU ops i)++iT ops js qs (kd++kU ops i) r)
def tr (P:Program) (nw:Bool) (N:Nat) (h:Hint):Code->Option PC
 |.skip=>some .skip
 |.seq x y=>match tr P nw N h x,tr P nw N h y with
  |some x,some y=>some (.seq x y)
  |_,_=>none
 |.region id ops draw=>match nY P nw N ops (h.σ id) 0 ops.toList with
  |some js=>if draw then
   (if P.follows .mixedOrders&&(if js.all J.quietC then Region.lexB .any ops else Region.lexTailB .any ops (i7 js)) then some (if h.gh id then .gh (.reg js) else .reg js)
   else if P.follows .mixedOrders&&PA P ops (eK js) then some (if h.gh id then .gh (.reg (IR ops js)) else .reg (IR ops js))
   else if P.follows .mixedOrders&&ID P ops (i7 js) then some (if h.gh id then .gh (.reg js) else .reg js)
   else if P.follows .mixedOrders&&XC ops js then some (if h.gh id then .gh (.ord (iT ops js [] [] (A7 ops js))) else .ord (iT ops js [] [] (A7 ops js))) else none)
   else some (if h.gh id then .gh (.reg js) else .reg js)
  |none=>none
 |.cond o x y=>match tr P nw N h x,tr P nw N h y with
  |some x,some y=>some (.cond (aT o) x y)
  |_,_=>none
 |.block id x=>match tr P nw N h x with
  |some x=>some (.block id x)
  |none=>none
 |.loop x=>match tr P nw N h x with
  |some x=>some (.loop x)
  |none=>none
 |.exit id=>some (.exit id)
 |.refuse _=>some .no
 |.ret=>some .ret
 |_=>none
theorem bD {fr fr2:Fr} {o:O} (h:∀i∈o.sl,fr i=fr2 i):ev fr o=ev fr2 o:=by
 cases o with
 |t i=>exact h i (by simp[O.sl])
 |k v=>rfl
 |f n=>rfl
theorem OP {fr fr2:Fr}:∀{ps:List (Nat×Nat×O)} {cs:List C},(∀i∈O.slp ps,fr i=fr2 i)->I9 fr cs ps=I9 fr2 cs ps
 |[],_,_=>rfl
 | (off,n,o)::r,cs,h=>by
  have h1:ev fr o=ev fr2 o:=bD fun i hi=>h i (by simp[O.slp,hi])
  simp only[I9,h1]
  split
  · exact OP fun i hi=>h i (by simp[O.slp,hi])
  · rfl
theorem NW {fr fr2:Fr} {len:Nat}:∀{ps:List (Nat×Nat×O)},(∀i∈O.slp ps,fr i=fr2 i)->NP fr len ps=NP fr2 len ps
 |[],_=>rfl
 | (off,n,o)::r,h=>by
  have h1:ev fr o=ev fr2 o:=bD fun i hi=>h i (by simp[O.slp,hi])
  simp only[NP,h1]
  rw[NW fun i hi=>h i (by simp[O.slp,hi])]
theorem wC {fr fr2:Fr} {d:Int} {o:Option O} (h:∀i∈O.slo o,fr i=fr2 i):l6 fr d o=l6 fr2 d o:=by
 cases o with
 |none=>rfl
 |some o=>simp only[l6,bD h]
theorem IQ {fr fr2:Fr}:∀{xs:List O},(∀i∈O.sls xs,fr i=fr2 i)->xB fr xs=xB fr2 xs
 |[],_=>rfl
 |o::r,h=>by
  simp only[xB]
  rw[bD (fr:=fr) (fr2:=fr2) (o:=o) fun i hi=>h i (by simp[O.sls,hi]),IQ (xs:=r) fun i hi=>h i (by simp[O.sls,hi])]
theorem FA {fr fr2:Fr}:∀{xs:List O},(∀i∈O.sls xs,fr i=fr2 i)->rX fr xs=rX fr2 xs
 |[],_=>rfl
 |o::r,h=>by
  simp only[rX]
  rw[bD (fr:=fr) (fr2:=fr2) (o:=o) (fun i hi=>h i (by simp[O.sls,hi])),FA (xs:=r) (fun i hi=>h i (by simp[O.sls,hi]))]
theorem D3 {fr fr2:Fr} {H:Hp} {i:QI} (h:∀j∈i.sl,fr j=fr2 j):qv fr H i=qv fr2 H i/\qc fr H i=qc fr2 H i:=by
 have e2:∀{x y:O},(∀j∈x.sl++y.sl,fr j=fr2 j)->ev fr x=ev fr2 x/\ev fr y=ev fr2 y:=fun h=>⟨bD fun i hi=>h i (by simp[hi]),bD fun i hi=>h i (by simp[hi])⟩
 cases i<;>simp only[QI.sl] at h
 case bd zero ps=>simp only[qv,qc,OP h,NW h];exact ⟨trivial,trivial⟩
 case mf f xs=>simp only[qv,qc,IQ h];exact ⟨trivial,trivial⟩
 case mh f xs=>simp only[qv,qc,FA h];exact ⟨trivial,trivial⟩
 case ss x lo hi=>
  have h1:ev fr x=ev fr2 x:=bD fun i hi=>h i (by simp[hi])
  have h2:∀d,l6 fr d lo=l6 fr2 d lo:=fun d=>wC fun i hi=>h i (by simp[hi])
  have h3:∀d,l6 fr d hi=l6 fr2 d hi:=fun d=>wC fun i hi=>h i (by simp[hi])
  simp only[qv,qc,h1,h2,h3];exact ⟨trivial,trivial⟩
 case sf sz x lo hi=>
  have h1:ev fr x=ev fr2 x:=bD fun i hi=>h i (by simp[hi])
  have h2:∀d,l6 fr d lo=l6 fr2 d lo:=fun d=>wC fun i hi=>h i (by simp[hi])
  have h3:∀d,l6 fr d hi=l6 fr2 d hi:=fun d=>wC fun i hi=>h i (by simp[hi])
  simp only[qv,qc,h1,h2,h3];exact ⟨trivial,trivial⟩
 all_goals first
  | (have h1:=bD h;simp only[qv,qc,h1];exact ⟨trivial,trivial⟩)
  | (obtain ⟨h1,h2⟩:=e2 h;simp only[qv,qc,h1,h2];exact ⟨trivial,trivial⟩)
theorem uJ {fr fr2:Fr} {H:Hp} {K:S->Prop} {i:LI} (h:∀j∈i.sl,fr j=fr2 j):vL fr H i K=vL fr2 H i K:=by
 cases i<;>simp only[LI.sl] at h
 case ia sz x y=>
  have h1:ev fr x=ev fr2 x:=bD fun i hi=>h i (by simp[hi])
  have h2:ev fr y=ev fr2 y:=bD fun i hi=>h i (by simp[hi])
  simp only[vL,h1,h2]
 case lk kd z ok x y=>
  have h1:ev fr x=ev fr2 x:=bD fun i hi=>h i (by simp[hi])
  have h2:ev fr y=ev fr2 y:=bD fun i hi=>h i (by simp[hi])
  simp only[vL,h1,h2]
 all_goals (have h1:=bD h;simp only[vL,h1])
theorem AJ {fr fr2:Fr}:∀{xs:List O},(∀i∈O.sls xs,fr i=fr2 i)->rows fr xs=rows fr2 xs/\H3 fr xs=H3 fr2 xs
 |[],_=>⟨rfl,rfl⟩
 |o::r,h=>by
  have h1:ev fr o=ev fr2 o:=bD fun i hi=>h i (by simp[O.sls,hi])
  obtain ⟨h2,h3⟩:=AJ (xs:=r) fun i hi=>h i (by simp[O.sls,hi])
  exact ⟨by simp only[rows,h1,h2],by simp only[H3,h1,h3]⟩
theorem VE {fr fr2:Fr} {H:Hp} {K:S->Hp->Prop} {i:EI} (h:∀j∈i.sl,fr j=fr2 j):vE fr H K i=vE fr2 H K i:=by
 have e2:∀{x y:O},(∀j∈x.sl++y.sl,fr j=fr2 j)->ev fr x=ev fr2 x/\ev fr y=ev fr2 y:=fun h=>⟨bD fun i hi=>h i (by simp[hi]),bD fun i hi=>h i (by simp[hi])⟩
 cases i<;>simp only[EI.sl] at h
 case bsl T sz xs=>obtain ⟨h1,h2⟩:=AJ h;simp only[vE,h1,h2]
 case bslx T sz xs=>obtain ⟨h1,h2⟩:=AJ h;simp only[vE,h1,h2]
 case al=>rfl
 case bx=>have h1:=bD h;simp only[vE,h1]
 case st=>obtain ⟨h1,h2⟩:=e2 h;simp only[vE,h1,h2]
 case ap=>obtain ⟨h1,h2⟩:=e2 h;simp only[vE,vA,h1,h2]
 case aps=>obtain ⟨h1,h2⟩:=e2 h;simp only[vE,vA,h1,h2]
 case apz=>obtain ⟨h1,h2⟩:=e2 h;simp only[vE,vZ,h1,h2]
 case us=>obtain ⟨h1,h2⟩:=e2 h;simp only[vE,h1,h2]
 case mm=>rfl
 case mk=>obtain ⟨h1,h2⟩:=e2 h;simp only[vE,h1,h2]
 case mu kd x k y=>
  have h1:ev fr x=ev fr2 x:=bD fun i hi=>h i (by simp[hi])
  have h2:ev fr k=ev fr2 k:=bD fun i hi=>h i (by simp[hi])
  have h3:ev fr y=ev fr2 y:=bD fun i hi=>h i (by simp[hi])
  simp only[vE,h1,h2,h3]
end Go.W
