/- Lemmas and walks for the proof. -/
import Derived.Test.YtngnfcbdgiodfaaGreatNc
import Derived.Deep.LoopGhost
import Derived.ProofKit
import Derived.OpenShut
import Derived.ChangeStays
import Derived.Deep.Slices
import Derived.JoinedCond
set_option maxRecDepth 100000
set_option maxHeartbeats 8000000
namespace Go.W
abbrev Mk.S (m:Mk) (b:Nat):S:=.va (.c1 (.vl (m.v b)))
theorem BD {i:EI} {m:Mk} (h:cN i=some m):m.ok:=by
 unfold cN at h
 split at h
 · cases h; intro sz hs; cases hs
 · split at h
   · rename_i hc; cases h; intro sz hs; cases hs; simpa using hc
   · cases h
 · cases h
theorem uP (v:Value):(A.ofV v).cells=v.cells.toList.map C.vl:=by cases v<;>rfl
theorem A9 {fr:Fr} {H:Hp} {K:S->Hp->Prop} {i:EI} {m:Mk} (h:cN i=some m) (hv:vE fr H K i):K (m.s H.length) (H ++ [m.B]):=by
 unfold cN at h
 split at h
 · cases h; exact hv
 · rename_i T sz v
   split at h
   · cases h
     simp only [vE,rows,ev] at hv
     cases hs:S.ofV v with
     | va a=>
      rw [hs] at hv
      simp only at hv
      have ha:a=A.ofV v:=by
       unfold S.ofV at hs
       split at hs
       · cases hs
       · cases hs; rfl
      subst ha
      rw [uP] at hv
      exact hv.2
     | _=>rw [hs] at hv; exact hv.elim
   · cases h
 · cases h
theorem yW {P:Program} {w:World} {a:Act} {o:Oper} {t e:TypeId} {n:Nat} {x:Operand} {i:TypeInfo} {z:Value} (ho:o.op=.buildSlice t 1 #[(0,x)]) (ht:P.underlying t=some (.slice e))
 (hi:P.info? e=some i) (hz:i.zero=some z) (hzs:z.cells.size=i.size) (hsz:0 < i.size) (hb:i.size<=16777216) (hx:(a.eval x).cells.size=i.size) :
 (execOp a.eval o).run P w=.ok (.value (.slice (some ⟨w.heap.size,0,none⟩) 1 1)) (w.alloc (.cells (a.eval x).cells.toList.toArray e)):=by
 have hfill:=iO (sz:=i.size) [a.eval x] [(a.eval x).cells.toList] 0 [] ((Array.range (1 * i.size)).map (fun j=>z.cells[j % z.cells.size]!)).toList rfl (by simp) (by simp) (by simp [hx])
  (fun j v r h1 h2=>by
    cases j with
    | zero=>simp at h1 h2; subst h1; subst h2; rfl
    | succ j=>simp at h1)
 simp only [List.nil_append,Array.toArray_toList] at hfill
 have h1:¬ (1 * i.size > 2 ^ 24):=by omega
 have h2:¬ (1 * i.size=0):=by omega
 simp only [execOp,ho,Instr.buildSlice]
 simp only [Sem.run_bind,underlying,run_program,Result.andThen_ok,ht,Sem.run_pure,sizeOf,typeInfo,hi,zeroValue,hz,h1,h2,if_false]
 have hzip:((#[(0,x)]:Array (Nat × Operand)).map fun (x:Nat × Operand)=>(x.1,a.eval x.2)).toList=(List.range' 0 [a.eval x].length).zip [a.eval x]:=by simp [List.range']
 rw [<-hzip] at hfill
 rw [hfill]
 simp [newRow]
theorem AG {P:Program} {nw:Bool} {σ:CH} {o:Oper} {i:EI} {m:Mk} (hm:cN i=some m) (h:cW P nw σ o.op=some (.e i)) {a:Act} {w:World}:(execOp a.eval o).run P w=.ok (.value (m.v w.heap.size)) (w.alloc (.cells m.cs.toArray m.T)):=by
 have hi:iY P o.op=some i:=by
  obtain ⟨i0,h0,h1 | h1⟩:=w3 h
  · rw [h1]; exact h0
  · cases i0<;>simp only [EI.ext] at h1<;>subst h1<;>first | exact h0 | (simp [cN] at hm)
 cases ho:o.op<;>rw [ho] at hi<;>simp only [iY,reduceCtorEq,aB] at hi
 case alloc t=>
  split at hi<;>simp only [aB,reduceCtorEq] at hi
  rename_i z' hz
  subst hi
  cases hinf:P.info? t with
  | none=>simp [hinf] at hz
  | some inf=>
   simp only [hinf,Option.map_some,aB] at hz
   simp only [cN,aB] at hm
   subst hm
   simp [execOp,ho,Instr.alloc,zeroValue,typeInfo,hinf,hz,newVar,newRow,Mk.v]
 case store t x y=>split at hi<;>simp at hi; subst hi; simp [cN] at hm
 case box t x=>subst hi; simp [cN] at hm
 case makeMap t r=>
  split at hi
  · cases hi
  · split at hi
    · simp at hi; obtain ⟨_,_,rfl⟩:=hi; simp [cN] at hm
    · cases hi
 case makeSlice t x y=>
  split at hi<;>try (cases hi; done)
  split at hi<;>try (cases hi; done)
  split at hi<;>try (cases hi; done)
  split at hi<;>simp at hi
  subst hi; simp [cN] at hm
 case mapUpdate t q k v=>
  split at hi
  · simp at hi; obtain ⟨_,_,rfl⟩:=hi; simp [cN] at hm
  · cases hi
 case buildSlice t len parts=>
  split at hi<;>try (cases hi; done)
  rename_i e ht
  split at hi<;>try (cases hi; done)
  rename_i inf hinf
  split at hi<;>try (cases hi; done)
  rename_i z hz
  split at hi<;>simp only [aB,reduceCtorEq] at hi
  rename_i hc
  obtain ⟨c1,c2,c3,c4,c5,c6⟩:=hc
  subst hi
  unfold cN at hm
  split at hm
  · rename_i h0; cases h0
  · rename_i v h0
    simp only [EI.bsl.injEq] at h0
    obtain ⟨rfl,rfl,h3⟩:=h0
    split at hm<;>simp only [aB,reduceCtorEq] at hm
    rename_i hsz
    subst hm
    cases hp:parts.toList with
    | nil=>rw [hp] at h3; cases h3
    | cons p r=>
     rw [hp] at h3 c6
     simp only [List.map_cons,List.cons.injEq,List.map_eq_nil_iff] at h3
     obtain ⟨h3,rfl⟩:=h3
     obtain ⟨n,x⟩:=p
     have hlen:len=1:=by have:=congrArg List.length c6; simpa using this.symm
     subst hlen
     have hn:n=0:=by simpa using c6
     subst hn
     have hpa:parts=#[(0,x)]:=by rw [<-Array.toArray_toList (xs:=parts),hp]
     have hev:a.eval x=v:=by
      cases x with
      | tmp t=>cases h3
      | const u=>cases h3; rfl
      | global g=>cases h3; rfl
      | func f=>cases h3
     have:=yW (w:=w) (a:=a) (n:=0) (by rw [ho,hpa]) ht hinf hz c1 c2 (by omega) (by rw [hev]; exact hsz)
     rw [this,hev]
     simp [Mk.v]
  · cases hm
 case call c=>
  obtain ⟨cl,args,ats⟩:=c
  simp only at hi
  split at hi
  · split at hi<;>try (cases hi; done)
    split at hi<;>try (cases hi; done)
    split at hi<;>try (cases hi; done)
    split at hi
    · simp at hi; subst hi; simp [cN] at hm
    · split at hi<;>try (cases hi; done)
      split at hi<;>simp at hi<;>(subst hi; simp [cN] at hm)
  · split at hi<;>try (cases hi; done)
    split at hi<;>try (cases hi; done)
    split at hi<;>simp at hi
    subst hi; simp [cN] at hm
  · cases hi
structure OrdOk (P:Program) (nw:Bool) (N:Nat) (ops:Array Oper) (js:List J) (π:List Nat):Prop where
 jt:∀ (i:Nat) (o:Oper),ops[i]? = some o->∃ (j:J) (σ:CH),js[i]? = some j/\gZ P nw N ops σ o=some j
 ck:∀ p i r,π=p ++ i :: r->Ck ops js p i r
 all:∀ i,i < ops.size->i ∈ π
structure Inv (X:Ctx) (Γ:bU) (ops:Array Oper) (js:List J) (π:List Nat) (K:Fr->Hp->Prop) (N:Nat) (ov:Nat->Option S) (qs kd:List Nat) (f:Nat) (rest pre:List Nat) (l:Array Bool) (fr:Fr) (E:Es) (ro:RO) (a:Act) (w:World):Prop where
 ord:π=pre ++ rest
 size:l.size=ops.size
 clo:∀ i k,Dn l i->Region.waitsFor .any ops i k=true->Dn l k
 pq:∀ i ∈ pre,bK ops js i=false->Dn l i
 ra:∀ i ∈ rest,Dn l i->cY js i=true
 fuel:cnt ops.size l<=f
 v1:∀ s,ov s ≠ none->∃ i,fC js i=some s/\((i ∈ pre/\¬ Dn l i)\/(i ∈ rest/\Dn l i))
 v3:∀ i ∈ rest,Dn l i->∃ d ei m b,js[i]? = some ⟨some d,none,.e ei⟩/\cN ei=some m/\ov d=some (m.S b)/\Ea X E ro w m b
 fra:FRel N (gm E) ro (dP ov fr) a
 rel:Rel X E ro w
 hqs:∀ i ∈ pre,bK ops js i=true->i ∈ qs
 hkd:∀ t ∈ kd,Dn l t
 vo:vO Γ (bX ops js qs kd rest) fr (hp E) K
 rc:∀ i ∈ pre,¬ Dn l i->∀ j,js[i]? = some j->vJ Γ fr (hp E) (fun fr' _=>fr' j.dn=fr j.dn) j
theorem Dn.lt {l:Array Bool} {i:Nat} (h:Dn l i):i < l.size:=by
 rcases kK i l.size with e | e
 · exact e
 · unfold Dn at h; simp [Array.getElem?_eq_none e] at h
theorem lL {ops:Array Oper} {js:List J} {i:Nat} (h:bK ops js i=true):∃ j o d,js[i]? = some j/\ops[i]? = some o/\j.quiet=true/\j.gix=false/\j.d=some d:=by
 unfold bK at h
 split at h
 · rename_i j o h1 h2
   unfold B2 at h
   simp only [Bool.and_eq_true,Bool.not_eq_true'] at h
   obtain ⟨d,hd⟩:=Option.isSome_iff_exists.1 h.1.2
   exact ⟨j,o,d,h1,h2,h.1.1.1,h.1.1.2,hd⟩
 · cases h
theorem pK {js:List J} {i:Nat} (h:cY js i=true):∃ d ei m,js[i]? = some ⟨some d,none,.e ei⟩/\cN ei=some m:=by
 unfold cY at h
 split at h
 · rename_i j hj
   unfold BX at h
   split at h
   · obtain ⟨m,hm⟩:=Option.isSome_iff_exists.1 h
     exact ⟨_,_,m,hj,hm⟩
   · cases h
 · cases h
theorem vV {ops:Array Oper} {js:List J} {i:Nat} (h:cY js i=true):bK ops js i=false:=by
 obtain ⟨d,ei,m,hj,_⟩:=pK h
 unfold bK
 rw [hj]
 split
 · rename_i j o h1 h2; cases h1; rfl
 · rfl
theorem dR {js:List J} {i:Nat} {j:J} {d:Nat} (h:js[i]? = some j) (hd:j.d=some d):fC js i=some d:=by unfold fC; rw [h]; exact hd
theorem mL {js:List J} {i:Nat} {j:J} (h:js[i]? = some j):iV js i=j.rds:=by unfold iV; rw [h]
theorem oJ {j:J} {d:Nat} (h:j.d=some d):j.dn=d:=by unfold J.dn; rw [h]; rfl
theorem lB {Γ:bU} {H:Hp} {j:J} {d:Nat} (hd:j.d=some d) {f1 f2:Fr} {s:S} (hA:∀ i ∈ j.rds,f1 i=f2 i):vJ Γ f1 H (fun fr' _=>fr' d=s) j=vJ Γ f2 H (fun fr' _=>fr' d=s) j:=by
 refine tW (fun f1 f2=>∀ i ∈ j.rds,f1 i=f2 i) (fun _ _ h=>h) (fun f1 f2 sl s _ h i hi=>?_) (fun f1 f2 s' H' h=>?_) hA
 · simp only [put]; split
   · rfl
   · exact h i hi
 · rw [hd,bM,bM]
section
variable {P:Program} {N:Nat} {nw:Bool} {X:Ctx} {Γ:bU} {ops:Array Oper} {js:List J} {π:List Nat} {K:Fr->Hp->Prop} {ov:Nat->Option S} {qs kd:List Nat} {f:Nat} {rest pre:List Nat} {l:Array Bool} {fr:Fr} {E:Es} {ro:RO} {a:Act} {w:World}
theorem j9 {pre r:List Nat} {i k:Nat} (h:π=pre ++ i :: r) (hk:k ∈ r):∃ p r',π=p ++ k :: r'/\i ∈ p/\∀ x ∈ pre,x ∈ p:=by
 obtain ⟨r1,r2,rfl⟩:=List.append_of_mem hk
 exact ⟨pre ++ i :: r1,r2,by rw [h]; simp,by simp,fun x hx=>by simp [hx]⟩
theorem A2 (ok:OrdOk P nw N ops js π) {i:Nat} {r:List Nat} (h:Inv X Γ ops js π K N ov qs kd f (i :: r) pre l fr E ro a w) (hq:bK ops js i=true) (hu:¬ Dn l i) :
 ∃ fr' ov' qs',Inv X Γ ops js π K N ov' qs' kd f r (pre ++ [i]) l fr' E ro a w:=by
 have ck:=ok.ck pre i r h.ord
 obtain ⟨j,o,d,hj,ho,hqu,hgx,hd⟩:=lL hq
 have hds:=dR hj hd
 have hvo:=h.vo
 simp only [bX,hj,hq,if_true,vO] at hvo
 rw [oJ hd,hd] at hvo
 obtain ⟨s,hΦ,hself⟩:=yI (Φ:=fun s=>vO Γ (bX ops js (qs ++ [i]) kd r) (put fr (some d) s) (hp E) K) hd hqu hgx hvo
 have hrd:∀ x ∈ j.rds,fr x=put fr (some d) s x:=fun x hx=>by
  have:x ≠ d:=fun e=>ck.own hq x (by rw [mL hj]; exact hx) (by rw [hds,e])
  simp [put,this]
 refine ⟨put fr (some d) s,fun k=>if k=d then some .un else ov k,qs ++ [i],?_⟩
 refine ⟨by rw [h.ord]; simp,h.size,h.clo,fun k hk hkq=>?_,fun k hk=>h.ra k (by simp [hk]),h.fuel,fun x hx=>?_,fun k hk hkd=>?_,h.fra.weak fun k=>?_,h.rel,fun k hk hkq=>?_,h.hkd,hΦ,fun k hk hku jk hjk=>?_⟩
 · rcases List.mem_append.1 hk with hk | hk
   · exact h.pq k hk hkq
   · rw [List.mem_singleton.1 hk,hq] at hkq; cases hkq
 · by_cases hxd:x=d
   · subst hxd; exact ⟨i,hds,.inl ⟨by simp,hu⟩⟩
   · simp only [hxd,if_false] at hx
     obtain ⟨k,h1,h2 | h2⟩:=h.v1 x hx
     · exact ⟨k,h1,.inl ⟨by simp [h2.1],h2.2⟩⟩
     · rcases List.mem_cons.1 h2.1 with rfl | h3
       · exact absurd h2.2 hu
       · exact ⟨k,h1,.inr ⟨h3,h2.2⟩⟩
 · obtain ⟨d',ei,m,b,h1,hmk,h2,h3⟩:=h.v3 k (by simp [hk]) hkd
   obtain ⟨p,r',e,hip,_⟩:=j9 h.ord hk
   have hne:d' ≠ d:=fun e2=>by
    subst e2
    exact (ok.ck p k r' e).ds d' (dR h1 rfl) i hip hds
   exact ⟨d',ei,m,b,h1,hmk,by simp only [hne,if_false]; exact h2,h3⟩
 · by_cases hkd:k=d
   · right; subst hkd; unfold dP; simp
   · left
     unfold dP
     simp only [hkd,if_false]
     cases ov k with
     | none=>simp [put,hkd]
     | some x=>rfl
 · rcases List.mem_append.1 hk with hk | hk
   · exact List.mem_append_left _ (h.hqs k hk hkq)
   · exact List.mem_append_right _ hk
 · rcases List.mem_append.1 hk with hk | hk
   · have hkq:bK ops js k=true:=by
      cases hc:bK ops js k with
      | true=>rfl
      | false=>exact absurd (h.pq k hk hc) hku
     obtain ⟨j',o',dk,hj',_,_,_,hdk⟩:=lL hkq
     obtain rfl:j'=jk:=by rw [hj'] at hjk; exact bB hjk
     have hne:dk ≠ d:=fun e=>ck.ds d hds k hk (by rw [<-e]; exact dR hj' hdk)
     have h0:=h.rc k hk hku j' hj'
     rw [oJ hdk] at h0 ⊢
     have e1:put fr (some d) s dk=fr dk:=by simp [put,hne]
     rw [e1,<-lB hdk (f1:=fr) fun x hx=>?_]
     · exact h0
     · have:x ≠ d:=fun e=>ck.q1 (.inl hq) k hk x (by rw [mL hj']; exact hx) (by rw [hds,e])
       simp [put,this]
   · obtain rfl:=List.mem_singleton.1 hk
     obtain rfl:j=jk:=by rw [hj] at hjk; exact bB hjk
     rw [oJ hd,bM,<-lB hd hrd]
     exact hself
theorem xO (ok:OrdOk P nw N ops js π) {i:Nat} {r:List Nat} (h:Inv X Γ ops js π K N ov qs kd f (i :: r) pre l fr E ro a w) (hu:Dn l i) :
 ∃ fr' E' ov' kd',Inv X Γ ops js π K N ov' qs kd' f r (pre ++ [i]) l fr' E' ro a w:=by
 have ck:=ok.ck pre i r h.ord
 have ha:=h.ra i (by simp) hu
 obtain ⟨d,ei,m,b,hj,hmk,hov,hea⟩:=h.v3 i (by simp) hu
 have hds:=dR hj rfl
 have hnq:=vV (ops:=ops) ha
 have hvo:=h.vo
 have hnf:eD ops js i r=false:=by
  cases hf:eD ops js i r with
  | false=>rfl
  | true=>
   obtain ⟨_,_,_,h2,_⟩:=lT hf
   rw [ha] at h2; cases h2
 simp only [bX,hj,hnq,hnf,if_false,Bool.false_eq_true,vO] at hvo
 have hvo2:vO Γ (iX js qs (kd ++ cG ops i) ++ bX ops js qs (kd ++ cG ops i) r) (put fr (some d) (m.s (hp E).length)) (hp E ++ [m.B]) K:=A9 hmk hvo.2
 obtain ⟨hrc,hvo3⟩:=pN hvo2
 have hkd:∀ t ∈ kd ++ cG ops i,Dn l t:=fun t ht=>by
  rcases List.mem_append.1 ht with ht | ht
  · exact h.hkd t ht
  · exact nK (p:=Dn l) h.clo hu t ht
 have hslot:=h.fra.slot d
 rw [jM hov] at hslot
 have hslot':a.tmps.getD d undef=m.v b:=hslot
 refine ⟨put fr (some d) (m.s (hp E).length),E ++ [(m.g b,m.B)],fun k=>if k=d then none else ov k,kd ++ cG ops i,?_⟩
 have hmono:=h.fra.mono (bG [(m.g b,m.B)]) (Ext.refl ro)
 refine ⟨by rw [h.ord]; simp,h.size,h.clo,fun k hk hkq=>?_,fun k hk=>h.ra k (by simp [hk]),h.fuel,fun x hx=>?_,fun k hk hkd=>?_,⟨hmono.size,fun k=>?_,hmono.defers⟩,h.rel.admE (BD hmk) hea,fun k hk hkq=>?_,hkd,by rw [cQ]; exact hvo3,fun k hk hku jk hjk=>?_⟩
 · rcases List.mem_append.1 hk with hk | hk
   · exact h.pq k hk hkq
   · rw [List.mem_singleton.1 hk]; exact hu
 · by_cases hxd:x=d
   · simp [hxd] at hx
   · simp only [hxd,if_false] at hx
     obtain ⟨k,h1,h2 | h2⟩:=h.v1 x hx
     · exact ⟨k,h1,.inl ⟨by simp [h2.1],h2.2⟩⟩
     · rcases List.mem_cons.1 h2.1 with rfl | h3
       · rw [hds] at h1; exact absurd (bB h1).symm hxd
       · exact ⟨k,h1,.inr ⟨h3,h2.2⟩⟩
 · obtain ⟨p,r',e,hip,_⟩:=j9 h.ord hk
   have:=(ok.ck p k r' e).a1 (h.ra k (by simp [hk]) hkd) i hip
   rw [ha] at this; cases this
 · by_cases hkd:k=d
   · subst hkd
     rw [eU (by simp),bM,hslot']
     exact m.rel (by simp [gm,b4])
   · have:=hmono.slot k
     unfold dP at this ⊢
     simp only [hkd,if_false]
     cases hovk:ov k with
     | none=>rw [hovk] at this; simp only [put,hkd,if_false]; exact this
     | some x=>rw [hovk] at this; exact this
 · rcases List.mem_append.1 hk with hk | hk
   · exact h.hqs k hk hkq
   · rw [List.mem_singleton.1 hk,hnq] at hkq; cases hkq
 · rcases List.mem_append.1 hk with hk | hk
   · have hkq:bK ops js k=true:=by
      cases hc:bK ops js k with
      | true=>rfl
      | false=>exact absurd (h.pq k hk hc) hku
     rw [cQ]
     exact hrc k (h.hqs k hk hkq) (fun hin=>hku (hkd k hin)) jk hjk
   · rw [List.mem_singleton.1 hk] at hku; exact absurd hu hku
theorem Inv.swap {i k:Nat} (h:Inv X Γ ops js π K N ov qs kd f [i,k] pre l fr E ro a w) (hf:eD ops js i [k]=true):Inv X Γ ops js (pre ++ [k,i]) K N ov qs kd f [k,i] pre l fr E ro a w:=by
 obtain ⟨_,e,h1,h2,h3,h4,h5⟩:=lT hf
 cases e
 have hm:∀ x,x ∈ [k,i]->x ∈ [i,k]:=fun x hx=>by simp at hx ⊢; exact hx.symm
 have hvo:=h.vo
 refine ⟨rfl,h.size,h.clo,h.pq,fun x hx=>h.ra x (hm x hx),h.fuel,fun s hs=>?_,fun x hx=>h.v3 x (hm x hx),h.fra,h.rel,h.hqs,h.hkd,?_,h.rc⟩
 · obtain ⟨x,e1,e2 | e2⟩:=h.v1 s hs
   · exact ⟨x,e1,.inl e2⟩
   · exact ⟨x,e1,.inr ⟨by have:=e2.1; simp at this ⊢; exact this.symm,e2.2⟩⟩
 · simp only [bX,h1,h3,hf,h5,if_true,if_false,Bool.false_eq_true] at hvo ⊢
   cases hi:js[i]? with
   | none=>rw [hi] at hvo; cases hk:js[k]? with
    | none=>exact hvo
    | some jk=>exact hvo
   | some ji=>
    cases hk:js[k]? with
    | none=>rw [hi,hk] at hvo; exact hvo
    | some jk=>
     rw [hi,hk] at hvo
     simp only [vO] at hvo ⊢
     have e:iX js qs (kd ++ cG ops k ++ cG ops i)=iX js qs (kd ++ cG ops i ++ cG ops k):=by
      unfold iX
      rw [uF fun x=>?_]
      simp only [List.mem_append]
      constructor<;>(rintro ((h | h) | h)<;>simp [h])
     rw [e]
     exact ⟨hvo.2,hvo.1⟩
theorem pY (ok:OrdOk P nw N ops js π) (h:Inv X Γ ops js π K N ov qs kd f rest pre l fr E ro a w) {k:Nat} {p r:List Nat} (e:π=p ++ k :: r) (hp:∀ x ∈ p,x ∈ pre\/¬ Dn l x) (hpre:k ∈ pre\/∃ r',rest=k :: r') (hu:¬ Dn l k)
 (hw:∀ t,Region.waitsFor .any ops k t=true->Dn l t):∀ s ∈ iV js k,ov s=none:=by
 have ck:=ok.ck p k r e
 intro s hs
 cases hov:ov s with
 | none=>rfl
 | some x=>
  exfalso
  obtain ⟨i,h1,h2⟩:=h.v1 s (by rw [hov]; simp)
  have hanc:∀ t ∈ cG ops k,t=k\/Dn l t:=nK (p:=fun t=>t=k\/Dn l t) (fun i t hi hwt=>by
   rcases hi with rfl | hi
   · exact .inr (hw t hwt)
   · exact .inr (h.clo i t hi hwt)) (.inl rfl)
  have hiπ:i ∈ p\/i=k\/i ∈ r:=by
   have:i ∈ π:=by
    rw [h.ord]
    rcases h2 with h2 | h2
    · exact List.mem_append_left _ h2.1
    · exact List.mem_append_right _ h2.1
   rw [e] at this
   rcases List.mem_append.1 this with h | h
   · exact .inl h
   · exact .inr (List.mem_cons.1 h)
  have hik:bK ops js i=true\/cY js i=true:=by
   rcases h2 with h2 | h2
   · cases hc:bK ops js i with
     | true=>exact .inl rfl
     | false=>exact absurd (h.pq i h2.1 hc) h2.2
   · exact .inr (h.ra i h2.1 h2.2)
  rcases hiπ with hi | hi | hi
  · rcases h2 with h2 | h2
    · have hq:bK ops js i=true:=by
       cases hc:bK ops js i with
       | true=>rfl
       | false=>exact absurd (h.pq i h2.1 hc) h2.2
      rcases hanc i (ck.rd i hi s hs h1 hq) with e1 | e1
      · subst e1; exact ck.new hi
      · exact h2.2 e1
    · rcases hp i hi with h3 | h3
      ·
       obtain ⟨q1,q2,eq⟩:=List.append_of_mem h2.1
       have:=(ok.ck (pre ++ q1) i q2 (by rw [h.ord,eq]; simp)).new
       exact this (List.mem_append_left _ h3)
      · exact h3 h2.2
  · subst hi
    rcases h2 with h2 | h2
    · have hq:bK ops js i=true:=by
       cases hc:bK ops js i with
       | true=>rfl
       | false=>exact absurd (h.pq i h2.1 hc) h2.2
      exact ck.own hq s hs h1
    · exact hu h2.2
  · obtain ⟨p',r',e',hkp,_⟩:=j9 e hi
    exact (ok.ck p' i r' e').q1 hik k hkp s hs h1
end
section
variable {P:Program} {N:Nat} {nw:Bool} {X:Ctx} {Γ:bU} {ops:Array Oper} {js:List J} {π:List Nat} {K:Fr->Hp->Prop} {ov:Nat->Option S} {qs kd:List Nat} {f:Nat} {rest pre:List Nat} {l:Array Bool} {fr:Fr} {E:Es} {ro:RO} {a:Act} {w:World}
theorem bW {k:Nat} (h:k ∈ Region.ready .any ops l):¬ Dn l k/\∃ o,ops[k]? = some o/\(∀ t,Region.waitsFor .any ops k t=true->Dn l t):=by
 obtain ⟨h1,o,h2,h3⟩:=mem_ready.1 h
 refine ⟨fun hd=>?_,o,h2,fun t ht=>?_⟩
 · have:=getD_both h1
   unfold Dn at hd
   rw [hd] at this; cases this
 · obtain ⟨o',ho',e,he,hb,hon⟩:=Region.waitsFor_spec ht
   cases h2.symm.trans ho'
   rw [<-hon]; exact h3 e he hb
theorem j0 {k:Nat} (hclo:∀ i k,Dn l i->Region.waitsFor .any ops i k=true->Dn l k) (hw:∀ t,Region.waitsFor .any ops k t=true->Dn l t):∀ i t,Dn (l.setIfInBounds k true) i->Region.waitsFor .any ops i t=true->Dn (l.setIfInBounds k true) t:=fun i t hi ht=>by
 rcases aU hi with hi | rfl
 · exact bF (hclo i t hi ht)
 · exact bF (hw t ht)
theorem xJ (ok:OrdOk P nw N ops js π) (h:Inv X Γ ops js π K N ov qs kd (f + 1) rest pre l fr E ro a w) {Q':Exit->Act->World->Prop} {k:Nat} (hk:k ∈ pre) (hr:k ∈ Region.ready .any ops l) :
 wpOp P ops Q' k (fun a' w'=>∃ ov',Inv X Γ ops js π K N ov' qs kd f rest pre (l.setIfInBounds k true) fr E ro a' w') a w:=by
 obtain ⟨hu,o,ho,hw⟩:=bW hr
 have hkq:bK ops js k=true:=by
  cases hc:bK ops js k with
  | true=>rfl
  | false=>exact absurd (h.pq k hk hc) hu
 obtain ⟨p,r1,epre⟩:=List.append_of_mem hk
 have e:π=p ++ k :: (r1 ++ rest):=by rw [h.ord,epre]; simp
 have ck:=ok.ck p k _ e
 obtain ⟨j,o',d,hj,ho',hqu,hgx,hd⟩:=lL hkq
 obtain ⟨j',σ,hj',htr⟩:=ok.jt k o ho
 obtain rfl:j=j':=by rw [hj] at hj'; exact bB hj'
 have hfree:=pY ok h e (fun x hx=>.inl (by rw [epre]; exact List.mem_append_left _ hx)) (.inl hk) hu hw
 rw [mL hj] at hfree
 obtain ⟨_,_,hdst,hN⟩:=eH htr
 have h0:=h.rc k hk hu j hj
 rw [oJ hd,lB hd (f2:=dP ov fr) fun x hx=>(eU (hfree x hx)).symm] at h0
 have hq:=fV h.fra h.rel htr hqu h0
 have hod:o.dst=some d:=by rw [<-hdst,hd]
 have hin:k < l.size:=by rw [h.size]; exact ck.lt
 have fr_ok:∀ {fr1:Fr} {v:Value},fr1 d=fr d->FRel N (gm E) ro fr1 (a.put o.dst v)->Inv X Γ ops js π K N (fun x=>if x=d then none else ov x) qs kd f rest pre (l.setIfInBounds k true) fr E ro (a.put o.dst v) w:=fun {fr1 v} e1 hf1=>by
  have hput:=h.fra.put (d:=o.dst) hN (s:=.un) (v:=v) trivial
  refine ⟨h.ord,by rw [Array.size_setIfInBounds]; exact h.size,j0 h.clo hw,fun i hi hiq=>bF (h.pq i hi hiq),fun i hi hid=>?_,?_,fun x hx=>?_,fun i hi hid=>?_,⟨hput.size,fun x=>?_,hput.defers⟩,h.rel,h.hqs,fun t ht=>bF (h.hkd t ht),h.vo,fun i hi hiu jj hjj=>h.rc i hi (fun hd=>hiu (bF hd)) jj hjj⟩
  · rcases aU hid with h1 | rfl
    · exact h.ra i hi h1
    · obtain ⟨q1,q2,eq⟩:=List.append_of_mem hi
      have:=(ok.ck (pre ++ q1) i q2 (by rw [h.ord,eq]; simp)).new
      exact absurd (List.mem_append_left _ hk) this
  · have:=fO (n:=ops.size) ck.lt h.size hu; have:=h.fuel; omega
  · by_cases hxd:x=d
    · simp [hxd] at hx
    · simp only [hxd,if_false] at hx
      obtain ⟨i,h1,h2 | h2⟩:=h.v1 x hx
      · refine ⟨i,h1,.inl ⟨h2.1,fun hid=>?_⟩⟩
        rcases aU hid with h3 | rfl
        · exact h2.2 h3
        · rw [dR hj hd] at h1; exact hxd (bB h1).symm
      · exact ⟨i,h1,.inr ⟨h2.1,bF h2.2⟩⟩
  · have hdi:Dn l i:=by
     rcases aU hid with h1 | rfl
     · exact h1
     · obtain ⟨q1,q2,eq⟩:=List.append_of_mem hi
       have:=(ok.ck (pre ++ q1) i q2 (by rw [h.ord,eq]; simp)).new
       exact absurd (List.mem_append_left _ hk) this
    obtain ⟨d',ei,m,b,h1,hmk,h2,h3⟩:=h.v3 i hi hdi
    have hne:d' ≠ d:=fun e2=>by
     subst e2
     obtain ⟨q1,q2,eq⟩:=List.append_of_mem hi
     exact (ok.ck (pre ++ q1) i q2 (by rw [h.ord,eq]; simp)).ds d' (dR h1 rfl) k (List.mem_append_left _ hk) (dR hj hd)
    exact ⟨d',ei,m,b,h1,hmk,by simp only [hne,if_false]; exact h2,h3⟩
  · by_cases hxd:x=d
    · subst hxd
      rw [eU (by simp),<-e1]
      exact hf1.slot x
    · have:=hput.slot x
      rw [hod] at this ⊢
      simp only [W.put,hxd,if_false] at this
      unfold dP at this ⊢
      simp only [hxd,if_false]
      exact this
 unfold wpOp
 simp only [ho]
 split
 · rename_i hwt
   rw [if_pos hwt] at hq
   obtain ⟨fr1,e1,v,hf1,hrun⟩:=hq
   refine .inl ?_
   unfold Oper.wp
   rw [hrun w h.rel,Oper.upon_value]
   exact ⟨_,fr_ok e1 hf1⟩
 · rename_i hwt
   rw [if_neg hwt] at hq
   obtain ⟨fr1,e1,hf1⟩:=hq
   exact ⟨_,fr_ok e1 hf1⟩
theorem A0 (ok:OrdOk P nw N ops js π) (h:Inv X Γ ops js π K N ov qs kd (f + 1) rest pre l fr E ro a w) {Q':Exit->Act->World->Prop} {k:Nat} (hk:k ∈ rest) (ha:cY js k=true) (hr:k ∈ Region.ready .any ops l) :
 wpOp P ops Q' k (fun a' w'=>∃ ov',Inv X Γ ops js π K N ov' qs kd f rest pre (l.setIfInBounds k true) fr E ro a' w') a w:=by
 obtain ⟨hu,o,ho,hw⟩:=bW hr
 obtain ⟨d,ei,m,hj,hmk⟩:=pK ha
 obtain ⟨j',σ,hj',htr⟩:=ok.jt k o ho
 obtain rfl:⟨some d,none,.e ei⟩=j':=by rw [hj] at hj'; exact bB hj'
 obtain ⟨hi,hg,hdst,hN⟩:=eH htr
 have hgn:o.guard=none:=by
  cases hgd:o.guard with
  | none=>rfl
  | some gw=>
   obtain ⟨k',want⟩:=gw
   rw [hgd] at hg
   simp only [dC] at hg
   split at hg<;>simp at hg
 obtain ⟨q1,q2,eq⟩:=List.append_of_mem hk
 have eπ:π=(pre ++ q1) ++ k :: q2:=by rw [h.ord,eq]; simp
 have ck:=ok.ck _ k q2 eπ
 have hod:o.dst=some d:=hdst.symm
 have hds:=dR hj rfl
 have hrun:=AG hmk hi (a:=a) (w:=w)
 unfold wpOp
 simp only [ho]
 rw [if_pos (bC hgn _)]
 refine .inl ?_
 unfold Oper.wp
 rw [hrun,Oper.upon_value]
 refine ⟨fun x=>if x=d then some (m.S w.heap.size) else ov x,?_⟩
 have hput:=h.fra.put (d:=o.dst) hN (s:=m.S w.heap.size) (v:=m.v w.heap.size) rfl
 have hrel:Rel X E ro (w.alloc (.cells m.cs.toArray m.T)):=h.rel.grown (bE w _) (aV w _) rfl rfl rfl
 have only:∀ i ∈ rest,Dn l i->False:=fun i hi hid=>by
  have hai:=h.ra i hi hid
  have:i ≠ k:=fun e=>hu (e ▸ hid)
  rw [eq] at hi
  rcases List.mem_append.1 hi with hi | hi
  · have:=ck.a1 ha i (List.mem_append_right _ hi)
    rw [hai] at this; cases this
  · rcases List.mem_cons.1 hi with hi | hi
    · exact this hi
    · obtain ⟨p,r',e,hip,_⟩:=j9 eπ hi
      have:=(ok.ck p i r' e).a1 hai k hip
      rw [ha] at this; cases this
 refine ⟨h.ord,by rw [Array.size_setIfInBounds]; exact h.size,j0 h.clo hw,fun i hi hiq=>bF (h.pq i hi hiq),fun i hi hid=>?_,?_,fun x hx=>?_,fun i hi hid=>?_,⟨hput.size,fun x=>?_,hput.defers⟩,hrel,h.hqs,fun t ht=>bF (h.hkd t ht),h.vo,fun i hi hiu jj hjj=>h.rc i hi (fun hd=>hiu (bF hd)) jj hjj⟩
 · rcases aU hid with h1 | rfl
   · exact h.ra i hi h1
   · exact ha
 · have:=fO (n:=ops.size) ck.lt h.size hu; have:=h.fuel; omega
 · by_cases hxd:x=d
   · subst hxd
     exact ⟨k,hds,.inr ⟨hk,cT (by rw [h.size]; exact ck.lt)⟩⟩
   · simp only [hxd,if_false] at hx
     obtain ⟨i,h1,h2 | h2⟩:=h.v1 x hx
     · refine ⟨i,h1,.inl ⟨h2.1,fun hid=>?_⟩⟩
       rcases aU hid with h3 | rfl
       · exact h2.2 h3
       · exact ck.new (List.mem_append_left _ h2.1)
     · exact ⟨i,h1,.inr ⟨h2.1,bF h2.2⟩⟩
 · rcases aU hid with h1 | rfl
   · exact (only i hi h1).elim
   · refine ⟨d,ei,m,w.heap.size,hj,hmk,by simp,heap_alloc_new w _,h.rel.sz,fun n g blk hn hl hob=>?_,fun off v hv=>?_⟩
     · have:=(h.rel.own n g blk hn).lt hl hob; omega
     · have:=h.rel.cell_lt hv; omega
 · have:=hput.slot x
   rw [hod] at this ⊢
   by_cases hxd:x=d
   · subst hxd
     rw [jM (s:=m.S w.heap.size) (by simp)]
     rw [bM] at this
     exact this
   · simp only [W.put,hxd,if_false] at this
     unfold dP at this ⊢
     simp only [hxd,if_false]
     exact this
theorem mZ (ok:OrdOk P nw N ops js π) (hm:MeetsIn P X Γ) {i:Nat} {r:List Nat} (h:Inv X Γ ops js π K N ov qs kd (f + 1) (i :: r) pre l fr E ro a w) {Q':Exit->Act->World->Prop} (hnq:bK ops js i=false) (hvo:∀ j,js[i]? = some j->vO Γ (.m j :: (iX js qs (kd ++ cG ops i) ++ bX ops js qs (kd ++ cG ops i) r)) fr (hp E) K) (hr:i ∈ Region.ready .any ops l) :
 wpOp P ops Q' i (fun a' w'=>∃ fr' E' ro' kd',Inv X Γ ops js π K N ov qs kd' f r (pre ++ [i]) (l.setIfInBounds i true) fr' E' ro' a' w') a w:=by
 obtain ⟨hu,o,ho,hw⟩:=bW hr
 have ck:=ok.ck pre i r h.ord
 obtain ⟨j,σ,hj,htr⟩:=ok.jt i o ho
 have hfree:=pY ok h h.ord (fun x hx=>.inl hx) (.inr ⟨r,rfl⟩) hu hw
 rw [mL hj] at hfree
 have hvo:=hvo j hj
 simp only [vO] at hvo
 have hdfree:∀ d,j.d=some d->ov d=none:=fun d hd=>by
  cases hov:ov d with
  | none=>rfl
  | some x=>
   exfalso
   obtain ⟨k,h1,h2 | h2⟩:=h.v1 d (by rw [hov]; simp)
   · exact ck.ds d (dR hj hd) k h2.1 h1
   · rcases List.mem_cons.1 h2.1 with rfl | h3
     · exact hu h2.2
     · obtain ⟨p,r',e,hip,_⟩:=j9 h.ord h3
       exact (ok.ck p k r' e).ds d h1 i hip (dR hj hd)
 obtain ⟨KK,hKK⟩:∃ KK:Fr->Hp->Prop,KK=fun fr' H'=>vO Γ (iX js qs (kd ++ cG ops i) ++ bX ops js qs (kd ++ cG ops i) r) fr' H' K:=⟨_,rfl⟩
 rw [<-hKK] at hvo
 let res:Fr->Fr:=fun f1 x=>match ov x with | some _=>fr x | none=>f1 x
 have hv1:vJ Γ (dP ov fr) (hp E) (fun f1 H'=>KK (res f1) H'/\∀ x s,ov x=some s->f1 x=s) j:=by
  rw [tW (K2:=KK) (f2:=fr) (fun f1 f2=>∀ x,(ov x=none->f1 x=f2 x)/\∀ s,ov x=some s->f1 x=s/\f2 x=fr x) (fun f1 f2 hR x hx=>(hR x).1 (hfree x hx)) (fun f1 f2 sl s hg hR x=>?_) (fun f1 f2 s H' hR=>?_) (fun x=>⟨fun hx=>eU hx,fun s hs=>⟨jM hs,rfl⟩⟩)]
  · exact hvo
  · have hsl:ov sl=none:=by
     obtain ⟨w',hg⟩:=hg
     exact hfree sl (by unfold J.rds; rw [hg]; simp)
    simp only [put]
    refine ⟨fun hx=>?_,fun s' hs'=>?_⟩
    · split
      · rfl
      · exact (hR x).1 hx
    · have:x ≠ sl:=fun e=>by rw [e,hsl] at hs'; cases hs'
      simp only [this,if_false]
      exact (hR x).2 s' hs'
  · have e1:res (put f1 j.d s)=put f2 j.d s:=by
     funext x
     simp only [res]
     cases hov:ov x with
     | none=>
      simp only
      cases hjd:j.d with
      | none=>exact (hR x).1 hov
      | some d=>
       simp only [put]; split
       · rfl
       · exact (hR x).1 hov
     | some s'=>
      simp only
      cases hjd:j.d with
      | none=>exact ((hR x).2 s' hov).2.symm
      | some d=>
       have:x ≠ d:=fun e=>by rw [e,hdfree d hjd] at hov; cases hov
       simp only [put,this,if_false]
       exact ((hR x).2 s' hov).2.symm
    have e2:∀ x s',ov x=some s'->put f1 j.d s x=s':=fun x s' hov=>by
     cases hjd:j.d with
     | none=>exact ((hR x).2 s' hov).1
     | some d=>
      have:x ≠ d:=fun e=>by rw [e,hdfree d hjd] at hov; cases hov
      simp only [put,this,if_false]
      exact ((hR x).2 s' hov).1
    simp only [e1]
    exact propext ⟨fun h=>h.1,fun h=>⟨h,e2⟩⟩
 have step:=nH (Q:=Q') (next:=fun a' w'=>∃ fr' E' ro' kd',Inv X Γ ops js π K N ov qs kd' f r (pre ++ [i]) (l.setIfInBounds i true) fr' E' ro' a' w') h.fra h.rel.here (hm.here h.rel) htr hv1 (fun fr1 E' ro' a' w' hK1 hf1 hr1=>by
  obtain ⟨hK1,hov1⟩:=hK1
  rw [hKK] at hK1
  obtain ⟨hrc,hvo3⟩:=pN hK1
  have hover:dP ov (res fr1)=fr1:=by
   funext x
   unfold dP
   simp only [res]
   cases hov:ov x with
   | none=>rfl
   | some s=>exact (hov1 x s hov).symm
  have hkd:∀ t ∈ kd ++ cG ops i,Dn (l.setIfInBounds i true) t:=fun t ht=>by
   rcases List.mem_append.1 ht with ht | ht
   · exact bF (h.hkd t ht)
   · exact nK (p:=Dn (l.setIfInBounds i true)) (j0 h.clo hw) (cT (by rw [h.size]; exact ck.lt)) t ht
  have hir:∀ k ∈ r,k ≠ i:=fun k hk e=>by
   obtain ⟨p,r',e',hip,_⟩:=j9 h.ord hk
   exact (ok.ck p k r' e').new (by rw [e]; exact hip)
  refine ⟨res fr1,E',ro',kd ++ cG ops i,⟨by rw [h.ord]; simp,by rw [Array.size_setIfInBounds]; exact h.size,j0 h.clo hw,fun k hk hkq=>?_,fun k hk hkd=>?_,?_,fun x hx=>?_,fun k hk hkd=>?_,by rw [hover]; exact hf1,h.rel.thru hr1,fun k hk hkq=>?_,hkd,hvo3,fun k hk hku jk hjk=>?_⟩⟩
  · rcases List.mem_append.1 hk with hk | hk
    · exact bF (h.pq k hk hkq)
    · rw [List.mem_singleton.1 hk]; exact cT (by rw [h.size]; exact ck.lt)
  · rcases aU hkd with h1 | h1
    · exact h.ra k (by simp [hk]) h1
    · exact absurd h1 (hir k hk)
  · have:=fO (n:=ops.size) ck.lt h.size hu; have:=h.fuel; omega
  · obtain ⟨k,h1,h2 | h2⟩:=h.v1 x hx
    · refine ⟨k,h1,.inl ⟨by simp [h2.1],fun hkd=>?_⟩⟩
      rcases aU hkd with h3 | rfl
      · exact h2.2 h3
      · exact ck.new h2.1
    · rcases List.mem_cons.1 h2.1 with rfl | h3
      · exact absurd h2.2 hu
      · exact ⟨k,h1,.inr ⟨h3,bF h2.2⟩⟩
  · have hdk:Dn l k:=by
     rcases aU hkd with h1 | h1
     · exact h1
     · exact absurd h1 (hir k hk)
    obtain ⟨d',ei,m,b,h1,hmk,h2,h3⟩:=h.v3 k (by simp [hk]) hdk
    exact ⟨d',ei,m,b,h1,hmk,h2,h3.keep hr1⟩
  · rcases List.mem_append.1 hk with hk | hk
    · exact h.hqs k hk hkq
    · rw [List.mem_singleton.1 hk,hnq] at hkq; cases hkq
  · have hkp:k ∈ pre:=by
     rcases List.mem_append.1 hk with hk | hk
     · exact hk
     · rw [List.mem_singleton.1 hk] at hku; exact absurd (cT (by rw [h.size]; exact ck.lt)) hku
    have hkq:bK ops js k=true:=by
     cases hc:bK ops js k with
     | true=>rfl
     | false=>exact absurd (bF (h.pq k hkp hc)) hku
    exact hrc k (h.hqs k hkp hkq) (fun hin=>hku (hkd k hin)) jk hjk)
 unfold wpOp
 simp only [ho]
 split
 · rename_i hwt
   rw [if_pos hwt] at step
   exact .inl step
 · rename_i hwt
   rw [if_neg hwt] at step
   exact step
theorem c7 (l:Array Bool):∀ q:List Nat,(∀ i ∈ q,Dn l i)\/∃ p i r,q=p ++ i :: r/\(∀ k ∈ p,Dn l k)/\¬ Dn l i
 | []=>.inl fun i hi=>by cases hi
 | x :: q=>by
  by_cases hx:Dn l x
  · rcases c7 l q with h | ⟨p,i,r,h1,h2,h3⟩
    · exact .inl fun i hi=>by rcases List.mem_cons.1 hi with rfl | hi; exact hx; exact h i hi
    · exact .inr ⟨x :: p,i,r,by rw [h1]; rfl,fun k hk=>by rcases List.mem_cons.1 hk with rfl | hk; exact hx; exact h2 k hk,h3⟩
  · exact .inr ⟨[],x,q,rfl,fun k hk=>(by cases hk),hx⟩
theorem dQ (ok:OrdOk P nw N ops js π) (hs:l.size=ops.size) (h:Region.ready .any ops l=[]):∀ i ∈ π,Dn l i:=by
 rcases c7 l π with hd | ⟨p,i,r,e,h1,h2⟩
 · exact hd
 · exfalso
   have ck:=ok.ck p i r e
   have hlt:=ck.lt
   have ho:ops[i]? = some ops[i]:=Array.getElem?_eq_getElem hlt
   have:i ∈ Region.ready .any ops l:=mem_ready.2 ⟨getD_in (by rw [hs]; exact ck.lt) (by
    cases hd:l.getD i false with
    | false=>rfl
    | true=>exact absurd hd h2),_,ho,fun e he hb=>h1 _ (ck.wt _ ho e he hb)⟩
   rw [h] at this; cases this
theorem uZ (hm:MeetsIn P X Γ) {Q':Exit->Act->World->Prop} (hQ:∀ fr E ro a w,K fr (hp E)->FRel N (gm E) ro fr a->Rel X E ro w->Q' .normal a w) :
 ∀ (f:Nat) (π:List Nat),OrdOk P nw N ops js π->(∀ p i k,π=p ++ [i,k]->eD ops js i [k]=true->OrdOk P nw N ops js (p ++ [k,i]))->∀ (rest pre:List Nat) (l:Array Bool) (fr:Fr) (E:Es) (ro:RO) (a:Act) (w:World) (ov:Nat->Option S) (qs kd:List Nat),Inv X Γ ops js π K N ov qs kd f rest pre l fr E ro a w->wpAny P .any ops Q' f l a w:=by
 have fin:∀ (f:Nat) (π:List Nat) (ok:OrdOk P nw N ops js π) (rest pre:List Nat) (l:Array Bool) (fr:Fr) (E:Es) (ro:RO) (a:Act) (w:World) (ov:Nat->Option S) (qs kd:List Nat),Inv X Γ ops js π K N ov qs kd f rest pre l fr E ro a w->(∀ i ∈ π,Dn l i)->Q' .normal a w:=by
  intro f π ok rest
  induction rest with
  | nil=>
   intro pre l fr E ro a w ov qs kd h hd
   have hov:∀ x,ov x=none:=fun x=>by
    cases hov:ov x with
    | none=>rfl
    | some s=>
     obtain ⟨i,_,h2 | h2⟩:=h.v1 x (by rw [hov]; simp)
     · exact absurd (hd i (by rw [h.ord]; simp [h2.1])) h2.2
     · cases h2.1
   have he:dP ov fr=fr:=funext fun x=>eU (hov x)
   have hf:=h.fra
   rw [he] at hf
   exact hQ fr E ro a w h.vo hf h.rel
  | cons i r ih=>
   intro pre l fr E ro a w ov qs kd h hd
   obtain ⟨fr',E',ov',kd',h'⟩:=xO ok h (hd i (by rw [h.ord]; simp))
   exact ih _ _ _ _ _ _ _ _ _ _ h' hd
 intro f
 induction f with
 | zero=>
  intro π ok hG rest pre l fr E ro a w ov qs kd h
  have hd:∀ i ∈ π,Dn l i:=fun i hi=>kX (Nat.le_zero.1 h.fuel) i (by
   obtain ⟨p,r,e⟩:=List.append_of_mem hi
   exact (ok.ck p i r e).lt)
  refine ⟨?_,fin _ _ ok _ _ _ _ _ _ _ _ _ _ _ h hd⟩
  cases hr:Region.ready .any ops l with
  | nil=>rfl
  | cons k ks=>
   obtain ⟨hu,o,ho,_⟩:=bW (ops:=ops) (l:=l) (k:=k) (by rw [hr]; simp)
   exact absurd (hd k (ok.all k (Array.getElem?_eq_some_iff.1 ho).1)) hu
 | succ f ih=>
  intro π ok hG rest
  induction rest with
  | nil=>
   intro pre l fr E ro a w ov qs kd h
   refine ⟨fun hr=>fin _ _ ok _ _ _ _ _ _ _ _ _ _ _ h (dQ ok h.size hr),fun k hk=>?_⟩
   obtain ⟨hu,o,ho,_⟩:=bW hk
   have hkp:k ∈ pre:=by
    have:=ok.all k (Array.getElem?_eq_some_iff.1 ho).1
    rw [h.ord] at this; simpa using this
   exact wpOp_mono (fun a' w' ⟨ov',h'⟩=>ih π ok hG _ _ _ _ _ _ _ _ _ _ _ h') (xJ ok h hkp hk)
  | cons i r ihr=>
   intro pre l fr E ro a w ov qs kd h
   by_cases hd:Dn l i
   · obtain ⟨fr',E',ov',kd',h'⟩:=xO ok h hd
     exact ihr _ _ _ _ _ _ _ _ _ _ h'
   · cases hq:bK ops js i with
     | true=>
      obtain ⟨fr',ov',qs',h'⟩:=A2 ok h hq hd
      exact ihr _ _ _ _ _ _ _ _ _ _ h'
     | false=>
      refine ⟨fun hr=>absurd (dQ ok h.size hr i (by rw [h.ord]; simp)) hd,fun k hk=>?_⟩
      obtain ⟨hu,o,ho,hw⟩:=bW hk
      have hkπ:=ok.all k (Array.getElem?_eq_some_iff.1 ho).1
      rw [h.ord] at hkπ
      rcases List.mem_append.1 hkπ with hkp | hkr
      · exact wpOp_mono (fun a' w' ⟨ov',h'⟩=>ih π ok hG _ _ _ _ _ _ _ _ _ _ _ h') (xJ ok h hkp hk)
      · cases hak:cY js k with
        | true=>exact wpOp_mono (fun a' w' ⟨ov',h'⟩=>ih π ok hG _ _ _ _ _ _ _ _ _ _ _ h') (A0 ok h hkr hak hk)
        | false=>
         have hvo:=h.vo
         cases hnf:eD ops js i r with
         | true=>
          obtain ⟨k',rfl,h1,h2,h3,h4,h5⟩:=lT hnf
          have hG2:∀ p i0 k0,pre ++ [k',i]=p ++ [i0,k0]->eD ops js i0 [k0]=true->OrdOk P nw N ops js (p ++ [k0,i0]):=fun p i0 k0 e _=>by
           obtain ⟨rfl,e2⟩:=List.append_inj' e rfl
           obtain ⟨rfl,rfl⟩:k'=i0/\i=k0:=by simpa using e2
           have:=h.ord; subst this; exact ok
          obtain ⟨ji,_,eji,_⟩:=ok.jt i _ (Array.getElem?_eq_getElem (ok.ck pre i [k'] h.ord).lt)
          obtain ⟨jk,_,ejk,_⟩:=ok.jt k' _ (Array.getElem?_eq_getElem (ok.ck (pre ++ [i]) k' [] (by rw [h.ord]; simp)).lt)
          have tl:∀ (x y:Nat) (jx jy:J),js[x]? = some jx->js[y]? = some jy->bK ops js x=false->bK ops js y=false->eD ops js x [y]=true->vO Γ (bX ops js qs kd [x,y]) fr (hp E) K->∀ j,js[x]? = some j->vO Γ (.m j :: (iX js qs (kd ++ cG ops x) ++ bX ops js qs (kd ++ cG ops x) [y])) fr (hp E) K:=by
           intro x y jx jy hx hy qx qy hxy hv j hj
           cases hj.symm.trans hx
           have ny:eD ops js y []=false:=rfl
           simp only [bX,hx,hy,qx,qy,hxy,ny,if_true,if_false,Bool.false_eq_true,List.append_nil] at hv ⊢
           simp only [vO] at hv ⊢
           unfold iX at hv ⊢
           simp only [p6,vO]
           exact hv.1
          rcases List.mem_cons.1 hkr with rfl | hkr'
          · exact wpOp_mono (fun a' w' ⟨fr',E',ro',kd',h'⟩=>ih π ok hG _ _ _ _ _ _ _ _ _ _ _ h') (mZ ok hm h hq (tl _ _ _ _ eji ejk h1 h3 hnf h.vo) hk)
          · rw [List.mem_singleton.1 hkr'] at hk
            have hs:=h.swap hnf
            have ok2:=hG pre i k' h.ord hnf
            rw [List.mem_singleton.1 hkr']
            exact wpOp_mono (fun a' w' ⟨fr',E',ro',kd',h'⟩=>ih _ ok2 hG2 _ _ _ _ _ _ _ _ _ _ _ h') (mZ ok2 hm hs h3 (tl _ _ _ _ ejk eji h3 h1 h5 hs.vo) hk)
         | false=>
         have hvo':∀ j,js[i]? = some j->vO Γ (.m j :: (iX js qs (kd ++ cG ops i) ++ bX ops js qs (kd ++ cG ops i) r)) fr (hp E) K:=fun j hj=>by
          simp only [bX,hj,hq,hnf,if_false,Bool.false_eq_true] at hvo
          exact hvo
         rcases List.mem_cons.1 hkr with rfl | hkr'
         · exact wpOp_mono (fun a' w' ⟨fr',E',ro',kd',h'⟩=>ih π ok hG _ _ _ _ _ _ _ _ _ _ _ h') (mZ ok hm h hq hvo' hk)
         · exfalso
           rcases (ok.ck pre i r h.ord).hd hq hnf k hkr' hak with h1 | ⟨k',h1,h2,h3⟩
           · exact hd (hw i h1)
           · have:=h.ra k' (by simp [h1]) (hw k' h3)
             rw [h2] at this; cases this
theorem oG (hm:MeetsIn P X Γ) {id:Nat} {hh:Nat->CH} (hmix:P.follows .mixedOrders=true) (hB:i5 ops js=true)
 (hf:FRel N (gm E) ro fr a) (hr:Rel X E ro w) (hv:vO Γ (bX ops js [] [] (c9 ops js)) fr (hp E) K) {Q:Exit->Act->World->Prop}
 (hQ:∀ fr E ro a w,K fr (hp E)->FRel N (gm E) ro fr a->Rel X E ro w->Q .normal a w) (hget:∀ (i:Nat) (o:Oper),ops.toList[i]? = some o->∃ (j:J),js[i]? = some j/\gZ P nw N ops (hh i) o=some j):(Code.region id ops true).wp P Q a w:=by
 unfold i5 at hB
 simp only [Bool.and_eq_true,decide_eq_true_eq] at hB
 obtain ⟨⟨⟨_,hl⟩,hC⟩,hF⟩:=hB
 have ok1:∀ π,eB ops js [] π=true->π.length=ops.size->OrdOk P nw N ops js π:=fun π hC hl=>by
  refine ⟨fun i o ho=>?_,fun p i r e=>?_,y3 hC hl⟩
  · obtain ⟨j,h1,h2⟩:=hget i o (by simpa using ho)
    exact ⟨j,_,h1,h2⟩
  · have:=fM _ [] p i r hC e
    simpa using this
 have ok:=ok1 _ hC hl
 have hG:∀ p i k,c9 ops js=p ++ [i,k]->eD ops js i [k]=true->OrdOk P nw N ops js (p ++ [k,i]):=fun p i k e hf=>by
  rw [mX _ p i k e hf] at hF
  exact ok1 _ hF (by rw [<-hl,e]; simp)
 refine wp_region_any hmix (uZ hm hQ _ _ ok hG (c9 ops js) [] _ fr E ro a _ (fun _=>none) [] [] ?_)
 have hnd:∀ i,¬ Dn (Array.replicate ops.size false) i:=fun i h=>by unfold Dn at h; rw [getD_replicate_false] at h; cases h
 refine ⟨rfl,by simp,fun i k hi=>absurd hi (hnd i),fun i hi=>(by cases hi),fun i _ hi=>absurd hi (hnd i),?_,fun s hs=>absurd rfl hs,fun i _ hi=>absurd hi (hnd i),?_,hr.drew,fun i hi=>(by cases hi),fun t ht=>(by cases ht),hv,fun i hi=>(by cases hi)⟩
 · unfold cnt
   exact Nat.le_trans (List.length_filter_le _ _) (by rw [List.length_range]; exact Nat.le_refl _)
 · have he:dP (fun _=>none) fr=fr:=rfl
   rw [he]; exact hf
end
def Ex.to:Ex->Exit
 | .n=>.normal
 | .e id=>.exit id
 | .r=>.ret
inductive RV where
 | mv (o:O)
 | ld (i:LI)
def n3:List A->S
 | [a]=>.va a
 | l=>.tu l
def o0 (az:List S):Fr:=fun i=>az.getD i .un
section
variable {P:Program} {N:Nat} {nw:Bool} {X:Ctx} {Γ:bU}
theorem gA {ops:Array Oper} {h:Nat->CH}:∀ (n:Nat) {l:List Oper} {k:Nat} {js:List J},dM P nw N ops h k l=some js->
 dM P nw N ops h k (l.take n)=some (js.take n)/\dM P nw N ops h (k + n) (l.drop n)=some (js.drop n)
 | 0,l,k,js,hj=>⟨rfl,by simpa using hj⟩
 | n + 1,[],k,js,hj=>by simp only [dM,aB] at hj; subst hj; exact ⟨rfl,rfl⟩
 | n + 1,o :: l,k,js,hj=>by
  obtain ⟨j,js',rfl,h1,h2⟩:=eG hj
  obtain ⟨h3,h4⟩:=gA n h2
  refine ⟨?_,?_⟩
  · simp only [List.take_succ_cons,dM,h1,h3]
  · simp only [List.drop_succ_cons]; rw [<-h4]; congr 1; omega
theorem iC:∀ (js:List J),∀ j ∈ js.take (bZ js),j.quiet=true
 | [],j,h=>by simp at h
 | k :: r,j,h=>by
  simp only [bZ] at h
  split at h
  · rename_i hk
    simp only [List.take_succ_cons,List.mem_cons] at h
    rcases h with rfl | h
    · exact hk
    · exact iC r j h
  · simp at h
theorem n7 (hm:MeetsIn P X Γ) {id:Nat} {ops:Array Oper} {draw:Bool} {h:Nat->CH} {js:List J} (hj:dM P nw N ops h 0 ops.toList=some js)
 (hd:draw=true->(P.follows .mixedOrders && (if js.all J.quietC then Region.lexB .any ops else Region.lexTailB .any ops (bZ js)))=true)
 {fr:Fr} {E:Es} {ro:RO} {a:Act} {w:World} {K:Fr->Hp->Prop} (hf:FRel N (gm E) ro fr a) (hr:Rel X E ro w) (hv:vR Γ js fr (hp E) K) {Q:Exit->Act->World->Prop}
 (hQ:∀ fr E ro a w,K fr (hp E)->FRel N (gm E) ro fr a->Rel X E ro w->Q .normal a w):(Code.region id ops draw).wp P Q a w:=by
 cases draw with
 | false=>exact wp_region_list (gN hm hQ _ _ _ hj _ _ _ _ _ hf hr hv)
 | true=>
  have hd:=hd rfl
  simp only [Bool.and_eq_true] at hd
  obtain ⟨hmix,hB⟩:=hd
  split at hB
  · rename_i hl
    refine wp_region_quiet (C:=Rel X E ro) hmix hB hr.drew ?_
    exact gJ (X:=X) hm w ops.toList 0 js hj (fun j hj'=>List.all_eq_true.1 hl j hj') fr E ro a K hf hr hv fun fr' a' hf' hK w' hr'=>hQ _ _ _ _ _ hK hf' hr'
  · rename_i hl
    have hops:ops=ops.toList.toArray:=by simp
    rw [hops] at hB ⊢
    refine wp_region_still_tail (bZ js) hmix hB ?_
    obtain ⟨h1,h2⟩:=gA (bZ js) hj
    rw [Nat.zero_add] at h2
    rw [hops] at h1 h2
    refine iD (Y:=X) _ 0 _ (js.drop (bZ js)) h1 (iC js) fr E ro a K hf hr.drew (by rw [List.take_append_drop]; exact hv) fun fr' a' hf' hK=>?_
    exact gN (X:=X) hm hQ _ _ _ h2 _ _ _ _ _ hf' hr.drew hK
theorem nS {ops:Array Oper} {n:Nat}:∀ (m:Nat) (acc:List Nat),(∀ x ∈ acc,x < n)->m<=n->∀ x ∈ lU ops n m acc,x < n
 | 0,acc,h,_,x,hx=>h x hx
 | m + 1,acc,h,hm,x,hx=>by
  simp only [lU] at hx
  refine nS m _ ?_ (by omega) x hx
  split
  · intro y hy
    rcases List.mem_cons.1 hy with rfl | hy
    · omega
    · exact h y hy
  · exact h
theorem nN {ops:Array Oper} {n:Nat}:∀ (is:List Nat) (l:Array Bool),HeadInv .any ops n l->j8 ops is l=true->(∀ i ∈ is,i < n)->
 HeadInv .any ops n (mN is l)/\(∀ k,l.getD k false=true->(mN is l).getD k false=true)/\∀ i ∈ is,(mN is l).getD i false=true
 | [],l,inv,_,_=>⟨inv,fun _ h=>h,fun _ h=>by cases h⟩
 | i :: is,l,inv,hB,hlt=>by
  simp only [j8,Bool.and_eq_true] at hB
  obtain ⟨⟨hr,_⟩,hB'⟩:=hB
  have hr':i ∈ Region.ready .any ops l:=by simpa using hr
  obtain ⟨h1,h2,h3⟩:=nN is _ (inv.set hr' (hlt i (by simp))) hB' fun k hk=>hlt k (by simp [hk])
  have hset:(l.setIfInBounds i true).getD i false=true:=by
   obtain ⟨_,o,ho,_⟩:=mem_ready.1 hr'
   have:i < l.size:=by rw [inv.size]; exact (Array.getElem?_eq_some_iff.1 ho).1
   simp [this]
  refine ⟨h1,fun k hk=>h2 k (getD_set_true hk),fun k hk=>?_⟩
  rcases List.mem_cons.1 hk with rfl | hk
  · exact h2 _ hset
  · exact h3 k hk
theorem nG {ops:Array Oper} {h:Nat->CH}:∀ {l:List Oper} {k:Nat} {js:List J},dM P nw N ops h k l=some js->∀ (i:Nat) (o:Oper),l[i]? = some o->∃ j,js[i]? = some j/\gZ P nw N ops (h (k + i)) o=some j
 | [],_,_,_,_,_,h1=>by cases h1
 | o' :: l,k,js,hj,i,o,ho=>by
  obtain ⟨j,js',rfl,h1,h2⟩:=eG hj
  cases i with
  | zero=>cases ho; exact ⟨j,rfl,h1⟩
  | succ i=>
   obtain ⟨j',h3,h4⟩:=nG h2 i o (by simpa using ho)
   exact ⟨j',by simpa using h3,by rw [<-h4]; congr 2; omega⟩
theorem fI {ops:Array Oper} {h:Nat->CH} {js:List J} (hj:dM P nw N ops h 0 ops.toList=some js):∀ (is:List Nat),(∀ i ∈ is,i < ops.size)->sY P nw N ops is (bV js is)
 | [],_=>.nil
 | i :: is,hlt=>by
  have hi:=hlt i (by simp)
  obtain ⟨j,h1,h2⟩:=nG hj i ops[i] (by simp [hi])
  have hpk:bV js (i :: is)=j :: bV js is:=by
   unfold bV
   rw [List.filterMap_cons,h1]
  rw [hpk]
  exact .cons ⟨ops[i],_,Array.getElem?_eq_getElem hi,h2⟩ (fI hj is fun k hk=>hlt k (by simp [hk]))
theorem kJ:∀ (js:List J),∀ j ∈ js.take (aT js),j.quietC=true
 | [],j,h=>by simp at h
 | k :: r,j,h=>by
  simp only [aT] at h
  split at h
  · rename_i hk
    simp only [List.take_succ_cons,List.mem_cons] at h
    rcases h with rfl | h
    · exact hk
    · exact kJ r j h
  · simp at h
theorem nD (hm:MeetsIn P X Γ) {id:Nat} {ops:Array Oper} {h:Nat->CH} {js:List J} (hj:dM P nw N ops h 0 ops.toList=some js) (hmix:P.follows .mixedOrders=true) (hB:oK P ops (aT js)=true)
 {fr:Fr} {E:Es} {ro:RO} {a:Act} {w:World} {K:Fr->Hp->Prop} (hf:FRel N (gm E) ro fr a) (hr:Rel X E ro w) (hv:vR Γ (mC ops js) fr (hp E) K) {Q:Exit->Act->World->Prop}
 (hQ:∀ fr E ro a w,K fr (hp E)->FRel N (gm E) ro fr a->Rel X E ro w->Q .normal a w):(Code.region id ops true).wp P Q a w:=by
 unfold oK at hB
 simp only [Bool.and_eq_true,decide_eq_true_eq] at hB
 obtain ⟨⟨⟨⟨⟨⟨⟨hsel,hn⟩,hs⟩,hc⟩,htk⟩,hlex⟩,hpu⟩,hlen⟩:=hB
 have hlt:∀ i ∈ eR ops (aT js),i < aT js:=nS _ _ (fun x hx=>by cases hx) (Nat.le_refl _)
 have hltr:∀ i ∈ gB ops (aT js),i < aT js:=fun i hi=>by unfold gB at hi; rw [List.mem_filter] at hi; exact List.mem_range.1 hi.1
 have inv0:HeadInv .any ops (aT js) (Array.replicate ops.size false):=
  ⟨by simp,fun j oj _ hl=>(by rw [getD_replicate_false] at hl; cases hl),fun t _ ht=>getD_in (by simpa using ht) (getD_replicate_false _ _)⟩
 obtain ⟨inv,_,hls⟩:=nN _ _ inv0 htk hlt
 refine Code.wp_mono (Q:=fun e a w=>e=.normal/\Q .normal a w) (fun e a w h=>by obtain ⟨rfl,h⟩:=h; exact h) (wp_region_any hmix ?_)
 have hf0:ops.size=(eR ops (aT js)).length + ((gB ops (aT js)).length + (ops.size - aT js)):=hlen.symm
 have key:=kL (P:=P) (N:=N) (nw:=nw) (Γ:=Γ) (ops:=ops) (E:=E) (ro:=ro) (w:={ w with drawn:=w.drawn + 1 }) (Q':=fun e a w=>e=.normal/\Q .normal a w) (fun c a w h=>by cases h.1) hsel (Y:=X) (f:=(gB ops (aT js)).length + (ops.size - aT js))
  (eR ops (aT js)) _ (bV js (gB ops (aT js)) ++ js.drop (aT js)) _ (fI hj _ fun i hi=>by have:=hlt i hi; omega) (fun i hi o ho=>by
    have:=List.all_eq_true.1 hpu i hi
    rw [ho] at this; exact this) htk fr a K hf hr.drew hv fun fr' a' hf' hv'=>?_
 · rw [<-hf0] at key; exact key
 · refine kM (C:=Rel X E ro) (n:=aT js) (L:=fun l' a'=>Region.seqB .any ops (ops.size - aT js) (aT js) l'=true/\∀ w',Rel X E ro w'->wpList P ops (fun e a w=>e=.normal/\Q .normal a w) (ops.toList.drop (aT js)) a' w') (fun l' a' w' hw' hL=>?_) _ _ _ _ hr.drew
    (pC hsel hs hc hn _ _ _ inv hls hlex (gK (X:=X) hm _ _ (js.drop (aT js)) (fI hj _ fun i hi=>by have:=hltr i hi; omega) (fun j hj'=>?_) fr' a' K hf' hr hv' fun fr2 a2 hf2 hv2=>?_))
   · have h1:=wpAny_of_seq (md:=.any) (Q':=fun e a w=>e=.normal/\Q .normal a w) (ops.toList.drop (aT js)) (aT js) l' a' w' (fun j=>by simp [List.getElem?_drop]) (by rw [List.length_drop,Array.length_toList]; exact hL.1) (hL.2 w' hw')
     rwa [List.length_drop,Array.length_toList] at h1
   · unfold bV at hj'
     obtain ⟨i,hi,hji⟩:=List.mem_filterMap.1 hj'
     have hin:=hltr i hi
     exact kJ js j (dL (i:=i) (by rw [List.getElem?_take,if_pos hin]; exact hji))
   · obtain ⟨_,h2⟩:=gA (aT js) hj
     exact fun w' hw'=>gN (X:=X) hm (fun fr E ro a w hK hf hr=>⟨rfl,hQ fr E ro a w hK hf hr⟩) _ _ _ h2 _ _ _ _ _ hf2 hw' hv2
theorem kO {α:Type} (l:List α):∀ n,bV l (List.range n)=l.take n
 | 0=>rfl
 | n + 1=>by
  have ih:=kO l n
  unfold bV at ih ⊢
  rw [List.range_succ,List.filterMap_append,ih,List.take_add_one]
  cases h:l[n]?<;>simp [h]
theorem uE {ops:Array Oper} {i j:Nat} {oj:Oper} (hj:ops[j]? = some oj) (h:Region.waitsFor .any ops j i=false):∀ e ∈ oj.after,Region.binds .any e=true->e.on ≠ i:=by
 intro e he hb heq
 unfold Region.waitsFor at h
 simp only [hj] at h
 have:=Array.any_eq_false'.1 h e he
 simp [hb,heq] at this
theorem wR {op:Op} {o:Oper} (ho:o.op=op) (h:s7 P op=true) {ev:Operand->Value} {w w1:World} {r:Next} (hr:(execOp ev o).run P w=.ok r w1) :
 (∃ v,r=.value v)/\(∀ k,k < w.heap.size->w1.heap[k]? = w.heap[k]?)/\w.heap.size<=w1.heap.size/\w1.os=w.os/\w1.tape=w.tape/\w1.output=w.output:=by
 unfold s7 at h
 split at h
 case h_2=>cases h
 rename_i t len parts
 split at h
 case h_2=>cases h
 rename_i e ht
 split at h
 case h_2=>cases h
 rename_i i hi
 obtain ⟨z,hz⟩:=Option.isSome_iff_exists.1 h
 simp only [execOp,ho,Instr.buildSlice] at hr
 simp [run_underlying ht,sizeOf,typeInfo,hi,zeroValue,hz] at hr
 split at hr
 · cases hr
 · split at hr
   all_goals
    generalize Instr.fill _ _ _=x at hr
    cases x with
    | none=>simp at hr
    | some cells=>
     simp [newRow] at hr
     obtain ⟨rfl,rfl⟩:=hr
     refine ⟨⟨_,rfl⟩,fun k hk=>?_,?_,rfl,rfl,rfl⟩
     · show (w.heap.push _)[k]? = _
       rw [Array.getElem?_push,if_neg (Nat.ne_of_lt hk)]
     · show _<=(w.heap.push _).size
       rw [Array.size_push]; exact Nat.le_succ _
theorem fU {ops:Array Oper} {E:Es} {ro:RO} {L:Act->Prop} {w0:World}:∀ (is:List Nat) (js rest:List J),sY P nw N ops is js->(∀ j ∈ js,j.quiet=true)->∀ (fr:Fr) (a:Act) (K:Fr->Hp->Prop),FRel N (gm E) ro fr a->Rel X E ro w0->
 vR Γ (js ++ rest) fr (hp E) K->(∀ fr' a',FRel N (gm E) ro fr' a'->vR Γ rest fr' (hp E) K->L a')->w7 P ops (Rel X E ro) L is a
 | [],js,rest,ht,_,fr,a,K,hf,hr,hv,hL=>by
  obtain rfl:=All2.nil_inv ht
  exact hL _ _ hf hv
 | i :: is,js,rest,ht,hq,fr,a,K,hf,hr,hv,hL=>by
  obtain ⟨j,js',rfl,⟨o,σ,ho,h1⟩,h2⟩:=All2.cons_inv ht
  simp only [List.cons_append,vR] at hv
  have hs:=fV hf hr h1 (hq j (by simp)) hv
  simp only [w7,sOp,ho]
  split
  · rename_i hw
    rw [if_pos hw] at hs
    obtain ⟨fr',hK,v,hf',hrun⟩:=hs
    exact ⟨v,hrun,fU is js' rest h2 (fun y hy=>hq y (by simp [hy])) fr' _ K hf' hr hK hL⟩
  · rename_i hw
    rw [if_neg hw] at hs
    obtain ⟨fr',hK,hs⟩:=hs
    exact fU is js' rest h2 (fun y hy=>hq y (by simp [hy])) fr' _ K hs hr hK hL
theorem mJ (hm:MeetsIn P X Γ) {id:Nat} {ops:Array Oper} {h:Nat->CH} {js:List J} (hj:dM P nw N ops h 0 ops.toList=some js) (hmix:P.follows .mixedOrders=true) (hB:mQ P ops (bZ js)=true)
 {fr:Fr} {E:Es} {ro:RO} {a:Act} {w:World} {K:Fr->Hp->Prop} (hf:FRel N (gm E) ro fr a) (hr:Rel X E ro w) (hv:vR Γ js fr (hp E) K) {Q:Exit->Act->World->Prop}
 (hQ:∀ fr E ro a w,K fr (hp E)->FRel N (gm E) ro fr a->Rel X E ro w->Q .normal a w):(Code.region id ops true).wp P Q a w:=by
 obtain ⟨n,hnl⟩:∃ n,n=bZ js:=⟨_,rfl⟩
 rw [<-hnl] at hB
 unfold mQ at hB
 simp only [Bool.and_eq_true,decide_eq_true_eq] at hB
 obtain ⟨⟨⟨⟨⟨⟨hsel,hn⟩,hc0⟩,hc⟩,hs⟩,hlex⟩,hon⟩:=hB
 split at hon
 case h_2=>cases hon
 rename_i on hon0
 simp only [Bool.and_eq_true] at hon
 obtain ⟨⟨hgd,hgr⟩,hall⟩:=hon
 have hgd':on.guard=none:=by simpa using hgd
 have hat:∀ j,j < n->Region.waitsFor .any ops j n=false/\(Region.waitsFor .any ops n j=true\/∀ oj,ops[j]? = some oj->on.apart ops oj=true):=fun j hjn=>by
  have:=List.all_eq_true.1 hall j (List.mem_range.2 hjn)
  simp only [Bool.and_eq_true,Bool.not_eq_true',Bool.or_eq_true] at this
  refine ⟨this.1,this.2.imp (fun h=>h) fun h oj hoj=>?_⟩
  rw [hoj] at h; exact h
 have inv0:HeadInv .any ops n (Array.replicate ops.size false):=
  ⟨by simp,fun j oj _ hl=>(by rw [getD_replicate_false] at hl; cases hl),fun t _ ht=>getD_in (by simpa using ht) (getD_replicate_false _ _)⟩
 refine Code.wp_mono (Q:=fun e a w=>e=.normal/\Q .normal a w) (fun e a w h=>by obtain ⟨rfl,h⟩:=h; exact h) (wp_region_any hmix ?_)
 obtain ⟨g,hg⟩:∃ g,ops.size=n + (g + 1):=⟨ops.size - n - 1,by omega⟩
 obtain ⟨_,h2⟩:=gA n hj
 rw [Nat.zero_add] at h2
 have hdr:ops.toList.drop n=on :: ops.toList.drop (n + 1):=by
  rw [List.drop_eq_getElem_cons (by simp; omega)]
  congr 1
  have:=Array.getElem?_eq_some_iff.1 hon0
  obtain ⟨_,h⟩:=this
  simpa using h
 have hlen2:(ops.toList.drop n).length=g + 1:=by simp; omega
 have hlen3:(ops.toList.drop (n + 1)).length=g:=by simp; omega
 obtain ⟨jn,jr,hjd,hj1,hj2⟩:∃ jn jr,js.drop n=jn :: jr/\gZ P nw N ops (h n) on=some jn/\dM P nw N ops h (n + 1) (ops.toList.drop (n + 1))=some jr:=by
  rw [hdr] at h2
  exact eG h2
 let Lq:Act->Prop:=fun a'=>∃ fr',FRel N (gm E) ro fr' a'/\vR Γ (js.drop n) fr' (hp E) K
 have hheads:f6 P ops (Rel X E ro) n (fun l' a'=>Region.seqB .any ops (ops.size - n) n l'=true/\Lq a') n (Array.replicate ops.size false) a:=by
  have:=n2 (P:=P) (C:=Rel X E ro) (Lq:=Lq) hsel (by omega:n < ops.size) (List.range n) (Array.replicate ops.size false) a hlex
   (fU (nw:=nw) (X:=X) (Γ:=Γ) (List.range n) (js.take n) (js.drop n) ?_ (by rw [hnl]; exact iC js) fr a K hf hr.drew (by rw [List.take_append_drop]; exact hv) fun fr' a' hf' hv'=>⟨fr',hf',hv'⟩)
  · rwa [List.length_range] at this
  · have h3:=fI hj (List.range n) fun i hi=>by have:=List.mem_range.1 hi; omega
    have h4:bV js (List.range n)=js.take n:=kO js n
    rw [h4] at h3; exact h3
 have hwp:∀ a' w',Rel X E ro w'->∀ fr',FRel N (gm E) ro fr' a'->vR Γ (js.drop n) fr' (hp E) K->on.wp P a' w' (wpList P ops (fun e a w=>e=.normal/\Q .normal a w) (ops.toList.drop (n + 1))) (fun e a w=>e=.normal/\Q .normal a w):=fun a' w' hw' fr' hf' hv'=>by
  rw [hjd] at hv'
  have:=nH (Q:=fun e a w=>e=.normal/\Q .normal a w) (next:=wpList P ops (fun e a w=>e=.normal/\Q .normal a w) (ops.toList.drop (n + 1))) hf' hw' hm hj1 hv' fun fr2 E2 ro2 a2 w2 hK2 hf2 hr2=>
   gN (X:=X) hm (fun fr E ro a w hK hf hr=>⟨rfl,hQ fr E ro a w hK hf hr⟩) _ _ _ hj2 _ _ _ _ _ hf2 hr2 hK2
  rwa [if_pos (bC hgd' _)] at this
 have key:=tO (P:=P) (C:=Rel X E ro) (g:=g) (L:=fun l' a'=>Region.seqB .any ops (ops.size - n) n l'=true/\Lq a') (Q':=fun e a w=>e=.normal/\Q .normal a w) (fun c a w h=>by cases h.1) (Region.noSelect_spec hsel) hon0 hgd'
  (fun j oj hoj hjn hno=>(hat j hjn).2.elim (fun hw=>by
    obtain ⟨o',ho',e,he,hb,hon'⟩:=Region.waitsFor_spec hw
    cases hon0.symm.trans ho'
    exact absurd hon' (hno e he hb)) fun h=>h oj hoj)
  (fun j oj hoj hjn=>uE hoj (hat j hjn).1) hs hc0 hc hn
  (fun a' w' r w1 hw' hrun=>by
    obtain ⟨h1,h2,h3,h4,h5,h6⟩:=wR rfl hgr hrun
    exact ⟨h1,hw'.grown h2 h3 h4 h5 h6⟩)
  (fun l' a' w' hw' ⟨hseq,fr',hf',hv'⟩=>by
    have h1:=wpAny_of_seq (md:=.any) (P:=P) (ops:=ops) (Q':=fun e a w=>e=.normal/\Q .normal a w) (ops.toList.drop n) n l' a' w' (fun j=>by simp [List.getElem?_drop]) (by rw [hlen2,<-(by omega:ops.size - n=g + 1)]; exact hseq)
     (by rw [hdr]; simp only [wpList]; rw [if_pos (bC hgd' _)]; exact .inl (hwp a' w' hw' fr' hf' hv'))
    rwa [hlen2] at h1)
  (fun l' a' w' hw' ⟨hseq,fr',hf',hv'⟩=>by
    have hsz:ops.size - n=g + 1:=by omega
    rw [hsz] at hseq
    simp only [Region.seqB,Bool.and_eq_true] at hseq
    refine Oper.wp_mono (fun a2 w2 h=>?_) (hwp a' w' hw' fr' hf' hv')
    have h1:=wpAny_of_seq (md:=.any) (P:=P) (ops:=ops) (Q':=fun e a w=>e=.normal/\Q .normal a w) (ops.toList.drop (n + 1)) (n + 1) (l'.setIfInBounds n true) a2 w2 (fun j=>by simp [List.getElem?_drop]) (by rw [hlen3]; exact hseq.2) h
    rwa [hlen3] at h1)
  n _ a { w with drawn:=w.drawn + 1 } hr.drew inv0 hheads
 rw [<-hg] at key
 exact key
theorem l8 (hm:MeetsIn P X Γ) {h:Hint} {k0:Nat} (hk0:X.g0.length=k0):∀ (c:Code) (pc:PC),tr P nw N h c=some pc->∀ (fr:Fr) (E:Es) (ro:RO) (a:Act) (w:World) (K:Ex->Fr->Hp->Prop),FRel N (gm E) ro fr a->Rel X E ro w->vc Γ k0 pc fr (hp E) K->
 ∀ (Q:Exit->Act->World->Prop),(∀ ex fr' E' ro' a' w',K ex fr' (hp E')->FRel N (gm E') ro' fr' a'->Rel X E' ro' w'->Q ex.to a' w')->c.wp P Q a w:=by
 intro c
 induction c with
 | skip=>intro pc hpc fr E ro a w K hf hr hv Q hQ; simp only [tr,aB] at hpc; subst hpc; exact wp_skip (hQ .n _ _ _ _ _ hv hf hr)
 | exit id=>intro pc hpc fr E ro a w K hf hr hv Q hQ; simp only [tr,aB] at hpc; subst hpc; exact wp_exit (hQ (.e id) _ _ _ _ _ hv hf hr)
 | ret=>intro pc hpc fr E ro a w K hf hr hv Q hQ; simp only [tr,aB] at hpc; subst hpc; exact wp_ret (hQ .r _ _ _ _ _ hv hf hr)
 | seq x y ihx ihy=>
  intro pc hpc fr E ro a w K hf hr hv Q hQ
  simp only [tr] at hpc
  split at hpc
  · rename_i px py hx hy
    simp only [aB] at hpc
    subst hpc
    simp only [vc] at hv
    refine wp_seq (ihx px hx fr E ro a w _ hf hr hv _ ?_)
    intro ex fr' E' ro' a' w' hK hf' hr'
    cases ex with
    | n=>exact ihy py hy fr' E' ro' a' w' K hf' hr' hK Q hQ
    | e id=>exact hQ (.e id) _ _ _ _ _ hK hf' hr'
    | r=>exact hQ .r _ _ _ _ _ hK hf' hr'
  · cases hpc
 | cond o x y ihx ihy=>
  intro pc hpc fr E ro a w K hf hr hv Q hQ
  simp only [tr] at hpc
  split at hpc
  · rename_i px py hx hy
    simp only [aB] at hpc
    subst hpc
    simp only [vc] at hv
    split at hv
    · rename_i b hb
      obtain ⟨hg,h1,h2⟩:=hv
      have he:a.eval o=.bool b:=by
       have:=aC hf.res o
       rw [<-aD (bH hg),hb] at this
       exact this
      exact wp_cond_split he (fun hb=>ihx px hx fr E ro a w K hf hr (h1 hb) Q hQ) (fun hb=>ihy py hy fr E ro a w K hf hr (h2 hb) Q hQ)
    · exact hv.elim
  · cases hpc
 | block id x ihx=>
  intro pc hpc fr E ro a w K hf hr hv Q hQ
  simp only [tr] at hpc
  split at hpc
  · rename_i px hx
    simp only [aB] at hpc
    subst hpc
    simp only [vc] at hv
    refine wp_block (ihx px hx fr E ro a w _ hf hr hv _ ?_)
    intro ex fr' E' ro' a' w' hK hf' hr'
    cases ex with
    | n=>exact hQ .n _ _ _ _ _ hK hf' hr'
    | e j=>
     simp only [Ex.to,Exit.inBlock]
     simp only at hK
     split at hK
     · rename_i hj; rw [if_pos hj]; exact hQ .n _ _ _ _ _ hK hf' hr'
     · rename_i hj; rw [if_neg hj]; exact hQ (.e j) _ _ _ _ _ hK hf' hr'
    | r=>exact hQ .r _ _ _ _ _ hK hf' hr'
  · cases hpc
 | loop x ihx=>
  intro pc hpc fr E ro a w K hf hr hv Q hQ
  simp only [tr] at hpc
  split at hpc
  · rename_i px hx
    simp only [aB] at hpc
    subst hpc
    simp only [vc] at hv
    obtain ⟨Inv,h0,hround⟩:=hv
    obtain ⟨fr1,E1,ro1,⟨m,hI⟩,hf1,hr1⟩:=iM hk0 h0 rfl hf hr
    refine wp_loop_ghost (fun m a w=>∃ fr E ro,Inv m fr (hp E)/\FRel N (gm E) ro fr a/\Rel X E ro w) m ⟨_,_,_,hI,hf1,hr1⟩ ?_
    rintro n a w ⟨fr2,E2,ro2,hI2,hf2,hr2⟩
    refine ihx px hx fr2 E2 ro2 a w _ hf2 hr2 (hround n fr2 _ hI2) _ ?_
    intro ex fr' E' ro' a' w' hK hf' hr'
    cases ex with
    | n=>
     obtain ⟨fr3,E3,ro3,⟨m',hlt,hI3⟩,hf3,hr3⟩:=iM hk0 hK rfl hf' hr'
     exact ⟨m',hlt,_,_,_,hI3,hf3,hr3⟩
    | e id=>exact hQ (.e id) _ _ _ _ _ hK hf' hr'
    | r=>exact hQ .r _ _ _ _ _ hK hf' hr'
  · cases hpc
 | region id ops draw=>
  intro pc hpc fr E ro a w K hf hr hv Q hQ
  simp only [tr] at hpc
  split at hpc
  · rename_i js hj
    have fin:∀ (js':List J),(∀ {fr1:Fr} {E1:Es} {ro1:RO},FRel N (gm E1) ro1 fr1 a->Rel X E1 ro1 w->vR Γ js' fr1 (hp E1) (K .n)->(Code.region id ops draw).wp P Q a w)->pc=(if h.gh id then .gh (.reg js') else .reg js')->(Code.region id ops draw).wp P Q a w:=fun js' hs hp'=>by
     subst hp'
     split at hv
     · simp only [vc] at hv
       obtain ⟨fr1,E1,ro1,hv1,hf1,hr1⟩:=iM hk0 hv rfl hf hr
       exact hs hf1 hr1 hv1
     · simp only [vc] at hv
       exact hs hf hr hv
    by_cases hdr:draw=true
    · rw [if_pos hdr] at hpc
      by_cases hB:(P.follows .mixedOrders && (if js.all J.quietC then Region.lexB .any ops else Region.lexTailB .any ops (bZ js)))=true
      · rw [if_pos hB] at hpc
        exact fin js (fun hf1 hr1 hv1=>n7 hm hj (fun _=>hB) hf1 hr1 hv1 fun fr E ro a w hK hf hr=>hQ .n _ _ _ _ _ hK hf hr) (bB hpc).symm
      · rw [if_neg hB] at hpc
        by_cases hB2:(P.follows .mixedOrders && oK P ops (aT js))=true
        · rw [if_pos hB2] at hpc
          rw [Bool.and_eq_true] at hB2
          subst hdr
          exact fin (mC ops js) (fun hf1 hr1 hv1=>nD hm hj hB2.1 hB2.2 hf1 hr1 hv1 fun fr E ro a w hK hf hr=>hQ .n _ _ _ _ _ hK hf hr) (bB hpc).symm
        · rw [if_neg hB2] at hpc
          by_cases hB3:(P.follows .mixedOrders && mQ P ops (bZ js))=true
          · rw [if_pos hB3] at hpc
            rw [Bool.and_eq_true] at hB3
            subst hdr
            exact fin js (fun hf1 hr1 hv1=>mJ hm hj hB3.1 hB3.2 hf1 hr1 hv1 fun fr E ro a w hK hf hr=>hQ .n _ _ _ _ _ hK hf hr) (bB hpc).symm
          · rw [if_neg hB3] at hpc
            by_cases hB4:(P.follows .mixedOrders && i5 ops js)=true
            · rw [if_pos hB4] at hpc
              rw [Bool.and_eq_true] at hB4
              subst hdr
              obtain rfl:=(bB hpc).symm
              have key:∀ {fr1:Fr} {E1:Es} {ro1:RO},FRel N (gm E1) ro1 fr1 a->Rel X E1 ro1 w->vO Γ (bX ops js [] [] (c9 ops js)) fr1 (hp E1) (K .n)->(Code.region id ops true).wp P Q a w:=fun hf1 hr1 hv1=>
               oG hm (hh:=h.σ id) hB4.1 hB4.2 hf1 hr1 hv1 (fun fr E ro a w hK hf hr=>hQ .n _ _ _ _ _ hK hf hr) (fun i o ho=>by have:=nG hj i o ho; simpa using this)
              split at hv
              · simp only [vc] at hv
                obtain ⟨fr1,E1,ro1,hv1,hf1,hr1⟩:=iM hk0 hv rfl hf hr
                exact key hf1 hr1 hv1
              · simp only [vc] at hv
                exact key hf hr hv
            · rw [if_neg hB4] at hpc; cases hpc
    · rw [if_neg hdr] at hpc
      exact fin js (fun hf1 hr1 hv1=>n7 hm hj (fun h=>absurd h hdr) hf1 hr1 hv1 fun fr E ro a w hK hf hr=>hQ .n _ _ _ _ _ hK hf hr) (bB hpc).symm
  · cases hpc
 | rangeFunc f ps x y=>intro pc hpc; simp [tr] at hpc
 | scope x=>intro pc hpc; simp [tr] at hpc
 | label l=>intro pc hpc; simp [tr] at hpc
 | goto l=>intro pc hpc; simp [tr] at hpc
 | refuse s=>intro pc hpc fr E ro a w K hf hr hv Q hQ; simp only [tr,aB] at hpc; subst hpc; exact hv.elim
def sF (tmps:Array Value) (r:ResultVar):Sem Value:=
 match r with
 | .tmp t=>pure (tmps.getD t undef)
 | .cell c t=>do loadVar t (<-asAddr (tmps.getD c undef))
theorem kT (fn:Func) (tmps:Array Value):results fn tmps=(do let vs <-fn.results.mapM (sF tmps); pure (if h:vs.size=1 then vs[0] else .tuple vs)):=rfl
end
structure Tag {α:Type} (a:α):Type where
attribute [go_sem ↓] dO vI mT l4 sp Fun.sp cK
@[go_sem ↓] theorem IB (s:nJ) (az':List S) (H:Hp) (K:S->Hp->Prop):(Entry.s s).sp az' H K=s az' H K:=rfl
@[go_sem ↓] theorem IA (p:Fun) (az':List S) (H:Hp) (K:S->Hp->Prop):(Entry.f p).sp az' H K=p.sp az' H K:=rfl
attribute [go_sem ↓] gH eP BV lq vE vA vZ vL qv qc ev gv aK QI.sl LI.sl EI.sl O.sl O.sls O.slo O.slp n3
@[go_sem ↓] theorem FN (fr:Fr) (d:Nat) (s:S) (i:Nat):put fr (some d) s i=if i=d then s else fr i:=rfl
@[go_sem ↓] theorem GG (fr:Fr) (s:S) (i:Nat):put fr none s i=fr i:=rfl
@[go_sem ↓] theorem FB (fr:Fr) (i:Nat):fst fr i=(fr i).st:=rfl
@[go_sem ↓] theorem F9 (xs:List S) (i:Nat):o0 xs i=xs.getD i .un:=rfl
attribute [go_sem] S.ofV A.ofV lS lY pI lX dK
attribute [go_sem] wr aM lZ nU cZ rows BO mD dA sB kY Entry.f dB back jV gP pV kS w8 e8 fW
section
variable {Γ:bU} {k0:Nat} {x y:PC} {fr:Fr} {H:Hp} {K:Ex->Fr->Hp->Prop} {id:Nat} {o:O} {js:List J}
@[go_sem ↓] theorem FX (K:Fr->Hp->Prop):vR Γ [] fr H K=K fr H:=rfl
@[go_sem ↓] theorem CQ (K:Fr->Hp->Prop) (d:Option Nat) (i:I) (r:List J):vR Γ (⟨d,none,i⟩ :: r) fr H K=dO Γ fr H (fun fr' H'=>vR Γ r fr' H' K) d i:=rfl
@[go_sem ↓] theorem CY (K:Fr->Hp->Prop) (d:Option Nat) (sl:Nat) (want:Bool) (i:I) (r:List J):vR Γ (⟨d,some (sl,want),i⟩ :: r) fr H K=(match gv fr sl want with
 | none=>False
 | some g=>cP Γ fr H (fun fr' H'=>vR Γ r fr' H' K) d sl want g i):=rfl
@[go_sem ↓] theorem HH (K:Fr->Hp->Prop) (d:Option Nat) (sl:Nat) (want g:Bool) (i:QI):cP Γ fr H K d sl want g (.q i)=(match qv (fst fr) H i with
 | some s=>(g=true->aK fr i.sl/\qc (fst fr) H i)/\K (put fr d (s.cnd g)) H
 | none=>g=false/\K (put fr d dum) H):=rfl
@[go_sem ↓] theorem GU (K:Fr->Hp->Prop) (d:Option Nat) (sl:Nat) (want g:Bool) (x y:O):cP Γ fr H K d sl want g (.ix x y)=(match ev (fst fr) x,ev (fst fr) y with
 | .va (.c1 (.vl (.string s))),.va (.c1 (.vl (.int _ k)))=>(g=true->aK fr (x.sl ++ y.sl)/\0<=k/\k < (bl s).length)/\∀ c:UInt8,(g=true->(bl s)[k.toNat]? = some c)->K (put fr d (.cn g (.c1 (.vl (.int .u8 c.toNat))))) H
 | _,_=>g=false/\K (put fr d dum) H):=rfl
@[go_sem ↓] theorem HS (K:Fr->Hp->Prop) (d:Option Nat) (sl:Nat) (want g:Bool) (i:LI):cP Γ fr H K d sl want g (.l i)=(match lq (fst fr) H i with
 | some s=>(g=true->aK fr i.sl)/\K (put fr d (s.cnd g)) H
 | none=>(g=true->aK (cK fr sl want) i.sl/\vL (fst (cK fr sl want)) H i fun s=>K (put (cK fr sl want) d s) H)/\(g=false->K (put (fW fr sl want) d dum) H)):=rfl
@[go_sem ↓] theorem CK (K:Fr->Hp->Prop) (d:Option Nat) (sl:Nat) (want g:Bool) (c x y:O):cP Γ fr H K d sl want g (.pick c x y)=(match ev (fst fr) c,ev (fst fr) x,ev (fst fr) y with
 | .va (.c1 (.vl (.bool b))),.va ax,.va ay=>(g=true->aK fr c.sl/\(b=true->aK fr x.sl)/\(b=false->aK fr y.sl))/\K (put fr d (.cn g (gX b ax ay))) H
 | _,_,_=>g=false/\K (put fr d dum) H):=rfl
@[go_sem ↓] theorem EV (K:Fr->Hp->Prop) (d:Option Nat) (sl:Nat) (want g:Bool) (f:FuncId) (xs:List O):cP Γ fr H K d sl want g (.cq f xs)=l4 Γ fr H f xs (g=true) fun a=>K (put fr d (.cn g a)) H:=rfl
@[go_sem ↓] theorem G5 (K:Fr->Hp->Prop) (d:Option Nat) (sl:Nat) (want g:Bool) (i:EI):cP Γ fr H K d sl want g (.e i)=((g=true->vI Γ (cK fr sl want) H (fun s H'=>K (put (cK fr sl want) d s) H') (.e i))/\(g=false->K (put (fW fr sl want) d dum) H)):=rfl
@[go_sem ↓] theorem EF (K:Fr->Hp->Prop) (d:Option Nat) (sl:Nat) (want g:Bool) (f:FuncId) (xs:List O) (σ:List Nat):cP Γ fr H K d sl want g (.cl f xs σ)=((g=true->vI Γ (cK fr sl want) H (fun s H'=>K (put (cK fr sl want) d s) H') (.cl f xs σ))/\(g=false->K (put (fW fr sl want) d dum) H)):=rfl
@[go_sem ↓] theorem GZ (K:Fr->Hp->Prop) (d:Option Nat) (sl:Nat) (want g:Bool) (f:O) (xs:List O) (σ:List Nat):cP Γ fr H K d sl want g (.ca f xs σ)=((g=true->vI Γ (cK fr sl want) H (fun s H'=>K (put (cK fr sl want) d s) H') (.ca f xs σ))/\(g=false->K (put (fW fr sl want) d dum) H)):=rfl
def GD (Γ:bU) (k0:Nat) (x:PC) (fr:Fr) (H:Hp) (K:Ex->Fr->Hp->Prop) (_:Tag (Γ,x,fr,K)):Prop:=vc Γ k0 (.loop x) fr H K
@[go_sem ↓] theorem zA:vc Γ k0 (.loop x) fr H K=GD Γ k0 x fr H K ⟨⟩:=rfl
def GY (Γ:bU) (k0:Nat) (x:PC) (fr:Fr) (H:Hp) (K:Ex->Fr->Hp->Prop) (_:Tag (Γ,x,fr,K)):Prop:=Gh k0 (fun fr' H'=>vc Γ k0 x fr' H' K) fr H
@[go_sem ↓] theorem AL:vc Γ k0 (.gh x) fr H K=GY Γ k0 x fr H K ⟨⟩:=rfl
@[go_sem ↓] theorem D4:vc Γ k0 .skip fr H K=K .n fr H:=rfl
@[go_sem ↓] theorem GA:vc Γ k0 (.seq x y) fr H K=vc Γ k0 x fr H (fun e fr' H'=>match e with | .n=>vc Γ k0 y fr' H' K | e=>K e fr' H'):=rfl
@[go_sem ↓] theorem E0:vc Γ k0 (.reg js) fr H K=vR Γ js fr H (K .n):=rfl
@[go_sem ↓] theorem EP (l:List OJ):vc Γ k0 (.ord l) fr H K=vO Γ l fr H (K .n):=rfl
@[go_sem ↓] theorem F5 (K:Fr->Hp->Prop):vO Γ [] fr H K=K fr H:=rfl
@[go_sem ↓] theorem HL (K:Fr->Hp->Prop) (d:Nat) (i:I) (r:List OJ):vO Γ (.q ⟨some d,none,i⟩ :: r) fr H K=dO Γ fr H (fun fr' _=>vO Γ r (put fr (some d) (fr' d)) H K) (some d) i:=rfl
@[go_sem ↓] theorem HM (K:Fr->Hp->Prop) (d sl:Nat) (want:Bool) (i:I) (r:List OJ):vO Γ (.q ⟨some d,some (sl,want),i⟩ :: r) fr H K=(match gv fr sl want with
 | none=>False
 | some g=>cP Γ fr H (fun fr' _=>vO Γ r (put fr (some d) (fr' d)) H K) (some d) sl want g i):=rfl
@[go_sem ↓] theorem HI (K:Fr->Hp->Prop) (d:Option Nat) (i:I) (r:List OJ):vO Γ (.m ⟨d,none,i⟩ :: r) fr H K=dO Γ fr H (fun fr' H'=>vO Γ r fr' H' K) d i:=rfl
@[go_sem ↓] theorem G8 (K:Fr->Hp->Prop) (d:Option Nat) (sl:Nat) (want:Bool) (i:I) (r:List OJ):vO Γ (.m ⟨d,some (sl,want),i⟩ :: r) fr H K=(match gv fr sl want with
 | none=>False
 | some g=>cP Γ fr H (fun fr' H'=>vO Γ r fr' H' K) d sl want g i):=rfl
@[go_sem ↓] theorem G3 (K:Fr->Hp->Prop) (d:Nat) (i:I) (r:List OJ):vO Γ (.rc ⟨some d,none,i⟩ :: r) fr H K=(dO Γ fr H (fun fr' _=>fr' d=fr d) (some d) i/\vO Γ r fr H K):=rfl
@[go_sem ↓] theorem E7 (K:Fr->Hp->Prop) (d sl:Nat) (want:Bool) (i:I) (r:List OJ):vO Γ (.rc ⟨some d,some (sl,want),i⟩ :: r) fr H K=((match gv fr sl want with
 | none=>False
 | some g=>cP Γ fr H (fun fr' _=>fr' d=fr d) (some d) sl want g i)/\vO Γ r fr H K):=rfl
def mS:List J->List OJ->List OJ
 | [],l=>l
 | j :: r,l=>.rc j :: mS r l
@[go_sem ↓] theorem DL (l:List OJ):mS [] l=l:=rfl
@[go_sem ↓] theorem CO (j:J) (r:List J) (l:List OJ):mS (j :: r) l=.rc j :: mS r l:=rfl
theorem tP (K:Fr->Hp->Prop):∀ (ra:List J) (fr:Fr) (l:List OJ),vO Γ (mS ra l) fr H K=(iT Γ ra fr H/\vO Γ l fr H K)
 | [],fr,l=>by simp [mS,iT]
 | j :: r,fr,l=>by simp only [mS,iT,vO,tP K r,and_assoc]
@[go_sem ↓] theorem H9 (K:Fr->Hp->Prop) (a b:J) (ra rb:List J) (r:List OJ):vO Γ (.fk a b ra rb :: r) fr H K=(vO Γ (.m a :: mS ra (.m b :: r)) fr H K/\vO Γ (.m b :: mS rb (.m a :: r)) fr H K):=by
 simp only [vO,tP]
@[go_sem ↓] theorem DB:vc Γ k0 (.cond o x y) fr H K=(match ev (fst fr) o with
 | .va (.c1 (.vl (.bool b)))=>aK fr o.sl/\(b=true->vc Γ k0 x fr H K)/\(b=false->vc Γ k0 y fr H K)
 | _=>False):=rfl
@[go_sem ↓] theorem CW:vc Γ k0 (.block id x) fr H K=vc Γ k0 x fr H (fun e fr' H'=>match e with | .e j=>if j=id then K .n fr' H' else K (.e j) fr' H' | e=>K e fr' H'):=rfl
@[go_sem ↓] theorem D6:vc Γ k0 (.exit id) fr H K=K (.e id) fr H:=rfl
@[go_sem ↓] theorem HX:vc Γ k0 .no fr H K=False:=rfl
@[go_sem ↓] theorem EG:vc Γ k0 .ret fr H K=K .r fr H:=rfl
def nC:List (Nat × S)->Fr
 | []=>fun _=>.un
 | (i,s) :: r=>put (nC r) (some i) s
@[go_sem ↓] theorem D7 (l:List (Nat × S)) (i j:Nat) (s:S):nC ((j,s) :: l) i=if i=j then s else nC l i:=rfl
@[go_sem ↓] theorem C7 (i:Nat):nC [] i=.un:=rfl
def fF {α:Type} (k0:Nat) (up:α->List (Nat × S)) (Hs:α->Hp) (Inv:α->Prop) (μ:α->Nat) (z:α) (K:Ex->Fr->Hp->Prop):Ex->Fr->Hp->Prop
 | .n,fr',H'=>Gh k0 (fun fr'' H''=>∃ m',m' < μ z/\∃ z',Inv z'/\fr''=nC (up z')/\H''=Hs z'/\m'=μ z') fr' H'
 | e,fr',H'=>K e fr' H'
section
variable {α:Type} {up:α->List (Nat × S)} {Hs:α->Hp} {Inv:α->Prop} {μ:α->Nat} {z:α}
def AJ (k0:Nat) (up:α->List (Nat × S)) (Hs:α->Hp) (Inv:α->Prop) (μ:α->Nat) (z:α) (fr:Fr) (H:Hp) (_:Tag (up,Hs,Inv,μ,z,fr)):Prop:=
 Gh k0 (fun fr'' H''=>∃ m',m' < μ z/\∃ z',Inv z'/\fr''=nC (up z')/\H''=Hs z'/\m'=μ z') fr H
@[go_sem ↓] theorem D8:fF k0 up Hs Inv μ z K .n fr H=AJ k0 up Hs Inv μ z fr H ⟨⟩:=rfl
@[go_sem ↓] theorem D2 (j:Nat):fF k0 up Hs Inv μ z K (.e j) fr H=K (.e j) fr H:=rfl
@[go_sem ↓] theorem DZ:fF k0 up Hs Inv μ z K .r fr H=K .r fr H:=rfl
end
end
section
variable (a:A) (l:List A) (g:Bool) (c:C) (cs:List C) (f:Nat->Option Nat) (n b o i j sz len cap k m:Nat) (v:Value) (T:TypeId) (xs ys:List (List C)) (x y:A) (H:Hp)
@[go_sem] theorem G7:(S.va a).st=.va a:=rfl
@[go_sem] theorem H7:(S.tu l).st=.tu l:=rfl
@[go_sem] theorem HJ:(S.cn g a).st=.va a:=rfl
@[go_sem] theorem HF:S.un.st=.un:=rfl
@[go_sem] theorem HE:(S.va a).gd=True:=rfl
@[go_sem] theorem H5:(S.tu l).gd=True:=rfl
@[go_sem] theorem HW:(S.cn g a).gd=(g=true):=rfl
@[go_sem] theorem HA:S.un.gd=True:=rfl
@[go_sem] theorem GN:(S.va a).cnd g=.cn g a:=rfl
@[go_sem] theorem EQ:(S.tu l).cnd g=.un:=rfl
@[go_sem] theorem FR:S.un.cnd g=.un:=rfl
@[go_sem] theorem EK:(S.va a).ren f=.va (a.ren f):=rfl
@[go_sem] theorem F8:(S.tu l).ren f=.tu (l.map (A.ren f)):=rfl
@[go_sem] theorem EX:(S.cn g a).ren f=.cn g (a.ren f):=rfl
@[go_sem] theorem FH:S.un.ren f=.un:=rfl
@[go_sem] theorem EU:(A.c1 c).ren f=.c1 (c.ren f):=rfl
@[go_sem] theorem GF:(A.gs cs).ren f=.gs (cs.map (C.ren f)):=rfl
@[go_sem] theorem GQ:C.no.ren f=.no:=rfl
@[go_sem] theorem EB (k:FuncId):(C.fn k []).ren f=.fn k []:=rfl
@[go_sem] theorem G0 (k:FuncId) (l:List (Bool × List C)):(C.fn k l).ren f=.fn k (l.map fun x=>(x.1,x.2.map (C.ren0 f))):=rfl
@[go_sem] theorem GP (k:FuncId):(C.fm k xs).ren f=.fm k xs:=rfl
@[go_sem] theorem HT (k:FuncId):(C.fm k xs).nf=.fm k xs:=rfl
@[go_sem] theorem FZ (k:FuncId):(C.fm k xs).one=True:=rfl
@[go_sem] theorem GO:(C.mp n).ren f=(match f n with | some m=>.mp m | none=>.no):=rfl
@[go_sem] theorem HN:(C.mp n).nf=.mp n:=rfl
@[go_sem] theorem EW:(C.mp n).bor H=.no:=rfl
@[go_sem] theorem E8:(C.mp k).pub n xs=.mp k:=rfl
@[go_sem] theorem F3:(C.mp n).one=True:=rfl
@[go_sem] theorem C9:(C.mp n).isFn=false:=rfl
@[go_sem] theorem DJ:(C.pt n o).isFn=false:=rfl
@[go_sem] theorem DA:(C.vl v).isFn=false:=rfl
@[go_sem] theorem EC:(C.fz xs).isFn=false:=rfl
@[go_sem] theorem DH:(C.sl n len).isFn=false:=rfl
@[go_sem] theorem C4:C.no.ren0 f=.no:=rfl
@[go_sem] theorem DP:(C.vl v).ren0 f=.vl v:=rfl
@[go_sem] theorem DX:(C.fz xs).ren0 f=.fz xs:=rfl
@[go_sem] theorem D3:(C.pt n o).ren0 f=(match f n with | some m=>.pt m o | none=>.no):=rfl
@[go_sem] theorem DR:(C.sl n len).ren0 f=(match f n with | some m=>.sl m len | none=>.no):=rfl
@[go_sem] theorem DU:(C.mp n).ren0 f=(match f n with | some m=>.mp m | none=>.no):=rfl
@[go_sem] theorem DO:(C.vl v).bor0 H=.vl v:=rfl
@[go_sem] theorem D5:(C.fz xs).bor0 H=.fz xs:=rfl
@[go_sem] theorem DC:(C.pt n o).bor0 H=.no:=rfl
@[go_sem] theorem DN:(C.mp n).bor0 H=.no:=rfl
@[go_sem] theorem DQ:C.no.bor0 H=.no:=rfl
@[go_sem] theorem DV:(C.vl v).pub0 n xs=.vl v:=rfl
@[go_sem] theorem C5:(C.fz ys).pub0 n xs=.fz ys:=rfl
@[go_sem] theorem DW:(C.pt k o).pub0 n xs=.pt k o:=rfl
@[go_sem] theorem DF:(C.mp k).pub0 n xs=.mp k:=rfl
@[go_sem] theorem D0:C.no.pub0 n xs=.no:=rfl
@[go_sem] theorem CF (kd:TypeDesc) (ks:List Value) (vs:List A):(B.map kd ks vs).ren f=.map kd ks (vs.map (A.ren f)):=rfl
@[go_sem] theorem CB (kd:TypeDesc) (ks:List Value) (vs:List A):(B.map kd ks vs).pub n xs=.map kd ks (vs.map (A.pub n xs)):=rfl
@[go_sem] theorem FO:s0 (false,[c])=.c1 c:=rfl
@[go_sem] theorem EE:s0 (true,cs)=.gs cs:=rfl
@[go_sem] theorem DM (k k':IntKind) (q:Int):MapKept.IsKey (.int k) (.int k' q)=(k'=k):=rfl
@[go_sem] theorem DG (s:ByteArray):MapKept.IsKey .string (.string s)=True:=rfl
@[go_sem] theorem GL:(C.vl v).ren f=.vl v:=rfl
@[go_sem] theorem FI:(C.pt n o).ren f=(match f n with | some m=>.pt m o | none=>.no):=rfl
@[go_sem] theorem F0:(C.sl n len).ren f=(match f n with | some m=>.sl m len | none=>.no):=rfl
@[go_sem] theorem FK:(C.qt n len sz i j).ren f=(match f n with | some m=>.qt m len sz i j | none=>.no):=rfl
@[go_sem] theorem G4:(C.dp n len).ren f=(match f n with | some m=>.dp m len | none=>.no):=rfl
@[go_sem] theorem HZ:(C.dp n len).nf=.dp n len:=rfl
@[go_sem] theorem EL:(C.fz xs).ren f=.fz xs:=rfl
@[go_sem] theorem GW:(C.fp cs j).ren f=.fp cs j:=rfl
@[go_sem] theorem A7:(B.cells cs T).ren f=.cells (cs.map (C.ren f)) T:=rfl
@[go_sem] theorem C3:(B.row xs T sz).ren f=.row xs T sz:=rfl
@[go_sem] theorem BW:(B.rowx xs T sz).ren f=.rowx (xs.map fun r=>r.map (C.ren f)) T sz:=rfl
@[go_sem] theorem B1:(B.rowx ys T sz).pub n xs=.rowx (ys.map fun r=>r.map (C.pub n xs)) T sz:=rfl
@[go_sem] theorem BQ:B.dead.ren f=.dead:=rfl
@[go_sem] theorem FA:(S.va a).pub n xs=.va (a.pub n xs):=rfl
@[go_sem] theorem EJ:(S.tu l).pub n xs=.tu (l.map (A.pub n xs)):=rfl
@[go_sem] theorem FE:(S.cn g a).pub n xs=.cn g (a.pub n xs):=rfl
@[go_sem] theorem FM:S.un.pub n xs=.un:=rfl
@[go_sem] theorem FQ:(A.c1 c).pub n xs=.c1 (c.pub n xs):=rfl
@[go_sem] theorem EO:(A.gs cs).pub n xs=.gs (cs.map (C.pub n xs)):=rfl
@[go_sem] theorem GM:(C.vl v).pub n xs=.vl v:=rfl
@[go_sem] theorem EY:C.no.pub n xs=.no:=rfl
@[go_sem] theorem FL:(C.pt k o).pub n xs=.pt k o:=rfl
@[go_sem] theorem ET:(C.sl m len).pub n xs=if m=n then (if len=xs.length then .fz xs else .no) else .sl m len:=rfl
@[go_sem] theorem E9:(C.fz ys).pub n xs=.fz ys:=rfl
@[go_sem] theorem GH:(C.fp cs j).pub n xs=.fp cs j:=rfl
@[go_sem] theorem AP:(B.cells cs T).pub n xs=.cells (cs.map (C.pub n xs)) T:=rfl
@[go_sem] theorem C2:(B.row ys T sz).pub n xs=.row ys T sz:=rfl
@[go_sem] theorem B0:B.dead.pub n xs=.dead:=rfl
@[go_sem] theorem H0:(S.va a).nf=.va a.nf:=rfl
@[go_sem] theorem HY:(S.tu l).nf=.tu (l.map A.nf):=rfl
@[go_sem] theorem HC:(S.cn g a).nf=.cn g a.nf:=rfl
@[go_sem] theorem HQ:S.un.nf=.un:=rfl
@[go_sem] theorem H3:(A.c1 c).nf=.c1 c.nf:=rfl
@[go_sem] theorem HO:(A.gs cs).nf=.gs (cs.map C.nf):=rfl
@[go_sem] theorem FU:(C.vl (.slice none 0 0)).nf=.fz []:=rfl
@[go_sem] theorem FS (k:IntKind) (z:Int):(C.vl (.int k z)).nf=.vl (.int k z):=rfl
@[go_sem] theorem D1:(C.vl (.bool g)).nf=.vl (.bool g):=rfl
@[go_sem] theorem EN (s:ByteArray):(C.vl (.string s)).nf=.vl (.string s):=rfl
@[go_sem] theorem EZ (p:Option Addr):(C.vl (.pointer p)).nf=.vl (.pointer p):=rfl
@[go_sem] theorem FP (p:Option Nat):(C.vl (.map p)).nf=.vl (.map p):=rfl
@[go_sem] theorem HR:(C.vl .nilIface).nf=.vl .nilIface:=rfl
@[go_sem] theorem FF:(C.vl .nilFunc).nf=.vl .nilFunc:=rfl
@[go_sem] theorem HG:C.no.nf=.no:=rfl
@[go_sem] theorem H8:(C.pt n o).nf=.pt n o:=rfl
@[go_sem] theorem HV:(C.sl n len).nf=.sl n len:=rfl
@[go_sem] theorem HB:(C.qt n len sz i j).nf=.qt n len sz i j:=rfl
@[go_sem] theorem HD:(C.fz xs).nf=.fz xs:=rfl
@[go_sem] theorem H4:(C.fp cs j).nf=.fp cs j:=rfl
@[go_sem] theorem H6 (q:FuncId) (ns:List (Bool × List C)):(C.fn q ns).nf=.fn q ns:=rfl
@[go_sem] theorem FY:(S.va a).bor H=.va (a.bor H):=rfl
@[go_sem] theorem G1:(S.tu l).bor H=.un:=rfl
@[go_sem] theorem F1:S.un.bor H=.un:=rfl
@[go_sem] theorem F6:(A.c1 c).bor H=.c1 (c.bor H):=rfl
@[go_sem] theorem FJ:(A.gs cs).bor H=.gs (cs.map (C.bor H)):=rfl
@[go_sem] theorem GI:(C.vl v).bor H=.vl v:=rfl
@[go_sem] theorem GS:C.no.bor H=.no:=rfl
@[go_sem] theorem G2:(C.pt n o).bor H=.no:=rfl
@[go_sem] theorem ES:(C.sl n len).bor H=(match H[n]? with
 | some (.row xs _ _)=>if len=xs.length then .fz xs else .no
 | _=>.no):=rfl
@[go_sem] theorem GJ:(C.fz xs).bor H=.fz xs:=rfl
@[go_sem] theorem GT:(C.fp cs j).bor H=.fp cs j:=rfl
@[go_sem] theorem FT (q:FuncId) (l:List (Bool × List C)):(C.fn q l).bor H=.fn q (l.map fun x=>(x.1,x.2.map (C.bor0 H))):=rfl
@[go_sem] theorem E4 (q:FuncId) (l:List (Bool × List C)):(C.fn q l).pub n xs=.fn q (l.map fun x=>(x.1,x.2.map (C.pub0 n xs))):=rfl
@[go_sem] theorem HP:(A.c1 c).ok=c.one:=rfl
@[go_sem] theorem HU:(A.gs cs).ok=True:=rfl
@[go_sem] theorem CZ:(A.c1 c).cells=[c]:=rfl
@[go_sem] theorem CM:(A.gs cs).cells=cs:=rfl
@[go_sem] theorem EH:(C.pt n o).one=True:=rfl
@[go_sem] theorem F4:(C.sl n len).one=True:=rfl
@[go_sem] theorem GV:(C.qt n len sz i j).one=True:=rfl
@[go_sem] theorem FD:(C.fz xs).one=True:=rfl
@[go_sem] theorem FV:(C.fp cs j).one=True:=rfl
@[go_sem] theorem GX (q:FuncId) (ns:List (Bool × List C)):(C.fn q ns).one=True:=rfl
@[go_sem] theorem C8 (k:IntKind) (n:Int):(C.vl (.int k n)).one=True:=by simp [C.one,Value.oneCell']
@[go_sem] theorem C0 (b:Bool):(C.vl (.bool b)).one=True:=by simp [C.one,Value.oneCell']
@[go_sem] theorem AY (s:ByteArray):(C.vl (.string s)).one=True:=by simp [C.one,Value.oneCell']
@[go_sem] theorem AI (p:Option Addr):(C.vl (.pointer p)).one=True:=by simp [C.one,Value.oneCell']
@[go_sem] theorem BR (p:Option Addr):(C.vl (.slice p n m)).one=True:=by simp [C.one,Value.oneCell']
@[go_sem] theorem C6 (p:Option Nat):(C.vl (.map p)).one=True:=by simp [C.one,Value.oneCell']
@[go_sem] theorem D9:(C.vl v).shut=true:=rfl
@[go_sem] theorem DS:(C.fz xs).shut=true:=rfl
@[go_sem] theorem HK (p q r:Bool):gX p (.c1 (.vl (.bool q))) (.c1 (.vl (.bool r)))=.c1 (.vl (.bool (bif p then q else r))):=rfl
@[go_sem] theorem G6:gX true x y=x:=by unfold gX; split<;>rfl
@[go_sem] theorem G9:gX false x y=y:=by unfold gX; split<;>rfl
end
@[go_sem ↓] theorem DK {α:Type} (l:List α) (f:α->List C) (i:Nat) (p:List C->Prop):(∀ r,(l.map f)[i]? = some r->p r) ↔ ∀ x,l[i]? = some x->p (f x):=by
 simp only [List.getElem?_map,Option.map_eq_some_iff]
 exact ⟨fun h x hx=>h _ ⟨x,hx,rfl⟩,fun h r ⟨x,hx,e⟩=>by subst e; exact h x hx⟩
@[go_sem ↓] theorem E6 (A B:Prop):((true=true->A)/\(true=false->B))=A:=by simp
@[go_sem ↓] theorem GK (A B:Prop):((false=true->A)/\(false=false->B))=B:=by simp
theorem xW (p q:Prop):(p->p/\q) ↔ (p->q):=⟨fun h hp=>(h hp).2,fun h hp=>⟨hp,h hp⟩⟩
attribute [go_sem] xW and_self Bool.not_eq_true'
attribute [go_sem] BE sZ dum List.length_map List.map_append List.length_append
attribute [go_sem ↓] reduceIte
attribute [go_sem] reduceIte Nat.reduceEqDiff List.getD_cons_zero List.getD_cons_succ List.append_nil true_and and_true Option.map_some Option.map_none reduceCtorEq forall_const beq_true beq_false implies_true imp_self List.nil_append List.cons_append List.getElem?_cons_zero List.getElem?_cons_succ List.getElem?_nil
attribute [go_sem] Option.getD_some Option.getD_none List.map_cons List.map_nil List.length_cons List.length_nil aB false_implies true_implies List.nodup_nil List.nodup_cons List.not_mem_nil List.mem_cons or_false false_or not_false_eq_true List.set_cons_zero List.set_cons_succ List.headD_cons List.headD_nil List.tail_cons List.tail_nil
attribute [go_sem] Nat.zero_add Nat.add_zero List.take_zero List.take_succ_cons List.drop_zero List.drop_succ_cons Nat.reduceAdd Nat.reduceSub Nat.reduceLeDiff Nat.reduceLT Nat.reduceMul List.take_nil List.drop_nil ER FW beq_self_eq_true Bool.true_and Bool.and_true Bool.not_true Bool.not_false Option.isSome_some Option.isSome_none
attribute [go_sem] forall_eq forall_eq_or_imp Int.toNat_natCast List.take_length Int.reduceToNat Int.reduceNeg
@[simp] theorem yM (b x:Bool):(bif b then true else x)=(b || x):=by cases b<;>rfl
@[simp] theorem wN (b x:Bool):(bif b then x else false)=(b && x):=by cases b<;>rfl
attribute [go_sem] yM wN
theorem getD_some {α:Type} {l:List α} {i:Nat} (d:α) (h:i < l.length):l[i]? = some (l.getD i d):=by rw [List.getD,b5 h]; rfl
@[go_sem] theorem DT (n:Int):inr .i64 n ↔ -9223372036854775808<=n/\n<=9223372036854775807:=by
 simp [inr,IntKind.min,IntKind.max,IntKind.signed,IntKind.bits]
@[go_sem] theorem DD (n:Int):inr .u64 n ↔ 0<=n/\n<=18446744073709551615:=by
 simp [inr,IntKind.min,IntKind.max,IntKind.signed,IntKind.bits]
@[go_sem] theorem DI (n:Int):inr .i32 n ↔ -2147483648<=n/\n<=2147483647:=by
 simp [inr,IntKind.min,IntKind.max,IntKind.signed,IntKind.bits]
@[go_sem] theorem EA (n:Int):inr .u32 n ↔ 0<=n/\n<=4294967295:=by
 simp [inr,IntKind.min,IntKind.max,IntKind.signed,IntKind.bits]
@[go_sem] theorem E5 (n:Int):inr .u8 n ↔ 0<=n/\n<=255:=by
 simp [inr,IntKind.min,IntKind.max,IntKind.signed,IntKind.bits]
@[go_sem] theorem ED (n:Int):inr .i8 n ↔ -128<=n/\n<=127:=by
 simp [inr,IntKind.min,IntKind.max,IntKind.signed,IntKind.bits]
@[go_sem] theorem DE (n:Int):inr .u16 n ↔ 0<=n/\n<=65535:=by
 simp [inr,IntKind.min,IntKind.max,IntKind.signed,IntKind.bits]
@[go_sem] theorem DY (n:Int):inr .i16 n ↔ -32768<=n/\n<=32767:=by
 simp [inr,IntKind.min,IntKind.max,IntKind.signed,IntKind.bits]
open Go.RowKit
structure Stay (w w':World):Prop where
 os:w'.os=w.os
 out:w'.output=w.output
 size:w.heap.size<=w'.heap.size
 keep:∀ b:Nat,b < w.heap.size->w'.heap[b]? = w.heap[b]?
theorem Stay.kept {w w':World} (h:Stay w w') (may:MemPlace->Prop):w.keptBut w' may:=by
 refine ⟨h.os,h.out,fun i hi=>?_⟩
 rw [h.keep i hi]
 split
 · rename_i h1 h2; rw [h1] at h2; cases h2; exact ⟨rfl,rfl,rfl,fun _ _=>rfl⟩
 · rename_i h1 h2; rw [h1] at h2; cases h2; exact Or.inr ⟨rfl,rfl⟩
 · rfl
theorem Stay.frozen {w w':World} (h:Stay w w') {a:Addr} (ha:a.block < w.heap.size):w'.frozen? a=w.frozen? a:=by
 unfold World.frozen?; rw [h.keep _ ha]
theorem Stay.cell {w w':World} (h:Stay w w') {a:Addr} (ha:a.block < w.heap.size):w'.cell? a=w.cell? a:=by
 unfold World.cell?; rw [h.keep _ ha]
theorem yD {w:World} {ro:RO} (h:∀ (b off:Nat) (v:Value),ro b off=some v->w.cell? ⟨b,off,none⟩=some v):Rel ⟨w,cC [],ro,gm []⟩ [] ro w where
 own:=fun n g blk h=>by simp at h
 inj:=fun n m gn gm bn bm b h=>by simp at h
 apart:=fun b off v _ n g blk h=>by simp at h
 rd:=h
 ro0:=fun _ _ _ h=>h
 rob:=fun b off v h=>.inl h
 par:=fun n b g blk h=>by simp at h
 gx:=.refl _
 sz:=Nat.le_refl _
 keep:=fun b _ _=>rfl
 os:=rfl
 tape:=rfl
 output:=rfl
theorem Meets.run {P:Program} {f:FuncId} {s:Fun} (hm:Meets P f s.sp) {av:List S} {vs:List Value} {ro:RO} {w:World} {x:A} (hpre:s.pre av) (hval:s.val av=x) (hl:av.length=vs.length)
 (hrel:∀ (i:Nat) (x:S) (v:Value),av[i]? = some x->vs[i]? = some v->x.rel (gm []) ro v) (hro:∀ (b off:Nat) (v:Value),ro b off=some v->w.cell? ⟨b,off,none⟩=some v) (hG:GR P ro w) :
 Calls P f vs.toArray w fun e w'=>∃ v γ ro',e=.returned v/\S.rel γ ro' (.va x) v/\Stay w w':=by
 subst hval
 refine (hm.2 av vs [] ro w (fun r H=>r=.va (s.val av)/\H=[]) hl hrel (yD hro) ⟨⟨hpre,rfl⟩,rfl,rfl⟩ hG).mono ?_
 rintro e w' ⟨r,v,E',ro',rfl,h1,⟨rfl,h2⟩,h3⟩
 exact ⟨v,_,ro',rfl,h1,h3.os,h3.output,h3.sz,fun b hb=>h3.keep b hb (by simp [cC])⟩
theorem Meets.yes {P:Program} {f:FuncId} {s:Fun} (hm:Meets P f s.sp) {av:List S} {vs:List Value} {ro:RO} {w:World} (hpre:s.pre av) (hval:s.val av=.c1 (.vl (.bool true))) (hl:av.length=vs.length)
 (hrel:∀ (i:Nat) (x:S) (v:Value),av[i]? = some x->vs[i]? = some v->x.rel (gm []) ro v) (hro:∀ (b off:Nat) (v:Value),ro b off=some v->w.cell? ⟨b,off,none⟩=some v) (hG:GR P ro w) :
 Calls P f vs.toArray w fun e w'=>e=.returned (.bool true)/\Stay w w':=by
 refine (hm.run hpre hval hl hrel hro hG).mono ?_
 rintro e w' ⟨v,γ,ro',rfl,h1,h2⟩
 have:v=.bool true:=h1
 exact ⟨by rw [this],h2⟩
section
variable {H:Type} {enc:TypeId × Value->H} {P:Program}
theorem pM {f:Func} {s:ChangeSpec} {apart fresh handsOn again:Bool} {W W':World} {args:Array Value} {v:Value} {ds gs:List (DataW H)} {before pa pv:List MemPlace}
 (hW:DataW.Whole enc P f.params.toList s.vars apart W args.toList ds gs before)
 (hres:∀ (b:Nat) (sp:Nat->Bool) (hd:Bool),DataW.TrodAll enc P W' b sp hd f.resultTypes.toList (v.resultList f.resultTypes.size) (s.fn H (ds ++ gs)).results [])
 (hargs:∀ sp:Nat->Bool,(∀ p ∈ before,sp p.block=true)->DataW.TrodAll enc P W' 0 sp true f.params.toList args.toList (s.fn H (ds ++ gs)).args pa)
 (hvars:∀ sp:Nat->Bool,(∀ p ∈ before,sp p.block=true)->DataW.TrodVars enc P W' sp s.vars (s.fn H (ds ++ gs)).vars pv)
 (hps:before=pa ++ pv) (hs:Stay W W')
 (hok:∀ (j:Nat) (t:TypeId) (r:Value),f.resultTypes[j]? = some t->(v.resultList f.resultTypes.size)[j]? = some r->Value.okWide P W' .any 0 t r) :
 s.post enc P f apart fresh handsOn again W args v W':=by
 have hlt:∀ p ∈ before,p.block < W.heap.size:=fun p hp=>hW.lt p hp
 have hsp:∀ p ∈ before,(fun b=>decide (b < W.heap.size)) p.block=true:=fun p hp=>by simpa using hlt p hp
 have hall:∀ p ∈ before,(fun _:Nat=>true) p.block=true:=fun _ _=>rfl
 obtain ⟨_,_,_,_,_,hz,hn⟩:=id hW
 refine ⟨ds,gs,before,[],pa,pv,hW,hres _ _ _,hargs _ hsp,hvars _ hsp,World.keptBut_mono (fun p hp=>⟨hp,.inr ?_⟩) (hs.kept (· ∈ before)),fun _=>⟨hok,_,_,([] ++ pa) ++ pv,
  ⟨[] ++ pa,pv,ChangeShapes.trodAll_append (hargs _ hall) (hres _ _ _),hvars _ hall,rfl,fun b off hp=>?_,fun ha=>?_⟩,fun p hp _=>?_⟩⟩
 · rw [hps,List.mem_append] at hp; exact hp
 · have hb:MemPlace.cell b off ∈ before:=by rw [hps]; simpa using hp
   rw [hs.frozen (hlt _ hb)]
   exact hz b off hb
 · have:=hn ha
   rw [hps] at this
   simpa using this
 · rw [hps]
   simpa using hp
end
open Go.RowKit
def iK (P:Program):Bool:=(List.range P.types.size).all fun t=>match P.underlying t with | some (.slice e)=>decide (0 < P.cellsOf e) | _=>true
section
variable {H:Type} {enc:TypeId × Value->H} {P:Program}
theorem t8 {W W':World} (h:Stay W W') {p:MemPlace} (hp:p.block < W.heap.size):W.sameAt W' p:=by
 cases p with
 | cell b off=>exact h.cell (a:=⟨b,off,none⟩) hp
 | map b=>exact h.keep b hp
theorem jE {W W':World} {sp:Nat->Bool} (hl:laidOutB P=true) (hm:mapsRowed P=true) (hs:iK P=true) (hst:Stay W W') :
 ∀ {ts:List TypeId} {vs:List Value} {ds:List (DataW H)} {ps:List MemPlace},(∀ t ∈ ts,t < P.types.size)->DataW.TrodAll enc P W 0 (fun _=>true) true ts vs ds ps->(∀ p ∈ ps,p.block < W.heap.size)->(∀ p ∈ ps,sp p.block=true)->
  DataW.TrodAll enc P W' 0 sp true ts vs ds ps
 | [],[],[],ps,_,h,_,_=>h
 | t :: ts,v :: vs,d :: ds,ps,ht,h,hb,hp=>by
  obtain ⟨p,q,⟨n,h1⟩,h2,rfl⟩:=h
  have hsz:∀ {t e:TypeId},t < P.types.size->P.underlying t=some (.slice e)->0 < P.cellsOf e:=fun {t e} ht hu=>by
   have:=List.all_eq_true.1 hs t (List.mem_range.2 ht)
   rw [hu] at this
   simpa using this
  exact ⟨p,q,⟨n,DataW.trod_stays (T:=(· < P.types.size)) (kids_rows hl hm) hsz (fun h=>by cases h) (ht t (by simp)) h1 (fun x hx=>t8 hst (hb x (by simp [hx]))) (fun x hx=>hp x (by simp [hx]))⟩,
   jE hl hm hs hst (fun u hu=>ht u (by simp [hu])) h2 (fun x hx=>hb x (by simp [hx])) (fun x hx=>hp x (by simp [hx])),rfl⟩
 | [],_ :: _,_,_,_,h,_,_=>h.elim
 | [],[],_ :: _,_,_,h,_,_=>h.elim
 | _ :: _,[],_,_,_,h,_,_=>h.elim
 | _ :: _,_ :: _,[],_,_,h,_,_=>h.elim
theorem wS {f:Func} {s:ChangeSpec} {apart fresh handsOn again:Bool} {W W':World} {args:Array Value} {ds gs:List (DataW H)} {before:List MemPlace} {tb:TypeId}
 (hl:laidOutB P=true) (hm:mapsRowed P=true) (hsr:iK P=true) (hps:∀ t ∈ f.params.toList,t < P.types.size) (hrt:f.resultTypes=#[tb]) (htb:P.underlying tb=some .bool)
 (hvars:s.vars=[]) (hW:DataW.Whole enc P f.params.toList s.vars apart W args.toList ds gs before) (hfn:s.fn H (ds ++ gs)={ results:=[.lit (.bool true)],args:=ds,vars:=[] }) (hst:Stay W W') :
 s.post enc P f apart fresh handsOn again W args (.bool true) W':=by
 have hlt:∀ p ∈ before,p.block < W.heap.size:=fun p hp=>hW.lt p hp
 obtain ⟨p,q,hA,hV,hb,_,_⟩:=id hW
 have hq:q=[]:=by
  rw [hvars] at hV
  cases gs with
  | nil=>exact hV
  | cons g gs=>exact hV.elim
 subst hq
 have hbp:before=p:=by rw [hb]; simp
 refine pM (pa:=p) (pv:=[]) hW (fun b sp hd=>?_) (fun sp hsp=>?_) (fun sp hsp=>?_) hb hst ?_
 · rw [hrt,hfn]
   exact ⟨[],[],⟨1,by simp [DataW.trod,Value.cells,htb]⟩,rfl,rfl⟩
 · rw [hfn]
   rw [hbp] at hlt hsp
   exact jE hl hm hsr hst hps hA hlt hsp
 · rw [hfn,hvars]; rfl
 · intro j t r h1 h2
   rw [hrt] at h1 h2
   match j with
   | 0=>
    cases h1
    cases h2
    simp [Value.okWide,Cell.okWide,Cell.ok,htb]
   | j + 1=>cases h1
end
open Go.RowKit
inductive Fit (P:Program):TypeId->List C->Prop
 | int {t:TypeId} {k:IntKind} {n:Int}:P.underlying t=some (.int k)->(Lit.int k n).wf=true->Fit P t [.vl (.int k n)]
 | bool {t:TypeId} {b:Bool}:P.underlying t=some .bool->Fit P t [.vl (.bool b)]
 | str {t:TypeId} {s:ByteArray}:P.underlying t=some .string->s.size<=maxLen->Fit P t [.vl (.string s)]
 | sl {t e:TypeId} {xs:List (List C)}:P.underlying t=some (.slice e)->xs.length<=maxLen->(∀ r ∈ xs,Fit P e r)->Fit P t [.fz xs]
 | st {t:TypeId} {fs:Array Field} {parts:List (List C)}:P.underlying t=some (.struct fs)->parts.length=fs.size->(∀ (i:Nat) (f:Field) (p:List C),fs[i]? = some f->parts[i]? = some p->Fit P f.type p)->Fit P t parts.flatten
section
variable {P:Program} {t e:TypeId} {xs:List C}
end
theorem Fit.rows {P:Program} {e:TypeId} {α:Type} {row:α->List C} {Q:α->Prop} {ys:List (List C)} (hi:∀ r,Fit P e r->∃ a,r=row a/\Q a) (h:∀ r ∈ ys,Fit P e r):∃ l:List α,ys=l.map row/\∀ a ∈ l,Q a:=by
 induction ys with
 | nil=>exact ⟨[],rfl,fun a h=>by cases h⟩
 | cons r ys ih=>
  obtain ⟨l,h1,h2⟩:=ih fun r hr=>h r (List.mem_cons_of_mem _ hr)
  obtain ⟨a,h3,h4⟩:=hi r (h r (by simp))
  refine ⟨a :: l,by rw [h1,h3]; rfl,fun x hx=>?_⟩
  rcases List.mem_cons.1 hx with rfl | hx
  · exact h4
  · exact h2 x hx
section
variable {H:Type} {enc:TypeId × Value->H} {P:Program} {W:World} {ts:List TypeId}
end
end Go.W
