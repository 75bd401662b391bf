/- Lemmas and walks for the proof. -/
import Derived.Test.YtblfcdllimkbhaaGreatCa
import Derived.Deep.Quiet
import Derived.Deep.LoopGhost
set_option maxRecDepth 100000
set_option maxHeartbeats 8000000
open List renaming length_map→cE,mem_map→dO,map_flatten→DA,map_map→fK,map_congr_left→vU,getD_eq_getElem?_getD→E6,getElem?_map→b9,map_take→zH,getElem?_take→gW,ext_getElem?→iF,getElem?_set→mP,getElem?_eq_none_iff→zB,eq_nil_of_length_eq_zero→iB,getElem?_range→DG,getElem?_append_left→lY,length_set→lE,set_append_left→aDQ,mem_filterMap→UC,mem_iff_getElem?→eN,mem_cons→bU,nodup_cons→T3,headD_cons→y9,tail_cons→aYS,getElem?_cons_zero→oS,getElem?_append→uC,mem_append→cL,flatten_append→zG,length_append→bW,cons_append→sG,all_eq_true→nN,mem_range→oQ,any_eq_true→iY,filterMap_cons→UE,length_nil→dZ,length_cons→bP,mem_append_right→jV,mem_append_left→jW,mem_singleton→dS,flatten_cons→fA,flatten_nil→aDT,append_nil→fI,nodup_nil→aC4,append_of_mem→uE,filter_cons→aC5,map_cons→gC,nil_append→jT,length_range→aCY,take_succ_cons→eG,drop_succ_cons→JP,take_append_drop→sH,getElem?_drop→vV,length_drop→qP
open Nat renaming le_refl→bE,lt_of_lt_of_le→C8,zero_add→gJ,le_trans→dM,lt_of_not_le→aDR,lt_trichotomy→aDS
open Option renaming map_eq_some_iff→lX,map_some→cQ,bind_some→nR,isSome_iff_exists→oW,map_none→qL,getD_none→oT,isSome_some→lG,isSome_none→nS
open Array renaming getElem?_eq_none→nT,getD_eq_getD_getElem?→vW,toList_map→DF,toArray_toList→eL,getElem?_eq_some_iff→mQ,setIfInBounds_comm→UD,getElem?_eq_getElem→nO,size_setIfInBounds→UF,length_toList→uH
open Bool renaming and_eq_true→bI,not_eq_true'→oR,or_eq_true→fB,false_or→bK,false_eq_true→qQ
namespace Go.W
section
variable {γ γ':List Gb} {ro ro':RO} {f:Nat->Option Nat}
theorem GP {g:C->C} (hi:∀c v,C.rel0 γ ro c v->C.rel0 γ' ro' (g c) v) {x:Bool×List C} {v:Value} (h:CU γ ro x v):CU γ' ro' (x.1,x.2.map g) v:=by
 obtain ⟨b,cs⟩:=x
 cases b with
 |false=>
  match cs,h with
  |[c],h=>exact hi c v h
 |true=>
  obtain ⟨vs,h1,h2⟩:=h
  exact ⟨vs,h1,h2.map (f:=g) hi⟩
theorem C.rel0_ren (hf:∀(n m:Nat) (g:Gb),f n=some m->γ[n]? = some g->γ'[m]? = some g) {c:C} {v:Value} (h:c.rel0 γ ro v):(c.ren0 f).rel0 γ' ro v:=by
 cases c with
 |no=>trivial
 |vl u=>exact h
 |pt n off=>
  simp only[C.ren0]
  split
  · rename_i m hm;obtain ⟨g,b,h1,h2⟩:=h;exact ⟨g,b,hf n m g hm h1,h2⟩
  · trivial
 |sl n len=>
  simp only[C.ren0]
  split
  · rename_i m hm;obtain ⟨g,h1,h2⟩:=h;exact ⟨g,hf n m g hm h1,h2⟩
  · trivial
 |qt n len sz i j=>
  simp only[C.ren0]
  split
  · rename_i m hm;obtain ⟨g,h1,h2⟩:=h;exact ⟨g,hf n m g hm h1,h2⟩
  · trivial
 |fz xs=>exact h
 |fp r j=>exact h
 |dp n len=>
  simp only[C.ren0]
  split
  · rename_i m hm;obtain ⟨g,h1,h2⟩:=h;exact ⟨g,hf n m g hm h1,h2⟩
  · trivial
 |mp n=>
  simp only[C.ren0]
  split
  · rename_i m hm;obtain ⟨g,b,h1,h2⟩:=h;exact ⟨g,b,hf n m g hm h1,h2⟩
  · trivial
 |fn g cs=>exact h.elim
 |fm g cs=>exact h
theorem C.rel_ren (hf:∀(n m:Nat) (g:Gb),f n=some m->γ[n]? = some g->γ'[m]? = some g) {c:C} {v:Value} (h:c.rel γ ro v):(c.ren f).rel γ' ro v:=by
 cases c with
 |no=>trivial
 |vl u=>exact h
 |pt n off=>
  simp only[C.ren]
  split
  · rename_i m hm;obtain ⟨g,b,h1,h2⟩:=h;exact ⟨g,b,hf n m g hm h1,h2⟩
  · trivial
 |sl n len=>
  simp only[C.ren]
  split
  · rename_i m hm;obtain ⟨g,h1,h2⟩:=h;exact ⟨g,hf n m g hm h1,h2⟩
  · trivial
 |qt n len sz i j=>
  simp only[C.ren]
  split
  · rename_i m hm;obtain ⟨g,h1,h2⟩:=h;exact ⟨g,hf n m g hm h1,h2⟩
  · trivial
 |fz xs=>exact h
 |fp r j=>exact h
 |dp n len=>
  simp only[C.ren]
  split
  · rename_i m hm;obtain ⟨g,h1,h2⟩:=h;exact ⟨g,hf n m g hm h1,h2⟩
  · trivial
 |mp n=>
  simp only[C.ren]
  split
  · rename_i m hm;obtain ⟨g,b,h1,h2⟩:=h;exact ⟨g,b,hf n m g hm h1,h2⟩
  · trivial
 |fn g cs=>
  obtain ⟨vs,h1,h2⟩:=h
  exact ⟨vs,h1,h2.map (f:=fun x=>(x.1,x.2.map (C.ren0 f))) fun _ _=>GP fun _ _=>C.rel0_ren hf⟩
 |fm g cs=>exact h
theorem A.rel_ren (hf:∀(n m:Nat) (g:Gb),f n=some m->γ[n]? = some g->γ'[m]? = some g) {a:A} {v:Value} (h:a.rel γ ro v):(a.ren f).rel γ' ro v:=by
 cases a with
 |c1 c=>exact C.rel_ren hf h
 |gs cs=>obtain ⟨vs,h1,h2⟩:=h;exact ⟨vs,h1,h2.map (f:=C.ren f) fun _ _=>C.rel_ren hf⟩
theorem S.rel_ren (hf:∀(n m:Nat) (g:Gb),f n=some m->γ[n]? = some g->γ'[m]? = some g) {s:S} {v:Value} (h:s.rel γ ro v):(s.ren f).rel γ' ro v:=by
 cases s with
 |va a=>exact A.rel_ren hf h
 |tu l=>obtain ⟨vs,h1,h2⟩:=h;exact ⟨vs,h1,h2.map (f:=A.ren f) fun _ _=>A.rel_ren hf⟩
 |cn g a=>exact ⟨fun e=>A.rel_ren hf (h.1 e),h.2⟩
 |un=>trivial
theorem B.On_ren (hf:∀(n m:Nat) (g:Gb),f n=some m->γ[n]? = some g->γ'[m]? = some g) {w:World} {g:Gb} {blk:B} (h:blk.On γ ro w g):(blk.ren f).On γ' ro w g:=by
 cases blk with
 |cells cs T=>obtain ⟨h1,b,h2,h3,h4⟩:=h;exact ⟨h1,b,h2,h3,h4.map (f:=C.ren f) fun _ _=>C.rel_ren hf⟩
 |row xs T sz=>exact h
 |rowx xs T sz=>
  obtain ⟨h1,h2,h3,h4,h5,h6⟩:=h
  refine ⟨h1,by rw[cE];exact h2,fun x hx=>?_,by rw[cE];exact h4,?_,h6⟩
  · obtain ⟨y,hy,rfl⟩:=dO.1 hx
    rw[cE];exact h3 y hy
  · rw[<-DA]
    exact h5.map (f:=C.ren f) fun _ _=>C.rel_ren hf
 |map kd ks vs=>obtain ⟨h1,h2,h3,h4⟩:=h;exact ⟨h1,h2,h3.map (f:=A.ren f) fun _ _=>A.rel_ren hf,h4⟩
 |dead=>trivial
theorem B.live_ren (f:Nat->Option Nat) (blk:B):(blk.ren f).live=blk.live:=by cases blk<;>rfl
theorem FzR.nil (ro:RO):FzR ro [] (.slice none 0 0):=
 .mk [] 0 none none (fun h=>absurd rfl h) 0 (fun _=>undef) (by simp) (bE _) (by simp) (by simp) (by simp) (by simp) (by simp)
theorem C.rel_nf {c:C} {v:Value} (h:c.rel γ ro v):c.nf.rel γ ro v:=by
 unfold C.nf
 split
 · have h':v=.slice none 0 0:=h
   subst h'
   exact FzR.nil ro
 · exact h
theorem A.rel_nf {a:A} {v:Value} (h:a.rel γ ro v):a.nf.rel γ ro v:=by
 cases a with
 |c1 c=>exact C.rel_nf h
 |gs cs=>obtain ⟨vs,h1,h2⟩:=h;exact ⟨vs,h1,h2.map (f:=C.nf) fun _ _=>C.rel_nf⟩
theorem S.rel_nf {s:S} {v:Value} (h:s.rel γ ro v):s.nf.rel γ ro v:=by
 cases s with
 |va a=>exact A.rel_nf h
 |tu l=>obtain ⟨vs,h1,h2⟩:=h;exact ⟨vs,h1,h2.map (f:=A.nf) fun _ _=>A.rel_nf⟩
 |cn g a=>exact ⟨fun e=>A.rel_nf (h.1 e),h.2⟩
 |un=>trivial
theorem C.rel0_pub {n:Nat} {g:Gb} {xs:List (List C)} (hext:Ext ro ro') (hn:γ[n]? = some g) (hl:g.len=xs.length) (hfz:FzR ro' xs (.slice (bX g.ob 0) xs.length g.cap)) {c:C} {v:Value} (h:c.rel0 γ ro v):(c.pub0 n xs).rel0 γ ro' v:=by
 have hm:=C.rel0_mono (GExt.refl γ) hext h
 cases c with
 |sl m l=>
  simp only[C.pub0]
  split
  · rename_i he
    subst he
    split
    · rename_i hlen
      obtain ⟨g',h1,h2,h3,h4,h5⟩:=h
      rw[hn] at h1
      simp only[aM] at h1
      subst h1
      have:=h5 (by omega)
      subst this
      show FzR ro' xs _
      rw[hlen]
      exact hfz
    · trivial
  · exact hm
 |qt m l sz i j=>
  simp only[C.pub0]
  split
  · trivial
  · exact hm
 |dp m l=>
  simp only[C.pub0]
  split
  · trivial
  · exact hm
 |fn f cs=>exact h.elim
 |_=>exact hm
theorem C.rel_pub {n:Nat} {g:Gb} {xs:List (List C)} (hext:Ext ro ro') (hn:γ[n]? = some g) (hl:g.len=xs.length) (hfz:FzR ro' xs (.slice (bX g.ob 0) xs.length g.cap)) {c:C} {v:Value} (h:c.rel γ ro v):(c.pub n xs).rel γ ro' v:=by
 have hm:=C.rel_mono (GExt.refl γ) hext h
 cases c with
 |sl m l=>
  simp only[C.pub]
  split
  · rename_i he
    subst he
    split
    · rename_i hlen
      obtain ⟨g',h1,h2,h3,h4,h5⟩:=h
      rw[hn] at h1
      simp only[aM] at h1
      subst h1
      have:=h5 (by omega)
      subst this
      show FzR ro' xs _
      rw[hlen]
      exact hfz
    · trivial
  · exact hm
 |qt m l sz i j=>
  simp only[C.pub]
  split
  · trivial
  · exact hm
 |dp m l=>
  simp only[C.pub]
  split
  · trivial
  · exact hm
 |fn f cs=>
  obtain ⟨vs,h1,h2⟩:=h
  exact ⟨vs,h1,h2.map (f:=fun x=>(x.1,x.2.map (C.pub0 n xs))) fun _ _=>GP fun _ _=>C.rel0_pub hext hn hl hfz⟩
 |_=>exact hm
theorem A.rel_pub {n:Nat} {g:Gb} {xs:List (List C)} (hext:Ext ro ro') (hn:γ[n]? = some g) (hl:g.len=xs.length) (hfz:FzR ro' xs (.slice (bX g.ob 0) xs.length g.cap)) {a:A} {v:Value} (h:a.rel γ ro v):(a.pub n xs).rel γ ro' v:=by
 cases a with
 |c1 c=>exact C.rel_pub hext hn hl hfz h
 |gs cs=>obtain ⟨vs,h1,h2⟩:=h;exact ⟨vs,h1,h2.map (f:=C.pub n xs) fun _ _=>C.rel_pub hext hn hl hfz⟩
theorem S.rel_pub {n:Nat} {g:Gb} {xs:List (List C)} (hext:Ext ro ro') (hn:γ[n]? = some g) (hl:g.len=xs.length) (hfz:FzR ro' xs (.slice (bX g.ob 0) xs.length g.cap)) {s:S} {v:Value} (h:s.rel γ ro v):(s.pub n xs).rel γ ro' v:=by
 cases s with
 |va a=>exact A.rel_pub hext hn hl hfz h
 |tu l=>obtain ⟨vs,h1,h2⟩:=h;exact ⟨vs,h1,h2.map (f:=A.pub n xs) fun _ _=>A.rel_pub hext hn hl hfz⟩
 |cn g a=>exact ⟨fun e=>A.rel_pub hext hn hl hfz (h.1 e),h.2⟩
 |un=>trivial
end
def g00:Gb:=⟨none,false,0,0,0,[]⟩
def fC (E:Es) (σ:List Nat):Es:=σ.map fun n=>E.getD n (g00,.dead)
theorem E0 (E:Es) (σ:List Nat):hp (fC E σ)=wI (hp E) σ:=by
 simp only[hp,fC,wI,fK]
 apply vU
 intro n _
 simp only[Function.comp,E6,b9]
 cases E[n]?<;>rfl
theorem TF:∀{σ:List Nat} {n j:Nat},gN σ n=some j->σ[j]? = some n
 |[],n,j,h=>by simp[gN] at h
 |m::σ,n,j,h=>by
  simp only[gN] at h
  split at h
  · rename_i he;simp only[aM] at h;subst h;subst he;rfl
  · simp only[lX] at h
    obtain ⟨k,hk,rfl⟩:=h
    simpa using TF hk
theorem C5 {E:Es} {σ:List Nat} (n m:Nat) (g:Gb) (h:gN σ n=some m) (hg:(gm E)[n]? = some g):(gm (fC E σ))[m]? = some g:=by
 have hs:=TF h
 obtain ⟨blk,hE⟩:=yS hg
 simp[gm,fC,hs,hE]
def cX (f:B->B) (E:Es):Es:=E.map fun e=>(e.1,f e.2)
theorem jB (f:B->B) (E:Es):gm (cX f E)=gm E:=by simp[gm,cX,fK,Function.comp_def]
theorem lI (f:B->B) (E:Es):hp (cX f E)=(hp E).map f:=by simp[hp,cX,fK,Function.comp_def]
section
variable {N:Nat} {fr:Fr} {a:Act} {E:Es} {ro:RO} {X:Ctx} {w:World}
theorem Rel.sub (h:Rel X E ro w) {E':Es} (μ:Nat->Nat) (hg:∀(n:Nat) (g:Gb) (blk:B),E'[n]? = some (g,blk)->blk.live=true->∃bk,E[μ n]? = some (g,bk)/\bk.live=true/\(bk.On (gm E) ro w g->blk.On (gm E') ro w g))
 (hi:∀(n m:Nat),n<E'.length->m<E'.length->μ n=μ m->n=m) (gx:GExt X.g0 (gm E')):Rel X E' ro w:=by
 have lt:∀{n:Nat} {e:Gb×B},E'[n]? = some e->n<E'.length:=fun h=>(bT.1 h).1
 refine ⟨fun n g blk hn=>?_,fun n m gn gm bn bm b hn hm en em ln lm=>?_,fun b off c hc n g blk hn en=>?_,h.rd,h.ro0,h.rob,fun n b g blk hn en ln=>?_,gx,h.sz,h.keep,h.os,h.tape,h.output⟩
 · by_cases hl:blk.live=true
   · obtain ⟨bk,h1,h2,h3⟩:=hg n g blk hn hl
     exact h3 (h.own _ g bk h1)
   · cases blk<;>simp[B.live] at hl;trivial
 · obtain ⟨bk,h1,h2,_⟩:=hg n _ _ hn ln
   obtain ⟨bk',k1,k2,_⟩:=hg m _ _ hm lm
   exact hi n m (lt hn) (lt hm) (h.inj _ _ gn gm bk bk' b h1 k1 en em h2 k2)
 · by_cases hl:blk.live=true
   · obtain ⟨bk,h1,h2,_⟩:=hg n g blk hn hl
     have:=h.apart b off c hc _ g bk h1 en
     rw[h2] at this;cases this
   · simpa using hl
 · obtain ⟨bk,h1,h2,_⟩:=hg n g blk hn ln
   exact h.par _ b g bk h1 en h2
theorem Rel.cut (h:Rel X E ro w) {k:Nat} (hk:X.g0.length<=k):Rel X (cX (B.ren (qR k)) (E.take k)) ro w:=by
 have hren:∀(n m:Nat) (g:Gb),qR k n=some m->(gm E)[n]? = some g->(gm (cX (B.ren (qR k)) (E.take k)))[m]? = some g:=by
  intro n m g h1 h2
  unfold qR at h1
  split at h1
  · rename_i hlt
    simp only[aM] at h1
    subst h1
    rw[jB,gm,zH,gW,if_pos hlt]
    exact h2
  · cases h1
 refine h.sub id (fun n g blk hn hl=>?_) (fun n m _ _ e=>e) ?_
 · simp only[cX,b9,gW] at hn
   split at hn
   · cases hE:E[n]? with
     |none=>simp[hE] at hn
     |some e=>
      simp only[hE,cQ,aM,Prod.mk.injEq] at hn
      obtain ⟨rfl,rfl⟩:=hn
      exact ⟨e.2,hE,by rw[B.live_ren] at hl;exact hl,B.On_ren hren⟩
   · simp at hn
 · intro n g hn
   obtain ⟨g',h1,h2⟩:=h.gx n g hn
   have hlt:n<k:=C8 (bT.1 hn).1 hk
   exact ⟨g',hren n n g' (by simp[qR,hlt]) h1,h2⟩
theorem Rel.kill (h:Rel X E ro w) {n:Nat} {g0:Gb} {bk0:B} (hn:E[n]? = some (g0,bk0)):Rel X (E.set n (g0,.dead)) ro w:=by
 have hgm:gm (E.set n (g0,.dead))=gm E:=by
  apply iF
  intro j
  simp only[gm,b9,mP]
  split
  · rename_i hj;subst hj;rw[if_pos (bT.1 hn).1,hn];rfl
  · rfl
 refine h.sub id (fun m g blk hm hl=>?_) (fun n m _ _ e=>e) (by rw[hgm];exact h.gx)
 rw[mP] at hm
 split at hm
 · rw[if_pos (by rename_i e;subst e;exact (bT.1 hn).1)] at hm;simp only[aM,Prod.mk.injEq] at hm;rw[<-hm.2] at hl;simp[B.live] at hl
 · exact ⟨blk,hm,hl,fun h=>by rw[hgm];exact h⟩
theorem gE {n:Nat} {g0:Gb} {bk0 blk:B} (hn:E[n]? = some (g0,bk0)):gm (E.set n (g0,blk))=gm E:=by
 apply iF
 intro j
 simp only[gm,b9,mP]
 split
 · rename_i hj;subst hj;rw[if_pos (bT.1 hn).1,hn];rfl
 · rfl
theorem Rel.sel (h:Rel X E ro w) {ns:List Nat} (hd:ns.Nodup) (hlt:∀n∈ns,n<E.length) (gx:GExt X.g0 (gm (fC E ns))):Rel X (cX (B.ren (gN ns)) (fC E ns)) ro w:=by
 refine h.sub (fun n=>ns.getD n 0) (fun n g blk hn hl=>?_) (fun n m hn hm e=>?_) (by rw[jB];exact gx)
 · simp only[cX,b9,fC] at hn
   cases hns:ns[n]? with
   |none=>simp[hns] at hn
   |some m=>
    simp only[hns,cQ,aM,Prod.mk.injEq,E6] at hn
    obtain ⟨h1,h2⟩:=hn
    cases hE:E[m]? with
    |none=>have:=hlt m (cC hns);rw[zB] at hE;omega
    |some e=>
     rw[hE] at h1 h2
     simp only[Option.getD_some] at h1 h2
     subst h1 h2
     refine ⟨e.2,by simp[hns,hE],by rw[B.live_ren] at hl;exact hl,fun ho=>B.On_ren (fun n m g k1 k2=>?_) ho⟩
     rw[jB];exact C5 n m g k1 k2
 · simp only[cX,fC,cE] at hn hm
   simp only[E6,aX hn,aX hm,Option.getD_some] at e
   exact (List.getElem_inj hd).1 e
theorem Rel.push (h:Rel X E ro w) (T sz:Nat):Rel X (E++[(⟨none,true,0,0,T,[]⟩,.row [] T sz)]) ro w:=
 h.new (fun k _=>rfl) (bE _) rfl rfl rfl (.inl rfl) ⟨rfl,rfl,fun x hx=>by simp at hx,by simp,World.ownsRow_nil w 0 T sz,.nil,fun b hb=>by simp at hb⟩
theorem SU (h:Rel X E ro w) {n:Nat} {g:Gb} {xs:List (List C)} {T sz:Nat} (hn:E[n]? = some (g,.row xs T sz)) {ro':RO} (hext:Ext ro ro') (hro:∀b,g.ob=some b->∀off v,g.vs[off]? = some v->ro' b off=some v) :
 FzR ro' xs (.slice (bX g.ob 0) xs.length g.cap):=by
 obtain ⟨hrow,hglen,hxl,hsh,⟨hfl,hown⟩,hrel,_⟩:=h.own n _ _ hn
 have hob:FK (g.ob.map fun b=>(b,0)) 0=bX g.ob 0:=by cases g.ob<;>simp[FK,bX]
 rw[<-hob]
 have hne:xs≠[]->g.ob.isSome=true/\True:=fun hne=>by
  rcases hown with ⟨_,h0⟩|⟨b,cap',cur,hv,_⟩
  · exact absurd (iB h0) hne
  · cases hgo:g.ob with
    |none=>rw[hgo] at hv;simp[bX] at hv
    |some b=>simp
 refine .mk xs sz _ _ (fun _=>rfl) g.cap (fun k=>g.vs.getD k undef) hxl ?_ (fun h=>by have:=(hne h).1;cases hg:g.ob<;>simp[hg] at this ⊢) (fun k c hk=>?_) (fun k v hk=>?_) (fun k ys hk=>?_) hsh
 · rcases hown with ⟨hv,h0⟩|⟨b,cap',cur,hv,_,_,hnc,_⟩
   · omega
   · simp only[Value.slice.injEq] at hv;omega
 · obtain ⟨v,hv,_⟩:=hrel.get hk
   have hs:=(hne (fun e=>by subst e;simp at hk)).1
   cases hgo:g.ob with
   |none=>rw[hgo] at hs;simp at hs
   |some b=>simp[hv,hro b hgo k v hv]
 · obtain ⟨u,hu,hr⟩:=hrel.get hk
   have hr':u=v:=hr
   simp[hu,hr']
 · obtain ⟨u,hu,hr⟩:=hrel.get hk
   have hr':FzR ro ys u:=hr
   simp only[E6,hu,Option.getD_some]
   exact hr'.mono hext
theorem Rel.pubR2 (h:Rel X E ro w) {n:Nat} {g:Gb} {xs:List (List C)} {T sz:Nat} (hn:E[n]? = some (g,.row xs T sz)) :
 ∃ro',Ext ro ro'/\FzR ro' xs (.slice (bX g.ob 0) xs.length g.cap)/\g.len=xs.length/\(∀b,g.ob=some b->(∀off v,ro' b off=some v->g.vs[off]? = some v)/\∀(j:Nat) (gj:Gb) (blk:B),(cX (B.pub n xs) (E.set n (g,.dead)))[j]? = some (gj,blk)->gj.ob=some b->blk.live=false)/\Rel X (cX (B.pub n xs) (E.set n (g,.dead))) ro' w:=by
 obtain ⟨hrow,hglen,hxl,hsh,hown,hrel,_⟩:=h.own n _ _ hn
 have hk:=h.kill hn
 let ro':RO:=fun b' off=>if g.ob=some b' then g.vs[off]? else ro b' off
 have hnb:∀b,g.ob=some b->∀off c,ro b off≠some c:=fun b hb off c hc=>by have:=h.apart b off c hc n g _ hn hb;simp[B.live] at this
 have hext:Ext ro ro':=by
  intro b' off c hc
  simp only[ro']
  rw[if_neg (fun e=>hnb b' e off c hc)]
  exact hc
 have hro:∀b,g.ob=some b->∀off v,g.vs[off]? = some v->ro' b off=some v:=fun b hb off v hv=>by simp only[ro',hb,if_true];exact hv
 have hfz:=SU h hn hext hro
 have hcell:∀b,g.ob=some b->∀off v,g.vs[off]? = some v->w.cell? ⟨b,off,none⟩=some v:=by
  intro b hb off v hv
  rw[hb] at hown
  have:=World.ownsRow.cells (h:=hown) (g:=b) rfl off v hv
  rwa [gG,gJ] at this
 have hgm:gm (cX (B.pub n xs) (E.set n (g,.dead)))=gm E:=by rw[jB,gE hn]
 have hgn:(gm E)[n]? = some g:=dU hn
 have hlt:n<E.length:=(bT.1 hn).1
 have get:∀(j:Nat) (gj:Gb) (blk:B),(cX (B.pub n xs) (E.set n (g,.dead)))[j]? = some (gj,blk)->blk.live=true->j≠n/\∃bk,E[j]? = some (gj,bk)/\blk=bk.pub n xs/\bk.live=true:=by
  intro j gj blk hj hl
  simp only[cX,b9,mP] at hj
  split at hj
  · rename_i e
    subst e
    simp only[cQ,aM,Prod.mk.injEq,B.pub] at hj
    rw[<-hj.2] at hl;simp[B.live] at hl
  · rename_i e
    cases hE:E[j]? with
    |none=>simp[hE] at hj
    |some y=>
     simp only[hE,cQ,aM,Prod.mk.injEq] at hj
     obtain ⟨rfl,rfl⟩:=hj
     exact ⟨fun e2=>e e2.symm,y.2,rfl,rfl,by cases hy:y.2<;>simp_all[B.pub,B.live]⟩
 have hout:∀b,g.ob=some b->(∀off v,ro' b off=some v->g.vs[off]? = some v)/\∀(j:Nat) (gj:Gb) (blk:B),(cX (B.pub n xs) (E.set n (g,.dead)))[j]? = some (gj,blk)->gj.ob=some b->blk.live=false:=by
  intro b hb
  refine ⟨fun off v hv=>by simpa only[ro',hb,if_true] using hv,fun j gj blk hj ej=>?_⟩
  by_cases hl:blk.live=true
  · obtain ⟨hne,bk,h1,_,h3⟩:=get j gj blk hj hl
    exact absurd (h.inj n j g gj _ bk b hn h1 hb ej rfl h3).symm hne
  · simpa using hl
 refine ⟨ro',hext,hfz,hglen,hout,⟨fun j gj blk hj=>?_,fun j m gj gm' bj bm b hj hm ej em lj lm=>?_,fun b off c hc j gj blk hj ej=>?_,fun b off c hc=>?_,h.ro0.trans hext,fun b off c hc=>?_,fun j b gj blk hj ej lj=>?_,by rw[hgm];exact h.gx,h.sz,h.keep,h.os,h.tape,h.output⟩⟩
 · by_cases hl:blk.live=true
   · obtain ⟨_,bk,h1,rfl,h3⟩:=get j gj blk hj hl
     have:=h.own j gj bk h1
     rw[hgm]
     cases bk with
     |cells cs T=>
      obtain ⟨q1,b,q2,q3,q4⟩:=this
      exact ⟨q1,b,q2,q3,q4.map (f:=C.pub n xs) fun _ _=>C.rel_pub hext hgn hglen hfz⟩
     |row ys T' sz'=>
      obtain ⟨q0,q1,q2,q3,q4,q5,q6⟩:=this
      exact ⟨q0,q1,q2,q3,q4,q5.imp fun _ _=>C.fv_mono hext,q6⟩
     |rowx ys T' sz'=>
      obtain ⟨h1,h2,h3,h4,h5,h6⟩:=this
      refine ⟨h1,by rw[cE];exact h2,fun x hx=>?_,by rw[cE];exact h4,?_,h6⟩
      · obtain ⟨y,hy,rfl⟩:=dO.1 hx
        rw[cE];exact h3 y hy
      · rw[<-DA]
        exact h5.map (f:=C.pub n xs) fun _ _=>C.rel_pub hext hgn hglen hfz
     |map kd ks vs=>
      obtain ⟨q0,q1,q2,q3⟩:=this
      exact ⟨q0,q1,q2.map (f:=A.pub n xs) fun _ _=>A.rel_pub hext hgn hglen hfz,q3⟩
     |dead=>trivial
   · cases blk<;>simp[B.live] at hl;trivial
 · obtain ⟨_,bk,h1,_,h3⟩:=get j _ _ hj lj
   obtain ⟨_,bk',k1,_,k3⟩:=get m _ _ hm lm
   exact h.inj j m gj gm' bk bk' b h1 k1 ej em h3 k3
 · by_cases hl:blk.live=true
   · obtain ⟨hne,bk,h1,_,h3⟩:=get j gj blk hj hl
     simp only[ro'] at hc
     split at hc
     · rename_i he
       exact absurd (h.inj n j g gj _ bk b hn h1 he ej rfl h3).symm hne
     · have:=h.apart b off c hc j gj bk h1 ej
       rw[h3] at this;cases this
   · simpa using hl
 · simp only[ro'] at hc
   split at hc
   · rename_i he;exact hcell b he off c hc
   · exact h.rd b off c hc
 · simp only[ro'] at hc
   split at hc
   · rename_i he;exact .inr (h.par n b g _ hn he rfl)
   · exact h.rob b off c hc
 · obtain ⟨_,bk,h1,_,h3⟩:=get j _ _ hj lj
   exact h.par j b gj bk h1 ej h3
theorem Rel.pubR (h:Rel X E ro w) {n:Nat} {g:Gb} {xs:List (List C)} {T sz:Nat} (hn:E[n]? = some (g,.row xs T sz)) :
 ∃ro',Ext ro ro'/\FzR ro' xs (.slice (bX g.ob 0) xs.length g.cap)/\g.len=xs.length/\Rel X (cX (B.pub n xs) (E.set n (g,.dead))) ro' w:=by
 obtain ⟨ro',h1,h2,h3,_,h5⟩:=h.pubR2 hn
 exact ⟨ro',h1,h2,h3,h5⟩
theorem Rel.opn (h:Rel X E ro w) {n:Nat} {g:Gb} {xs:List (List C)} {T sz:Nat} (hn:E[n]? = some (g,.row xs T sz)):Rel X (E.set n (g,.rowx xs T sz)) ro w:=by
 obtain ⟨h1,h2,h3,h4,h5,h6,h7⟩:=h.own n _ _ hn
 exact h.swap (w':=w) hn rfl g.le_refl (bE _) rfl rfl rfl ⟨h1,h2,h3,h5,⟨h6.1,fun k c u hc hu=>(C.rel_shut (h4 c (cC hc))).2 (h6.2 k c u hc hu)⟩,h7⟩ (.inl ⟨rfl,fun _ _=>rfl⟩)
theorem Rel.shu (h:Rel X E ro w) {n:Nat} {g:Gb} {xs:List (List C)} {T sz:Nat} (hn:E[n]? = some (g,.rowx xs T sz)) (hs:∀c∈xs.flatten,c.shut=true):Rel X (E.set n (g,.row xs T sz)) ro w:=by
 obtain ⟨h1,h2,h3,h5,h6,h7⟩:=h.own n _ _ hn
 exact h.swap (w':=w) hn rfl g.le_refl (bE _) rfl rfl rfl ⟨h1,h2,h3,hs,h5,⟨h6.1,fun k c u hc hu=>(C.rel_shut (hs c (cC hc))).1 (h6.2 k c u hc hu)⟩,h7⟩ (.inl ⟨rfl,fun _ _=>rfl⟩)
theorem Rel.nfr (h:Rel X E ro w) {n:Nat} {g:Gb} {xs:List (List C)} {T sz:Nat} (hn:E[n]? = some (g,.rowx xs T sz)):Rel X (E.set n (g,.rowx (xs.map (List.map C.nf)) T sz)) ro w:=by
 obtain ⟨h1,h2,h3,h5,h6,h7⟩:=h.own n _ _ hn
 have hfl:(xs.map (List.map C.nf)).flatten=xs.flatten.map C.nf:=by rw[DA]
 exact h.swap (w':=w) hn rfl g.le_refl (bE _) rfl rfl rfl ⟨h1,by rw[cE];exact h2,fun x hx=>by
  obtain ⟨y,hy,rfl⟩:=dO.1 hx
  rw[cE];exact h3 y hy,by rw[cE];exact h5,by
  rw[hfl]
  refine ⟨by rw[cE];exact h6.1,fun k c u hc hu=>?_⟩
  rw[b9] at hc
  cases hx:xs.flatten[k]? with
  |none=>rw[hx] at hc;cases hc
  |some d=>
   rw[hx] at hc
   obtain rfl:=dV hc
   rw[gE hn];exact C.rel_nf (h6.2 k d u hx hu),h7⟩ (.inl ⟨rfl,fun _ _=>rfl⟩)
theorem hp_kill {n:Nat} {g:Gb}:hp (E.set n (g,.dead))=(hp E).set n .dead:=iN E n g .dead
theorem VO {n:Nat} (h:E[n]? = none):(hp E).set n .dead=hp E:=by
 rw[List.set_eq_of_length_le]
 rw[fX];exact zB.1 h
theorem BD {k0:Nat} (hk0:X.g0.length=k0) {H:Hp} {Q:Fr->Hp->Prop} (h:Gh k0 Q fr H):∀{E:Es} {ro:RO},H=hp E->FRel N (gm E) ro fr a->Rel X E ro w->∃fr' E' ro',Q fr' (hp E')/\FRel N (gm E') ro' fr' a/\Rel X E' ro' w:=by
 induction h with
 |done h=>intro E ro he hf hr;subst he;exact ⟨_,_,_,h,hf,hr⟩
 |wk fr' hw _ ih=>
  intro E ro he hf hr
  refine ih he ⟨hf.size,fun i=>?_,hf.defers⟩ hr
  rcases hw i with e|e
  · rw[e];exact hf.slot i
  · rw[e];trivial
 |cut k hk _ ih=>
  intro E ro he hf hr
  subst he
  refine ih (E:=cX (B.ren (qR k)) (E.take k)) (by rw[lI];simp[hp,zH]) ⟨hf.size,fun i=>?_,hf.defers⟩ (hr.cut (by omega))
  refine S.rel_ren (fun n m g h1 h2=>?_) (hf.slot i)
  unfold qR at h1
  split at h1
  · rename_i hlt
    simp only[aM] at h1
    subst h1
    rw[jB,gm,zH,gW,if_pos hlt]
    exact h2
  · cases h1
 |sel ns hd hl hk _ ih=>
  intro E ro he hf hr
  subst he
  refine ih (E:=cX (B.ren (gN ns)) (fC E ns)) (by rw[lI,E0]) ⟨hf.size,fun i=>S.rel_ren (fun n m g h1 h2=>by rw[jB];exact C5 n m g h1 h2) (hf.slot i),hf.defers⟩ (hr.sel hd (fun n hn=>by have:=hl n hn;rwa [fX] at this) fun n g hn=>?_)
  obtain ⟨g',h1,h2⟩:=hr.gx n g hn
  refine ⟨g',?_,h2⟩
  have hlt:n<k0:=by rw[<-hk0];exact (bT.1 hn).1
  have hns:ns[n]? = some n:=by
   have:=congrArg (·[n]?) hk
   simpa[gW,hlt,DG] using this
  obtain ⟨blk,hE⟩:=yS h1
  simp[gm,fC,hns,hE]
 |kill n _ ih=>
  intro E ro he hf hr
  subst he
  cases hE:E[n]? with
  |none=>exact ih (VO hE) hf hr
  |some y=>
   obtain ⟨g,blk⟩:=y
   exact ih (E:=E.set n (g,.dead)) hp_kill.symm (by rw[gE hE];exact hf) (hr.kill hE)
 |nil sl T sz hsl _ ih=>
  intro E ro he hf hr
  subst he
  refine ih (E:=E++[((⟨none,true,0,0,T,[]⟩:Gb),B.row [] T sz)]) (by rw[lJ]) ⟨hf.size,fun i=>?_,hf.defers⟩ (hr.push T sz)
  simp only[W.put]
  split
  · rename_i hi
    subst hi
    have:=hf.slot i
    rw[hsl] at this
    have h':a.tmps.getD i undef=.slice none 0 0:=this
    rw[h']
    exact ⟨⟨none,true,0,0,T,[]⟩,by simp[gm,fX],rfl,bE _,⟨_,_,_,rfl⟩,fun _=>rfl⟩
  · exact S.rel_mono (eS _) (Ext.refl _) (hf.slot i)
 | @nilc fr H nm k T sz cs T' hnm hk _ ih=>
  intro E ro he hf hr
  subst he
  obtain ⟨g,hE⟩:=dC hnm
  have hp1:=hr.push T sz
  have hlt:=(bT.1 hE).1
  have hE1:(E++[((⟨none,true,0,0,T,[]⟩:Gb),B.row [] T sz)])[nm]? = some (g,.cells cs T'):=by rw[lY hlt];exact hE
  obtain ⟨q1,b,q2,q3,q4⟩:=hp1.own nm _ _ hE1
  have hle:=jF (E:=E++[((⟨none,true,0,0,T,[]⟩:Gb),B.row [] T sz)]) (blk':=.cells (cs.set k (.sl (hp E).length 0)) T') hE1 g.le_refl
  have hgm:=gE (E:=E++[((⟨none,true,0,0,T,[]⟩:Gb),B.row [] T sz)]) (blk:=.cells (cs.set k (.sl (hp E).length 0)) T') hE1
  have h2:=hp1.swap (w':=w) (blk':=.cells (cs.set k (.sl (hp E).length 0)) T') hE1 rfl g.le_refl (bE _) rfl rfl rfl (by
   rw[hgm]
   refine ⟨q1,b,q2,q3,by rw[lE];exact q4.1,fun i c v h1 h2=>?_⟩
   rw[mP] at h1
   split at h1
   · rename_i hi
     subst hi
     rw[if_pos (bT.1 hk).1] at h1
     simp only[aM] at h1
     subst h1
     have h':v=.slice none 0 0:=q4.2 k _ v hk h2
     subst h'
     exact ⟨⟨none,true,0,0,T,[]⟩,by simp[gm,fX],rfl,bE _,⟨_,_,_,rfl⟩,fun _=>rfl⟩
   · exact q4.2 i c v h1 h2) (.inl ⟨rfl,fun _ _=>rfl⟩)
  refine ih (E:=(E++[((⟨none,true,0,0,T,[]⟩:Gb),B.row [] T sz)]).set nm (g,.cells (cs.set k (.sl (hp E).length 0)) T')) ?_ (by rw[hgm];exact hf.mono (eS _) (Ext.refl _)) h2
  rw[iN,lJ,aDQ _ _ (by rw[fX];exact hlt)]
 |nf sl _ ih=>
  intro E ro he hf hr
  refine ih he ⟨hf.size,fun i=>?_,hf.defers⟩ hr
  simp only[W.put]
  split
  · rename_i hi;subst hi;exact S.rel_nf (hf.slot i)
  · exact hf.slot i
 |pub n xs T sz hn _ ih=>
  intro E ro he hf hr
  subst he
  obtain ⟨g,hE⟩:=dC hn
  obtain ⟨ro',hext,hfz,hglen,hr'⟩:=hr.pubR hE
  refine ih (E:=cX (B.pub n xs) (E.set n (g,.dead))) (by rw[lI,hp_kill];rfl) ⟨hf.size,fun i=>?_,hf.defers⟩ hr'
  rw[jB,gE hE]
  exact S.rel_pub hext (dU hE) hglen hfz (hf.slot i)
 |opn n xs T sz hn _ ih=>
  intro E ro he hf hr
  subst he
  obtain ⟨g,hE⟩:=dC hn
  exact ih (E:=E.set n (g,.rowx xs T sz)) (by rw[iN]) (by rw[gE hE];exact hf) (hr.opn hE)
 |nfr n xs T sz hn _ ih=>
  intro E ro he hf hr
  subst he
  obtain ⟨g,hE⟩:=dC hn
  exact ih (E:=E.set n (g,.rowx (xs.map (List.map C.nf)) T sz)) (by rw[iN]) (by rw[gE hE];exact hf) (hr.nfr hE)
 |shu n xs T sz hn hs _ ih=>
  intro E ro he hf hr
  subst he
  obtain ⟨g,hE⟩:=dC hn
  exact ih (E:=E.set n (g,.row xs T sz)) (by rw[iN]) (by rw[gE hE];exact hf) (hr.shu hE hs)
theorem OE {k0:Nat} (hk0:X.g0.length=k0) {H:Hp} {K:S->Hp->Prop} {r:S} (h:Fin k0 K r H) {v:Value}:∀{E:Es} {ro:RO},H=hp E->r.rel (gm E) ro v->Rel X E ro w->∃r' E' ro',K r' (hp E')/\r'.rel (gm E') ro' v/\Rel X E' ro' w:=by
 induction h with
 |done h=>intro E ro he hf hr;subst he;exact ⟨_,_,_,h,hf,hr⟩
 |sel ns hd hl hk _ ih=>
  intro E ro he hf hr
  subst he
  refine ih (E:=cX (B.ren (gN ns)) (fC E ns)) (by rw[lI,E0]) (S.rel_ren (fun n m g h1 h2=>by rw[jB];exact C5 n m g h1 h2) hf) (hr.sel hd (fun n hn=>by have:=hl n hn;rwa [fX] at this) fun n g hn=>?_)
  obtain ⟨g',h1,h2⟩:=hr.gx n g hn
  refine ⟨g',?_,h2⟩
  have hlt:n<k0:=by rw[<-hk0];exact (bT.1 hn).1
  have hns:ns[n]? = some n:=by
   have:=congrArg (·[n]?) hk
   simpa[gW,hlt,DG] using this
  obtain ⟨blk,hE⟩:=yS h1
  simp[gm,fC,hns,hE]
 |kill n _ ih=>
  intro E ro he hf hr
  subst he
  cases hE:E[n]? with
  |none=>exact ih (VO hE) hf hr
  |some y=>
   obtain ⟨g,blk⟩:=y
   exact ih (E:=E.set n (g,.dead)) hp_kill.symm (by rw[gE hE];exact hf) (hr.kill hE)
 | @nilc r H nm k T sz cs T' hnm hk _ ih=>
  intro E ro he hf hr
  subst he
  obtain ⟨g,hE⟩:=dC hnm
  have hp1:=hr.push T sz
  have hlt:=(bT.1 hE).1
  have hE1:(E++[((⟨none,true,0,0,T,[]⟩:Gb),B.row [] T sz)])[nm]? = some (g,.cells cs T'):=by rw[lY hlt];exact hE
  obtain ⟨q1,b,q2,q3,q4⟩:=hp1.own nm _ _ hE1
  have hle:=jF (E:=E++[((⟨none,true,0,0,T,[]⟩:Gb),B.row [] T sz)]) (blk':=.cells (cs.set k (.sl (hp E).length 0)) T') hE1 g.le_refl
  have hgm:=gE (E:=E++[((⟨none,true,0,0,T,[]⟩:Gb),B.row [] T sz)]) (blk:=.cells (cs.set k (.sl (hp E).length 0)) T') hE1
  have h2:=hp1.swap (w':=w) (blk':=.cells (cs.set k (.sl (hp E).length 0)) T') hE1 rfl g.le_refl (bE _) rfl rfl rfl (by
   rw[hgm]
   refine ⟨q1,b,q2,q3,by rw[lE];exact q4.1,fun i c v h1 h2=>?_⟩
   rw[mP] at h1
   split at h1
   · rename_i hi
     subst hi
     rw[if_pos (bT.1 hk).1] at h1
     simp only[aM] at h1
     subst h1
     have h':v=.slice none 0 0:=q4.2 k _ v hk h2
     subst h'
     exact ⟨⟨none,true,0,0,T,[]⟩,by simp[gm,fX],rfl,bE _,⟨_,_,_,rfl⟩,fun _=>rfl⟩
   · exact q4.2 i c v h1 h2) (.inl ⟨rfl,fun _ _=>rfl⟩)
  refine ih (E:=(E++[((⟨none,true,0,0,T,[]⟩:Gb),B.row [] T sz)]).set nm (g,.cells (cs.set k (.sl (hp E).length 0)) T')) ?_ (by rw[hgm];exact S.rel_mono (eS _) (Ext.refl _) hf) h2
  rw[iN,lJ,aDQ _ _ (by rw[fX];exact hlt)]
 |pub n xs T sz hn _ ih=>
  intro E ro he hf hr
  subst he
  obtain ⟨g,hE⟩:=dC hn
  obtain ⟨ro',hext,hfz,hglen,hr'⟩:=hr.pubR hE
  refine ih (E:=cX (B.pub n xs) (E.set n (g,.dead))) (by rw[lI,hp_kill];rfl) ?_ hr'
  rw[jB,gE hE]
  exact S.rel_pub hext (dU hE) hglen hfz hf
 |opn n xs T sz hn _ ih=>
  intro E ro he hf hr
  subst he
  obtain ⟨g,hE⟩:=dC hn
  exact ih (E:=E.set n (g,.rowx xs T sz)) (by rw[iN]) (by rw[gE hE];exact hf) (hr.opn hE)
 |nfr n xs T sz hn _ ih=>
  intro E ro he hf hr
  subst he
  obtain ⟨g,hE⟩:=dC hn
  exact ih (E:=E.set n (g,.rowx (xs.map (List.map C.nf)) T sz)) (by rw[iN]) (by rw[gE hE];exact hf) (hr.nfr hE)
 |shu n xs T sz hn hs _ ih=>
  intro E ro he hf hr
  subst he
  obtain ⟨g,hE⟩:=dC hn
  exact ih (E:=E.set n (g,.row xs T sz)) (by rw[iN]) (by rw[gE hE];exact hf) (hr.shu hE hs)
end
def fL (E:Es):List Nat:=E.filterMap fun e=>if e.2.live then e.1.ob else none
theorem iK {E:Es} {b:Nat}:b∈fL E ↔ ∃(n:Nat) (g:Gb) (blk:B),E[n]? = some (g,blk)/\g.ob=some b/\B.live blk=true:=by
 unfold fL
 rw[UC]
 constructor
 · rintro ⟨⟨g,blk⟩,hm,he⟩
   simp only at he
   split at he
   · rename_i hl
     obtain ⟨n,hn⟩:=eN.1 hm
     exact ⟨n,g,blk,hn,he,hl⟩
   · cases he
 · rintro ⟨n,g,blk,hn,hb,hl⟩
   exact ⟨(g,blk),cC hn,by simp[hl,hb]⟩
def Y4:List (String×Array Value):=[("internal/strconv.uint64pow10",((List.range 20).map fun i=>Value.int .u64 ((10 ^ i:Nat):Int)).toArray)]
def GR (P:Program) (ro:RO) (w:World):Prop:=∀x∈Y4,∀g,P.globalNamed x.1=some g->(∃v,ro g 0=some v)/\w.var? P x.1=some x.2
theorem GR.mono {P:Program} {ro ro':RO} {w:World} (h:GR P ro w) (he:Ext ro ro'):GR P ro' w:=fun x hx g hg=>⟨(h x hx g hg).1.imp fun _ hv=>he _ _ _ hv,(h x hx g hg).2⟩
theorem aQI {P:Program} {w:World} {n:String} {g:Nat} {cs:Array Value} (hg:P.globalNamed n=some g) (h:w.var? P n=some cs):g<w.heap.size:=by
 unfold World.var? at h
 rw[hg,nR] at h
 rcases bB g w.heap.size with h1|h1
 · exact h1
 · rw[nT h1] at h;cases h
def Meets (P:Program) (f:FuncId) (s:Spec):Prop:=
 yP P f=true/\∀(az:List S) (vs:List Value) (E:Es) (ro:RO) (w:World) (K:S->Hp->Prop),az.length=vs.length->(∀(i:Nat) (x:S) (v:Value),az[i]? = some x->vs[i]? = some v->x.rel (gm E) ro v)->
  Rel ⟨w,fL E,ro,gm E⟩ E ro w->s az (hp E) K->GR P ro w->
  Calls P f vs.toArray w (fun e w'=>∃r v E' ro',e=.returned v/\S.rel (gm E') ro' r v/\K r (hp E')/\Rel ⟨w,fL E,ro,gm E⟩ E' ro' w')
def mS (P:Program) (Γ:eX):Prop:=∀f s,(f,s)∈Γ->Meets P f s.sp/\∀p,s.fn=some p->Meets P f p.sp
structure MeetsIn (P:Program) (X:Ctx) (Γ:eX):Prop where
 g:GR P X.ro0 X.w0
 nb:∀x∈Y4,∀g,P.globalNamed x.1=some g->g ∉ X.pb
 m:mS P Γ
theorem MeetsIn.at {P:Program} {X:Ctx} {Γ:eX} {E:Es} {ro:RO} {w:World} (h:MeetsIn P X Γ) (hr:Rel X E ro w):GR P ro w:=fun x hx g hg=>by
 obtain ⟨⟨v,hv⟩,h2⟩:=h.g x hx g hg
 refine ⟨⟨v,hr.ro0 _ _ _ hv⟩,?_⟩
 have hk:=hr.keep g (aQI hg h2) (h.nb x hx g hg)
 unfold World.var? at h2 ⊢
 rw[hg,nR] at h2 ⊢
 rw[hk];exact h2
theorem GR.nb {P:Program} {X:Ctx} {E:Es} {ro:RO} {w:World} (h:GR P ro w) (hr:Rel X E ro w):∀x∈Y4,∀g,P.globalNamed x.1=some g->g ∉ fL E:=fun x hx g hg hb=>by
 obtain ⟨⟨v,hv⟩,_⟩:=h x hx g hg
 obtain ⟨n,gb,blk,h1,h2,h3⟩:=iK.1 hb
 rw[hr.apart _ _ _ hv n gb blk h1 h2] at h3
 cases h3
theorem MeetsIn.here {P:Program} {X:Ctx} {Γ:eX} {E:Es} {ro:RO} {w:World} (h:MeetsIn P X Γ) (hr:Rel X E ro w):MeetsIn P ⟨w,fL E,ro,gm E⟩ Γ:=⟨h.at hr,(h.at hr).nb hr,h.m⟩
theorem aCW {f:FuncId} {az:List S} {H:Hp} {K:S->Hp->Prop}:∀{Γ:eX},sp Γ f az H K->∃s,(f,s)∈Γ/\s.sp az H K
 |[],h=>h.elim
 | (g,s)::r,h=>by
  simp only[sp] at h
  split at h
  · rename_i hg;subst hg;exact ⟨s,by simp,h⟩
  · obtain ⟨s',h1,h2⟩:=aCW h;exact ⟨s',by simp[h1],h2⟩
theorem SK {f:FuncId} {p:Fun}:∀{Γ:eX},A6 Γ f=some p->∃s,(f,s)∈Γ/\s.fn=some p
 |[],h=>by simp[A6] at h
 | (g,s)::r,h=>by
  simp only[A6] at h
  split at h
  · rename_i hg;subst hg;exact ⟨s,by simp,h⟩
  · obtain ⟨s',h1,h2⟩:=SK h;exact ⟨s',by simp[h1],h2⟩
theorem aB (P:Program):mS P []:=fun f s h=>by simp at h
theorem aE {P:Program} {f:FuncId} {s:Spec} {Γ:eX} (h:Meets P f s) (hr:mS P Γ):mS P ((f,.s s)::Γ):=by
 intro g t hm
 rcases bU.1 hm with he|hm
 · simp only[Prod.mk.injEq] at he;obtain ⟨rfl,rfl⟩:=he;exact ⟨h,fun p hp=>by simp[Entry.s] at hp⟩
 · exact hr g t hm
theorem aG {P:Program} {f:FuncId} {p:Fun} {Γ:eX} (h:Meets P f p.sp) (hr:mS P Γ):mS P ((f,.f p)::Γ):=by
 intro g t hm
 rcases bU.1 hm with he|hm
 · simp only[Prod.mk.injEq] at he;obtain ⟨rfl,rfl⟩:=he;exact ⟨h,fun q hq=>by simp only[Entry.f,aM] at hq;subst hq;exact h⟩
 · exact hr g t hm
def res (fr:Fr):Fr:=fun i=>match fr i with | .cn g a=>bif g then .va a else .un|s=>s
section
variable {P:Program} {o:Oper} {N:Nat} {fr:Fr} {a:Act} {E:Es} {γ:List Gb} {ro:RO} {X:Ctx} {w:World} {nw:Bool} {Γ:eX} {ops:Array Oper}
theorem FRel.res (h:FRel N γ ro fr a):FRel N γ ro (res fr) a:=by
 refine ⟨h.size,fun i=>?_,h.defers⟩
 have:=h.slot i
 unfold W.res
 split
 · rename_i g y he
   rw[he] at this
   cases g
   · trivial
   · exact this.1 rfl
 · exact this
theorem V0:∀{l:List Nat},cZ fr l->∀j∈l,(fr j).gd
 |[],_,j,hj=>by simp at hj
 |i::r,h,j,hj=>by
  rcases bU.1 hj with rfl|hj
  · exact h.1
  · exact V0 h.2 j hj
theorem eW {l:List Nat} (h:cZ fr l):∀j∈l,fst fr j=res fr j:=by
 intro j hj
 have:=V0 h j hj
 unfold W.fst W.res S.st
 cases hfr:fr j with
 |cn g y=>rw[hfr] at this;simp only[S.gd] at this;subst this;rfl
 |va y=>rfl
 |tu l=>rfl
 |un=>rfl
theorem K5 (hf:FRel N γ ro fr a) {sl:Nat} {want g:Bool} (hg:gv fr sl want=some g) {k:Nat} (hk:(ops[k]?).bind (·.dst)=some sl):(yielded ops a.tmps k==some want)=g/\(g=true->a.tmps.getD sl undef=.bool want)/\
 (g=false->∀b,fr sl=bS b->a.tmps.getD sl undef=.bool (!want)):=by
 have hs:=hf.slot sl
 have key:∀b:Bool,a.tmps.getD sl undef=.bool b->a.tmps[sl]? = some (.bool b):=by
  intro b hb
  rw[vW] at hb
  cases h:a.tmps[sl]? with
  |none=>rw[h] at hb;simp[undef] at hb
  |some v=>rw[h] at hb;simp at hb;rw[hb]
 have hfalse:∀x:A,fr sl=.cn false x->(yielded ops a.tmps k==some want)=false/\(false=true->a.tmps.getD sl undef=.bool want)/\(false=false->∀b,fr sl=bS b->a.tmps.getD sl undef=.bool (!want)):=by
  intro x he
  rw[he] at hs
  have hu:a.tmps.getD sl undef=undef:=hs.2 rfl
  have:∀b:Bool,a.tmps[sl]?≠some (.bool b):=by
   intro b hb
   rw[vW,hb] at hu
   simp[undef] at hu
  refine ⟨?_,by simp,fun h b' hb'=>by rw[he] at hb';cases hb'⟩
  unfold yielded
  rw[hk]
  simp only[nR]
  cases h:a.tmps[sl]? with
  |none=>rfl
  |some v=>
   cases v with
   |bool b=>exact absurd h (this b)
   |_=>rfl
 unfold gv at hg
 split at hg<;>simp only[aM,reduceCtorEq] at hg
 · rename_i b he
   rw[he] at hs
   have hs':a.tmps.getD sl undef=.bool b:=hs
   unfold yielded
   rw[hk]
   simp only[nR]
   rw[key b hs']
   subst hg
   refine ⟨by cases b<;>cases want<;>rfl,fun h=>?_,fun h b' hb'=>?_⟩
   · rw[hs'];simp at h;rw[h]
   · rw[hs'];cases b<;>cases want<;>simp_all
 · rename_i g0 b he
   cases g0 with
   |true=>
    rw[he] at hs
    have hs':a.tmps.getD sl undef=.bool b:=hs.1 rfl
    unfold yielded
    rw[hk]
    simp only[nR]
    rw[key b hs'];subst hg
    refine ⟨by cases b<;>cases want<;>rfl,fun h=>?_,fun h b' hb'=>?_⟩
    · rw[hs'];simp at h;rw[h]
    · rw[he] at hb';cases hb'
   |false=>
    subst hg
    rw[Bool.false_and]
    exact hfalse _ he
 · rename_i x _ he
   subst hg
   exact hfalse _ he
theorem VW (hf:FRel N γ ro fr a) {sl:Nat} {s:S} (h:s.rel γ ro (a.tmps.getD sl undef)):FRel N γ ro (put fr (some sl) s) a:=by
 refine ⟨hf.size,fun i=>?_,hf.defers⟩
 simp only[W.put]
 split
 · rename_i hi;subst hi;exact h
 · exact hf.slot i
theorem VP (hf:FRel N γ ro fr a) {sl:Nat} {want:Bool} (h:a.tmps.getD sl undef=.bool want):FRel N γ ro (lM fr sl want) a:=VW hf h
theorem U1 (hf:FRel N γ ro fr a) {sl:Nat} {want:Bool} (h:∀b,fr sl=bS b->a.tmps.getD sl undef=.bool (!want)):FRel N γ ro (u4 fr sl want) a:=by
 unfold u4
 split
 · rename_i b he;exact VW hf (h b he)
 · exact hf
theorem rO {σ:CH} {j:J} (h:xY P nw N ops σ o=some j):mK P nw σ o.op=some j.i/\FI ops o.guard=some j.g/\j.d=o.dst/\∀k,o.dst=some k->k<N:=by
 unfold xY at h
 split at h
 · rename_i i g hi hg
   split at h
   · rename_i d hd
     split at h
     · rename_i hlt;simp only[aM] at h;subst h;exact ⟨hi,hg,rfl,fun k hk=>by rw[hd] at hk;simp only[aM] at hk;rw[<-hk];exact hlt⟩
     · cases h
   · rename_i hd
     simp only[aM] at h;subst h;exact ⟨hi,hg,rfl,fun k hk=>by rw[hd] at hk;cases hk⟩
 · cases h
theorem aIU {σ:CH} {op:Op} {i:QI} (h:mK P nw σ op=some (.q i)):RP P nw op=some i:=by
 unfold mK at h
 split at h
 · rename_i h1;simp only[aM,I.q.injEq] at h;rw[<-h];exact h1
 · repeat' (split at h)
   all_goals first|(simp at h;done)|(cases σ<;>simp at h;done)
theorem ZG {σ:CH} {op:Op} {i:LI} (h:mK P nw σ op=some (.l i)):W5 P op=some i:=by
 unfold mK at h
 split at h
 · simp at h
 · split at h
   · rename_i h1;simp only[aM,I.l.injEq] at h;rw[<-h];exact h1
   · repeat' (split at h)
     all_goals first|(simp at h;done)|(cases σ<;>simp at h;done)
theorem aAQ {σ:CH} {op:Op} {x y:O} (h:mK P nw σ op=some (.ix x y)):trX P op=some (x,y):=by
 unfold mK at h
 split at h
 · simp at h
 · split at h
   · simp at h
   · split at h
     · rename_i h1;simp only[aM,I.ix.injEq] at h;obtain ⟨rfl,rfl⟩:=h;exact h1
     · repeat' (split at h)
       all_goals first|(simp at h;done)|(cases σ<;>simp at h;done)
theorem aK0 {σ:CH} {op:Op} {i:EI} (h:mK P nw σ op=some (.e i)):∃i0,BP P op=some i0/\(i=i0\/i=i0.ext):=by
 unfold mK at h
 split at h
 · simp at h
 · split at h
   · simp at h
   · split at h
     · simp at h
     · split at h
       · rename_i i0 h1
         simp only[aM,I.e.injEq] at h
         refine ⟨i0,h1,?_⟩
         rw[<-h]
         cases σ with
         |own l=>exact .inl rfl
         |q=>exact .inr rfl
       · repeat' (split at h)
         all_goals first|(simp at h;done)|(cases σ<;>simp at h;done)
theorem aGM {σ:CH} {op:Op} {c x y:O} (h:mK P nw σ op=some (.pick c x y)):∃c' x' y',op=.pick c' x' y'/\c=aT c'/\x=aT x'/\y=aT y':=by
 unfold mK at h
 repeat' (split at h)
 all_goals first
  | (simp only[aM,I.pick.injEq] at h;exact ⟨_,_,_,rfl,h.1.symm,h.2.1.symm,h.2.2.symm⟩)
  | (simp at h;done)
  | (cases σ<;>simp at h;done)
theorem aQ9 {σ:CH} {σ':List Nat} {op:Op} {f:FuncId} {xs:List O} (h:mK P nw σ op=some (.cl f xs σ')):∃c:Call,op=.call c/\c.callee=.value (.func f)/\xs=c.args.toList.map aT:=by
 unfold mK at h
 split at h
 · simp at h
 · split at h
   · simp at h
   · split at h
     · simp at h
     · split at h
       · simp at h
       · split at h
         · simp at h
         · rename_i c _ _ _ _
           split at h
           · rename_i g hcal
             cases σ with
             |own l=>
              simp only[aM,I.cl.injEq] at h
              obtain ⟨rfl,rfl,rfl⟩:=h
              exact ⟨c,rfl,hcal,rfl⟩
             |q=>simp at h
           · cases σ<;>simp at h
           · cases h
         · cases h
theorem aTI {σ:CH} {σ':List Nat} {op:Op} {x:O} {xs:List O} (h:mK P nw σ op=some (.ca x xs σ')):∃(c:Call) (t:Nat),op=.call c/\c.callee=.value (.tmp t)/\x=.t t/\xs=c.args.toList.map aT:=by
 unfold mK at h
 split at h
 · simp at h
 · split at h
   · simp at h
   · split at h
     · simp at h
     · split at h
       · simp at h
       · split at h
         · simp at h
         · rename_i c _ _ _ _
           split at h
           · cases σ<;>simp at h
           · rename_i t hcal
             cases σ with
             |own l=>
              simp only[aM,I.ca.injEq] at h
              obtain ⟨rfl,rfl,rfl⟩:=h
              exact ⟨c,t,rfl,hcal,rfl,rfl⟩
             |q=>simp at h
           · cases h
         · cases h
theorem aXS {σ:CH} {op:Op} {f:FuncId} {xs:List O} (h:mK P nw σ op=some (.cq f xs)):∃c:Call,op=.call c/\c.callee=.value (.func f)/\xs=c.args.toList.map aT:=by
 unfold mK at h
 split at h
 · simp at h
 · split at h
   · simp at h
   · split at h
     · simp at h
     · split at h
       · simp at h
       · split at h
         · simp at h
         · rename_i c _ _ _ _
           split at h
           · rename_i g hcal
             cases σ with
             |own l=>simp at h
             |q=>
              simp only[aM,I.cq.injEq] at h
              obtain ⟨rfl,rfl⟩:=h
              exact ⟨c,rfl,hcal,rfl⟩
           · cases σ<;>simp at h
           · cases h
         · cases h
theorem gS (h:o.guard=none) (y:Nat->Option Bool):Region.wanted o y=true:=by simp[Region.wanted,h]
theorem aP8 {b:Bool} {x y:A} {u v:Value} (hx:b=true->x.rel γ ro u) (hy:b=false->y.rel γ ro v):(yZ b x y).rel γ ro (if b then u else v):=by
 cases b with
 |true=>
  have:=hx rfl
  unfold yZ
  split
  · exact this
  · exact this
 |false=>
  have:=hy rfl
  unfold yZ
  split
  · exact this
  · exact this
def QJ (P:Program) (N:Nat) (o:Oper) (a:Act) (E:Es) (ro:RO) (X:Ctx) (K:Fr->Hp->Prop):Prop:=
 ∃fr',K fr' (hp E)/\∃v,FRel N (gm E) ro fr' (a.put o.dst v)/\∀w,Rel X E ro w->(execOp a.eval o).run P w=.ok (.value v) w
theorem QOk.qj {s:S} (h:QOk P o E ro a s) (hf:FRel N (gm E) ro fr a) (hN:∀k,o.dst=some k->k<N) {K:Fr->Hp->Prop} (hK:K (put fr o.dst s) (hp E)):QJ P N o a E ro X K:=by
 obtain ⟨v,h1,h2⟩:=h
 exact ⟨_,hK,v,hf.put hN h1,fun w hr=>h2 X w hr⟩
theorem qj0 (hf:FRel N (gm E) ro fr a) (hr0:Rel X E ro w) {σ:CH} {i:I} (hi:mK P nw σ o.op=some i) (hN:∀k,o.dst=some k->k<N) (hq:(J.mk o.dst none i).quiet=true) {K:Fr->Hp->Prop} (hv:nV Γ fr (hp E) K o.dst i):QJ P N o a E ro X K:=by
 cases i with
 |q q=>
  simp only[nV] at hv
  split at hv
  · rename_i s hs
    obtain ⟨h1,h2,hK⟩:=hv
    obtain ⟨e1,e2⟩:=D3 (H:=hp E) (i:=q) (fr:=fst fr) (fr2:=W.res fr) (eW h1)
    rw[e1] at hs
    rw[e2] at h2
    exact (VC hf.res hr0 (aIU hi) hs h2).qj hf hN hK
  · exact hv.elim
 |ix x y=>
  simp only[nV] at hv
  split at hv
  · rename_i s k n hx hy
    obtain ⟨⟨hg,h0,h1⟩,hK⟩:=hv
    have hfr:=eW hg
    have hx':ev (W.res fr) x=tS s:=by rw[<-bD (fr:=fst fr) (fun j hj=>hfr j (by simp[hj]))];exact hx
    have hy':ev (W.res fr) y=iS k n:=by rw[<-bD (fr:=fst fr) (fun j hj=>hfr j (by simp[hj]))];exact hy
    obtain ⟨c,hc,hq⟩:=U9 hf.res (aAQ hi) hx' hy' ⟨h0,h1⟩
    exact hq.qj hf hN (hK c hc)
  · exact hv.elim
 |l i=>
  obtain ⟨hg,hv⟩:=hv
  rw[uJ (eW hg)] at hv
  obtain ⟨s,hK,hq⟩:=EX hf.res hr0 (ZG hi) hv
  exact hq.qj hf hN hK
 |pick c x y=>
  simp only[nV] at hv
  split at hv
  · rename_i b ax ay hc hx hy
    obtain ⟨hgc,hgx,hgy,hK⟩:=hv
    obtain ⟨c',x',y',ho,rfl,rfl,rfl⟩:=aGM hi
    have hc2:a.eval c'=.bool b:=by
     have:=bC hf.res c'
     rw[<-bD (fr:=fst fr) (eW hgc),hc] at this
     exact this
    have hq:QOk P o E ro a (.va (yZ b ax ay)):=by
     refine ⟨if b then a.eval x' else a.eval y',aP8 (fun hb=>?_) (fun hb=>?_),fun X w _=>by simp[execOp,ho,hc2,asBool]⟩
     · have:=bC hf.res x'
       rw[<-bD (fr:=fst fr) (eW (hgx hb)),hx] at this
       exact this
     · have:=bC hf.res y'
       rw[<-bD (fr:=fst fr) (eW (hgy hb)),hy] at this
       exact this
    exact hq.qj hf hN hK
  · exact hv.elim
 |e i=>simp[J.quiet] at hq
 |cl f xs σ=>simp[J.quiet] at hq
 |ca f xs σ=>simp[J.quiet] at hq
 |cq f xs=>simp[J.quiet] at hq
theorem DK {g:Bool} {s:S} {v:Value} (h:g=true->s.rel γ ro v) (h2:g=false->v=undef):(s.cnd g).rel γ ro v:=by
 cases s with
 |va y=>exact ⟨h,h2⟩
 |_=>trivial
theorem WQ:dum.rel γ ro undef:=⟨fun h=>(by cases h),fun _=>rfl⟩
theorem u3 (hf:FRel N (gm E) ro fr a) (hr0:Rel X E ro w) {σ:CH} {j:J} (hj:xY P nw N ops σ o=some j) (hq:j.quiet=true) {K:Fr->Hp->Prop} (hv:vJ Γ fr (hp E) K j) :
 if Region.wanted o (yielded ops a.tmps)=true then QJ P N o a E ro X K else ∃fr',K fr' (hp E)/\FRel N (gm E) ro fr' (a.put o.dst undef):=by
 obtain ⟨hi,hg,hd,hN⟩:=rO hj
 obtain ⟨d,jg,i⟩:=j
 simp only at hi hg hd
 subst hd
 unfold vJ at hv
 cases hgd:o.guard with
 |none=>
  rw[hgd] at hg
  simp only[FI,aM] at hg
  subst hg
  simp only at hv
  rw[if_pos (gS hgd _)]
  exact qj0 hf hr0 hi hN hq hv
 |some gw=>
  obtain ⟨k,want⟩:=gw
  rw[hgd] at hg
  simp only[FI] at hg
  split at hg
  · rename_i sl hsl
    simp only[aM] at hg
    subst hg
    simp only at hv
    split at hv
    · exact hv.elim
    · rename_i g hgv
      obtain ⟨hwant,hgt,hgf⟩:=K5 hf hgv hsl
      have hw:Region.wanted o (yielded ops a.tmps)=g:=by simp only[Region.wanted,hgd];exact hwant
      rw[hw]
      have dm:∀{fr2:Fr},FRel N (gm E) ro fr2 a->K (put fr2 o.dst dum) (hp E)->∃fr',K fr' (hp E)/\FRel N (gm E) ro fr' (a.put o.dst undef):=fun h hK=>⟨_,hK,h.put hN WQ⟩
      cases i with
      |q q=>
       simp only[l8] at hv
       split at hv
       · rename_i s hs
         obtain ⟨h1,hK⟩:=hv
         cases g with
         |true=>
          rw[if_pos rfl]
          obtain ⟨hg1,h2⟩:=h1 rfl
          obtain ⟨e1,e2⟩:=D3 (H:=hp E) (i:=q) (fr:=fst fr) (fr2:=W.res fr) (eW hg1)
          rw[e1] at hs
          rw[e2] at h2
          obtain ⟨v,k1,k2⟩:=VC hf.res hr0 (aIU hi) hs h2
          exact ⟨_,hK,v,hf.put hN (DK (fun _=>k1) (fun h=>by cases h)),fun w hr=>k2 X w hr⟩
         |false=>
          rw[if_neg (by simp)]
          exact ⟨_,hK,hf.put hN (DK (fun h=>by cases h) (fun _=>rfl))⟩
       · obtain ⟨rfl,hK⟩:=hv
         rw[if_neg (by simp)]
         exact dm hf hK
      |ix x y=>
       simp only[l8] at hv
       split at hv
       · rename_i s k n hx hy
         obtain ⟨h1,hK⟩:=hv
         cases g with
         |true=>
          rw[if_pos rfl]
          obtain ⟨hg1,h2,h3⟩:=h1 rfl
          have hfr:=eW hg1
          have hx':ev (W.res fr) x=tS s:=by rw[<-bD (fr:=fst fr) (fun j hj=>hfr j (by simp[hj]))];exact hx
          have hy':ev (W.res fr) y=iS k n:=by rw[<-bD (fr:=fst fr) (fun j hj=>hfr j (by simp[hj]))];exact hy
          obtain ⟨c,hc,v,k1,k2⟩:=U9 hf.res (aAQ hi) hx' hy' ⟨h2,h3⟩
          exact ⟨_,hK c fun _=>hc,v,hf.put hN ⟨fun _=>k1,fun h=>by cases h⟩,fun w hr=>k2 X w hr⟩
         |false=>
          rw[if_neg (by simp)]
          exact ⟨_,hK 0 (fun h=>by cases h),hf.put hN (s:=.cn false _) ⟨fun h=>(by cases h),fun _=>rfl⟩⟩
       · obtain ⟨rfl,hK⟩:=hv
         rw[if_neg (by simp)]
         exact dm hf hK
      |l i=>
       simp only[l8] at hv
       split at hv
       · rename_i s hs
         obtain ⟨h1,hK⟩:=hv
         cases g with
         |true=>
          rw[if_pos rfl]
          have h3:=aZH hs
          rw[uJ (eW (h1 rfl))] at h3
          obtain ⟨s',rfl,v,k1,k2⟩:=EX hf.res hr0 (ZG hi) h3
          exact ⟨_,hK,v,hf.put hN (DK (fun _=>k1) (fun h=>by cases h)),fun w hr=>k2 X w hr⟩
         |false=>
          rw[if_neg (by simp)]
          exact ⟨_,hK,hf.put hN (DK (fun h=>by cases h) (fun _=>rfl))⟩
       obtain ⟨h1,h2⟩:=hv
       cases g with
       |true=>
        rw[if_pos rfl]
        obtain ⟨hg1,h3⟩:=h1 rfl
        have hf2:=VP hf (hgt rfl)
        rw[uJ (eW hg1)] at h3
        obtain ⟨s,hK,hq⟩:=EX hf2.res hr0 (ZG hi) h3
        exact hq.qj hf2 hN hK
       |false=>
        rw[if_neg (by simp)]
        exact dm (U1 hf (hgf rfl)) (h2 rfl)
      |pick c x y=>
       simp only[l8] at hv
       split at hv
       · rename_i b ax ay hc hx hy
         obtain ⟨h1,hK⟩:=hv
         cases g with
         |true=>
          rw[if_pos rfl]
          obtain ⟨hgc,hgx,hgy⟩:=h1 rfl
          have h0:nV Γ fr (hp E) (fun fr' H=>∃s,fr'=put fr o.dst s/\s=.va (yZ b ax ay)/\True) o.dst (.pick c x y):=by
           simp only[nV,hc,hx,hy]
           exact ⟨hgc,hgx,hgy,_,rfl,rfl,trivial⟩
          obtain ⟨fr',⟨s,rfl,rfl,_⟩,v,k1,k2⟩:=qj0 hf hr0 hi hN rfl h0
          refine ⟨_,hK,v,⟨k1.size,fun i=>?_,k1.defers⟩,k2⟩
          have:=k1.slot i
          cases hd:o.dst with
          |none=>rw[hd] at this;simpa[W.put] using this
          |some d=>
           rw[hd] at this
           simp only[W.put] at this ⊢
           split
           · rename_i he;rw[if_pos he] at this;exact ⟨fun _=>this,fun h=>by cases h⟩
           · rename_i he;rw[if_neg he] at this;exact this
         |false=>
          rw[if_neg (by simp)]
          exact ⟨_,hK,hf.put hN ⟨fun h=>(by cases h),fun _=>rfl⟩⟩
       · obtain ⟨rfl,hK⟩:=hv
         rw[if_neg (by simp)]
         exact dm hf hK
      |e i=>simp[J.quiet] at hq
      |cl f xs σ=>simp[J.quiet] at hq
      |ca f xs σ=>simp[J.quiet] at hq
      |cq f xs=>simp[J.quiet] at hq
  · cases hg
end
def fY:List Nat->Es->Es->Es
 |[],E,E'=>E++E'
 |n::σ,E,E'=>fY σ (E.set n (E'.headD (g00,.dead))) E'.tail
theorem G5:∀(σ:List Nat) (E E':Es),hp (fY σ E E')=vN σ (hp E) (hp E')
 |[],E,E'=>by simp[fY,vN,hp]
 |n::σ,E,E'=>by
  simp only[fY,vN]
  rw[G5 σ]
  congr 1
  · cases E'<;>simp[hp,List.map_set]
  · cases E'<;>simp[hp]
theorem BA:∀(σ:List Nat) (E E':Es) {n:Nat},n ∉ σ->n<E.length->(fY σ E E')[n]? = E[n]?
 |[],E,E',n,h,hl=>by simp only[fY];rw[lY hl]
 |k::σ,E,E',n,h,hl=>by
  simp only[bU,not_or] at h
  simp only[fY]
  rw[BA σ _ _ h.2 (by rw[lE];exact hl),mP,if_neg (fun e=>h.1 e.symm)]
theorem JE:∀(σ:List Nat) (E E':Es),σ.Nodup->(∀n∈σ,n<E.length)->σ.length<=E'.length->∀(j:Nat) (e:Gb×B),E'[j]? = some e->∃n,back σ E.length j=some n/\(fY σ E E')[n]? = some e
 |[],E,E',_,_,_,j,e,hj=>⟨E.length+j,by simp[back],by simp only[fY];rw[List.getElem?_append_right (by omega)];simpa using hj⟩
 |k::σ,E,[],_,_,hl,j,e,hj=>by simp at hl
 |k::σ,E,e0::E',hd,hlt,hl,j,e,hj=>by
  simp only[T3] at hd
  simp only[fY,y9,aYS]
  cases j with
  |zero=>
   simp only[oS,aM] at hj
   subst hj
   have hk:=hlt k (by simp)
   exact ⟨k,by simp[back],by rw[BA σ _ _ hd.1 (by rw[lE];exact hk),mP,if_pos rfl,if_pos hk]⟩
  |succ j=>
   obtain ⟨n,h1,h2⟩:=JE σ (E.set k e0) E' hd.2 (fun n hn=>by rw[lE];exact hlt n (by simp[hn])) (by simpa using hl) j e (by simpa using hj)
   refine ⟨n,?_,h2⟩
   rw[lE] at h1
   rw[<-h1]
   simp[back]
theorem H4:∀(σ:List Nat) (E E':Es) (n:Nat) (e:Gb×B),(fY σ E E')[n]? = some e->
 (n ∉ σ/\n<E.length/\E[n]? = some e)\/(∃j,E'[j]? = some e/\some n=back σ E.length j)\/e=(g00,.dead)
 |[],H,H',n,e,h=>by
  simp only[fY,uC] at h
  split at h
  · exact .inl ⟨by simp,by assumption,h⟩
  · exact .inr (.inl ⟨_,h,by simp[back];omega⟩)
 |k::σ,H,H',n,e,h=>by
  simp only[fY] at h
  have ih:=H4 σ _ _ n e h
  rw[lE] at ih
  rcases ih with ⟨h1,h2,h3⟩|⟨j,h1,h2⟩|h1
  · rw[mP] at h3
    split at h3
    · rename_i hk
      subst hk
      have h4:H'.headD (g00,.dead)=e:=by
       have h3':some (H'.headD (g00,.dead))=some e:=by simpa[h2] using h3
       exact dV h3'
      cases H' with
      |nil=>exact .inr (.inr h4.symm)
      |cons y r=>exact .inr (.inl ⟨0,by simpa using h4,rfl⟩)
    · rename_i hk
      exact .inl ⟨by simp;exact ⟨fun e=>hk e.symm,h1⟩,h2,h3⟩
  · refine .inr (.inl ⟨j+1,?_,?_⟩)
    · cases H' with
      |nil=>simp at h1
      |cons y r=>simpa using h1
    · rw[h2];simp[back]
  · exact .inr (.inr h1)
section
variable {P:Program} {o:Oper} {N:Nat} {fr:Fr} {a:Act} {E:Es} {γ:List Gb} {ro:RO} {X:Ctx} {w:World} {nw:Bool} {Γ:eX} {ops:Array Oper}
theorem Rel.here (h:Rel X E ro w):Rel ⟨w,fL E,ro,gm E⟩ E ro w:=
 ⟨h.own,h.inj,h.apart,h.rd,Ext.refl _,fun _ _ _ h=>.inl h,fun n b g blk hn en hl=>.inr (iK.2 ⟨n,g,blk,hn,en,hl⟩),GExt.refl _,bE _,fun _ _ _=>rfl,rfl,rfl,rfl⟩
theorem Rel.back (h:Rel X E ro w) {σ:List Nat} (hnd:σ.Nodup) (hlt:∀n∈σ,n<E.length) {El E':Es} (hEl:El=cX (B.ren (gN σ)) (fC E σ)) {ro':RO} {w':World}
 (k:Rel ⟨w,fL El,ro,gm El⟩ E' ro' w'):Rel X (fY σ E (cX (B.ren (W.back σ E.length)) E')) ro' w'/\GExt (gm E) (gm (fY σ E (cX (B.ren (W.back σ E.length)) E')))/\
   ∀(n m:Nat) (g:Gb),W.back σ E.length n=some m->(gm E')[n]? = some g->(gm (fY σ E (cX (B.ren (W.back σ E.length)) E')))[m]? = some g:=by
 have hEll:El.length=σ.length:=by rw[hEl];simp[cX,fC]
 have hel:∀(j n:Nat),σ[j]? = some n->∃g blk,E[n]? = some (g,blk)/\El[j]? = some (g,blk.ren (gN σ)):=by
  intro j n hj
  have hn:=hlt n (cC hj)
  refine ⟨(E[n]).1,(E[n]).2,by rw[aX hn],?_⟩
  rw[hEl]
  simp[cX,fC,hj,aX hn]
 have hbl:∀b,b∈fL El->∃(n:Nat) (g:Gb) (blk:B),n∈σ/\E[n]? = some (g,blk)/\g.ob=some b/\B.live blk=true:=by
  intro b hb
  obtain ⟨j,g,blk,hj,hgb,hl⟩:=iK.1 hb
  have hjl:j<σ.length:=by rw[<-hEll];exact (bT.1 hj).1
  obtain ⟨g',blk',h1,h2⟩:=hel j _ (aX hjl)
  rw[h2] at hj
  simp only[aM,Prod.mk.injEq] at hj
  obtain ⟨rfl,rfl⟩:=hj
  exact ⟨_,_,blk',List.getElem_mem hjl,h1,hgb,by rw[B.live_ren] at hl;exact hl⟩
 have hlen':σ.length<=E'.length:=by
  rcases bB E'.length σ.length with hc|hc
  · have hg:=(hel _ _ (aX hc))
    obtain ⟨g,blk,_,h2⟩:=hg
    obtain ⟨g',h3,_⟩:=k.gx _ g (dU h2)
    have:=(bT.1 h3).1
    rw[aT4] at this
    omega
  · exact hc
 have hlenb:σ.length<=(cX (B.ren (W.back σ E.length)) E').length:=by simpa[cX] using hlen'
 have fwd:∀(n m:Nat) (g:Gb),W.back σ E.length n=some m->(gm E')[n]? = some g->(gm (fY σ E (cX (B.ren (W.back σ E.length)) E')))[m]? = some g:=by
  intro n m g h1 h2
  obtain ⟨blk,h3⟩:=yS h2
  obtain ⟨n',h4,h5⟩:=JE σ E (cX (B.ren (W.back σ E.length)) E') hnd hlt hlenb n (g,blk.ren (W.back σ E.length)) (by simp[cX,h3])
  rw[h1] at h4
  simp only[aM] at h4
  subst h4
  exact dU h5
 have gx2:GExt (gm E) (gm (fY σ E (cX (B.ren (W.back σ E.length)) E'))):=by
  intro n g hn
  obtain ⟨blk,hE⟩:=yS hn
  by_cases hs:n∈σ
  · obtain ⟨j,hj⟩:=eN.1 hs
    obtain ⟨g1,b1,h1,h2⟩:=hel j n hj
    rw[hE] at h1
    simp only[aM,Prod.mk.injEq] at h1
    obtain ⟨rfl,rfl⟩:=h1
    obtain ⟨g',h3,h4⟩:=k.gx j g (dU h2)
    exact ⟨g',fwd j n g' (by simp[W.back,hj]) h3,h4⟩
  · exact ⟨g,by simp only[gm,b9];rw[BA σ _ _ hs (bT.1 hE).1,hE];rfl,g.le_refl⟩
 have hlb:∀(n b:Nat) (g:Gb) (blk:B),n∈σ->E[n]? = some (g,blk)->g.ob=some b->B.live blk=true->b∈fL El:=by
  intro n b g blk hn hE hb hl
  obtain ⟨j,hj⟩:=eN.1 hn
  obtain ⟨g1,b1,h1,h2⟩:=hel j n hj
  rw[hE] at h1
  simp only[aM,Prod.mk.injEq] at h1
  obtain ⟨rfl,rfl⟩:=h1
  exact iK.2 ⟨j,g,_,h2,hb,by rw[B.live_ren];exact hl⟩
 have hold:∀(n b:Nat) (g:Gb) (blk:B),n ∉ σ->E[n]? = some (g,blk)->g.ob=some b->B.live blk=true->b<w.heap.size/\b ∉ fL El:=by
  intro n b g blk hn hE hgb hl
  refine ⟨(h.own n _ blk hE).lt hl hgb,fun hb=>?_⟩
  obtain ⟨m,gm',bk,hm,hEm,hgm,hlm⟩:=hbl b hb
  have:=h.inj n m g gm' blk bk b hE hEm hgb hgm hl hlm
  subst this
  exact hn hm
 have hget:∀(n:Nat) (g:Gb) (blk:B),(fY σ E (cX (B.ren (W.back σ E.length)) E'))[n]? = some (g,blk)->blk.live=true->
  (n ∉ σ/\E[n]? = some (g,blk))\/(∃(j:Nat) (bk:B),E'[j]? = some (g,bk)/\bk.live=true/\blk=bk.ren (W.back σ E.length)/\some n=W.back σ E.length j):=by
  intro n g blk hn hl
  rcases H4 _ _ _ _ _ hn with ⟨h1,_,h2⟩|⟨j,h1,h2⟩|h1
  · exact .inl ⟨h1,h2⟩
  · simp only[cX,b9] at h1
    cases hj:E'[j]? with
    |none=>rw[hj] at h1;cases h1
    |some y=>
     rw[hj] at h1
     simp only[cQ,aM,Prod.mk.injEq] at h1
     obtain ⟨h1a,h1b⟩:=h1
     subst h1b
     exact .inr ⟨j,y.2,by rw[hj,<-h1a],by rw[B.live_ren] at hl;exact hl,rfl,h2⟩
  · simp only[Prod.mk.injEq] at h1;rw[h1.2] at hl;cases hl
 have hext:Ext ro ro':=k.ro0
 refine ⟨⟨fun n g blk hn=>?_,fun n m gn gm' bn bm b hn hm en em ln lm=>?_,fun b off c hc n g blk hn en=>?_,k.rd,h.ro0.trans hext,fun b off c hc=>?_,fun n b g blk hn en hl=>?_,h.gx.trans gx2,dM h.sz k.sz,fun b hb hp=>?_,k.os.trans h.os,k.tape.trans h.tape,k.output.trans h.output⟩,gx2,fwd⟩
 · by_cases hl:blk.live=true
   · rcases hget n g blk hn hl with ⟨h1,h2⟩|⟨j,bk,h1,h2,rfl,h4⟩
     · refine (h.own n g blk h2).same gx2 hext fun b hb=>?_
       obtain ⟨h3,h4⟩:=hold n b g blk h1 h2 hb hl
       exact k.keep b h3 h4
     · exact B.On_ren fwd (k.own j g bk h1)
   · cases blk<;>simp[B.live] at hl;trivial
 · rcases hget n _ bn hn ln with ⟨h1,h2⟩|⟨j,bk,h1,h2,h3,h4⟩<;>rcases hget m _ bm hm lm with ⟨k1,k2⟩|⟨j',bk',k1,k2,k3,k4⟩
   · exact h.inj n m gn gm' bn bm b h2 k2 en em ln lm
   · obtain ⟨q1,q2⟩:=hold n b gn bn h1 h2 en ln
     rcases k.par j' b gm' bk' k1 em k2 with q|q
     · simp only at q;omega
     · exact absurd q q2
   · obtain ⟨q1,q2⟩:=hold m b gm' bm k1 k2 em lm
     rcases k.par j b gn bk h1 en h2 with q|q
     · simp only at q;omega
     · exact absurd q q2
   · have:=k.inj j j' gn gm' bk bk' b h1 k1 en em h2 k2
     subst this
     rw[<-k4] at h4
     exact dV h4
 · by_cases hl:blk.live=true
   · rcases hget n _ blk hn hl with ⟨h1,h2⟩|⟨j,bk,h1,h2,h3,h4⟩
     · obtain ⟨q1,q2⟩:=hold n b g blk h1 h2 en hl
       rcases k.rob b off c hc with q|q|q
       · have:=h.apart b off c q n g blk h2 en;rw[hl] at this;cases this
       · simp only at q;omega
       · exact absurd q q2
     · have:=k.apart b off c hc j g bk h1 en;rw[h2] at this;cases this
   · simpa using hl
 · rcases k.rob b off c hc with q|q|q
   · exact h.rob b off c q
   · simp only at q;have:=h.sz;exact .inr (.inl (by omega))
   · obtain ⟨n,g,blk,hn,hE,hgb,hl⟩:=hbl b q
     exact .inr (h.par n b g blk hE hgb hl)
 · rcases hget n _ blk hn hl with ⟨h1,h2⟩|⟨j,bk,h1,h2,h3,h4⟩
   · exact h.par n b g blk h2 en hl
   · rcases k.par j b g bk h1 en h2 with q|q
     · simp only at q;have:=h.sz;exact .inl (by omega)
     · obtain ⟨n',g',blk',hn',hE,hgb,hl'⟩:=hbl b q
       exact h.par n' b g' blk' hE hgb hl'
 · rw[k.keep b (by have:=h.sz;simp only;omega) (fun hb'=>?_)]
   · exact h.keep b hb hp
   · obtain ⟨n,g,blk,hn,hE,hgb,hl⟩:=hbl b hb'
     rcases h.par n b g blk hE hgb hl with q|q
     · omega
     · exact hp q
theorem wH {f:FuncId} (he:yP P f=true) (args:Array Value) (w:World):(callFunc f args).run P w=.ok (.enter f args) w:=by
 unfold yP at he
 cases hf:P.funcs[f]? with
 |none=>simp[hf] at he
 |some fn=>
  simp only[hf,bI,oR] at he
  cases hb:fn.body with
  |none=>simp[hb] at he
  |some c=>
   have hn:=he.2
   simp only[callFunc,Sem.run_bind,run_program,Result.andThen_ok,hf,hn,hb]
   simp
theorem CQ (hr:Rel X E ro w) (hm:MeetsIn P X Γ) {f:FuncId} {az:List S} {vs:List Value} (hl:az.length=vs.length) (hrel:∀(i:Nat) (x:S) (v:Value),az[i]? = some x->vs[i]? = some v->x.rel (gm E) ro v)
 (hrun:yP P f=true->(execOp a.eval o).run P w=.ok (.enter f vs.toArray) w) {σ:List Nat} {R:S->Hp->Prop} (hv:IE Γ (hp E) f az σ R):gI P o a w X E ro R:=by
 intro next Q hK
 obtain ⟨⟨hnd,hlt⟩,hsp⟩:=hv
 obtain ⟨s,hmem,hs⟩:=aCW hsp
 rw[fX] at hlt
 have gxl:∀(n m:Nat) (g:Gb),gN σ n=some m->(gm E)[n]? = some g->(gm (cX (B.ren (gN σ)) (fC E σ)))[m]? = some g:=fun n m g h1 h2=>by rw[jB];exact C5 n m g h1 h2
 have hloc:Rel ⟨w,fL (cX (B.ren (gN σ)) (fC E σ)),ro,gm (cX (B.ren (gN σ)) (fC E σ))⟩ (cX (B.ren (gN σ)) (fC E σ)) ro w:=by
  have h0:Rel ⟨w,fL E,ro,[]⟩ E ro w:=⟨hr.own,hr.inj,hr.apart,hr.rd,Ext.refl _,fun _ _ _ h=>.inl h,fun n b g blk hn en hl=>.inr (iK.2 ⟨n,g,blk,hn,en,hl⟩),fun n g hn=>by simp at hn,bE _,fun _ _ _=>rfl,rfl,rfl,rfl⟩
  exact (h0.sel hnd hlt (fun n g hn=>by simp at hn)).here
 obtain ⟨hent,hmeets⟩:=(hm.m f s hmem).1
 have hcall:=hmeets (az.map fun s=>s.nf.ren (gN σ)) vs (cX (B.ren (gN σ)) (fC E σ)) ro w _ (by simpa using hl) (fun i x v hx hv=>by
  rw[b9] at hx
  cases hi:az[i]? with
  |none=>rw[hi] at hx;cases hx
  |some y=>
   rw[hi] at hx
   simp only[cQ,aM] at hx
   subst hx
   exact S.rel_ren gxl (S.rel_nf (hrel i y v hi hv))) hloc (by rw[lI,E0];exact hs) (hm.at hr)
 unfold Oper.wp
 rw[hrun hent,Oper.upon_enter]
 refine hcall.mono ?_
 rintro e w' ⟨r,v,E',ro',rfl,hrv,hR,hrel'⟩
 obtain ⟨q1,q2,q3⟩:=hr.back hnd hlt rfl hrel'
 refine hK _ v _ ro' w' ?_ (S.rel_ren q3 hrv) q2 hrel'.ro0 q1
 rw[G5,lI]
 rw[fX] at hR
 exact hR
theorem VI:∀{xs:List O},cZ fr (O.sls xs)->∀x∈xs,cZ fr x.sl
 |[],_,x,hx=>by simp at hx
 |y::r,h,x,hx=>by
  simp only[O.sls] at h
  have hsplit:∀{l1 l2:List Nat},cZ fr (l1++l2)->cZ fr l1/\cZ fr l2:=by
   intro l1
   induction l1 with
   |nil=>intro l2 h;exact ⟨trivial,h⟩
   |cons i r ih=>intro l2 h;exact ⟨⟨h.1,(ih h.2).1⟩,(ih h.2).2⟩
  rcases bU.1 hx with rfl|hx
  · exact (hsplit h).1
  · exact VI (hsplit h).2 x hx
theorem VZ:∀{l1 l2:List Nat},cZ fr (l1++l2)->cZ fr l1/\cZ fr l2
 |[],l2,h=>⟨trivial,h⟩
 |i::r,l2,h=>by obtain ⟨h1,h2⟩:=VZ (l1:=r) h.2;exact ⟨⟨h.1,h1⟩,h2⟩
theorem EA (hf:FRel N γ ro fr a) {xs:List Operand} (hg:cZ fr (O.sls (xs.map aT))):∀(i:Nat) (x:S) (v:Value),((xs.map aT).map fun o=>ev (fst fr) o)[i]? = some x->(xs.map a.eval)[i]? = some v->x.rel γ ro v:=by
 intro i x v hx hv
 rw[fK,b9] at hx
 rw[b9] at hv
 cases hi:xs[i]? with
 |none=>rw[hi] at hx;cases hx
 |some y=>
  rw[hi] at hx hv
  simp only[cQ,Function.comp,aM] at hx hv
  subst hx;subst hv
  have hgy:=VI hg (aT y) (dO.2 ⟨y,cC hi,rfl⟩)
  rw[bD (eW hgy)]
  exact bC hf.res y
theorem aGW (hf:FRel N (gm E) ro fr a) (hr:Rel X E ro w) (hm:MeetsIn P X Γ) {f:FuncId} {c:Call} (ho:o.op=.call c) (hc:c.callee=.value (.func f)) {σ:List Nat} {R:S->Hp->Prop}
 (hv:vI Γ fr (hp E) R (.cl f (c.args.toList.map aT) σ)):gI P o a w X E ro R:=by
 obtain ⟨hg,hv⟩:=hv
 refine CQ (vs:=c.args.toList.map a.eval) hr hm (by simp) (EA hf hg) (fun hent=>?_) hv
 have he':=wH hent (c.args.map a.eval) w
 have harr:c.args.map a.eval=(c.args.toList.map a.eval).toArray:=by rw[<-DF,eL]
 rw[harr] at he'
 simp[execOp,ho,resolve,hc,Act.eval,Deferred.ofValue,invoke,harr,he']
theorem aFF {γ:List Gb} {ro:RO} {x:Bool×List C} {v:Value} (h:CU γ ro x v):(XJ x).rel γ ro v:=by
 obtain ⟨b,cs⟩:=x
 cases b with
 |false=>
  match cs,h with
  |[c],h=>exact C.rel_of0 h
 |true=>
  obtain ⟨vs,h1,h2⟩:=h
  exact ⟨vs,h1,h2.imp fun _ _=>C.rel_of0⟩
theorem aG4 (hf:FRel N (gm E) ro fr a) (hr:Rel X E ro w) (hm:MeetsIn P X Γ) {t:Nat} {c:Call} (ho:o.op=.call c) (hc:c.callee=.value (.tmp t)) {σ:List Nat} {R:S->Hp->Prop}
 (hv:vI Γ fr (hp E) R (.ca (.t t) (c.args.toList.map aT) σ)):gI P o a w X E ro R:=by
 obtain ⟨hg,hv⟩:=hv
 obtain ⟨hg1,hg2⟩:=VZ hg
 split at hv
 · rename_i f ns hx
   have h1:(C.fn f ns).rel (gm E) ro (a.eval (.tmp t)):=by
    have:=bC hf.res (.tmp t)
    simp only[aT] at this
    rw[<-bD (fr:=fst fr) (eW hg1),hx] at this
    exact this
   obtain ⟨bs,h2,h3⟩:=h1
   refine CQ (vs:=c.args.toList.map a.eval++bs) hr hm (by simp[h3.1]) (fun i x v hxx hvv=>?_) (fun hent=>?_) hv
   · rw[uC] at hxx hvv
     simp only[cE] at hxx hvv
     split at hxx
     · rename_i hlt
       rw[if_pos hlt] at hvv
       exact EA hf hg2 i x v hxx hvv
     · rename_i hlt
       rw[if_neg hlt] at hvv
       rw[b9] at hxx
       cases hn:ns[i-c.args.toList.length]? with
       |none=>rw[hn] at hxx;cases hxx
       |some n=>
        rw[hn] at hxx
        simp only[cQ,aM] at hxx
        subst hxx
        exact aFF (h3.2 _ n v hn hvv)
   · have harr:c.args.map a.eval++bs.toArray=(c.args.toList.map a.eval++bs).toArray:=by
      apply Array.ext';simp
     have he':=wH hent (c.args.map a.eval++bs.toArray) w
     simp only[Act.eval] at h2
     rw[<-harr]
     simp[execOp,ho,resolve,hc,Act.eval,h2,Deferred.ofValue,invoke] at he' ⊢
     exact he'
 · rename_i f fs hx
   have h1:(C.fm f fs).rel (gm E) ro (a.eval (.tmp t)):=by
    have:=bC hf.res (.tmp t)
    simp only[aT] at this
    rw[<-bD (fr:=fst fr) (eW hg1),hx] at this
    exact this
   obtain ⟨bs,h2,h3⟩:=h1
   refine CQ (vs:=bs++c.args.toList.map a.eval) hr hm (by simp[h3.1]) (fun i x v hxx hvv=>?_) (fun hent=>?_) hv
   · rw[uC] at hxx hvv
     simp only[cE,<-h3.1] at hxx hvv
     split at hxx
     · rename_i hlt
       rw[if_pos hlt] at hvv
       rw[b9] at hxx
       cases hn:fs[i]? with
       |none=>rw[hn] at hxx;cases hxx
       |some n=>
        rw[hn] at hxx
        simp only[cQ,aM] at hxx
        subst hxx
        obtain ⟨us,k1,k2⟩:=h3.2 _ n v hn hvv
        exact ⟨us,k1,k2.imp fun _ _=>C.rel_fv⟩
     · rename_i hlt
       rw[if_neg hlt] at hvv
       exact EA hf hg2 _ x v hxx hvv
   · have harr:bs.toArray++c.args.map a.eval=(bs++c.args.toList.map a.eval).toArray:=by
      apply Array.ext';simp
     have he':=wH hent (bs.toArray++c.args.map a.eval) w
     simp only[Act.eval] at h2
     rw[<-harr]
     simp[execOp,ho,resolve,hc,Act.eval,h2,Deferred.ofValue,invoke] at he' ⊢
     exact he'
 · exact hv.elim
end
section
variable {P:Program} {o:Oper} {N:Nat} {fr:Fr} {a:Act} {E:Es} {ro:RO} {X:Ctx} {w:World} {R:S->Hp->Prop}
theorem Rel.more (h:Rel X E ro w) {b:Nat} {vs:List Value} (hb:X.w0.heap.size<=b\/b∈X.pb) (hn:∀(n:Nat) (g:Gb) (blk:B),E[n]? = some (g,blk)->g.ob=some b->blk.live=false)
 (hcell:∀off v,vs[off]? = some v->w.cell? ⟨b,off,none⟩=some v) (hro:∀off v,ro b off=some v->vs[off]? = some v) :
 ∃ro',Ext ro ro'/\(∀off v,vs[off]? = some v->ro' b off=some v)/\Rel X E ro' w:=by
 let ro':RO:=fun b' off=>if b'=b then vs[off]? else ro b' off
 have hext:Ext ro ro':=by
  intro b' off c hc
  simp only[ro']
  by_cases e:b'=b
  · subst e;rw[if_pos rfl];exact hro off c hc
  · rw[if_neg e];exact hc
 refine ⟨ro',hext,fun off v hv=>by simp only[ro',if_true];exact hv,⟨fun n g blk hn'=>?_,h.inj,fun b' off c hc n g blk hn' e=>?_,fun b' off c hc=>?_,h.ro0.trans hext,fun b' off c hc=>?_,h.par,h.gx,h.sz,h.keep,h.os,h.tape,h.output⟩⟩
 · exact (h.own n g blk hn').same (GExt.refl _) hext fun _ _=>rfl
 · simp only[ro'] at hc
   split at hc
   · rename_i e2;subst e2;exact hn n g blk hn' e
   · exact h.apart b' off c hc n g blk hn' e
 · simp only[ro'] at hc
   split at hc
   · rename_i e2;subst e2;exact hcell off c hc
   · exact h.rd b' off c hc
 · simp only[ro'] at hc
   split at hc
   · rename_i e2;subst e2;exact .inr hb
   · exact h.rob b' off c hc
theorem Rel.move (h:Rel X E ro w) {w':World} {ob:Option Nat} (hsz:w.heap.size<=w'.heap.size) (h1:w'.os=w.os) (h2:w'.tape=w.tape) (h3:w'.output=w.output)
 (hk:∀k,k<w.heap.size->some k≠ob->w'.heap[k]? = w.heap[k]?) (hl:∀b,ob=some b->∀(n:Nat) (g:Gb) (blk:B),E[n]? = some (g,blk)->g.ob=some b->blk.live=false)
 (hrd:∀b,ob=some b->∀off v,ro b off=some v->w'.cell? ⟨b,off,none⟩=some v) (hp:∀b,ob=some b->X.w0.heap.size<=b\/b∈X.pb):Rel X E ro w':=by
 refine ⟨fun n g blk hn=>?_,h.inj,h.apart,fun b off c hc=>?_,h.ro0,h.rob,h.par,h.gx,dM h.sz hsz,fun b hb hpb=>?_,h1.trans h.os,h2.trans h.tape,h3.trans h.output⟩
 · by_cases hlv:blk.live=true
   · refine (h.own n g blk hn).same (GExt.refl _) (Ext.refl _) fun k hk'=>hk k ((h.own n g blk hn).lt hlv hk') fun e=>?_
     have:=hl k e.symm n g blk hn hk'
     rw[hlv] at this;cases this
   · cases blk<;>simp[B.live] at hlv;trivial
 · by_cases e:some b=ob
   · exact hrd b e.symm off c hc
   · have:=h.rd b off c hc
     rw[<-this]
     simp only[World.cell?,hk b (h.cell_lt hc) e]
 · rw[hk b (by have:=h.sz;omega) fun e=>by rcases hp b e.symm with h4|h4;omega;exact hpb h4]
   exact h.keep b hb hpb
theorem a0Z {ro ro':RO} {ob:Option Nat} {cap sz:Nat} {xs:List (List C)} {vs:List Value} (hxl:∀x∈xs,x.length=sz) (hsh:∀c∈xs.flatten,c.shut=true) (hrel:All2 (C.fv ro) xs.flatten vs) (hext:Ext ro ro')
 (hcap:xs.length<=cap) (hob:xs≠[]->ob.isSome=true) (hro:∀b,ob=some b->∀off v,vs[off]? = some v->ro' b off=some v):FzR ro' xs (.slice (bX ob 0) xs.length cap):=by
 have hob2:FK (ob.map fun b=>(b,0)) 0=bX ob 0:=by cases ob<;>simp[FK,bX]
 rw[<-hob2]
 refine .mk xs sz _ _ (fun _=>rfl) cap (fun k=>vs.getD k undef) hxl hcap (fun h=>by have:=hob h;cases hg:ob<;>simp[hg] at this ⊢) (fun k c hk=>?_) (fun k v hk=>?_) (fun k ys hk=>?_) hsh
 · obtain ⟨v,hv,_⟩:=hrel.get hk
   have hs:=hob (fun e=>by subst e;simp at hk)
   cases hgo:ob with
   |none=>rw[hgo] at hs;simp at hs
   |some b=>simp[hv,hro b hgo k v hv]
 · obtain ⟨u,hu,hr⟩:=hrel.get hk
   have hr':u=v:=hr
   simp[hu,hr']
 · obtain ⟨u,hu,hr⟩:=hrel.get hk
   have hr':FzR ro ys u:=hr
   simp only[E6,hu,Option.getD_some]
   exact hr'.mono hext
theorem V3 {c:C} (h:c.shut=true):c.nf.shut=true:=by
 unfold C.nf
 split
 · rfl
 · exact h
theorem aY4 {ro:RO} {c:C} {v:Value} (hs:c.shut=true) (h:c.fv ro v):c.nf.fv ro v:=
 (C.rel_shut (γ:=[]) (V3 hs)).1 (C.rel_nf ((C.rel_shut hs).2 h))
theorem aOQ (hf:FRel N (gm E) ro fr a) (hr:Rel X E ro w) {t t2 e:TypeId} {x y:Operand} (ho:o.op=.call { callee:=.builtin .append,args:=#[x,y],argTypes:=#[t,t2] })
 {ys:List (List C)} {sz bytes:Nat} (s:Src P a ro w t t2 o.type e y ys sz bytes)
 (hv:vZ fr (hp E) e sz bytes (aT x) ys R):gI P o a w X E ro R:=by
 intro next Q hK
 have h1:=bC hf x
 have hshf:∀c∈ys.flatten,c.shut=true:=fun c hc=>by
  obtain ⟨r,h1,h2⟩:=List.mem_flatten.1 hc
  exact (s.hsh r h1 c h2).1
 unfold vZ at hv
 split at hv
 case h_2=>exact hv.elim
 rename_i n len hx
 rw[hx] at h1
 split at hv
 case h_2=>exact hv.elim
 rename_i xs T1 sz1 hH
 obtain ⟨⟨hxl,rfl,rfl,hpos⟩,hb,hR⟩:=hv
 obtain ⟨g,hE⟩:=dC hH
 obtain ⟨hrow,hglen,hxs1,hxsh,hown,hrel,_⟩:=hr.own n _ _ hE
 obtain ⟨g',k1,k2,k3,k4,k5⟩:=h1
 have:g'=g:=by have:=dU hE;rw[k1] at this;exact (dV this)
 subst this
 have h1':=k5 (by omega)
 have hm:ys≠[]:=List.length_pos_iff.1 hpos
 rw[hxl] at hown
 obtain ⟨ob',cap',w',hrun,hown',hszw,e1,e2,e3,hc,hcap⟩:=s.told hm g'.ob len g'.cap g'.vs hown hb
 unfold Oper.wp
 have hrun2:(execOp a.eval o).run P w=.ok (.value (.slice (bX ob' 0) (len+ys.length) cap')) w':=by
  simp only[execOp,ho,resolve]
  simp[h1',invoke,builtin,hrun]
 rw[hrun2,Oper.upon_value]
 obtain ⟨ro1,hx1,_,_,hout,hr1⟩:=hr.pubR2 hE
 generalize hE1:cX (B.pub n xs) (E.set n (g',.dead))=E1 at hout hr1
 have hhp:hp E1=cS n xs (hp E):=by rw[<-hE1,lI,iN];rfl
 have hgm:gm E1=gm E:=by rw[<-hE1,jB,gE hE]
 have hpar:∀b,g'.ob=some b->X.w0.heap.size<=b\/b∈X.pb:=fun b hb=>hr.par n b g' _ hE hb rfl
 have hcells:∀b,ob'=some b->∀off v,(g'.vs++s.news)[off]? = some v->w'.cell? ⟨b,off,none⟩=some v:=by
  intro b hb off v hv
  rw[hb] at hown'
  have:=World.ownsRow.cells (h:=hown') (g:=b) rfl off v hv
  rwa [gG,gJ] at this
 have hr2:Rel X E1 ro1 w':=by
  refine hr1.move (ob:=g'.ob) hszw e1 e2 e3 (fun k hk hne=>?_) (fun b hb=>(hout b hb).2) (fun b hb off v hv=>?_) hpar
  · rcases hc with ⟨_,h⟩|⟨_,h⟩
    · exact h k hne
    · exact h k hk
  · rcases hc with ⟨h,_⟩|⟨_,h⟩
    · have h4:=(hout b hb).1 off v hv
      exact hcells b (h.trans hb) off v (by rw[lY (bT.1 h4).1];exact h4)
    · have:=hr1.rd b off v hv
      rw[<-this]
      simp only[World.cell?,h b (hr1.cell_lt hv)]
 cases hob:ob' with
 |none=>
  exfalso
  rw[hob] at hown'
  rcases hown'.2 with ⟨_,h0⟩|⟨b,cap0,cur,hv,_⟩
  · omega
  · simp[bX] at hv
 |some b'=>
  obtain ⟨ro2,hx2,hro2,hr3⟩:=hr2.more (b:=b') (vs:=g'.vs++s.news) (by
   rcases hc with ⟨h,_⟩|⟨h,_⟩
   · exact hpar b' (by rw[<-h,hob])
   · rw[hob] at h;cases h;exact .inl hr.sz) (fun j gj blk hj ej=>by
   rcases hc with ⟨h,_⟩|⟨h,_⟩
   · exact (hout b' (by rw[<-h,hob])).2 j gj blk hj ej
   · rw[hob] at h;cases h
     by_cases hl:blk.live=true
     · have:=(hr1.own j gj blk hj).lt hl ej;omega
     · simpa using hl) (hcells b' hob) (fun off v hv=>by
   rcases hc with ⟨h,_⟩|⟨h,_⟩
   · have h4:=(hout b' (by rw[<-h,hob])).1 off v hv
     rw[lY (bT.1 h4).1];exact h4
   · rw[hob] at h;cases h
     have:=hr1.cell_lt hv;omega)
  have hnl:(ys.map (List.map C.nf)).length=ys.length:=by rw[cE]
  have hfz:FzR ro2 (xs++ys.map (List.map C.nf)) (.slice (bX ob' 0) (xs++ys.map (List.map C.nf)).length cap'):=by
   refine a0Z (ro:=ro) (sz:=sz1) (vs:=g'.vs++s.news) (fun r hr'=>?_) (fun c hc=>?_) ?_ (hx1.trans hx2) ?_ (fun _=>by rw[hob];rfl) (fun b hb off v hv=>?_)
   · rcases cL.1 hr' with hr'|hr'
     · exact hxs1 r hr'
     · obtain ⟨q,hq,rfl⟩:=dO.1 hr'
       rw[cE];exact s.hz q hq
   · rw[zG] at hc
     rcases cL.1 hc with hc|hc
     · exact hxsh c hc
     · rw[<-DA] at hc
       obtain ⟨d,hd,rfl⟩:=dO.1 hc
       exact V3 (hshf d hd)
   · rw[zG,<-DA]
     exact hrel.app ⟨by rw[cE];exact s.hrel.1,fun k c v hc hv=>by
      rw[b9] at hc
      cases hd:ys.flatten[k]? with
      |none=>rw[hd] at hc;cases hc
      |some d=>
       rw[hd] at hc
       obtain rfl:=dV hc
       exact aY4 (hshf d (cC hd)) (s.hrel.2 k d v hd hv)⟩
   · rw[bW,hxl,hnl];exact hcap
   · rw[hob] at hb;cases hb;exact hro2 off v hv
  rw[<-hob]
  refine hK (.va (.c1 (.fz (xs++ys.map (List.map C.nf))))) _ E1 ro2 _ (by rw[hhp];exact hR) ?_ (by rw[hgm];exact GExt.refl _) (hx1.trans hx2) hr3
  show FzR ro2 (xs++ys.map (List.map C.nf)) (.slice (bX ob' 0) (len+ys.length) cap')
  rw[show len+ys.length=(xs++ys.map (List.map C.nf)).length by rw[bW,hxl,hnl]]
  exact hfz
theorem a0V (hf:FRel N (gm E) ro fr a) (hr:Rel X E ro w) {t e:TypeId} {x y:Operand} {i:TypeInfo} {z:Value} (ho:o.op=.call { callee:=.builtin .append,args:=#[x,y],argTypes:=#[t,t] })
 (ht:P.underlying t=some (.slice e)) (hi:P.info? e=some i) (hz:i.zero=some z) (hzs:z.cells.size=i.size) (hsz:0<i.size) (hby:0<i.bytes)
 (hv:vE fr (hp E) R (.apz e i.size i.bytes (aT x) (aT y))):gI P o a w X E ro R:=by
 have h2:=bC hf y
 simp only[vE] at hv
 split at hv
 · rename_i m k hy
   rw[hy] at h2
   split at hv
   case h_2=>exact hv.elim
   rename_i ys T2 sz2 hH
   obtain ⟨⟨hk,rfl,hsh⟩,hv⟩:=hv
   obtain ⟨g,hE⟩:=dC hH
   obtain ⟨hrow,hglen,hys1,hysh,hown,hrel,_⟩:=hr.own m _ _ hE
   obtain ⟨g',k1,k2,k3,k4,k5⟩:=h2
   have:g'=g:=by have:=dU hE;rw[k1] at this;exact (dV this)
   subst this
   have h2':=k5 (by omega)
   subst hk
   refine aOQ hf hr ho (Src.slice ht hi hz hzs hsz hby (bX g'.ob 0) g'.cap g'.vs h2' hown.1 hys1 hsh hrel (fun ad had=>?_) (fun hn=>?_)) hv
   · cases hob:g'.ob with
     |none=>rw[hob] at had;simp[bX] at had
     |some b=>
      rw[hob] at had hown
      simp only[bX,cQ,aM] at had
      subst had
      exact World.ownsRow.cells (h:=hown) (g:=b) rfl
   · rcases hown.2 with ⟨hv,h0⟩|⟨b,cap0,cur,hv,_⟩
     · exact iB h0
     · rw[hn] at hv;simp at hv
 · exact hv.elim
theorem aVT {op:Op} {T:TypeId} {sz b:Nat} {x0 y0:O} (hi:BP P op=some (.ap T sz b x0 y0)):∃(x y:Operand) (t:TypeId) (i:TypeInfo) (z:Value),op=.call { callee:=.builtin .append,args:=#[x,y],argTypes:=#[t,t] }/\P.underlying t=some (.slice T)/\P.info? T=some i/\i.zero=some z/\z.cells.size=i.size/\0<i.size/\0<i.bytes/\sz=i.size/\b=i.bytes/\x0=aT x/\y0=aT y:=by
 cases op<;>simp only[BP,reduceCtorEq,aM] at hi
 case store t x y=>split at hi<;>simp at hi
 case alloc t=>split at hi<;>simp at hi
 case makeMap t r=>
  split at hi
  · cases hi
  · split at hi<;>simp at hi
 case makeSlice t x y=>
  split at hi<;>try (cases hi;done)
  split at hi<;>try (cases hi;done)
  split at hi<;>try (cases hi;done)
  split at hi<;>simp at hi
 case mapUpdate t m k v=>split at hi<;>simp at hi
 case buildSlice t len parts=>
  split at hi<;>try (cases hi;done)
  split at hi<;>try (cases hi;done)
  split at hi<;>try (cases hi;done)
  split at hi<;>simp at hi
 case call c=>
  obtain ⟨cl,args,ats⟩:=c
  simp only at hi
  split at hi
  · rename_i x y t t' ha hat
    obtain rfl:args=#[x,y]:=by rw[<-eL (xs:=args),ha]
    obtain rfl:ats=#[t,t']:=by rw[<-eL (xs:=ats),hat]
    split at hi<;>try (cases hi;done)
    rename_i e ht
    split at hi<;>try (cases hi;done)
    rename_i inf hinf
    split at hi<;>try (cases hi;done)
    rename_i z hz
    split at hi
    · rename_i hc
      simp only[aM,EI.ap.injEq] at hi
      obtain ⟨c1,c2,rfl,c4⟩:=hc
      obtain ⟨rfl,rfl,rfl,rfl,rfl⟩:=hi
      exact ⟨x,y,t,inf,z,rfl,ht,hinf,hz,c1,c2,c4,rfl,rfl,rfl,rfl⟩
    · split at hi<;>try (cases hi;done)
      split at hi<;>simp at hi
  · split at hi<;>try (cases hi;done)
    split at hi<;>try (cases hi;done)
    split at hi<;>simp at hi
  · cases hi
theorem aAS (hf:FRel N (gm E) ro fr a) (hr:Rel X E ro w) {i:EI} (hi:BP P o.op=some i) (hv:vE fr (hp E) R i.ext):gI P o a w X E ro R:=by
 by_cases hap:∃T sz b x y,i=.ap T sz b x y
 · obtain ⟨T,sz,b,x0,y0,rfl⟩:=hap
   obtain ⟨x,y,t,inf,z,ho,ht,hinf,hz,c1,c2,c3,rfl,rfl,rfl,rfl⟩:=aVT hi
   exact a0V hf hr ho ht hinf hz c1 c2 c3 hv
 · exact ZW hf hr hi hv (fun T sz b x y e=>hap ⟨T,sz,b,x,y,e⟩) fun j hj hvj=>WN hf hr hj hvj
end
def C.pv:C->Value
 |.vl v=>v
 |_=>undef
def A.fval:A->Value
 |.c1 c=>c.pv
 |.gs cs=>.agg (cs.map C.pv).toArray
theorem GG {γ:List Gb} {ro:RO} {x:A} (h:x.flat) {v:Value}:x.rel γ ro v ↔ v=x.fval:=by
 cases x with
 |c1 c=>
  cases c with
  |vl u=>exact Iff.rfl
  |_=>exact h.elim
 |gs cs=>
  constructor
  · rintro ⟨vs,rfl,h2⟩
    simp only[A.fval]
    congr 2
    apply iF
    intro i
    rw[b9]
    cases hi:cs[i]? with
    |none=>
     have:vs[i]? = none:=by rw[zB] at hi ⊢;rw[<-h2.1];exact hi
     rw[this];rfl
    |some c=>
     obtain ⟨u,hu,hr⟩:=h2.get hi
     obtain ⟨p,rfl⟩:=h c (cC hi)
     rw[hu]
     exact congrArg some hr
  · rintro rfl
    refine ⟨_,rfl,by simp,fun i c v h1 h2=>?_⟩
    rw[b9,h1] at h2
    obtain ⟨p,rfl⟩:=h c (cC h1)
    simp only[cQ,aM,C.pv] at h2
    exact h2.symm
section
variable {P:Program} {o:Oper} {N:Nat} {fr:Fr} {a:Act} {E:Es} {γ:List Gb} {ro:RO} {X:Ctx} {w:World} {nw:Bool} {Γ:eX} {ops:Array Oper}
noncomputable def BM (E:Es) (ro:RO):RO:=fun b off=>
 open Classical in
 if h:∃v,ro b off=some v\/∃(n:Nat) (g:Gb) (xs:List (List C)) (T sz:Nat),E[n]? = some (g,.row xs T sz)/\g.ob=some b/\g.vs[off]? = some v then some (Classical.choose h) else none
theorem GV (h:Rel X E ro w):Ext ro (BM E ro)/\(∀(n:Nat) (g:Gb) (xs:List (List C)) (T sz:Nat),E[n]? = some (g,.row xs T sz)->∀b,g.ob=some b->∀off v,g.vs[off]? = some v->BM E ro b off=some v)/\
 ∀b off v,BM E ro b off=some v->w.cell? ⟨b,off,none⟩=some v:=by
 have key:∀b off (v v':Value),(ro b off=some v\/∃(n:Nat) (g:Gb) (xs:List (List C)) (T sz:Nat),E[n]? = some (g,.row xs T sz)/\g.ob=some b/\g.vs[off]? = some v)->
  (ro b off=some v'\/∃(n:Nat) (g:Gb) (xs:List (List C)) (T sz:Nat),E[n]? = some (g,.row xs T sz)/\g.ob=some b/\g.vs[off]? = some v')->v=v':=by
  intro b off v v' h1 h2
  rcases h1 with h1|⟨n,g,xs,T,sz,h1,h1b,h1'⟩<;>rcases h2 with h2|⟨m,g2,ys,T',sz',h2,h2b,h2'⟩
  · rw[h1] at h2;exact dV h2
  · have:=h.apart b off v h1 m _ _ h2 h2b;simp[B.live] at this
  · have:=h.apart b off v' h2 n _ _ h1 h1b;simp[B.live] at this
  · have:=h.inj n m _ _ _ _ b h1 h2 h1b h2b rfl rfl
    subst this
    rw[h1] at h2
    simp only[aM,Prod.mk.injEq] at h2
    rw[<-h2.1,h1'] at h2'
    exact dV h2'
 have put:∀b off v,(ro b off=some v\/∃(n:Nat) (g:Gb) (xs:List (List C)) (T sz:Nat),E[n]? = some (g,.row xs T sz)/\g.ob=some b/\g.vs[off]? = some v)->BM E ro b off=some v:=by
  intro b off v hc
  unfold BM
  rw[dif_pos ⟨v,hc⟩]
  exact congrArg some (key b off _ _ (Classical.choose_spec (p:=fun v=>ro b off=some v\/∃(n:Nat) (g:Gb) (xs:List (List C)) (T sz:Nat),E[n]? = some (g,.row xs T sz)/\g.ob=some b/\g.vs[off]? = some v) ⟨v,hc⟩) hc)
 refine ⟨fun b off v hc=>put b off v (.inl hc),fun n g xs T sz hn b hb off v hv=>put b off v (.inr ⟨n,g,xs,T,sz,hn,hb,hv⟩),fun b off v hc=>?_⟩
 unfold BM at hc
 split at hc
 · rename_i hex
   simp only[aM] at hc
   have hs:=Classical.choose_spec hex
   rw[hc] at hs
   rcases hs with hs|⟨n,g,xs,T,sz,hn,hb,hv⟩
   · exact h.rd b off v hs
   · obtain ⟨_,_,_,_,hown,_,_⟩:=h.own n _ _ hn
     rw[hb] at hown
     have:=World.ownsRow.cells (h:=hown) (g:=b) rfl off v hv
     rwa [gG,gJ] at this
 · cases hc
theorem C.rel0_bor (h:Rel X E ro w) {c:C} {v:Value} (hc:c.rel0 (gm E) ro v):(c.bor0 (hp E)).rel0 [] (BM E ro) v:=by
 obtain ⟨h1,h2,_⟩:=GV h
 cases c with
 |no=>trivial
 |vl u=>exact hc
 |pt n off=>trivial
 |qt n l sz i j=>trivial
 |dp n l=>trivial
 |sl n l=>
  simp only[C.bor0]
  split
  · rename_i xs T sz hH
    split
    · rename_i hl
      obtain ⟨g,hE⟩:=dC hH
      obtain ⟨_,hgl,_⟩:=h.own n g _ hE
      obtain ⟨g',k1,k2,k3,k4,k5⟩:=hc
      have:g'=g:=by have:=dU hE;rw[k1] at this;exact (dV this)
      subst this
      have:=k5 (by omega)
      subst this
      show FzR _ xs _
      rw[hl]
      exact SU h hE h1 (h2 n g' xs T sz hE)
    · trivial
  · trivial
 |fz xs=>exact FzR.mono h1 hc
 |fp r j=>obtain ⟨b,off,k1,k2⟩:=hc;exact ⟨b,off,k1,fun k c hk=>by obtain ⟨u,p,q⟩:=k2 k c hk;exact ⟨u,h1 _ _ _ p,C.fv_mono h1 q⟩⟩
 |mp n=>trivial
 |fn f cs=>exact hc.elim
 |fm f cs=>obtain ⟨vs,k1,k2⟩:=hc;exact ⟨vs,k1,k2.imp fun _ _ ⟨us,q1,q2⟩=>⟨us,q1,q2.imp fun _ _=>C.fv_mono h1⟩⟩
theorem C.rel_bor (h:Rel X E ro w) {c:C} {v:Value} (hc:c.rel (gm E) ro v):(c.bor (hp E)).rel [] (BM E ro) v:=by
 obtain ⟨h1,h2,_⟩:=GV h
 cases c with
 |no=>trivial
 |vl u=>exact hc
 |pt n off=>trivial
 |qt n l sz i j=>trivial
 |dp n l=>trivial
 |sl n l=>
  simp only[C.bor]
  split
  · rename_i xs T sz hH
    split
    · rename_i hl
      obtain ⟨g,hE⟩:=dC hH
      obtain ⟨_,hgl,_⟩:=h.own n g _ hE
      obtain ⟨g',k1,k2,k3,k4,k5⟩:=hc
      have:g'=g:=by have:=dU hE;rw[k1] at this;exact (dV this)
      subst this
      have:=k5 (by omega)
      subst this
      show FzR _ xs _
      rw[hl]
      exact SU h hE h1 (h2 n g' xs T sz hE)
    · trivial
  · trivial
 |fz xs=>exact FzR.mono h1 hc
 |fp r j=>obtain ⟨b,off,k1,k2⟩:=hc;exact ⟨b,off,k1,fun k c hk=>by obtain ⟨u,p,q⟩:=k2 k c hk;exact ⟨u,h1 _ _ _ p,C.fv_mono h1 q⟩⟩
 |mp n=>trivial
 |fn f cs=>
  obtain ⟨vs,k1,k2⟩:=hc
  exact ⟨vs,k1,k2.map (f:=fun x=>(x.1,x.2.map (C.bor0 (hp E)))) fun _ _=>GP fun _ _=>C.rel0_bor h⟩
 |fm f cs=>obtain ⟨vs,k1,k2⟩:=hc;exact ⟨vs,k1,k2.imp fun _ _ ⟨us,q1,q2⟩=>⟨us,q1,q2.imp fun _ _=>C.fv_mono h1⟩⟩
theorem S.rel_bor (h:Rel X E ro w) {s:S} {v:Value} (hs:s.rel (gm E) ro v):(s.bor (hp E)).rel [] (BM E ro) v:=by
 cases s with
 |va a=>
  cases a with
  |c1 c=>exact C.rel_bor h hs
  |gs cs=>obtain ⟨vs,h1,h2⟩:=hs;exact ⟨vs,h1,h2.map (f:=C.bor (hp E)) fun _ _=>C.rel_bor h⟩
 |tu l=>trivial
 |cn g a=>trivial
 |un=>trivial
theorem Rel.grown (h:Rel X E ro w) {w':World} (hk:∀k,k<w.heap.size->w'.heap[k]? = w.heap[k]?) (hsz:w.heap.size<=w'.heap.size) (h1:w'.os=w.os) (h2:w'.tape=w.tape) (h3:w'.output=w.output):Rel X E ro w':=by
 refine ⟨fun n g blk hn=>?_,h.inj,h.apart,fun b off c hc=>?_,h.ro0,h.rob,h.par,h.gx,dM h.sz hsz,fun b hb hp=>?_,h1.trans h.os,h2.trans h.tape,h3.trans h.output⟩
 · by_cases hl:blk.live=true
   · exact (h.own n g blk hn).same (GExt.refl _) (Ext.refl _) fun k hk'=>hk k ((h.own n g blk hn).lt hl hk')
   · cases blk<;>simp[B.live] at hl;trivial
 · have:=h.rd b off c hc
   rw[<-this]
   simp only[World.cell?,hk b (h.cell_lt hc)]
 · rw[hk b (by have:=h.sz;omega)];exact h.keep b hb hp
theorem aPR (hf:FRel N (gm E) ro fr a) (hm:MeetsIn P X Γ) {f:FuncId} {c:Call} (ho:o.op=.call c) (hc:c.callee=.value (.func f)) {p:Fun} (hp':A6 Γ f=some p) (hg:cZ fr (O.sls (c.args.toList.map aT)))
 (hr:Rel X E ro w) (hpre:p.pre ((c.args.toList.map aT).map fun o=>((ev (fst fr) o).bor (hp E)).nf)) :
 (execOp a.eval o).run P w=.ok (.enter f (c.args.map a.eval)) w/\Calls P f (c.args.map a.eval) w (fun e w'=>e=.returned (p.val ((c.args.toList.map aT).map fun o=>((ev (fst fr) o).bor (hp E)).nf)).fval/\Rel X E ro w'):=by
 obtain ⟨s,hmem,hfn⟩:=SK hp'
 obtain ⟨hent,hmeets⟩:=(hm.m f s hmem).2 p hfn
 have hrun:(execOp a.eval o).run P w=.ok (.enter f (c.args.map a.eval)) w:=by
  have he':=wH hent (c.args.map a.eval) w
  simp[execOp,ho,resolve,hc,Act.eval,Deferred.ofValue,invoke,he']
 refine ⟨hrun,?_⟩
 have harr:c.args.map a.eval=(c.args.toList.map a.eval).toArray:=by rw[<-DF,eL]
 rw[harr]
 obtain ⟨hxr,_,hrd⟩:=GV hr
 have hloc:Rel ⟨w,fL [],BM E ro,gm []⟩ [] (BM E ro) w:=⟨fun n g blk hn=>by simp at hn,fun n m gn gm bn bm b hn=>by simp at hn,fun b off v hc n g blk hn=>by simp at hn,hrd,Ext.refl _,fun _ _ _ h=>.inl h,
  fun n b g blk hn=>by simp at hn,GExt.refl _,bE _,fun _ _ _=>rfl,rfl,rfl,rfl⟩
 refine (hmeets _ (c.args.toList.map a.eval) [] (BM E ro) w (fun r _=>r=.va (p.val ((c.args.toList.map aT).map fun o=>((ev (fst fr) o).bor (hp E)).nf))) (by simp) ?_ hloc ⟨⟨hpre,rfl⟩,rfl⟩ ((hm.at hr).mono hxr)).mono ?_
 · intro i x v hx hv
   rw[fK,b9] at hx
   cases hi:c.args.toList[i]? with
   |none=>rw[hi] at hx;cases hx
   |some z=>
    rw[hi] at hx
    simp only[cQ,Function.comp,aM] at hx
    subst hx
    have:=EA hf hg i (ev (fst fr) (aT z)) v (by rw[fK,b9,hi];rfl) hv
    exact S.rel_nf (S.rel_bor hr this)
 · rintro e w' ⟨r,v,E',ro',rfl,hrv,rfl,hrel⟩
   have hv:=(GG (p.flat _ hpre)).1 hrv
   subst hv
   exact ⟨rfl,hr.grown (fun k hk=>hrel.keep k hk (by simp[fL])) hrel.sz hrel.os hrel.tape hrel.output⟩
theorem aFA (hf:FRel N (gm E) ro fr a) (hr:Rel X E ro w) (hm:MeetsIn P X Γ) {σ:CH} {i:I} (hi:mK P nw σ o.op=some i) (hq:(J.mk none none i).quietC=false) {R:S->Hp->Prop}
 (hv:vI Γ fr (hp E) R i):gI P o a w X E ro R:=by
 cases i with
 |q q=>simp[J.quietC] at hq
 |ix x y=>simp[J.quietC] at hq
 |l i=>simp[J.quietC] at hq
 |pick c x y=>simp[J.quietC] at hq
 |cq f xs=>simp[J.quietC] at hq
 |e i=>
  obtain ⟨hg,hv⟩:=hv
  rw[VE (eW hg)] at hv
  obtain ⟨i0,h0,rfl|rfl⟩:=aK0 hi
  · exact WN hf.res hr h0 hv
  · exact aAS hf.res hr h0 hv
 |cl f xs σ'=>
  obtain ⟨c,ho,hc,rfl⟩:=aQ9 hi
  exact aGW hf hr hm ho hc hv
 |ca x xs σ'=>
  obtain ⟨c,t,ho,hc,rfl,rfl⟩:=aTI hi
  exact aG4 hf hr hm ho hc hv
theorem CX (hf:FRel N (gm E) ro fr a) (hm:MeetsIn P X Γ) (hr0:Rel X E ro w) {σ:CH} {j:J} (hj:xY P nw N ops σ o=some j) (hq:j.quietC=true) {K:Fr->Hp->Prop} (hv:vJ Γ fr (hp E) K j) :
 ∃fr',K fr' (hp E)/\(if Region.wanted o (yielded ops a.tmps)=true then ∃v,FRel N (gm E) ro fr' (a.put o.dst v)/\∀w,Rel X E ro w->o.quietAt P a (Rel X E ro) w v else FRel N (gm E) ro fr' (a.put o.dst undef)):=by
 by_cases hq':j.quiet=true
 · have h:=u3 hf hr0 hj hq' hv
   split at h
   · rename_i hw
     obtain ⟨fr',hK,v,h1,h2⟩:=h
     refine ⟨fr',hK,?_⟩
     rw[if_pos hw]
     refine ⟨v,h1,fun w hr=>?_⟩
     unfold Oper.quietAt
     rw[h2 w hr]
     exact ⟨rfl,rfl⟩
   · rename_i hw
     obtain ⟨fr',hK,h1⟩:=h
     refine ⟨fr',hK,?_⟩
     rw[if_neg hw]
     exact h1
 · obtain ⟨hi,hg,hd,hN⟩:=rO hj
   obtain ⟨d,jg,i⟩:=j
   simp only at hi hg hd
   subst hd
   cases i with
   |q q=>exact absurd rfl hq'
   |ix x y=>exact absurd rfl hq'
   |l i=>exact absurd rfl hq'
   |pick c x y=>exact absurd rfl hq'
   |e i=>simp[J.quietC] at hq
   |cl f xs σ=>simp[J.quietC] at hq
   |ca f xs σ=>simp[J.quietC] at hq
   |cq f xs=>
    obtain ⟨c,ho,hc,rfl⟩:=aXS hi
    have key:∀{g:Prop} {K:A->Prop},IL Γ fr (hp E) f (c.args.toList.map aT) g K->∃y,K y/\(g->y.flat/\∀w,Rel X E ro w->o.quietAt P a (Rel X E ro) w y.fval):=by
     intro g K hv
     unfold IL at hv
     split at hv
     · exact hv.elim
     · rename_i p hp'
       obtain ⟨hg,hK⟩:=hv
       refine ⟨_,hK,fun hgt=>?_⟩
       obtain ⟨hgd,hpre⟩:=hg hgt
       refine ⟨p.flat _ hpre,fun w hr=>?_⟩
       obtain ⟨k1,k2⟩:=aPR hf hm ho hc hp' hgd hr hpre
       unfold Oper.quietAt
       rw[k1]
       exact ⟨rfl,k2⟩
    unfold vJ at hv
    cases hgd:o.guard with
    |none=>
     rw[hgd] at hg
     simp only[FI,aM] at hg
     subst hg
     simp only[nV] at hv
     obtain ⟨y,hK,hy⟩:=key hv
     refine ⟨_,hK,?_⟩
     rw[if_pos (gS hgd _)]
     exact ⟨y.fval,hf.put hN ((GG (hy trivial).1).2 rfl),(hy trivial).2⟩
    |some gw=>
     obtain ⟨k,want⟩:=gw
     rw[hgd] at hg
     simp only[FI] at hg
     split at hg
     · rename_i sl hsl
       simp only[aM] at hg
       subst hg
       simp only at hv
       split at hv
       · exact hv.elim
       · rename_i g hgv
         have hwant:Region.wanted o (yielded ops a.tmps)=g:=by
          simp only[Region.wanted,hgd]
          exact (K5 hf hgv hsl).1
         simp only[l8] at hv
         obtain ⟨y,hK,hy⟩:=key hv
         refine ⟨_,hK,?_⟩
         rw[hwant]
         cases g with
         |true=>rw[if_pos rfl];exact ⟨y.fval,hf.put hN (s:=.cn true y) ⟨fun _=>(GG (hy rfl).1).2 rfl,fun h=>(by cases h)⟩,(hy rfl).2⟩
         |false=>rw[if_neg (by simp)];exact hf.put hN (s:=.cn false y) ⟨fun h=>(by cases h),fun _=>rfl⟩
     · cases hg
theorem KI (hf:FRel N (gm E) ro fr a) (hr:Rel X E ro w) (hm:MeetsIn P X Γ) {σ:CH} {j:J} (hj:xY P nw N ops σ o=some j) {K:Fr->Hp->Prop} (hv:vJ Γ fr (hp E) K j)
 {next:Act->World->Prop} {Q:Exit->Act->World->Prop} (hK:∀fr' E' ro' a' w',K fr' (hp E')->FRel N (gm E') ro' fr' a'->Rel X E' ro' w'->next a' w') :
 if Region.wanted o (yielded ops a.tmps)=true then o.wp P a w next Q else next (a.put o.dst undef) w:=by
 by_cases hq:j.quietC=true
 · obtain ⟨fr',hK',h⟩:=CX hf hm hr hj hq hv
   split
   · rename_i hw
     simp only[hw,if_true] at h
     obtain ⟨v,hf',hrun⟩:=h
     refine Oper.wp_of_quiet (C:=Rel X E ro) (K:=fun a'=>FRel N (gm E) ro fr' a') hr ?_ ⟨v,hrun,hf'⟩
     exact fun a' w' hr' hf''=>hK _ _ _ _ _ hK' hf'' hr'
   · rename_i hw
     rw[if_neg hw] at h
     exact hK _ _ _ _ _ hK' h hr
 · obtain ⟨hi,hg,hd,hN⟩:=rO hj
   obtain ⟨d,jg,i⟩:=j
   simp only at hi hg hd
   subst hd
   have hni:(J.mk none none i).quietC=false:=by cases i<;>first|rfl|exact absurd rfl hq
   have key:∀{fr2:Fr} {R:S->Hp->Prop},FRel N (gm E) ro fr2 a->vI Γ fr2 (hp E) R i->(∀s H',R s H'->K (W.put fr2 o.dst s) H')->o.wp P a w next Q:=by
    intro fr2 R hf2 hv hR
    exact aFA hf2 hr hm hi hni hv next Q fun s v E' ro' w' h1 h2 g1 g2 h3=>hK _ _ _ _ _ (hR _ _ h1) ((hf2.mono g1 g2).put hN h2) h3
   unfold vJ at hv
   cases hgd:o.guard with
   |none=>
    rw[hgd] at hg
    simp only[FI,aM] at hg
    subst hg
    rw[if_pos (gS hgd _)]
    cases i with
    |q q=>exact absurd rfl hq
    |ix x y=>exact absurd rfl hq
    |l i=>exact absurd rfl hq
    |pick c x y=>exact absurd rfl hq
    |cq f xs=>exact absurd rfl hq
    |e i=>exact key hf hv fun _ _ h=>h
    |cl f xs σ=>exact key hf hv fun _ _ h=>h
    |ca f xs σ=>exact key hf hv fun _ _ h=>h
   |some gw=>
    obtain ⟨k,want⟩:=gw
    rw[hgd] at hg
    simp only[FI] at hg
    split at hg
    · rename_i sl hsl
      simp only[aM] at hg
      subst hg
      simp only at hv
      split at hv
      · exact hv.elim
      · rename_i g hgv
        obtain ⟨hwant,hgt,hgf⟩:=K5 hf hgv hsl
        have hw:Region.wanted o (yielded ops a.tmps)=g:=by simp only[Region.wanted,hgd];exact hwant
        rw[hw]
        have h2:(g=true->vI Γ (lM fr sl want) (hp E) (fun s H'=>K (W.put (lM fr sl want) o.dst s) H') i)/\(g=false->K (W.put (u4 fr sl want) o.dst dum) (hp E)):=by
         cases i with
         |q q=>exact absurd rfl hq
         |ix x y=>exact absurd rfl hq
         |l i=>exact absurd rfl hq
         |pick c x y=>exact absurd rfl hq
         |cq f xs=>exact absurd rfl hq
         |e i=>exact hv
         |cl f xs σ=>exact hv
         |ca f xs σ=>exact hv
        cases g with
        |true=>rw[if_pos rfl];exact key (VP hf (hgt rfl)) (h2.1 rfl) fun _ _ h=>h
        |false=>rw[if_neg (by simp)];exact hK _ _ _ _ _ (h2.2 rfl) ((U1 hf (hgf rfl)).put hN WQ) hr
    · cases hg
theorem rD {h:Nat->CH} {k:Nat} {o:Oper} {r:List Oper} {js:List J} (hj:nY P nw N ops h k (o::r)=some js):∃j js',js=j::js'/\xY P nw N ops (h k) o=some j/\nY P nw N ops h (k+1) r=some js':=by
 simp only[nY] at hj
 split at hj
 · rename_i j js' h1 h2;simp only[aM] at hj;exact ⟨j,js',hj.symm,h1,h2⟩
 · cases hj
theorem yW (hm:MeetsIn P X Γ) {h:Nat->CH} {Q:Exit->Act->World->Prop} {K:Fr->Hp->Prop} (hQ:∀fr E ro a w,K fr (hp E)->FRel N (gm E) ro fr a->Rel X E ro w->Q .normal a w) :
 ∀(l:List Oper) (k:Nat) (js:List J),nY P nw N ops h k l=some js->∀(fr:Fr) (E:Es) (ro:RO) (a:Act) (w:World),FRel N (gm E) ro fr a->Rel X E ro w->vR Γ js fr (hp E) K->wpList P ops Q l a w
 |[],k,js,hj,fr,E,ro,a,w,hf,hr,hv=>by
  simp only[nY,aM] at hj
  subst hj
  exact hQ _ _ _ _ _ hv hf hr
 |o::l,k,js,hj,fr,E,ro,a,w,hf,hr,hv=>by
  obtain ⟨j,js',rfl,h1,h2⟩:=rD hj
  have:=KI (Q:=Q) (next:=wpList P ops Q l) hf hr hm h1 hv fun fr' E' ro' a' w' hK hf' hr'=>yW hm hQ l (k+1) js' h2 fr' E' ro' a' w' hf' hr' hK
  simp only[wpList]
  split
  · rename_i hw;rw[if_pos hw] at this;exact .inl this
  · rename_i hw;rw[if_neg hw] at this;exact this
theorem AA {h:Nat->CH} {L:Act->Prop} {w:World} {Y:Ctx}:∀(l:List Oper) (k:Nat) (js rest:List J),nY P nw N ops h k l=some js->(∀j∈js,j.quiet=true)->∀(fr:Fr) (E:Es) (ro:RO) (a:Act) (K:Fr->Hp->Prop),FRel N (gm E) ro fr a->Rel Y E ro w->
 vR Γ (js++rest) fr (hp E) K->(∀fr' a',FRel N (gm E) ro fr' a'->vR Γ rest fr' (hp E) K->L a')->wpStill P ops w L l a
 |[],k,js,rest,hj,hq,fr,E,ro,a,K,hf,hr,hv,hL=>by
  simp only[nY,aM] at hj
  subst hj
  exact hL _ _ hf hv
 |o::l,k,js,rest,hj,hq,fr,E,ro,a,K,hf,hr,hv,hL=>by
  obtain ⟨j,js',rfl,h1,h2⟩:=rD hj
  simp only[sG,vR] at hv
  have hs:=u3 hf hr h1 (hq j (by simp)) hv
  simp only[wpStill]
  split
  · rename_i hw
    rw[if_pos hw] at hs
    obtain ⟨fr',hK,v,hf',hrun⟩:=hs
    unfold Oper.still
    rw[hrun w hr,Oper.stillUpon_value]
    exact AA l (k+1) js' rest h2 (fun y hy=>hq y (by simp[hy])) fr' E ro _ K hf' hr hK hL
  · rename_i hw
    rw[if_neg hw] at hs
    obtain ⟨fr',hK,hs⟩:=hs
    exact AA l (k+1) js' rest h2 (fun y hy=>hq y (by simp[hy])) fr' E ro _ K hs hr hK hL
theorem xF (hm:MeetsIn P X Γ) (w0:World) {h:Nat->CH} {L:Act->Prop}:∀(l:List Oper) (k:Nat) (js:List J),nY P nw N ops h k l=some js->(∀j∈js,j.quietC=true)->∀(fr:Fr) (E:Es) (ro:RO) (a:Act) (K:Fr->Hp->Prop),FRel N (gm E) ro fr a->Rel X E ro w0->
 vR Γ js fr (hp E) K->(∀fr' a',FRel N (gm E) ro fr' a'->K fr' (hp E)->L a')->wpQuiet P ops (Rel X E ro) L l a
 |[],k,js,hj,hq,fr,E,ro,a,K,hf,hr0,hv,hL=>by
  simp only[nY,aM] at hj
  subst hj
  exact hL _ _ hf hv
 |o::l,k,js,hj,hq,fr,E,ro,a,K,hf,hr0,hv,hL=>by
  obtain ⟨j,js',rfl,h1,h2⟩:=rD hj
  obtain ⟨fr',hK,hs⟩:=CX hf hm hr0 h1 (hq j (by simp)) hv
  simp only[wpQuiet]
  split
  · rename_i hw
    simp only[hw,if_true] at hs
    obtain ⟨v,hf',hrun⟩:=hs
    exact ⟨v,hrun,xF hm w0 l (k+1) js' h2 (fun y hy=>hq y (by simp[hy])) fr' E ro _ K hf' hr0 hK hL⟩
  · rename_i hw
    rw[if_neg hw] at hs
    exact xF hm w0 l (k+1) js' h2 (fun y hy=>hq y (by simp[hy])) fr' E ro _ K hs hr0 hK hL
end
section
variable {P:Program} {N:Nat} {nw:Bool} {X:Ctx} {Γ:eX} {ops:Array Oper} {o:Oper} {fr:Fr} {a:Act} {E:Es} {ro:RO} {w:World}
theorem aF7 (hf:FRel N (gm E) ro fr a) (hr0:Rel X E ro w) {σ:CH} {j:J} (hj:xY P nw N ops σ o=some j) (hpu:B9 P o=true) {K:Fr->Hp->Prop} (hv:vJ Γ fr (hp E) K j) :
 ∃fr' v,K fr' (hp E)/\FRel N (gm E) ro fr' (a.put o.dst v)/\∀w,(execOp a.eval o).run P w=.ok (.value v) w:=by
 obtain ⟨hi,hg,hd,hN⟩:=rO hj
 unfold B9 at hpu
 rw[bI] at hpu
 obtain ⟨hgn,hop⟩:=hpu
 have hgn':o.guard=none:=by simpa using hgn
 rw[hgn'] at hg
 simp only[FI,aM] at hg
 have run:j.quiet=true->∃fr',K fr' (hp E)/\∃v,FRel N (gm E) ro fr' (a.put o.dst v)/\∀w,Rel X E ro w->(execOp a.eval o).run P w=.ok (.value v) w:=fun hq=>by
  have h:=u3 hf hr0 hj hq hv
  rwa [if_pos (gS hgn' _)] at h
 have bin:∀(op:BinOp) (t:TypeId) (x y:Operand) (t':TypeId) (k0:IntKind),o.op=.binOp op t x y t'->P.underlying t=some (.int k0)->(op=.add\/op=.sub)->
  ∃fr' v,K fr' (hp E)/\FRel N (gm E) ro fr' (a.put o.dst v)/\∀w,(execOp a.eval o).run P w=.ok (.value v) w:=fun op t x y t' k0 ho ht hops=>by
  have hji:j.i=.q (.bin op nw (aT x) (aT y)):=by
   rw[ho] at hi
   simpa[mK,RP,ht] using hi.symm
  obtain ⟨fr',hK,v,hf',hrun⟩:=run (by unfold J.quiet;rw[hji])
  refine ⟨fr',v,hK,hf',?_⟩
  unfold vJ at hv
  rw[<-hg] at hv
  simp only[hji,nV,qv] at hv
  have hw:=hrun w hr0
  have step:∀(f:∀(w:World),∃v',(∀w,(execOp a.eval o).run P w=.ok (.value v') w)),∀w,(execOp a.eval o).run P w=.ok (.value v) w:=fun f=>by
   obtain ⟨v',h'⟩:=f w
   rw[h' w] at hw
   simp only[Result.ok.injEq,Next.value.injEq,and_true] at hw
   subst hw
   exact h'
  split at hv
  case h_2=>exact hv.elim
  rename_i s hs
  obtain ⟨hgd,hc,_⟩:=hv
  have e1:ev (fst fr) (aT x)=ev (res fr) (aT x):=bD fun i hi=>eW hgd i (by simp[QI.sl,hi])
  have e2:ev (fst fr) (aT y)=ev (res fr) (aT y):=bD fun i hi=>eW hgd i (by simp[QI.sl,hi])
  simp only[qc] at hc
  rw[e1,e2] at hs hc
  have r1:=bC hf.res x;have r2:=bC hf.res y
  split at hs
  · rename_i k m k' n hx hy
    rw[hx] at r1;rw[hy] at r2
    rw[hx,hy] at hc
    have r1':a.eval x=.int k m:=r1
    have r2':a.eval y=.int k' n:=r2
    obtain ⟨v',_,hr⟩:=RL (P:=P) (t:=t) hs hc
    exact step fun _=>⟨v',fun w=>by simp only[execOp,ho,r1',r2'];simp[hr,eqGuard]⟩
  · rename_i m n hx hy
    rw[hx] at r1;rw[hy] at r2
    rw[hx,hy] at hc
    have r1':a.eval x=.string m:=r1
    have r2':a.eval y=.string n:=r2
    obtain ⟨v',_,hr⟩:=RN (P:=P) (t:=t) hs hc
    exact step fun _=>⟨v',fun w=>by simp only[execOp,ho,r1',r2'];simp[hr,eqGuard]⟩
  · cases hs
 split at hop
 · rename_i x ho
   have hji:j.i=.q (.mv (aT x)):=by rw[ho] at hi;simpa[mK,RP] using hi.symm
   obtain ⟨fr',hK,v,hf',hrun⟩:=run (by unfold J.quiet;rw[hji])
   have hw:=hrun w hr0
   simp[execOp,ho] at hw
   subst hw
   exact ⟨fr',_,hK,hf',fun w=>by simp[execOp,ho]⟩
 · rename_i x ho
   have hji:j.i=.q (.mv (aT x)):=by rw[ho] at hi;simpa[mK,RP] using hi.symm
   obtain ⟨fr',hK,v,hf',hrun⟩:=run (by unfold J.quiet;rw[hji])
   have hw:=hrun w hr0
   simp[execOp,ho] at hw
   subst hw
   exact ⟨fr',_,hK,hf',fun w=>by simp[execOp,ho]⟩
 · rename_i t x y t' ho
   split at hop
   · rename_i k0 ht;exact bin .add t x y t' k0 ho ht (.inl rfl)
   · cases hop
 · rename_i t x y t' ho
   split at hop
   · rename_i k0 ht;exact bin .sub t x y t' k0 ho ht (.inr rfl)
   · cases hop
 · cases hop
theorem C4 {n:Nat} {ls:List Nat} {l:Array Bool} (hs:BJ ops n ls=true) (hc:Region.chainB .any ops n=true) (hn:n<ops.size) (inv:HeadInv .any ops n l) (hls:∀i∈ls,l.getD i false=true) :
 ∀(d i:Nat),n-i<=d->i<n->l.getD i true=false->∀t,n<=t->t ∉ Region.ready .any ops l:=by
 intro d
 induction d with
 |zero=>intro i h1 h2;omega
 |succ d ih=>
  intro i hd hi hun t ht hr
  have hni:l.getD i false=false:=getD_both hun
  have hil:ls.contains i=false:=by
   cases hq:ls.contains i with
   |false=>rfl
   |true=>have:=hls i (by simpa using hq);rw[hni] at this;cases this
  obtain ⟨_,ot,hot,hall⟩:=mem_ready.1 hr
  have htlt:t<ops.size:=(mQ.1 hot).1
  rcases bB n t with hnt|hnt
  · have h1:=nN.1 hc t (oQ.2 htlt)
    simp only[fB,fU] at h1
    have h2:Region.waitsFor .any ops t (t-1)=true:=by
     rcases h1 with h|h
     · omega
     · exact h
    obtain ⟨o',ho',e,he,hb,hon⟩:=Region.waitsFor_spec h2
    cases hot.symm.trans ho'
    have:=hall e he hb
    rw[hon,getD_both (inv.tail (t-1) (by omega) (by omega))] at this
    cases this
  · obtain rfl:t=n:=by omega
    have h1:=nN.1 hs i (oQ.2 hi)
    rw[hil,bK] at h1
    obtain ⟨j,hj,hj2⟩:=iY.1 h1
    simp only[bI,fU] at hj2
    obtain ⟨⟨hij,hjl⟩,hw⟩:=hj2
    obtain ⟨oj,hoj,e,he,hb,hon⟩:=Region.waitsFor_spec hw
    have hjle:j<=t:=by have:=oQ.1 hj;omega
    rcases bB j t with hjt|hjt
    · cases hlj:l.getD j false with
      |true=>have:=inv.closed j oj hoj hlj e he hb;rw[hon,hni] at this;cases this
      |false=>exact ih j (by omega) hjt (getD_in (by rw[inv.size];omega) hlj) t (bE _) hr
    · obtain rfl:j=t:=by omega
      cases hoj.symm.trans hot
      have:=hall e he hb
      rw[hon,hni] at this;cases this
def yX (P:Program) (ops:Array Oper) (C:World->Prop) (n:Nat) (L:Array Bool->Act->Prop):Nat->Array Bool->Act->Prop
 |0,l,a=>L l a
 |f+1,l,a=>Region.ready .any ops l≠[]/\∀i∈Region.ready .any ops l,i<n/\qOp P ops C i (yX P ops C n L f (l.setIfInBounds i true)) a
theorem FR {n g:Nat} {C:World->Prop} {L:Array Bool->Act->Prop} {Q':Exit->Act->World->Prop} (hL:∀l a w,C w->L l a->wpAny P .any ops Q' g l a w) :
 ∀(f:Nat) (l:Array Bool) (a:Act) (w:World),C w->yX P ops C n L f l a->wpAny P .any ops Q' (f+g) l a w
 |0,l,a,w,hw,h=>by rw[gJ];exact hL _ _ _ hw h
 |f+1,l,a,w,hw,h=>by
  rw[show f+1+g=(f+g)+1 by omega]
  exact ⟨fun h0=>absurd h0 h.1,fun i hi=>wpOp_of_qOp hw (fun a' w' hw' h'=>FR hL f _ a' w' hw' h') (h.2 i hi).2⟩
theorem ZE {n i:Nat} {ls:List Nat} {oi:Oper} {v:Value} {C:World->Prop} {L:Array Bool->Act->Prop} (hi:ops[i]? = some oi) (hsel:∀(j:Nat) (o:Oper) cs b,ops[j]? = some o->o.op≠.select cs b)
 (hs:BJ ops n ls=true) (hc:Region.chainB .any ops n=true) (hn:n<ops.size) (hin:i<n) (hL:∀l a,L l a->∀j∈Region.ready .any ops l,n<=j) :
 ∀(f:Nat) (l:Array Bool) (a:Act),HeadInv .any ops n l->(∀k∈ls,l.getD k false=true)->
  (∀j oj,ops[j]? = some oj->j≠i->l.getD j true=false->(∀e∈oj.after,Region.binds .any e=true->e.on≠i)->oi.apart ops oj=true)->
  i∈Region.ready .any ops l->YieldsIn P ops C oi v a->yX P ops C n L f (l.setIfInBounds i true) (a.put oi.dst v)->yX P ops C n L (f+1) l a:=by
 intro f
 induction f with
 |zero=>
  intro l a inv hls _ hr hy H
  have hun:=(mem_ready.1 hr).1
  refine ⟨fun h=>(by rw[h] at hr;cases hr),fun j hj=>?_⟩
  have hjn:j<n:=aDR fun h=>C4 hs hc hn inv hls _ i (bE _) hin hun j h hj
  by_cases hji:j=i
  · subst hji;exact ⟨hjn,hy.qOp hi H⟩
  · have:=hL _ _ H j (ready_mono hj hji);omega
 |succ f ih=>
  intro l a inv hls hfree hr hy H
  have hun:=(mem_ready.1 hr).1
  refine ⟨fun h=>(by rw[h] at hr;cases hr),fun j hj=>?_⟩
  have hjn:j<n:=aDR fun h=>C4 hs hc hn inv hls _ i (bE _) hin hun j h hj
  by_cases hji:j=i
  · subst hji;exact ⟨hjn,hy.qOp hi H⟩
  · obtain ⟨hjun,oj,hoj,hall⟩:=mem_ready.1 hj
    have hno:∀e∈oj.after,Region.binds .any e=true->e.on≠i:=fun e he hb heq=>by
     have:=hall e he hb
     rw[heq,getD_both hun] at this;cases this
    have hnext:=qOp_put hoj (hfree j oj hoj hji hjun hno) (fun cs b=>hsel i oi cs b hi) (fun cs b=>hsel j oj cs b hoj) hy (H.2 j (ready_mono hj hji)).2
    refine ⟨hjn,qOp_mono (fun a' h3=>ih (l.setIfInBounds j true) a' (inv.set hj hjn) (fun k hk=>getD_set_true (hls k hk)) (fun k ok hk hki hku hkn=>hfree k ok hk hki ?_ hkn) (ready_mono hr (Ne.symm hji)) h3.1 ?_) hnext⟩
    · by_cases hjk:j=k
      · subst hjk;exact hjun
      · rwa [getD_set_ne true hjk] at hku
    · rw[UD _ _ hji];exact h3.2
theorem TD {n:Nat} {ls:List Nat} {C:World->Prop} {Lq:Act->Prop} (hsel:Region.noSelect ops=true) (hs:BJ ops n ls=true) (hc:Region.chainB .any ops n=true) (hn:n<ops.size) :
 ∀(is:List Nat) (l:Array Bool) (a:Act),HeadInv .any ops n l->(∀k∈ls,l.getD k false=true)->F6 ops n is l=true->wpQuiet P ops C Lq (hY ops.toList is) a->
  yX P ops C n (fun l' a'=>Region.seqB .any ops (ops.size-n) n l'=true/\Lq a') is.length l a
 |[],l,a,_,_,hB,h=>⟨hB,h⟩
 |k::is,l,a,inv,hls,hB,h=>by
  simp only[F6,bI,fU] at hB
  obtain ⟨⟨⟨hkn,hr⟩,hfr⟩,hB'⟩:=hB
  have hr':k∈Region.ready .any ops l:=by simpa using hr
  have h0:ops[k]? = some ops[k]:=nO (by omega)
  have hpk:hY ops.toList (k::is)=ops[k]::hY ops.toList is:=by
   unfold hY
   rw[UE]
   simp[show k<ops.size by omega]
  rw[hpk] at h
  have hst:qOp P ops C k (wpQuiet P ops C Lq (hY ops.toList is)) a:=by unfold qOp;simp only[h0];exact h
  obtain ⟨v,hy,hK⟩:=yieldsIn_of_qOp h0 hst
  exact ZE h0 (Region.noSelect_spec hsel) hs hc hn hkn (fun l' a' hL=>seqB_ready hL.1) is.length l a inv hls (Region.free_spec h0 hfr) hr' hy
   (TD hsel hs hc hn is _ _ (inv.set hr' hkn) (fun k hk=>getD_set_true (hls k hk)) hB' hK)
def ZB (P:Program) (nw:Bool) (N:Nat) (ops:Array Oper) (is:List Nat) (js:List J):Prop:=All2 (fun i j=>∃o σ,ops[i]? = some o/\xY P nw N ops σ o=some j) is js
theorem xG (hm:MeetsIn P X Γ) {L:Act->Prop} {w0:World}:∀(is:List Nat) (js rest:List J),ZB P nw N ops is js->(∀j∈js,j.quietC=true)->∀(fr:Fr) (a:Act) (K:Fr->Hp->Prop),FRel N (gm E) ro fr a->Rel X E ro w0->
 vR Γ (js++rest) fr (hp E) K->(∀fr' a',FRel N (gm E) ro fr' a'->vR Γ rest fr' (hp E) K->L a')->wpQuiet P ops (Rel X E ro) L (hY ops.toList is) a
 |[],js,rest,ht,_,fr,a,K,hf,hr,hv,hL=>by
  obtain rfl:=All2.nil_inv ht
  exact hL _ _ hf hv
 |i::is,js,rest,ht,hq,fr,a,K,hf,hr,hv,hL=>by
  obtain ⟨j,js',rfl,⟨o,σ,ho,h1⟩,h2⟩:=All2.cons_inv ht
  have hpk:hY ops.toList (i::is)=o::hY ops.toList is:=by
   unfold hY
   rw[UE]
   simp[ho]
  rw[hpk]
  simp only[sG,vR] at hv
  obtain ⟨fr',hK,hs⟩:=CX hf hm hr h1 (hq j (by simp)) hv
  simp only[wpQuiet]
  split
  · rename_i hw
    simp only[hw,if_true] at hs
    obtain ⟨v,hf',hrun⟩:=hs
    exact ⟨v,hrun,xG hm is js' rest h2 (fun y hy=>hq y (by simp[hy])) fr' _ K hf' hr hK hL⟩
  · rename_i hw
    rw[if_neg hw] at hs
    exact xG hm is js' rest h2 (fun y hy=>hq y (by simp[hy])) fr' _ K hs hr hK hL
theorem FF {Q':Exit->Act->World->Prop} (hnp:∀c a w,¬ Q' (.panic c) a w) (hsel:Region.noSelect ops=true) {Y:Ctx} {f:Nat}:∀(is:List Nat) (js rest:List J) (l:Array Bool),ZB P nw N ops is js->(∀i∈is,∀o,ops[i]? = some o->B9 P o=true)->
 tU ops is l=true->∀(fr:Fr) (a:Act) (K:Fr->Hp->Prop),FRel N (gm E) ro fr a->Rel Y E ro w->vR Γ (js++rest) fr (hp E) K->
 (∀fr' a',FRel N (gm E) ro fr' a'->vR Γ rest fr' (hp E) K->wpAny P .any ops Q' f (IB is l) a' w)->wpAny P .any ops Q' (is.length+f) l a w
 |[],js,rest,l,ht,_,_,fr,a,K,hf,hr,hv,hL=>by
  obtain rfl:=All2.nil_inv ht
  rw[dZ,gJ]
  exact hL _ _ hf hv
 |i::is,js,rest,l,ht,hpu,hB,fr,a,K,hf,hr,hv,hL=>by
  obtain ⟨j,js',rfl,⟨o,σ,ho,h1⟩,h2⟩:=All2.cons_inv ht
  simp only[tU,bI] at hB
  obtain ⟨⟨hrd,hfr⟩,hB'⟩:=hB
  simp only[sG,vR] at hv
  obtain ⟨fr',v,hK,hf',hrun⟩:=aF7 hf hr h1 (hpu i (by simp) o ho) hv
  have hgn:o.guard=none:=by
   have:=hpu i (by simp) o ho
   unfold B9 at this
   rw[bI] at this
   simpa using this.1
  rw[bP,show is.length+1+f=(is.length+f)+1 by omega]
  exact wpAny_take ho hsel hfr hrd (fun c a w h=>absurd h (hnp _ _ _)) (.inl ⟨gS hgn _,hrun⟩)
   (FF hnp hsel is js' rest _ h2 (fun k hk=>hpu k (by simp[hk])) hB' fr' _ K hf' hr hK hL)
end
section
variable {P:Program} {ops:Array Oper} {C:World->Prop}
def sOp (P:Program) (ops:Array Oper) (C:World->Prop) (i:Nat) (K:Act->Prop) (a:Act):Prop:=
 match ops[i]? with
 |none=>K a
 |some o=>if Region.wanted o (yielded ops a.tmps) then ∃v,(∀w,C w->(execOp a.eval o).run P w=.ok (.value v) w)/\K (a.put o.dst v) else K (a.put o.dst undef)
def SYields (P:Program) (ops:Array Oper) (C:World->Prop) (o:Oper) (v:Value) (a:Act):Prop:=
 (Region.wanted o (yielded ops a.tmps)=true/\∀w,C w->(execOp a.eval o).run P w=.ok (.value v) w)\/
 (Region.wanted o (yielded ops a.tmps)=false/\v=undef)
theorem SYields.sOp {i:Nat} {o:Oper} {v:Value} {a:Act} (hi:ops[i]? = some o) (hy:SYields P ops C o v a) {K:Act->Prop} (h:K (a.put o.dst v)):sOp P ops C i K a:=by
 unfold W.sOp
 simp only[hi]
 rcases hy with ⟨hw,hv⟩|⟨hw,rfl⟩
 · simp only[hw,if_true];exact ⟨v,hv,h⟩
 · simp only[hw,qQ,if_false];exact h
theorem I5 {i:Nat} {o:Oper} {a:Act} {K:Act->Prop} (hi:ops[i]? = some o) (h:sOp P ops C i K a):∃v,SYields P ops C o v a/\K (a.put o.dst v):=by
 unfold sOp at h
 simp only[hi] at h
 by_cases hw:Region.wanted o (yielded ops a.tmps)=true
 · simp only[hw,if_true] at h
   obtain ⟨v,h1,h2⟩:=h
   exact ⟨v,.inl ⟨hw,h1⟩,h2⟩
 · simp only[hw] at h
   exact ⟨undef,.inr ⟨by simpa using hw,rfl⟩,h⟩
theorem SYields.of_same {o:Oper} {v:Value} {a a':Act} (hy:SYields P ops C o v a) (he:execOp a'.eval o=execOp a.eval o)
 (hw:Region.wanted o (yielded ops a'.tmps)=Region.wanted o (yielded ops a.tmps)):SYields P ops C o v a':=by
 unfold SYields at *
 rw[he,hw]
 exact hy
theorem aGT {i:Nat} {a:Act} {K K':Act->Prop} (h:∀a,K a->K' a) (hh:sOp P ops C i K a):sOp P ops C i K' a:=by
 unfold sOp at *
 split
 · exact h _ (by simpa[*] using hh)
 · rename_i o ho
   simp only[ho] at hh
   split
   · rename_i hw;simp only[hw,if_true] at hh;obtain ⟨v,h1,h2⟩:=hh;exact ⟨v,h1,h _ h2⟩
   · rename_i hw;simp only[hw] at hh;exact h _ hh
theorem FP {i:Nat} {a:Act} {K:Act->Prop} {K':Act->World->Prop} {Q':Exit->Act->World->Prop} {w:World} (hC:C w) (h:∀a,K a->K' a w) (hh:sOp P ops C i K a):wpOp P ops Q' i K' a w:=by
 unfold sOp at hh
 unfold wpOp
 split
 · rename_i ho;simp only[ho] at hh;exact h _ hh
 · rename_i o ho
   simp only[ho] at hh
   split
   · rename_i hw
     simp only[hw,if_true] at hh
     obtain ⟨v,h1,h2⟩:=hh
     refine .inl ?_
     unfold Oper.wp
     rw[h1 w hC]
     exact h _ h2
   · rename_i hw;simp only[hw] at hh;exact h _ hh
theorem aOF {j:Nat} {oi oj:Oper} {v:Value} (hj:ops[j]? = some oj) (hap:oi.apart ops oj=true)
 (hsi:∀cs b,oi.op≠.select cs b) (hsj:∀cs b,oj.op≠.select cs b) {K:Act->Prop} {a:Act}
 (hy:SYields P ops C oi v a) (h:sOp P ops C j K (a.put oi.dst v)) :
 sOp P ops C j (fun a'=>SYields P ops C oi v a'/\K (a'.put oi.dst v)) a:=by
 obtain ⟨h1,h2,h3⟩:=Oper.apart_spec hap
 have keep:∀(a:Act),SYields P ops C oi v a->∀u,SYields P ops C oi v (a.put oj.dst u):=fun a hy u=>
  hy.of_same (execOp_put oi hsi a oj.dst u h3) (wanted_put oi a oj.dst u h3)
 unfold sOp at *
 simp only[hj] at *
 rw[wanted_put oj a oi.dst v h1] at h
 split
 · rename_i hw
   simp only[hw,if_true] at h
   obtain ⟨u,hu,hn⟩:=h
   refine ⟨u,fun w hw'=>?_,keep a hy u,by rw[<-Act.put_comm a v u h2];exact hn⟩
   have:=hu w hw'
   rwa [execOp_put oj hsj a oi.dst v h1] at this
 · rename_i hw
   simp only[hw] at h
   exact ⟨keep a hy _,by rw[<-Act.put_comm a v undef h2];exact h⟩
theorem aFQ {j:Nat} {oi oj:Oper} {v:Value} (hj:ops[j]? = some oj) (hap:oi.apart ops oj=true) (hsj:∀cs b,oj.op≠.select cs b) {K:Act->Prop} {a:Act}
 (h:sOp P ops C j K a):sOp P ops C j (fun a'=>∃a0,a'=a0.put oi.dst v/\K a0/\∃u,a0=a.put oj.dst u) (a.put oi.dst v):=by
 obtain ⟨h1,h2,h3⟩:=Oper.apart_spec hap
 unfold sOp at *
 simp only[hj] at *
 rw[wanted_put oj a oi.dst v h1]
 split
 · rename_i hw
   simp only[hw,if_true] at h
   obtain ⟨u,hu,hn⟩:=h
   refine ⟨u,fun w hw'=>?_,_,Act.put_comm a v u h2,hn,u,rfl⟩
   rw[execOp_put oj hsj a oi.dst v h1]
   exact hu w hw'
 · rename_i hw
   simp only[hw] at h
   exact ⟨_,Act.put_comm a v undef h2,h,undef,rfl⟩
def wK (P:Program) (ops:Array Oper) (C:World->Prop) (n:Nat) (L:Array Bool->Act->Prop):Nat->Array Bool->Act->Prop
 |0,l,a=>L l a
 |f+1,l,a=>(∃i∈Region.ready .any ops l,i<n)/\∀i∈Region.ready .any ops l,i<n->sOp P ops C i (wK P ops C n L f (l.setIfInBounds i true)) a
theorem UN {n i:Nat} {oi:Oper} {v:Value} {L:Array Bool->Act->Prop} (hi:ops[i]? = some oi) (hsel:∀(j:Nat) (o:Oper) cs b,ops[j]? = some o->o.op≠.select cs b)
 (hin:i<n) (hL:∀l a,L l a->∀j∈Region.ready .any ops l,n<=j) :
 ∀(f:Nat) (l:Array Bool) (a:Act),
  (∀j oj,ops[j]? = some oj->j≠i->l.getD j true=false->(∀e∈oj.after,Region.binds .any e=true->e.on≠i)->oi.apart ops oj=true)->
  i∈Region.ready .any ops l->SYields P ops C oi v a->wK P ops C n L f (l.setIfInBounds i true) (a.put oi.dst v)->wK P ops C n L (f+1) l a:=by
 intro f
 induction f with
 |zero=>
  intro l a _ hr hy H
  refine ⟨⟨i,hr,hin⟩,fun j hj hjn=>?_⟩
  by_cases hji:j=i
  · subst hji;exact hy.sOp hi H
  · have:=hL _ _ H j (ready_mono hj hji);omega
 |succ f ih=>
  intro l a hfree hr hy H
  have hun:=(mem_ready.1 hr).1
  refine ⟨⟨i,hr,hin⟩,fun j hj hjn=>?_⟩
  by_cases hji:j=i
  · subst hji;exact hy.sOp hi H
  · obtain ⟨hjun,oj,hoj,hall⟩:=mem_ready.1 hj
    have hno:∀e∈oj.after,Region.binds .any e=true->e.on≠i:=fun e he hb heq=>by
     have:=hall e he hb
     rw[heq,getD_both hun] at this;cases this
    have hnext:=aOF hoj (hfree j oj hoj hji hjun hno) (fun cs b=>hsel i oi cs b hi) (fun cs b=>hsel j oj cs b hoj) hy (H.2 j (ready_mono hj hji) hjn)
    refine aGT (fun a' h3=>ih (l.setIfInBounds j true) a' (fun k ok hk hki hku hkn=>hfree k ok hk hki ?_ hkn) (ready_mono hr (Ne.symm hji)) h3.1 ?_) hnext
    · by_cases hjk:j=k
      · subst hjk;exact hjun
      · rwa [getD_set_ne true hjk] at hku
    · rw[UD _ _ hji];exact h3.2
def wpS (P:Program) (ops:Array Oper) (C:World->Prop) (L:Act->Prop):List Nat->Act->Prop
 |[],a=>L a
 |i::is,a=>sOp P ops C i (wpS P ops C L is) a
theorem ON {n:Nat} {Lq:Act->Prop} (hsel:Region.noSelect ops=true) (hn:n<ops.size) :
 ∀(is:List Nat) (l:Array Bool) (a:Act),F6 ops n is l=true->wpS P ops C Lq is a->
  wK P ops C n (fun l' a'=>Region.seqB .any ops (ops.size-n) n l'=true/\Lq a') is.length l a
 |[],l,a,hB,h=>⟨hB,h⟩
 |k::is,l,a,hB,h=>by
  simp only[F6,bI,fU] at hB
  obtain ⟨⟨⟨hkn,hr⟩,hfr⟩,hB'⟩:=hB
  have hr':k∈Region.ready .any ops l:=by simpa using hr
  have h0:ops[k]? = some ops[k]:=nO (by omega)
  obtain ⟨v,hy,hK⟩:=I5 h0 h
  exact UN h0 (Region.noSelect_spec hsel) hkn (fun l' a' hL=>seqB_ready hL.1) is.length l a (Region.free_spec h0 hfr) hr' hy
   (ON hsel hn is _ _ hB' hK)
theorem NS {n:Nat} {on:Oper} {L:Array Bool->Act->Prop} (hsel:∀(j:Nat) (o:Oper) cs b,ops[j]? = some o->o.op≠.select cs b) (hon:ops[n]? = some on)
 (hap:∀j oj,ops[j]? = some oj->j<n->(∀e∈on.after,Region.binds .any e=true->e.on≠j)->on.apart ops oj=true) :
 ∀(f:Nat) (l:Array Bool) (a:Act),n∈Region.ready .any ops l->wK P ops C n L f l a->∃l' a',L l' a'/\execOp a'.eval on=execOp a.eval on
 |0,l,a,_,h=>⟨l,a,h,rfl⟩
 |f+1,l,a,hr,⟨⟨i,hi,hin⟩,h⟩=>by
  obtain ⟨hun,oi,hoi,_⟩:=mem_ready.1 hi
  obtain ⟨_,on',hon',hall⟩:=mem_ready.1 hr
  cases hon.symm.trans hon'
  have hno:∀e∈on.after,Region.binds .any e=true->e.on≠i:=fun e he hb heq=>by
   have:=hall e he hb
   rw[heq,getD_both hun] at this;cases this
  obtain ⟨_,_,h3⟩:=Oper.apart_spec (hap i oi hoi hin hno)
  obtain ⟨v,_,hK⟩:=I5 hoi (h i hi hin)
  obtain ⟨l',a',h4,h5⟩:=NS hsel hon hap f _ _ (ready_mono hr (by omega)) hK
  exact ⟨l',a',h4,h5.trans (execOp_put on (fun cs b=>hsel n on cs b hon) a oi.dst v h3)⟩
theorem aB8 {n g:Nat} {on:Oper} {L:Array Bool->Act->Prop} {Q':Exit->Act->World->Prop} {v:Value} {w1:World} {S0:Sem Next} (hsel:∀(j:Nat) (o:Oper) cs b,ops[j]? = some o->o.op≠.select cs b) (hon:ops[n]? = some on)
 (hap:∀j oj,ops[j]? = some oj->j<n->(∀e∈on.after,Region.binds .any e=true->e.on≠j)->on.apart ops oj=true)
 (hnw:∀j oj,ops[j]? = some oj->j<n->∀e∈oj.after,Region.binds .any e=true->e.on≠n)
 (hs:BJ ops (n+1) []=true) (hc:Region.chainB .any ops (n+1)=true) (hn:n+1<ops.size) (hC1:C w1)
 (hL1:∀l a,L l a->execOp a.eval on=S0->wpAny P .any ops Q' g (l.setIfInBounds n true) (a.put on.dst v) w1) :
 ∀(f:Nat) (l:Array Bool) (a:Act),HeadInv .any ops (n+1) (l.setIfInBounds n true)->n∈Region.ready .any ops l->wK P ops C n L f l a->execOp a.eval on=S0->wpAny P .any ops Q' (f+g) (l.setIfInBounds n true) (a.put on.dst v) w1
 |0,l,a,_,_,h,he=>by rw[gJ];exact hL1 l a h he
 |f+1,l,a,inv,hr,⟨⟨i,hi,hin⟩,h⟩,he=>by
  rw[show f+1+g=(f+g)+1 by omega]
  have hi':=ready_mono (i:=n) hi (by omega)
  refine ⟨fun h0=>(by rw[h0] at hi';cases hi'),fun j hj=>?_⟩
  obtain ⟨hjun,oj,hoj,hall⟩:=mem_ready.1 hj
  rcases aDS j n with hjn|hjn|hjn
  · have hjun':l.getD j true=false:=by rwa [getD_set_ne true (by omega)] at hjun
    have hjl:j∈Region.ready .any ops l:=mem_ready.2 ⟨hjun',oj,hoj,fun e he' hb=>by
     have:=hall e he' hb
     rwa [getD_set_ne false (Ne.symm (hnw j oj hoj hjn e he' hb))] at this⟩
    obtain ⟨_,on',hon',halln⟩:=mem_ready.1 hr
    cases hon.symm.trans hon'
    have hno:∀e∈on.after,Region.binds .any e=true->e.on≠j:=fun e he' hb heq=>by
     have:=halln e he' hb
     rw[heq,getD_both hjun'] at this;cases this
    have hap':=hap j oj hoj hjn hno
    obtain ⟨_,_,h3⟩:=Oper.apart_spec hap'
    refine FP hC1 ?_ (aFQ hoj hap' (fun cs b=>hsel j oj cs b hoj) (h j hjl hjn))
    rintro a' ⟨a0,rfl,h4,u,rfl⟩
    have hcm:(l.setIfInBounds n true).setIfInBounds j true=(l.setIfInBounds j true).setIfInBounds n true:=UD _ _ (by omega)
    rw[hcm]
    refine aB8 hsel hon hap hnw hs hc hn hC1 hL1 f _ _ ?_ (ready_mono hr (by omega)) h4 ((execOp_put on (fun cs b=>hsel n on cs b hon) a oj.dst u h3).trans he)
    rw[<-hcm]
    exact inv.set hj (by omega)
  · subst hjn
    exfalso
    rcases bB j l.size with h'|h'<;>simp[h'] at hjun
  · exact absurd hj (C4 hs hc hn inv (fun k hk=>by cases hk) _ i (bE _) (by omega) (mem_ready.1 hi').1 j hjn)
theorem aCC {n g:Nat} {on:Oper} {L:Array Bool->Act->Prop} {Q':Exit->Act->World->Prop} (hQ:∀c a w,¬ Q' (.panic c) a w) (hsel:∀(j:Nat) (o:Oper) cs b,ops[j]? = some o->o.op≠.select cs b) (hon:ops[n]? = some on) (hgd:on.guard=none)
 (hap:∀j oj,ops[j]? = some oj->j<n->(∀e∈on.after,Region.binds .any e=true->e.on≠j)->on.apart ops oj=true)
 (hnw:∀j oj,ops[j]? = some oj->j<n->∀e∈oj.after,Region.binds .any e=true->e.on≠n)
 (hs:BJ ops (n+1) []=true) (hc0:Region.chainB .any ops n=true) (hc:Region.chainB .any ops (n+1)=true) (hn:n+1<ops.size)
 (hgrow:∀(a:Act) w r w1,C w->(execOp a.eval on).run P w=.ok r w1->(∃v,r=.value v)/\C w1)
 (hL0:∀l a w,C w->L l a->wpAny P .any ops Q' (g+1) l a w)
 (hL2:∀l a w,C w->L l a->on.wp P a w (fun a' w'=>wpAny P .any ops Q' g (l.setIfInBounds n true) a' w') Q') :
 ∀(f:Nat) (l:Array Bool) (a:Act) (w:World),C w->HeadInv .any ops n l->wK P ops C n L f l a->wpAny P .any ops Q' (f+(g+1)) l a w
 |0,l,a,w,hw,_,h=>by rw[gJ];exact hL0 l a w hw h
 |f+1,l,a,w,hw,inv,hH=>by
  obtain ⟨⟨i,hi,hin⟩,h⟩:=id hH
  rw[show f+1+(g+1)=(f+(g+1))+1 by omega]
  refine ⟨fun h0=>(by rw[h0] at hi;cases hi),fun j hj=>?_⟩
  obtain ⟨hjun,oj,hoj,hall⟩:=mem_ready.1 hj
  rcases aDS j n with hjn|hjn|hjn
  · exact FP hw (fun a' h'=>aCC hQ hsel hon hgd hap hnw hs hc0 hc hn hgrow hL0 hL2 f _ a' w hw (inv.set hj hjn) h') (h j hj hjn)
  · subst hjn
    cases hon.symm.trans hoj
    unfold wpOp
    simp only[hoj]
    rw[if_pos (gS hgd _)]
    refine .inl ?_
    obtain ⟨l',a',h4,h5⟩:=NS hsel hon hap (f+1) l a hj hH
    have h6:=hL2 l' a' w hw h4
    unfold Oper.wp at h6 ⊢
    rw[h5] at h6
    cases hrun:(execOp a.eval on).run P w with
    |ok r w1=>
     obtain ⟨⟨v,rfl⟩,hw1⟩:=hgrow a w r w1 hw hrun
     have inv2:HeadInv .any ops (j+1) (l.setIfInBounds j true):=HeadInv.set ⟨inv.size,inv.closed,fun t ht=>inv.tail t (by omega)⟩ hj (by omega)
     have:=aB8 (g:=g) (v:=v) (w1:=w1) (S0:=execOp a.eval on) hsel hon hap hnw hs hc hn hw1 (fun l2 a2 h7 h8=>by
      have h9:=hL2 l2 a2 w hw h7
      unfold Oper.wp at h9
      rw[h8,hrun] at h9
      exact h9) (f+1) l a inv2 hj hH rfl
     rw[show f+1+g=f+(g+1) by omega] at this
     exact this
    |halt x w1=>
     rw[hrun] at h6
     cases x<;>simp only[Oper.upon] at h6 ⊢
     case panic u=>exact absurd h6 (hQ _ _ _)
  · exfalso
    have h1:=nN.1 hc0 j (oQ.2 (mQ.1 hoj).1)
    simp only[fB,fU] at h1
    have h2:Region.waitsFor .any ops j (j-1)=true:=by
     rcases h1 with h|h
     · omega
     · exact h
    obtain ⟨o',ho',e,he,hb,hon'⟩:=Region.waitsFor_spec h2
    cases hoj.symm.trans ho'
    have:=hall e he hb
    rw[hon',getD_both (inv.tail (j-1) (by omega) (by have:=(mQ.1 hoj).1;omega))] at this
    cases this
end
theorem FRel.weak {N:Nat} {γ:List Gb} {ro:RO} {fr fr2:Fr} {a:Act} (h:FRel N γ ro fr a) (hw:∀i,fr2 i=fr i\/fr2 i=.un):FRel N γ ro fr2 a:=
 ⟨h.size,fun i=>by rcases hw i with e|e<;>rw[e];exact h.slot i;trivial,h.defers⟩
theorem fO {f1 f2:Fr}:∀{l:List Nat},(∀i∈l,f1 i=f2 i)->cZ f1 l=cZ f2 l
 |[],_=>rfl
 |i::r,h=>by
  simp only[cZ]
  rw[h i (by simp),fO (l:=r) fun k hk=>h k (by simp[hk])]
theorem m4 {f1 f2:Fr} {l:List Nat} (h:∀i∈l,f1 i=f2 i):∀i∈l,fst f1 i=fst f2 i:=fun i hi=>by
 unfold fst;rw[h i hi]
theorem aGP {f1 f2:Fr} {H:Hp} {i:LI} (h:∀j∈i.sl,f1 j=f2 j):lq f1 H i=lq f2 H i:=by
 cases i with
 |ia sz x y=>rfl
 |lk kd z ok x k=>rfl
 |lm x=>rfl
 |ld1 x=>simp only[lq,bD (o:=x) (fun j hj=>h j hj)]
 |ldn n x=>simp only[lq,bD (o:=x) (fun j hj=>h j hj)]
section
variable {Γ:eX} {H:Hp} {j:J} {K1 K2:Fr->Hp->Prop}
theorem aFK {i:I} {f1 f2:Fr} {R1 R2:S->Hp->Prop} (h:∀k∈i.sl,f1 k=f2 k) (hR:R1=R2):vI Γ f1 H R1 i=vI Γ f2 H R2 i:=by
 subst hR
 cases i with
 |e i=>
  simp only[vI]
  rw[show cZ f1 i.sl=cZ f2 i.sl from fO h,VE (m4 h)]
 |cl f xs σ=>
  simp only[vI]
  have e:(xs.map fun o=>ev (fst f1) o)=xs.map fun o=>ev (fst f2) o:=by
   refine vU fun o ho=>bD fun k hk=>m4 h k ?_
   simp only[I.sl]
   clear h
   induction xs with
   |nil=>cases ho
   |cons x r ih=>
    simp only[O.sls,cL]
    rcases bU.1 ho with rfl|ho
    · exact .inl hk
    · exact .inr (ih ho)
  rw[show cZ f1 (O.sls xs)=cZ f2 (O.sls xs) from fO h,e]
 |ca x xs σ=>
  simp only[vI]
  have e:(xs.map fun o=>ev (fst f1) o)=xs.map fun o=>ev (fst f2) o:=by
   refine vU fun o ho=>bD fun k hk=>m4 h k ?_
   simp only[I.sl,cL]
   clear h
   induction xs with
   |nil=>cases ho
   |cons x r ih=>
    simp only[O.sls,cL]
    rcases bU.1 ho with rfl|ho
    · exact .inr (.inl hk)
    · rcases ih ho with h|h
      · exact .inl h
      · exact .inr (.inr h)
  have ex:ev (fst f1) x=ev (fst f2) x:=bD fun k hk=>m4 h k (by simp only[I.sl,cL];exact .inl hk)
  rw[fO (l:=x.sl++O.sls xs) h,e,ex]
 |_=>rfl
theorem U8 {o:O}:∀{xs:List O},o∈xs->∀k∈o.sl,k∈O.sls xs
 |[],ho,_,_=>by cases ho
 |x::r,ho,k,hk=>by
  simp only[O.sls,cL]
  rcases bU.1 ho with rfl|ho
  · exact .inl hk
  · exact .inr (U8 ho k hk)
theorem N3 {f:FuncId} {xs:List O} {g:Prop} {f1 f2:Fr} {R1 R2:A->Prop} (h:∀k∈O.sls xs,f1 k=f2 k) (hR:R1=R2):IL Γ f1 H f xs g R1=IL Γ f2 H f xs g R2:=by
 subst hR
 have e:(xs.map fun o=>((ev (fst f1) o).bor H).nf)=xs.map fun o=>((ev (fst f2) o).bor H).nf:=
  vU fun o ho=>by rw[bD fun k hk=>m4 h k (U8 ho k hk)]
 unfold IL
 rw[e,fO h]
theorem Z8 (R:Fr->Fr->Prop) (hA:∀f1 f2,R f1 f2->∀i∈j.rds,f1 i=f2 i)
 (hP:∀f1 f2 sl s,(∃w,j.g=some (sl,w))->R f1 f2->R (put f1 (some sl) s) (put f2 (some sl) s))
 (hK:∀f1 f2 s H',R f1 f2->K1 (put f1 j.d s) H'=K2 (put f2 j.d s) H') {f1 f2:Fr} (h:R f1 f2):vJ Γ f1 H K1 j=vJ Γ f2 H K2 j:=by
 obtain ⟨d,g,i⟩:=j
 simp only[J.rds] at hA
 simp only at hP hK
 have hs:∀{f1 f2:Fr},R f1 f2->∀k∈i.sl,f1 k=f2 k:=fun hR k hk=>hA _ _ hR k (jV _ hk)
 have hI:∀{f1 f2:Fr},R f1 f2->vI Γ f1 H (fun s H'=>K1 (put f1 d s) H') i=vI Γ f2 H (fun s H'=>K2 (put f2 d s) H') i:=fun {f1 f2} hR=>
  aFK (hs hR) (funext fun s=>funext fun H'=>hK f1 f2 s H' hR)
 have hsl:=hs h
 have hfs:=m4 hsl
 have hgd:=fO hsl
 unfold vJ
 cases g with
 |none=>
  simp only
  cases i with
  |q i=>
   obtain ⟨e1,e2⟩:=D3 (H:=H) (i:=i) hfs
   simp only[nV,e1,e2]
   rw[show cZ f1 i.sl=cZ f2 i.sl from hgd]
   split
   · rw[hK _ _ _ _ h]
   · rfl
  |ix x y=>
   have ex:ev (fst f1) x=ev (fst f2) x:=bD fun k hk=>hfs k (jW _ hk)
   have ey:ev (fst f1) y=ev (fst f2) y:=bD fun k hk=>hfs k (jV _ hk)
   simp only[nV,ex,ey]
   rw[show cZ f1 (x.sl++y.sl)=cZ f2 (x.sl++y.sl) from hgd]
   split
   · simp only[hK _ _ _ _ h]
   · rfl
  |l i=>
   simp only[nV]
   rw[show cZ f1 i.sl=cZ f2 i.sl from hgd,uJ hfs]
   simp only[hK _ _ _ _ h]
  |pick c x y=>
   have ec:ev (fst f1) c=ev (fst f2) c:=bD fun k hk=>hfs k (jW _ hk)
   have ex:ev (fst f1) x=ev (fst f2) x:=bD fun k hk=>hfs k (jV _ (jW _ hk))
   have ey:ev (fst f1) y=ev (fst f2) y:=bD fun k hk=>hfs k (jV _ (jV _ hk))
   simp only[nV,ec,ex,ey]
   rw[fO (l:=c.sl) fun k hk=>hsl k (jW _ hk),fO (l:=x.sl) fun k hk=>hsl k (jV _ (jW _ hk)),fO (l:=y.sl) fun k hk=>hsl k (jV _ (jV _ hk))]
   split
   · rw[hK _ _ _ _ h]
   · rfl
  |cq f xs=>exact N3 hsl (funext fun a=>hK _ _ _ _ h)
  |e i=>exact hI h
  |cl f xs σ=>exact hI h
  |ca x xs σ=>exact hI h
 |some gw=>
  obtain ⟨sl,want⟩:=gw
  simp only
  have hg0:f1 sl=f2 sl:=hA _ _ h sl (by simp)
  have hgv:gv f1 sl want=gv f2 sl want:=by unfold gv;rw[hg0]
  have hn:R (lM f1 sl want) (lM f2 sl want):=hP _ _ _ _ ⟨_,rfl⟩ h
  have hf:R (u4 f1 sl want) (u4 f2 sl want):=by
   unfold u4
   rw[hg0]
   split
   · exact hP _ _ _ _ ⟨_,rfl⟩ h
   · exact h
  rw[hgv]
  split
  · rfl
  · rename_i b hb
    have hIf:((b=true->vI Γ (lM f1 sl want) H (fun s H'=>K1 (put (lM f1 sl want) d s) H') i)/\(b=false->K1 (put (u4 f1 sl want) d dum) H))=((b=true->vI Γ (lM f2 sl want) H (fun s H'=>K2 (put (lM f2 sl want) d s) H') i)/\(b=false->K2 (put (u4 f2 sl want) d dum) H)):=by
     rw[hI hn,hK _ _ _ _ hf]
    cases i with
    |q i=>
     obtain ⟨e1,e2⟩:=D3 (H:=H) (i:=i) hfs
     simp only[l8,e1,e2]
     rw[show cZ f1 i.sl=cZ f2 i.sl from hgd]
     split<;>rw[hK _ _ _ _ h]
    |ix x y=>
     have ex:ev (fst f1) x=ev (fst f2) x:=bD fun k hk=>hfs k (jW _ hk)
     have ey:ev (fst f1) y=ev (fst f2) y:=bD fun k hk=>hfs k (jV _ hk)
     simp only[l8,ex,ey]
     rw[show cZ f1 (x.sl++y.sl)=cZ f2 (x.sl++y.sl) from hgd]
     split<;>simp only[hK _ _ _ _ h]
    |l i=>
     simp only[l8]
     rw[aGP hfs,show cZ f1 i.sl=cZ f2 i.sl from hgd]
     split
     · rw[hK _ _ _ _ h]
     · have e1:cZ (lM f1 sl want) i.sl=cZ (lM f2 sl want) i.sl:=fO (hs hn)
       rw[e1,uJ (m4 (hs hn)),hK _ _ _ _ hf]
       simp only[hK _ _ _ _ hn]
    |pick c x y=>
     have ec:ev (fst f1) c=ev (fst f2) c:=bD fun k hk=>hfs k (jW _ hk)
     have ex:ev (fst f1) x=ev (fst f2) x:=bD fun k hk=>hfs k (jV _ (jW _ hk))
     have ey:ev (fst f1) y=ev (fst f2) y:=bD fun k hk=>hfs k (jV _ (jV _ hk))
     simp only[l8,ec,ex,ey]
     rw[fO (l:=c.sl) fun k hk=>hsl k (jW _ hk),fO (l:=x.sl) fun k hk=>hsl k (jV _ (jW _ hk)),fO (l:=y.sl) fun k hk=>hsl k (jV _ (jV _ hk))]
     split<;>rw[hK _ _ _ _ h]
    |cq f xs=>exact N3 hsl (funext fun a=>hK _ _ _ _ h)
    |e i=>exact hIf
    |cl f xs σ=>exact hIf
    |ca x xs σ=>exact hIf
end
theorem V5 {fr:Fr} {H:Hp} {i:LI} {Φ:S->Prop} (h:vL fr H i Φ):∃s,Φ s/\vL fr H i (fun s'=>s'=s):=by
 cases i with
 |ia sz x y=>
  simp only[vL] at h ⊢
  split at h
  · exact ⟨_,h.2,h.1,rfl⟩
  · rename_i xs _ k hx hy
    obtain ⟨⟨h1,h2⟩,h3⟩:=h
    have hk:xs[k.toNat]? = some xs[k.toNat]:=aX (by omega)
    exact ⟨_,h3 _ hk,⟨h1,h2⟩,fun r hr=>by rw[hk] at hr;rw[dV hr]⟩
  · exact h.elim
 |lk kd z ok x k=>
  simp only[vL] at h ⊢
  split at h
  · split at h
    · exact ⟨_,h.2,h.1,rfl⟩
    · exact h.elim
  · exact h.elim
 |lm x=>
  simp only[vL] at h ⊢
  split at h
  · split at h
    · exact ⟨_,h,rfl⟩
    · exact h.elim
  · exact h.elim
 |ld1 x=>
  simp only[vL] at h ⊢
  split at h
  · split at h
    · split at h
      · exact ⟨_,h,rfl⟩
      · exact h.elim
    · exact h.elim
  · split at h
    · rename_i xs T sz' hH
      obtain ⟨h1,h3⟩:=h
      have hk:=aX h1.2.2
      have:=h3 _ hk
      split at this
      · rename_i c hc
        refine ⟨_,this,h1,fun r hr=>?_⟩
        rw[hk] at hr
        rw[<-dV hr,hc]
      · exact this.elim
    · rename_i xs T sz' hH
      obtain ⟨h1,h3⟩:=h
      have hk:=aX h1.2.2
      have:=h3 _ hk
      split at this
      · rename_i c hc
        refine ⟨_,this,h1,fun r hr=>?_⟩
        rw[hk] at hr
        rw[<-dV hr,hc]
      · exact this.elim
    · exact h.elim
  · split at h
    · exact ⟨_,h,rfl⟩
    · exact h.elim
  · exact h.elim
 |ldn n x=>
  simp only[vL] at h ⊢
  split at h
  · split at h
    · exact ⟨_,h.2,h.1,rfl⟩
    · exact h.elim
  · split at h
    · obtain ⟨h1,h3⟩:=h
      have hk:=aX h1.2.2
      obtain ⟨h4,h5⟩:=h3 _ hk
      refine ⟨_,h5,h1,fun r hr=>?_⟩
      rw[hk] at hr
      rw[<-dV hr]
      exact ⟨h4,rfl⟩
    · obtain ⟨h1,h3⟩:=h
      have hk:=aX h1.2.2
      obtain ⟨h4,h5⟩:=h3 _ hk
      refine ⟨_,h5,h1,fun r hr=>?_⟩
      rw[hk] at hr
      rw[<-dV hr]
      exact ⟨h4,rfl⟩
    · exact h.elim
  · exact ⟨_,h.2,h.1,rfl⟩
  · exact h.elim
theorem gA (fr:Fr) (d:Nat) (s:S):put fr (some d) s d=s:=by simp[put]
theorem aPA {Γ:eX} {fr:Fr} {H:Hp} {j:J} {d:Nat} (hd:j.d=some d) (hq:j.quiet=true) (hx:j.gix=false) {Φ:S->Prop} (h:vJ Γ fr H (fun fr' _=>Φ (fr' d)) j):∃s,Φ s/\vJ Γ fr H (fun fr' _=>fr' d=s) j:=by
 obtain ⟨d',g,i⟩:=j
 simp only at hd
 subst hd
 unfold vJ at h ⊢
 cases g with
 |none=>
  simp only at h ⊢
  cases i with
  |q i=>
   simp only[nV] at h ⊢
   split at h
   · rename_i s hs
     obtain ⟨h1,h2,h3⟩:=h
     rw[gA] at h3
     exact ⟨s,h3,h1,h2,gA _ _ _⟩
   · exact h.elim
  |ix x y=>
   simp only[nV] at h ⊢
   split at h
   · rename_i s _ k hx hy
     obtain ⟨⟨h0,h1,h2⟩,h3⟩:=h
     have hk:(bl s)[k.toNat]? = some (bl s)[k.toNat]:=aX (by omega)
     have:=h3 _ hk
     rw[gA] at this
     exact ⟨_,this,⟨h0,h1,h2⟩,fun c hc=>by rw[hk] at hc;rw[<-dV hc,gA]⟩
   · exact h.elim
  |l i=>
   simp only[nV,gA] at h ⊢
   obtain ⟨s,h1,h2⟩:=V5 h.2
   exact ⟨s,h1,h.1,h2⟩
  |pick c x y=>
   simp only[nV,gA] at h ⊢
   split at h
   · obtain ⟨h1,h2,h3,h4⟩:=h
     exact ⟨_,h4,h1,h2,h3,rfl⟩
   · exact h.elim
  |e i=>simp[J.quiet] at hq
  |cl f xs σ=>simp[J.quiet] at hq
  |ca f xs σ=>simp[J.quiet] at hq
  |cq f xs=>simp[J.quiet] at hq
 |some gw=>
  obtain ⟨sl,want⟩:=gw
  simp only at h ⊢
  split at h
  · exact h.elim
  · rename_i b hb
    cases i with
    |q i=>
     simp only[l8,gA] at h ⊢
     split at h
     · exact ⟨_,h.2,h.1,rfl⟩
     · exact ⟨_,h.2,h.1,rfl⟩
    |ix x y=>simp[J.gix] at hx
    |l i=>
     simp only[l8,gA] at h ⊢
     split at h
     · exact ⟨_,h.2,h.1,rfl⟩
     · obtain ⟨h1,h2⟩:=h
       cases b with
       |true=>
        obtain ⟨h3,h4⟩:=h1 rfl
        obtain ⟨s,h5,h6⟩:=V5 h4
        exact ⟨s,h5,fun _=>⟨h3,h6⟩,fun h=>by cases h⟩
       |false=>exact ⟨_,h2 rfl,fun h=>(by cases h),fun _=>rfl⟩
    |pick c x y=>
     simp only[l8,gA] at h ⊢
     split at h
     · exact ⟨_,h.2,h.1,rfl⟩
     · exact ⟨_,h.2,h.1,rfl⟩
    |e i=>simp[J.quiet] at hq
    |cl f xs σ=>simp[J.quiet] at hq
    |ca f xs σ=>simp[J.quiet] at hq
    |cq f xs=>simp[J.quiet] at hq
section
variable {X:Ctx} {E E':Es} {ro ro':RO} {w w':World}
theorem Rel.thru (h:Rel X E ro w) (k:Rel ⟨w,fL E,ro,gm E⟩ E' ro' w'):Rel X E' ro' w':=by
 have hin:∀b,b∈fL E->X.w0.heap.size<=b\/b∈X.pb:=fun b hb=>by
  obtain ⟨n,g,blk,h1,h2,h3⟩:=iK.1 hb
  exact h.par n b g blk h1 h2 h3
 refine ⟨k.own,k.inj,k.apart,k.rd,h.ro0.trans k.ro0,fun b off v hv=>?_,fun n b g blk h1 h2 h3=>?_,h.gx.trans k.gx,dM h.sz k.sz,fun b hb hp=>?_,k.os.trans h.os,k.tape.trans h.tape,k.output.trans h.output⟩
 · rcases k.rob b off v hv with e|e|e
   · exact h.rob b off v e
   · exact .inr (.inl (dM h.sz e))
   · exact .inr (hin b e)
 · rcases k.par n b g blk h1 h2 h3 with e|e
   · exact .inl (dM h.sz e)
   · exact hin b e
 · have hlt:b<w.heap.size:=C8 hb h.sz
   refine (k.keep b hlt fun hbk=>?_).trans (h.keep b hb hp)
   rcases hin b hbk with e|e
   · omega
   · exact hp e
def Mk.g (m:Mk) (b:Nat):Gb:=match m.sz with
 |none=>⟨some b,false,0,0,m.T,m.cs⟩
 |some _=>⟨some b,true,1,1,m.T,m.cs⟩
def Mk.B (m:Mk):B:=match m.sz with
 |none=>.cells (m.cs.map C.vl) m.T
 |some sz=>.row [m.cs.map C.vl] m.T sz
def Mk.s (m:Mk) (n:Nat):S:=match m.sz with
 |none=>.va (.c1 (.pt n 0))
 |some _=>.va (.c1 (.sl n 1))
def Mk.v (m:Mk) (b:Nat):Value:=match m.sz with
 |none=>.pointer (some ⟨b,0,none⟩)
 |some _=>.slice (some ⟨b,0,none⟩) 1 1
def Mk.ok (m:Mk):Prop:=∀sz,m.sz=some sz->m.cs.length=sz
theorem Mk.ob (m:Mk) (b:Nat):(m.g b).ob=some b:=by unfold Mk.g;split<;>rfl
theorem Mk.on {m:Mk} (hm:m.ok) {γ:List Gb} {b:Nat} (hb:w.heap[b]? = some (.cells m.cs.toArray m.T (0,0))):m.B.On γ ro w (m.g b):=by
 unfold Mk.B Mk.g
 cases h:m.sz with
 |none=>exact ⟨rfl,b,rfl,hb,uQ _⟩
 |some sz=>
  have hl:=hm sz h
  have h2:=uQ (γ:=γ) (ro:=ro) m.cs
  refine ⟨rfl,rfl,fun x hx=>?_,fun c hc=>?_,⟨by simp[hl],.inr ⟨b,1,_,rfl,Nat.zero_le _,hb,bE _,by decide,?_,?_⟩⟩,?_,fun _ _=>Nat.one_pos⟩
  · rw[dS.1 hx,cE,hl]
  · rw[fA,aDT,fI] at hc
    obtain ⟨v,_,rfl⟩:=dO.1 hc
    rfl
  · simp[hl]
  · rw[List.toList_toArray,List.take_of_length_le (by simp[hl])]
  · rw[fA,aDT,fI]
    refine ⟨h2.1,fun k c u h1 h3=>(C.rel_shut (γ:=γ) ?_).1 (h2.2 k c u h1 h3)⟩
    rw[b9] at h1
    cases hk:m.cs[k]? with
    |none=>rw[hk] at h1;cases h1
    |some v=>rw[hk] at h1;cases h1;rfl
theorem Mk.rel (m:Mk) {γ:List Gb} {n b:Nat} (h:γ[n]? = some (m.g b)):(m.s n).rel γ ro (m.v b):=by
 unfold Mk.s Mk.v
 unfold Mk.g at h
 cases hs:m.sz with
 |none=>rw[hs] at h;exact ⟨_,b,h,rfl,rfl,rfl⟩
 |some sz=>rw[hs] at h;exact ⟨_,h,rfl,bE _,⟨_,_,_,rfl⟩,fun _=>rfl⟩
structure Ea (X:Ctx) (E:Es) (ro:RO) (w:World) (m:Mk) (b:Nat):Prop where
 hb:w.heap[b]? = some (.cells m.cs.toArray m.T (0,0))
 lo:X.w0.heap.size<=b
 liv:∀(n:Nat) (g:Gb) (blk:B),E[n]? = some (g,blk)->blk.live=true->g.ob≠some b
 ro:∀off v,ro b off≠some v
theorem Ea.lt {m:Mk} {b:Nat} (h:Ea X E ro w m b):b<w.heap.size:=by
 rcases bB b w.heap.size with e|e
 · exact e
 · have:=h.hb;rw[nT e] at this;cases this
theorem Ea.keep {m:Mk} {b:Nat} (h:Ea X E ro w m b) (k:Rel ⟨w,fL E,ro,gm E⟩ E' ro' w'):Ea X E' ro' w' m b:=by
 have hlt:=h.lt
 have hbk:b ∉ fL E:=fun hb=>by
  obtain ⟨n,g,blk,h1,h2,h3⟩:=iK.1 hb
  exact h.liv n g blk h1 h3 h2
 refine ⟨(k.keep b hlt hbk).trans h.hb,h.lo,fun n g blk h1 h2 h3=>?_,fun off v hv=>?_⟩
 · rcases k.par n b g blk h1 h3 h2 with e|e
   · exact absurd hlt (Nat.not_lt.2 e)
   · exact hbk e
 · rcases k.rob b off v hv with e|e|e
   · exact h.ro off v e
   · exact absurd hlt (Nat.not_lt.2 e)
   · exact hbk e
theorem Rel.admE (h:Rel X E ro w) {q:Mk} (hq:q.ok) {b:Nat} (e:Ea X E ro w q b) :
 Rel X (E++[(q.g b,q.B)]) ro w:=by
 have hext:GExt (gm E) (gm (E++[(q.g b,q.B)])):=eS _
 have hget:∀(n:Nat) (y:Gb×B),(E++[(q.g b,q.B)])[n]? = some y->(n=E.length/\y=(q.g b,q.B))\/(n<E.length/\E[n]? = some y):=by
  intro n y hy
  rw[uC] at hy
  split at hy
  · exact .inr ⟨by assumption,hy⟩
  · rename_i hge
    have:n-E.length=0:=by
     rcases Nat.eq_zero_or_pos (n-E.length) with h0|h0
     · exact h0
     · rw[List.getElem?_eq_none (by simp;omega)] at hy;cases hy
    rw[this] at hy
    exact .inl ⟨by omega,by simpa using hy.symm⟩
 refine ⟨fun n g' bk hy=>?_,fun n m gn gm bn bm k hy hz en em ln lm=>?_,fun k off c hc n gn bk hy en=>?_,h.rd,h.ro0,h.rob,fun n k gn bk hy en ln=>?_,h.gx.trans hext,h.sz,h.keep,h.os,h.tape,h.output⟩
 · rcases hget n _ hy with ⟨rfl,he⟩|⟨hlt,hy'⟩
   · simp only[Prod.mk.injEq] at he
     obtain ⟨rfl,rfl⟩:=he
     exact Mk.on hq e.hb
   · by_cases hlv:bk.live=true
     · exact (h.own n g' bk hy').same hext (Ext.refl _) fun k hk=>rfl
     · cases bk<;>simp[B.live] at hlv;trivial
 · rcases hget n _ hy with ⟨rfl,he⟩|⟨hlt,hy'⟩<;>rcases hget m _ hz with ⟨rfl,he2⟩|⟨hlt2,hz'⟩
   · rfl
   · simp only[Prod.mk.injEq] at he;obtain ⟨rfl,rfl⟩:=he
     simp only[Mk.ob,aM] at en
     subst en
     exact absurd em (e.liv m gm bm hz' lm)
   · simp only[Prod.mk.injEq] at he2;obtain ⟨rfl,rfl⟩:=he2
     simp only[Mk.ob,aM] at em
     subst em
     exact absurd en (e.liv n gn bn hy' ln)
   · exact h.inj n m gn gm bn bm k hy' hz' en em ln lm
 · rcases hget n _ hy with ⟨rfl,he⟩|⟨hlt,hy'⟩
   · simp only[Prod.mk.injEq] at he;obtain ⟨rfl,rfl⟩:=he
     simp only[Mk.ob,aM] at en
     subst en
     exact absurd hc (e.ro off c)
   · exact h.apart k off c hc n gn bk hy' en
 · rcases hget n _ hy with ⟨rfl,he⟩|⟨hlt,hy'⟩
   · simp only[Prod.mk.injEq] at he;obtain ⟨rfl,rfl⟩:=he
     simp only[Mk.ob,aM] at en
     subst en
     exact .inl e.lo
   · exact h.par n k gn bk hy' en ln
end
def Dn (l:Array Bool) (i:Nat):Prop:=l.getD i false=true
theorem OF {ops:Array Oper} {p:Nat->Prop} (hcl:∀i k,p i->Region.waitsFor .any ops i k=true->p k):∀(ks s:List Nat),(∀t∈s,p t)->∀t∈X3 ops ks s,p t
 |[],s,h=>h
 |k::r,s,h=>by
  refine OF hcl r _ fun t ht=>?_
  split at ht
  · rename_i hany
    obtain ⟨u,hu,hw⟩:=iY.1 hany
    rcases bU.1 ht with rfl|ht
    · exact hcl u t (h u hu) hw
    · exact h t ht
  · exact h t ht
theorem MA {ops:Array Oper} {p:Nat->Prop} (hcl:∀i k,p i->Region.waitsFor .any ops i k=true->p k) {i:Nat} (hi:p i):∀t∈kU ops i,p t:=
 OF hcl _ _ fun t ht=>by rw[dS.1 ht];exact hi
structure Ck (ops:Array Oper) (js:List J) (pre:List Nat) (i:Nat) (r:List Nat):Prop where
 lt:i<ops.size
 new:i ∉ pre
 wt:∀o,ops[i]? = some o->∀e∈o.after,Region.binds .any e=true->e.on∈pre
 q1:(fT ops js i=true\/dX js i=true)->∀k∈pre,∀s∈BL js k,tG js i≠some s
 rd:∀k∈pre,∀s∈BL js i,tG js k=some s->fT ops js k=true->k∈kU ops i
 ds:∀d,tG js i=some d->∀k∈pre,tG js k≠some d
 own:fT ops js i=true->∀s∈BL js i,tG js i≠some s
 hd:fT ops js i=false->qS ops js i r=false->∀j∈r,dX js j=false->Region.waitsFor .any ops j i=true\/∃k∈r,dX js k=false/\Region.waitsFor .any ops j k=true
 a1:dX js i=true->∀k∈pre,dX js k=false
theorem a27 {ops:Array Oper} {js:List J} {pre:List Nat} {i:Nat} {r:List Nat} (h:aGI ops js pre i r=true):Ck ops js pre i r:=by
 unfold aGI at h
 simp only[bI,fU] at h
 obtain ⟨⟨⟨⟨⟨⟨⟨⟨h1,h2⟩,h3⟩,h4⟩,h5⟩,h6⟩,h7⟩,h8⟩,h9⟩:=h
 refine ⟨h1,by simpa using h2,fun o ho e he hb=>?_,fun hq k hk s hs heq=>?_,fun k hk s hs heq hq=>?_,fun d hd k hk heq=>?_,fun hq s hs heq=>?_,fun hq hnf j hj ha=>?_,fun ha k hk=>?_⟩
 · rw[ho] at h3
   have:=Array.all_eq_true_iff_forall_mem.1 h3 e he
   simpa[hb] using this
 · have hq':(fT ops js i||dX js i)=true:=by rw[fB];exact hq
   rw[hq'] at h4
   have h':∀k∈pre,∀s∈BL js k,¬ tG js i=some s:=by simpa using h4
   exact h' k hk s hs heq
 · have:=nN.1 h5 k hk
   have h':((BL js i).any fun s=>tG js k==some s)=true:=iY.2 ⟨s,hs,by simp[heq]⟩
   rw[h',hq] at this
   simpa using this
 · rw[hd] at h6
   have:=nN.1 h6 k hk
   simp[heq] at this
 · rw[hq] at h7
   have h':((BL js i).any fun s=>tG js i==some s)=true:=iY.2 ⟨s,hs,by simp[heq]⟩
   rw[h'] at h7;cases h7
 · rw[hq,hnf,bK,bK] at h8
   have:=nN.1 h8 j hj
   rw[ha,bK,fB] at this
   rcases this with h|h
   · exact .inl h
   · obtain ⟨k,hk,h⟩:=iY.1 h
     simp only[bI,oR] at h
     exact .inr ⟨k,hk,h.1,h.2⟩
 · rw[ha] at h9
   have h':∀k∈pre,dX js k=false:=by simpa using h9
   exact h' k hk
theorem K6 {ops:Array Oper} {js:List J}:∀(l pre p:List Nat) (i:Nat) (r:List Nat),C3 ops js pre l=true->l=p++i::r->Ck ops js (pre++p) i r
 |[],_,p,i,r,_,h=>by cases p<;>cases h
 |x::l,pre,[],i,r,hB,h=>by
  simp only[C3,bI] at hB
  obtain ⟨rfl,rfl⟩:x=i/\l=r:=by simpa using h
  rw[fI];exact a27 hB.1
 |x::l,pre,y::p,i,r,hB,h=>by
  simp only[C3,bI] at hB
  obtain ⟨rfl,rfl⟩:x=y/\l=p++i::r:=by simpa using h
  have:=K6 _ (pre++[x]) p i r hB.2 rfl
  simpa using this
theorem FY:∀(n:Nat) (l:List Nat),l.Nodup->(∀k∈l,k<n)->l.length<=n
 |0,l,_,h=>by
  cases l with
  |nil=>exact bE _
  |cons x l=>exact absurd (h x (by simp)) (by omega)
 |n+1,l,hn,h=>by
  by_cases hm:n∈l
  · have h1:=FY n (l.erase n) (hn.erase n) fun k hk=>by
     obtain ⟨h2,h3⟩:=(hn.mem_erase_iff).1 hk
     have:=h k h3
     omega
    have h2:=List.length_erase_of_mem hm
    omega
  · have:=FY n l hn fun k hk=>by
     have h3:=h k hk
     have:k≠n:=fun e=>hm (e ▸ hk)
     omega
    omega
theorem aOY {ops:Array Oper} {js:List J} {π:List Nat} (hC:C3 ops js [] π=true) (hl:π.length=ops.size):∀i,i<ops.size->i∈π:=by
 have hck:∀(p:List Nat) (i:Nat) (r:List Nat),π=p++i::r->i<ops.size/\i ∉ p:=fun p i r e=>by
  have:=K6 π [] p i r hC e
  exact ⟨this.lt,by simpa using this.new⟩
 have hnd:π.Nodup:=by
  have key:∀(q p:List Nat),π=p++q->p.Nodup->(p++q).Nodup:=fun q=>by
   induction q with
   |nil=>intro p _ hp;simpa using hp
   |cons x q ih=>
    intro p e hp
    have h1:=(hck p x q e).2
    have:=ih (p++[x]) (by rw[e];simp) (by
     rw[List.nodup_append]
     exact ⟨hp,T3.2 ⟨by simp,aC4⟩,fun a ha b hb=>by rw[dS.1 hb];rintro rfl;exact h1 ha⟩)
    simpa using this
  have:=key π [] rfl aC4
  simpa using this
 have hlt:∀i∈π,i<ops.size:=fun i hi=>by
  obtain ⟨p,r,e⟩:=uE hi
  exact (hck p i r e).1
 intro i hi
 refine Classical.byContradiction fun hn=>?_
 have:=FY ops.size (i::π) (T3.2 ⟨hn,hnd⟩) fun k hk=>by
  rcases bU.1 hk with rfl|hk
  · exact hi
  · exact hlt k hk
 rw[bP,hl] at this
 omega
def cnt (n:Nat) (l:Array Bool):Nat:=((List.range n).filter fun i=>!l.getD i false).length
theorem VV {p q:Nat->Bool} (h:∀i,q i=true->p i=true) {k:Nat} (hp:p k=true) (hq:q k=false):∀(l:List Nat),k∈l->(l.filter q).length<(l.filter p).length
 |[],hk=>by cases hk
 |x::l,hk=>by
  have hle:(l.filter q).length<=(l.filter p).length:=by
   clear hk
   induction l with
   |nil=>exact bE _
   |cons y l ih=>
    simp only[aC5]
    cases hy:q y with
    |true=>rw[h y hy];simpa using ih
    |false=>cases p y<;>simp<;>omega
  simp only[aC5]
  rcases bU.1 hk with rfl|hk
  · rw[hp,hq];simp;omega
  · have:=VV h hp hq l hk
    cases hx:q x with
    |true=>rw[h x hx];simpa using this
    |false=>cases p x<;>simp<;>omega
theorem jI {l:Array Bool} {k i:Nat} (h:Dn l i):Dn (l.setIfInBounds k true) i:=getD_set_true h
theorem xQ {l:Array Bool} {k:Nat} (h:k<l.size):Dn (l.setIfInBounds k true) k:=by simp[Dn,h]
theorem i5 {l:Array Bool} {k i:Nat} (h:Dn (l.setIfInBounds k true) i):Dn l i\/i=k:=by
 by_cases e:k=i
 · exact .inr e.symm
 · unfold Dn at h;rw[getD_set_ne false e] at h;exact .inl h
theorem L9 {n:Nat} {l:Array Bool} {k:Nat} (hk:k<n) (hs:l.size=n) (hu:¬ Dn l k):cnt n (l.setIfInBounds k true)<cnt n l:=by
 refine VV (fun i hi=>?_) (k:=k) (by simpa[Dn] using hu) ?_ _ (oQ.2 hk)
 · cases hd:l.getD i false with
   |false=>rfl
   |true=>have:=jI (k:=k) (show Dn l i from hd);unfold Dn at this;rw[this] at hi;cases hi
 · have:=xQ (l:=l) (k:=k) (by omega);unfold Dn at this;rw[this];rfl
theorem aD8 {n:Nat} {l:Array Bool} (h:cnt n l=0):∀i,i<n->Dn l i:=fun i hi=>by
 have:(List.range n).filter (fun i=>!l.getD i false)=[]:=iB h
 have:=List.filter_eq_nil_iff.1 this i (oQ.2 hi)
 simpa[Dn] using this
def over (ov:Nat->Option S) (fr:Fr):Fr:=fun i=>match ov i with
 |some s=>s
 |none=>fr i
theorem sW {ov:Nat->Option S} {fr:Fr} {i:Nat} (h:ov i=none):over ov fr i=fr i:=by unfold over;rw[h]
theorem CP {ov:Nat->Option S} {fr:Fr} {i:Nat} {s:S} (h:ov i=some s):over ov fr i=s:=by unfold over;rw[h]
theorem aNI {js:List J} {kd qs:List Nat} {j:J}:j∈OA js qs kd ↔ ∃k∈qs,k ∉ kd/\js[k]? = some j:=by
 unfold OA
 rw[UC]
 refine ⟨fun ⟨k,h1,h2⟩=>?_,fun ⟨k,h1,h2,h3⟩=>⟨k,h1,?_⟩⟩
 · split at h2
   · cases h2
   · rename_i hc
     exact ⟨k,h1,fun hk=>hc (by simpa using hk),h2⟩
 · rw[if_neg (by simpa using h2)];exact h3
theorem aCT {js:List J} {kd kd' qs:List Nat} (h:∀k,k∈kd ↔ k∈kd'):OA js qs kd=OA js qs kd':=by
 unfold OA
 have:∀k,kd.contains k=kd'.contains k:=fun k=>by
  rw[Bool.eq_iff_iff];simpa using h k
 simp only[this]
theorem U2 {Γ:eX} {fr:Fr} {H:Hp}:∀{l:List J},BS Γ l fr H ↔ ∀j∈l,vJ Γ fr H (fun fr' _=>fr' j.dn=fr j.dn) j
 |[]=>by simp[BS]
 |j::r=>by simp only[BS,U2 (l:=r),List.forall_mem_cons]
theorem QU {Γ:eX} {fr:Fr} {H:Hp} {K:Fr->Hp->Prop} {r:List OJ}:∀{l:List J},vO Γ (l.map OJ.rc++r) fr H K ↔ BS Γ l fr H/\vO Γ r fr H K
 |[]=>by simp[BS]
 |j::l=>by simp only[gC,sG,vO,BS,QU (l:=l),and_assoc]
theorem QH {Γ:eX} {js:List J} {kd:List Nat} {fr:Fr} {H:Hp} {K:Fr->Hp->Prop} {r:List OJ} {qs:List Nat} (h:vO Γ (BO js qs kd++r) fr H K) :
 (∀k∈qs,k ∉ kd->∀j,js[k]? = some j->vJ Γ fr H (fun fr' _=>fr' j.dn=fr j.dn) j)/\vO Γ r fr H K:=by
 obtain ⟨h1,h2⟩:=QU.1 h
 exact ⟨fun k hk hn j hj=>U2.1 h1 j (aNI.2 ⟨k,hk,hn,hj⟩),h2⟩
theorem I4 {ops:Array Oper} {js:List J}:∀(l p:List Nat) (i k:Nat),l=p++[i,k]->qS ops js i [k]=true->z6 ops js l=some (p++[k,i])
 |_,[],i,k,e,h=>by subst e;simp[z6,h]
 |_,[x],i,k,e,h=>by subst e;simp[z6,h]
 |_,x::y::p,i,k,e,h=>by
  subst e
  have:=I4 _ (y::p) i k rfl h
  cases p with
  |nil=>simp only[sG,jT] at this ⊢;rw[z6,this];rfl;intro a b;simp at b
  |cons z p=>simp only[sG] at this ⊢;rw[z6,this];rfl;intro a b;simp at b
theorem G2 {ops:Array Oper} {js:List J} {i:Nat} {r:List Nat} (h:qS ops js i r=true):∃k,r=[k]/\fT ops js i=false/\dX js i=false/\fT ops js k=false/\dX js k=false/\qS ops js k [i]=true:=by
 unfold qS at h
 split at h
 · rename_i k
   simp only[bI,oR] at h
   obtain ⟨⟨⟨⟨⟨h1,h2⟩,h3⟩,h4⟩,h5⟩,h6⟩:=h
   exact ⟨k,rfl,h1,h2,h3,h4,by simp[qS,h1,h2,h3,h4,h5,h6]⟩
 · cases h
abbrev Mk.S (m:Mk) (b:Nat):S:=.va (.c1 (.vl (m.v b)))
theorem a14 {i:EI} {m:Mk} (h:lT i=some m):m.ok:=by
 unfold lT at h
 split at h
 · cases h;intro sz hs;cases hs
 · split at h
   · rename_i hc;cases h;intro sz hs;cases hs;simpa using hc
   · cases h
 · cases h
theorem aAP (v:Value):(A.ofV v).cells=v.cells.toList.map C.vl:=by cases v<;>rfl
theorem a12 {fr:Fr} {H:Hp} {K:S->Hp->Prop} {i:EI} {m:Mk} (h:lT i=some m) (hv:vE fr H K i):K (m.s H.length) (H++[m.B]):=by
 unfold lT at h
 split at h
 · cases h;exact hv
 · rename_i T sz v
   split at h
   · cases h
     simp only[vE,rows,ev] at hv
     cases hs:S.ofV v with
     |va a=>
      rw[hs] at hv
      simp only at hv
      have ha:a=A.ofV v:=by
       unfold S.ofV at hs
       split at hs
       · cases hs
       · cases hs;rfl
      subst ha
      rw[aAP] at hv
      exact hv.2
     |_=>rw[hs] at hv;exact hv.elim
   · cases h
 · cases h
theorem aOW {P:Program} {w:World} {a:Act} {o:Oper} {t e:TypeId} {n:Nat} {x:Operand} {i:TypeInfo} {z:Value} (ho:o.op=.buildSlice t 1 #[(0,x)]) (ht:P.underlying t=some (.slice e))
 (hi:P.info? e=some i) (hz:i.zero=some z) (hzs:z.cells.size=i.size) (hsz:0<i.size) (hb:i.size<=16777216) (hx:(a.eval x).cells.size=i.size) :
 (execOp a.eval o).run P w=.ok (.value (.slice (some ⟨w.heap.size,0,none⟩) 1 1)) (w.alloc (.cells (a.eval x).cells.toList.toArray e)):=by
 have hfill:=A3 (sz:=i.size) [a.eval x] [(a.eval x).cells.toList] 0 [] ((Array.range (1*i.size)).map (fun j=>z.cells[j % z.cells.size]!)).toList rfl (by simp) (by simp) (by simp[hx])
  (fun j v r h1 h2=>by
    cases j with
    |zero=>simp at h1 h2;subst h1;subst h2;rfl
    |succ j=>simp at h1)
 simp only[jT,eL] at hfill
 have h1:¬ (1*i.size > 2 ^ 24):=by omega
 have h2:¬ (1*i.size=0):=by omega
 simp only[execOp,ho,Instr.buildSlice]
 simp only[Sem.run_bind,underlying,run_program,Result.andThen_ok,ht,Sem.run_pure,sizeOf,typeInfo,hi,zeroValue,hz,h1,h2,if_false]
 have hzip:((#[(0,x)]:Array (Nat×Operand)).map fun (x:Nat×Operand)=>(x.1,a.eval x.2)).toList=(List.range' 0 [a.eval x].length).zip [a.eval x]:=by simp[List.range']
 rw[<-hzip] at hfill
 rw[hfill]
 simp[newRow]
theorem aR7 {P:Program} {nw:Bool} {σ:CH} {o:Oper} {i:EI} {m:Mk} (hm:lT i=some m) (h:mK P nw σ o.op=some (.e i)) {a:Act} {w:World}:(execOp a.eval o).run P w=.ok (.value (m.v w.heap.size)) (w.alloc (.cells m.cs.toArray m.T)):=by
 have hi:BP P o.op=some i:=by
  obtain ⟨i0,h0,h1|h1⟩:=aK0 h
  · rw[h1];exact h0
  · cases i0<;>simp only[EI.ext] at h1<;>subst h1<;>first|exact h0|(simp[lT] at hm)
 cases ho:o.op<;>rw[ho] at hi<;>simp only[BP,reduceCtorEq,aM] at hi
 case alloc t=>
  split at hi<;>simp only[aM,reduceCtorEq] at hi
  rename_i z' hz
  subst hi
  cases hinf:P.info? t with
  |none=>simp[hinf] at hz
  |some inf=>
   simp only[hinf,cQ,aM] at hz
   simp only[lT,aM] at hm
   subst hm
   simp[execOp,ho,Instr.alloc,zeroValue,typeInfo,hinf,hz,newVar,newRow,Mk.v]
 case store t x y=>split at hi<;>simp at hi;subst hi;simp[lT] at hm
 case box t x=>subst hi;simp[lT] at hm
 case makeMap t r=>
  split at hi
  · cases hi
  · split at hi
    · simp at hi;obtain ⟨_,_,rfl⟩:=hi;simp[lT] at hm
    · cases hi
 case makeSlice t x y=>
  split at hi<;>try (cases hi;done)
  split at hi<;>try (cases hi;done)
  split at hi<;>try (cases hi;done)
  split at hi<;>simp at hi
  subst hi;simp[lT] at hm
 case mapUpdate t q k v=>
  split at hi
  · simp at hi;obtain ⟨_,_,rfl⟩:=hi;simp[lT] at hm
  · cases hi
 case buildSlice t len parts=>
  split at hi<;>try (cases hi;done)
  rename_i e ht
  split at hi<;>try (cases hi;done)
  rename_i inf hinf
  split at hi<;>try (cases hi;done)
  rename_i z hz
  split at hi<;>simp only[aM,reduceCtorEq] at hi
  rename_i hc
  obtain ⟨c1,c2,c3,c4,c5,c6⟩:=hc
  subst hi
  unfold lT at hm
  split at hm
  · rename_i h0;cases h0
  · rename_i v h0
    simp only[EI.bsl.injEq] at h0
    obtain ⟨rfl,rfl,h3⟩:=h0
    split at hm<;>simp only[aM,reduceCtorEq] at hm
    rename_i hsz
    subst hm
    cases hp:parts.toList with
    |nil=>rw[hp] at h3;cases h3
    |cons p r=>
     rw[hp] at h3 c6
     simp only[gC,List.cons.injEq,List.map_eq_nil_iff] at h3
     obtain ⟨h3,rfl⟩:=h3
     obtain ⟨n,x⟩:=p
     have hlen:len=1:=by have:=congrArg List.length c6;simpa using this.symm
     subst hlen
     have hn:n=0:=by simpa using c6
     subst hn
     have hpa:parts=#[(0,x)]:=by rw[<-eL (xs:=parts),hp]
     have hev:a.eval x=v:=by
      cases x with
      |tmp t=>cases h3
      |const u=>cases h3;rfl
      |global g=>cases h3;rfl
      |func f=>cases h3
     have:=aOW (w:=w) (a:=a) (n:=0) (by rw[ho,hpa]) ht hinf hz c1 c2 (by omega) (by rw[hev];exact hsz)
     rw[this,hev]
     simp[Mk.v]
  · cases hm
 case call c=>
  obtain ⟨cl,args,ats⟩:=c
  simp only at hi
  split at hi
  · split at hi<;>try (cases hi;done)
    split at hi<;>try (cases hi;done)
    split at hi<;>try (cases hi;done)
    split at hi
    · simp at hi;subst hi;simp[lT] at hm
    · split at hi<;>try (cases hi;done)
      split at hi<;>simp at hi<;>(subst hi;simp[lT] at hm)
  · split at hi<;>try (cases hi;done)
    split at hi<;>try (cases hi;done)
    split at hi<;>simp at hi
    subst hi;simp[lT] at hm
  · cases hi
structure OrdOk (P:Program) (nw:Bool) (N:Nat) (ops:Array Oper) (js:List J) (π:List Nat):Prop where
 jt:∀(i:Nat) (o:Oper),ops[i]? = some o->∃(j:J) (σ:CH),js[i]? = some j/\xY P nw N ops σ o=some j
 ck:∀p i r,π=p++i::r->Ck ops js p i r
 all:∀i,i<ops.size->i∈π
structure Inv (X:Ctx) (Γ:eX) (ops:Array Oper) (js:List J) (π:List Nat) (K:Fr->Hp->Prop) (N:Nat) (ov:Nat->Option S) (qs kd:List Nat) (f:Nat) (rest pre:List Nat) (l:Array Bool) (fr:Fr) (E:Es) (ro:RO) (a:Act) (w:World):Prop where
 ord:π=pre++rest
 size:l.size=ops.size
 clo:∀i k,Dn l i->Region.waitsFor .any ops i k=true->Dn l k
 pq:∀i∈pre,fT ops js i=false->Dn l i
 ra:∀i∈rest,Dn l i->dX js i=true
 fuel:cnt ops.size l<=f
 v1:∀s,ov s≠none->∃i,tG js i=some s/\((i∈pre/\¬ Dn l i)\/(i∈rest/\Dn l i))
 v3:∀i∈rest,Dn l i->∃d ei m b,js[i]? = some ⟨some d,none,.e ei⟩/\lT ei=some m/\ov d=some (m.S b)/\Ea X E ro w m b
 fra:FRel N (gm E) ro (over ov fr) a
 rel:Rel X E ro w
 hqs:∀i∈pre,fT ops js i=true->i∈qs
 hkd:∀t∈kd,Dn l t
 vo:vO Γ (iT ops js qs kd rest) fr (hp E) K
 rc:∀i∈pre,¬ Dn l i->∀j,js[i]? = some j->vJ Γ fr (hp E) (fun fr' _=>fr' j.dn=fr j.dn) j
theorem Dn.lt {l:Array Bool} {i:Nat} (h:Dn l i):i<l.size:=by
 rcases bB i l.size with e|e
 · exact e
 · unfold Dn at h;simp[nT e] at h
theorem GW {ops:Array Oper} {js:List J} {i:Nat} (h:fT ops js i=true):∃j o d,js[i]? = some j/\ops[i]? = some o/\j.quiet=true/\j.gix=false/\j.d=some d:=by
 unfold fT at h
 split at h
 · rename_i j o h1 h2
   unfold qOf at h
   simp only[bI,oR] at h
   obtain ⟨d,hd⟩:=oW.1 h.1.2
   exact ⟨j,o,d,h1,h2,h.1.1.1,h.1.1.2,hd⟩
 · cases h
theorem QE {js:List J} {i:Nat} (h:dX js i=true):∃d ei m,js[i]? = some ⟨some d,none,.e ei⟩/\lT ei=some m:=by
 unfold dX at h
 split at h
 · rename_i j hj
   unfold aOf at h
   split at h
   · obtain ⟨m,hm⟩:=oW.1 h
     exact ⟨_,_,m,hj,hm⟩
   · cases h
 · cases h
theorem aFI {ops:Array Oper} {js:List J} {i:Nat} (h:dX js i=true):fT ops js i=false:=by
 obtain ⟨d,ei,m,hj,_⟩:=QE h
 unfold fT
 rw[hj]
 split
 · rename_i j o h1 h2;cases h1;rfl
 · rfl
theorem oG {js:List J} {i:Nat} {j:J} {d:Nat} (h:js[i]? = some j) (hd:j.d=some d):tG js i=some d:=by unfold tG;rw[h];exact hd
theorem H7 {js:List J} {i:Nat} {j:J} (h:js[i]? = some j):BL js i=j.rds:=by unfold BL;rw[h]
theorem PR {j:J} {d:Nat} (h:j.d=some d):j.dn=d:=by unfold J.dn;rw[h];rfl
theorem GQ {Γ:eX} {H:Hp} {j:J} {d:Nat} (hd:j.d=some d) {f1 f2:Fr} {s:S} (hA:∀i∈j.rds,f1 i=f2 i):vJ Γ f1 H (fun fr' _=>fr' d=s) j=vJ Γ f2 H (fun fr' _=>fr' d=s) j:=by
 refine Z8 (fun f1 f2=>∀i∈j.rds,f1 i=f2 i) (fun _ _ h=>h) (fun f1 f2 sl s _ h i hi=>?_) (fun f1 f2 s' H' h=>?_) hA
 · simp only[put];split
   · rfl
   · exact h i hi
 · rw[hd,gA,gA]
section
variable {P:Program} {N:Nat} {nw:Bool} {X:Ctx} {Γ:eX} {ops:Array Oper} {js:List J} {π:List Nat} {K:Fr->Hp->Prop} {ov:Nat->Option S} {qs kd:List Nat} {f:Nat} {rest pre:List Nat} {l:Array Bool} {fr:Fr} {E:Es} {ro:RO} {a:Act} {w:World}
theorem DX {pre r:List Nat} {i k:Nat} (h:π=pre++i::r) (hk:k∈r):∃p r',π=p++k::r'/\i∈p/\∀x∈pre,x∈p:=by
 obtain ⟨r1,r2,rfl⟩:=uE hk
 exact ⟨pre++i::r1,r2,by rw[h];simp,by simp,fun x hx=>by simp[hx]⟩
theorem a1V (ok:OrdOk P nw N ops js π) {i:Nat} {r:List Nat} (h:Inv X Γ ops js π K N ov qs kd f (i::r) pre l fr E ro a w) (hq:fT ops js i=true) (hu:¬ Dn l i) :
 ∃fr' ov' qs',Inv X Γ ops js π K N ov' qs' kd f r (pre++[i]) l fr' E ro a w:=by
 have ck:=ok.ck pre i r h.ord
 obtain ⟨j,o,d,hj,ho,hqu,hgx,hd⟩:=GW hq
 have hds:=oG hj hd
 have hvo:=h.vo
 simp only[iT,hj,hq,if_true,vO] at hvo
 rw[PR hd,hd] at hvo
 obtain ⟨s,hΦ,hself⟩:=aPA (Φ:=fun s=>vO Γ (iT ops js (qs++[i]) kd r) (put fr (some d) s) (hp E) K) hd hqu hgx hvo
 have hrd:∀x∈j.rds,fr x=put fr (some d) s x:=fun x hx=>by
  have:x≠d:=fun e=>ck.own hq x (by rw[H7 hj];exact hx) (by rw[hds,e])
  simp[put,this]
 refine ⟨put fr (some d) s,fun k=>if k=d then some .un else ov k,qs++[i],?_⟩
 refine ⟨by rw[h.ord];simp,h.size,h.clo,fun k hk hkq=>?_,fun k hk=>h.ra k (by simp[hk]),h.fuel,fun x hx=>?_,fun k hk hkd=>?_,h.fra.weak fun k=>?_,h.rel,fun k hk hkq=>?_,h.hkd,hΦ,fun k hk hku jk hjk=>?_⟩
 · rcases cL.1 hk with hk|hk
   · exact h.pq k hk hkq
   · rw[dS.1 hk,hq] at hkq;cases hkq
 · by_cases hxd:x=d
   · subst hxd;exact ⟨i,hds,.inl ⟨by simp,hu⟩⟩
   · simp only[hxd,if_false] at hx
     obtain ⟨k,h1,h2|h2⟩:=h.v1 x hx
     · exact ⟨k,h1,.inl ⟨by simp[h2.1],h2.2⟩⟩
     · rcases bU.1 h2.1 with rfl|h3
       · exact absurd h2.2 hu
       · exact ⟨k,h1,.inr ⟨h3,h2.2⟩⟩
 · obtain ⟨d',ei,m,b,h1,hmk,h2,h3⟩:=h.v3 k (by simp[hk]) hkd
   obtain ⟨p,r',e,hip,_⟩:=DX h.ord hk
   have hne:d'≠d:=fun e2=>by
    subst e2
    exact (ok.ck p k r' e).ds d' (oG h1 rfl) i hip hds
   exact ⟨d',ei,m,b,h1,hmk,by simp only[hne,if_false];exact h2,h3⟩
 · by_cases hkd:k=d
   · right;subst hkd;unfold over;simp
   · left
     unfold over
     simp only[hkd,if_false]
     cases ov k with
     |none=>simp[put,hkd]
     |some x=>rfl
 · rcases cL.1 hk with hk|hk
   · exact jW _ (h.hqs k hk hkq)
   · exact jV _ hk
 · rcases cL.1 hk with hk|hk
   · have hkq:fT ops js k=true:=by
      cases hc:fT ops js k with
      |true=>rfl
      |false=>exact absurd (h.pq k hk hc) hku
     obtain ⟨j',o',dk,hj',_,_,_,hdk⟩:=GW hkq
     obtain rfl:j'=jk:=by rw[hj'] at hjk;exact dV hjk
     have hne:dk≠d:=fun e=>ck.ds d hds k hk (by rw[<-e];exact oG hj' hdk)
     have h0:=h.rc k hk hku j' hj'
     rw[PR hdk] at h0 ⊢
     have e1:put fr (some d) s dk=fr dk:=by simp[put,hne]
     rw[e1,<-GQ hdk (f1:=fr) fun x hx=>?_]
     · exact h0
     · have:x≠d:=fun e=>ck.q1 (.inl hq) k hk x (by rw[H7 hj'];exact hx) (by rw[hds,e])
       simp[put,this]
   · obtain rfl:=dS.1 hk
     obtain rfl:j=jk:=by rw[hj] at hjk;exact dV hjk
     rw[PR hd,gA,<-GQ hd hrd]
     exact hself
theorem aIY (ok:OrdOk P nw N ops js π) {i:Nat} {r:List Nat} (h:Inv X Γ ops js π K N ov qs kd f (i::r) pre l fr E ro a w) (hu:Dn l i) :
 ∃fr' E' ov' kd',Inv X Γ ops js π K N ov' qs kd' f r (pre++[i]) l fr' E' ro a w:=by
 have ck:=ok.ck pre i r h.ord
 have ha:=h.ra i (by simp) hu
 obtain ⟨d,ei,m,b,hj,hmk,hov,hea⟩:=h.v3 i (by simp) hu
 have hds:=oG hj rfl
 have hnq:=aFI (ops:=ops) ha
 have hvo:=h.vo
 have hnf:qS ops js i r=false:=by
  cases hf:qS ops js i r with
  |false=>rfl
  |true=>
   obtain ⟨_,_,_,h2,_⟩:=G2 hf
   rw[ha] at h2;cases h2
 simp only[iT,hj,hnq,hnf,if_false,qQ,vO] at hvo
 have hvo2:vO Γ (BO js qs (kd++kU ops i)++iT ops js qs (kd++kU ops i) r) (put fr (some d) (m.s (hp E).length)) (hp E++[m.B]) K:=a12 hmk hvo.2
 obtain ⟨hrc,hvo3⟩:=QH hvo2
 have hkd:∀t∈kd++kU ops i,Dn l t:=fun t ht=>by
  rcases cL.1 ht with ht|ht
  · exact h.hkd t ht
  · exact MA (p:=Dn l) h.clo hu t ht
 have hslot:=h.fra.slot d
 rw[CP hov] at hslot
 have hslot':a.tmps.getD d undef=m.v b:=hslot
 refine ⟨put fr (some d) (m.s (hp E).length),E++[(m.g b,m.B)],fun k=>if k=d then none else ov k,kd++kU ops i,?_⟩
 have hmono:=h.fra.mono (eS [(m.g b,m.B)]) (Ext.refl ro)
 refine ⟨by rw[h.ord];simp,h.size,h.clo,fun k hk hkq=>?_,fun k hk=>h.ra k (by simp[hk]),h.fuel,fun x hx=>?_,fun k hk hkd=>?_,⟨hmono.size,fun k=>?_,hmono.defers⟩,h.rel.admE (a14 hmk) hea,fun k hk hkq=>?_,hkd,by rw[lJ];exact hvo3,fun k hk hku jk hjk=>?_⟩
 · rcases cL.1 hk with hk|hk
   · exact h.pq k hk hkq
   · rw[dS.1 hk];exact hu
 · by_cases hxd:x=d
   · simp[hxd] at hx
   · simp only[hxd,if_false] at hx
     obtain ⟨k,h1,h2|h2⟩:=h.v1 x hx
     · exact ⟨k,h1,.inl ⟨by simp[h2.1],h2.2⟩⟩
     · rcases bU.1 h2.1 with rfl|h3
       · rw[hds] at h1;exact absurd (dV h1).symm hxd
       · exact ⟨k,h1,.inr ⟨h3,h2.2⟩⟩
 · obtain ⟨p,r',e,hip,_⟩:=DX h.ord hk
   have:=(ok.ck p k r' e).a1 (h.ra k (by simp[hk]) hkd) i hip
   rw[ha] at this;cases this
 · by_cases hkd:k=d
   · subst hkd
     rw[sW (by simp),gA,hslot']
     exact m.rel (by simp[gm,fX])
   · have:=hmono.slot k
     unfold over at this ⊢
     simp only[hkd,if_false]
     cases hovk:ov k with
     |none=>rw[hovk] at this;simp only[put,hkd,if_false];exact this
     |some x=>rw[hovk] at this;exact this
 · rcases cL.1 hk with hk|hk
   · exact h.hqs k hk hkq
   · rw[dS.1 hk,hnq] at hkq;cases hkq
 · rcases cL.1 hk with hk|hk
   · have hkq:fT ops js k=true:=by
      cases hc:fT ops js k with
      |true=>rfl
      |false=>exact absurd (h.pq k hk hc) hku
     rw[lJ]
     exact hrc k (h.hqs k hk hkq) (fun hin=>hku (hkd k hin)) jk hjk
   · rw[dS.1 hk] at hku;exact absurd hu hku
theorem Inv.swap {i k:Nat} (h:Inv X Γ ops js π K N ov qs kd f [i,k] pre l fr E ro a w) (hf:qS ops js i [k]=true):Inv X Γ ops js (pre++[k,i]) K N ov qs kd f [k,i] pre l fr E ro a w:=by
 obtain ⟨_,e,h1,h2,h3,h4,h5⟩:=G2 hf
 cases e
 have hm:∀x,x∈[k,i]->x∈[i,k]:=fun x hx=>by simp at hx ⊢;exact hx.symm
 have hvo:=h.vo
 refine ⟨rfl,h.size,h.clo,h.pq,fun x hx=>h.ra x (hm x hx),h.fuel,fun s hs=>?_,fun x hx=>h.v3 x (hm x hx),h.fra,h.rel,h.hqs,h.hkd,?_,h.rc⟩
 · obtain ⟨x,e1,e2|e2⟩:=h.v1 s hs
   · exact ⟨x,e1,.inl e2⟩
   · exact ⟨x,e1,.inr ⟨by have:=e2.1;simp at this ⊢;exact this.symm,e2.2⟩⟩
 · simp only[iT,h1,h3,hf,h5,if_true,if_false,qQ] at hvo ⊢
   cases hi:js[i]? with
   |none=>rw[hi] at hvo;cases hk:js[k]? with
    |none=>exact hvo
    |some jk=>exact hvo
   |some ji=>
    cases hk:js[k]? with
    |none=>rw[hi,hk] at hvo;exact hvo
    |some jk=>
     rw[hi,hk] at hvo
     simp only[vO] at hvo ⊢
     have e:BO js qs (kd++kU ops k++kU ops i)=BO js qs (kd++kU ops i++kU ops k):=by
      unfold BO
      rw[aCT fun x=>?_]
      simp only[cL]
      constructor<;>(rintro ((h|h)|h)<;>simp[h])
     rw[e]
     exact ⟨hvo.2,hvo.1⟩
theorem SN (ok:OrdOk P nw N ops js π) (h:Inv X Γ ops js π K N ov qs kd f rest pre l fr E ro a w) {k:Nat} {p r:List Nat} (e:π=p++k::r) (hp:∀x∈p,x∈pre\/¬ Dn l x) (hpre:k∈pre\/∃r',rest=k::r') (hu:¬ Dn l k)
 (hw:∀t,Region.waitsFor .any ops k t=true->Dn l t):∀s∈BL js k,ov s=none:=by
 have ck:=ok.ck p k r e
 intro s hs
 cases hov:ov s with
 |none=>rfl
 |some x=>
  exfalso
  obtain ⟨i,h1,h2⟩:=h.v1 s (by rw[hov];simp)
  have hanc:∀t∈kU ops k,t=k\/Dn l t:=MA (p:=fun t=>t=k\/Dn l t) (fun i t hi hwt=>by
   rcases hi with rfl|hi
   · exact .inr (hw t hwt)
   · exact .inr (h.clo i t hi hwt)) (.inl rfl)
  have hiπ:i∈p\/i=k\/i∈r:=by
   have:i∈π:=by
    rw[h.ord]
    rcases h2 with h2|h2
    · exact jW _ h2.1
    · exact jV _ h2.1
   rw[e] at this
   rcases cL.1 this with h|h
   · exact .inl h
   · exact .inr (bU.1 h)
  have hik:fT ops js i=true\/dX js i=true:=by
   rcases h2 with h2|h2
   · cases hc:fT ops js i with
     |true=>exact .inl rfl
     |false=>exact absurd (h.pq i h2.1 hc) h2.2
   · exact .inr (h.ra i h2.1 h2.2)
  rcases hiπ with hi|hi|hi
  · rcases h2 with h2|h2
    · have hq:fT ops js i=true:=by
       cases hc:fT ops js i with
       |true=>rfl
       |false=>exact absurd (h.pq i h2.1 hc) h2.2
      rcases hanc i (ck.rd i hi s hs h1 hq) with e1|e1
      · subst e1;exact ck.new hi
      · exact h2.2 e1
    · rcases hp i hi with h3|h3
      ·
       obtain ⟨q1,q2,eq⟩:=uE h2.1
       have:=(ok.ck (pre++q1) i q2 (by rw[h.ord,eq];simp)).new
       exact this (jW _ h3)
      · exact h3 h2.2
  · subst hi
    rcases h2 with h2|h2
    · have hq:fT ops js i=true:=by
       cases hc:fT ops js i with
       |true=>rfl
       |false=>exact absurd (h.pq i h2.1 hc) h2.2
      exact ck.own hq s hs h1
    · exact hu h2.2
  · obtain ⟨p',r',e',hkp,_⟩:=DX e hi
    exact (ok.ck p' i r' e').q1 hik k hkp s hs h1
end
section
variable {P:Program} {N:Nat} {nw:Bool} {X:Ctx} {Γ:eX} {ops:Array Oper} {js:List J} {π:List Nat} {K:Fr->Hp->Prop} {ov:Nat->Option S} {qs kd:List Nat} {f:Nat} {rest pre:List Nat} {l:Array Bool} {fr:Fr} {E:Es} {ro:RO} {a:Act} {w:World}
theorem rL {k:Nat} (h:k∈Region.ready .any ops l):¬ Dn l k/\∃o,ops[k]? = some o/\(∀t,Region.waitsFor .any ops k t=true->Dn l t):=by
 obtain ⟨h1,o,h2,h3⟩:=mem_ready.1 h
 refine ⟨fun hd=>?_,o,h2,fun t ht=>?_⟩
 · have:=getD_both h1
   unfold Dn at hd
   rw[hd] at this;cases this
 · obtain ⟨o',ho',e,he,hb,hon⟩:=Region.waitsFor_spec ht
   cases h2.symm.trans ho'
   rw[<-hon];exact h3 e he hb
theorem EK {k:Nat} (hclo:∀i k,Dn l i->Region.waitsFor .any ops i k=true->Dn l k) (hw:∀t,Region.waitsFor .any ops k t=true->Dn l t):∀i t,Dn (l.setIfInBounds k true) i->Region.waitsFor .any ops i t=true->Dn (l.setIfInBounds k true) t:=fun i t hi ht=>by
 rcases i5 hi with hi|rfl
 · exact jI (hclo i t hi ht)
 · exact jI (hw t ht)
theorem aMT (ok:OrdOk P nw N ops js π) (h:Inv X Γ ops js π K N ov qs kd (f+1) rest pre l fr E ro a w) {Q':Exit->Act->World->Prop} {k:Nat} (hk:k∈pre) (hr:k∈Region.ready .any ops l) :
 wpOp P ops Q' k (fun a' w'=>∃ov',Inv X Γ ops js π K N ov' qs kd f rest pre (l.setIfInBounds k true) fr E ro a' w') a w:=by
 obtain ⟨hu,o,ho,hw⟩:=rL hr
 have hkq:fT ops js k=true:=by
  cases hc:fT ops js k with
  |true=>rfl
  |false=>exact absurd (h.pq k hk hc) hu
 obtain ⟨p,r1,epre⟩:=uE hk
 have e:π=p++k::(r1++rest):=by rw[h.ord,epre];simp
 have ck:=ok.ck p k _ e
 obtain ⟨j,o',d,hj,ho',hqu,hgx,hd⟩:=GW hkq
 obtain ⟨j',σ,hj',htr⟩:=ok.jt k o ho
 obtain rfl:j=j':=by rw[hj] at hj';exact dV hj'
 have hfree:=SN ok h e (fun x hx=>.inl (by rw[epre];exact jW _ hx)) (.inl hk) hu hw
 rw[H7 hj] at hfree
 obtain ⟨_,_,hdst,hN⟩:=rO htr
 have h0:=h.rc k hk hu j hj
 rw[PR hd,GQ hd (f2:=over ov fr) fun x hx=>(sW (hfree x hx)).symm] at h0
 have hq:=u3 h.fra h.rel htr hqu h0
 have hod:o.dst=some d:=by rw[<-hdst,hd]
 have hin:k<l.size:=by rw[h.size];exact ck.lt
 have fr_ok:∀{fr1:Fr} {v:Value},fr1 d=fr d->FRel N (gm E) ro fr1 (a.put o.dst v)->Inv X Γ ops js π K N (fun x=>if x=d then none else ov x) qs kd f rest pre (l.setIfInBounds k true) fr E ro (a.put o.dst v) w:=fun {fr1 v} e1 hf1=>by
  have hput:=h.fra.put (d:=o.dst) hN (s:=.un) (v:=v) trivial
  refine ⟨h.ord,by rw[UF];exact h.size,EK h.clo hw,fun i hi hiq=>jI (h.pq i hi hiq),fun i hi hid=>?_,?_,fun x hx=>?_,fun i hi hid=>?_,⟨hput.size,fun x=>?_,hput.defers⟩,h.rel,h.hqs,fun t ht=>jI (h.hkd t ht),h.vo,fun i hi hiu jj hjj=>h.rc i hi (fun hd=>hiu (jI hd)) jj hjj⟩
  · rcases i5 hid with h1|rfl
    · exact h.ra i hi h1
    · obtain ⟨q1,q2,eq⟩:=uE hi
      have:=(ok.ck (pre++q1) i q2 (by rw[h.ord,eq];simp)).new
      exact absurd (jW _ hk) this
  · have:=L9 (n:=ops.size) ck.lt h.size hu;have:=h.fuel;omega
  · by_cases hxd:x=d
    · simp[hxd] at hx
    · simp only[hxd,if_false] at hx
      obtain ⟨i,h1,h2|h2⟩:=h.v1 x hx
      · refine ⟨i,h1,.inl ⟨h2.1,fun hid=>?_⟩⟩
        rcases i5 hid with h3|rfl
        · exact h2.2 h3
        · rw[oG hj hd] at h1;exact hxd (dV h1).symm
      · exact ⟨i,h1,.inr ⟨h2.1,jI h2.2⟩⟩
  · have hdi:Dn l i:=by
     rcases i5 hid with h1|rfl
     · exact h1
     · obtain ⟨q1,q2,eq⟩:=uE hi
       have:=(ok.ck (pre++q1) i q2 (by rw[h.ord,eq];simp)).new
       exact absurd (jW _ hk) this
    obtain ⟨d',ei,m,b,h1,hmk,h2,h3⟩:=h.v3 i hi hdi
    have hne:d'≠d:=fun e2=>by
     subst e2
     obtain ⟨q1,q2,eq⟩:=uE hi
     exact (ok.ck (pre++q1) i q2 (by rw[h.ord,eq];simp)).ds d' (oG h1 rfl) k (jW _ hk) (oG hj hd)
    exact ⟨d',ei,m,b,h1,hmk,by simp only[hne,if_false];exact h2,h3⟩
  · by_cases hxd:x=d
    · subst hxd
      rw[sW (by simp),<-e1]
      exact hf1.slot x
    · have:=hput.slot x
      rw[hod] at this ⊢
      simp only[W.put,hxd,if_false] at this
      unfold over at this ⊢
      simp only[hxd,if_false]
      exact this
 unfold wpOp
 simp only[ho]
 split
 · rename_i hwt
   rw[if_pos hwt] at hq
   obtain ⟨fr1,e1,v,hf1,hrun⟩:=hq
   refine .inl ?_
   unfold Oper.wp
   rw[hrun w h.rel,Oper.upon_value]
   exact ⟨_,fr_ok e1 hf1⟩
 · rename_i hwt
   rw[if_neg hwt] at hq
   obtain ⟨fr1,e1,hf1⟩:=hq
   exact ⟨_,fr_ok e1 hf1⟩
theorem a0R (ok:OrdOk P nw N ops js π) (h:Inv X Γ ops js π K N ov qs kd (f+1) rest pre l fr E ro a w) {Q':Exit->Act->World->Prop} {k:Nat} (hk:k∈rest) (ha:dX js k=true) (hr:k∈Region.ready .any ops l) :
 wpOp P ops Q' k (fun a' w'=>∃ov',Inv X Γ ops js π K N ov' qs kd f rest pre (l.setIfInBounds k true) fr E ro a' w') a w:=by
 obtain ⟨hu,o,ho,hw⟩:=rL hr
 obtain ⟨d,ei,m,hj,hmk⟩:=QE ha
 obtain ⟨j',σ,hj',htr⟩:=ok.jt k o ho
 obtain rfl:⟨some d,none,.e ei⟩=j':=by rw[hj] at hj';exact dV hj'
 obtain ⟨hi,hg,hdst,hN⟩:=rO htr
 have hgn:o.guard=none:=by
  cases hgd:o.guard with
  |none=>rfl
  |some gw=>
   obtain ⟨k',want⟩:=gw
   rw[hgd] at hg
   simp only[FI] at hg
   split at hg<;>simp at hg
 obtain ⟨q1,q2,eq⟩:=uE hk
 have eπ:π=(pre++q1)++k::q2:=by rw[h.ord,eq];simp
 have ck:=ok.ck _ k q2 eπ
 have hod:o.dst=some d:=hdst.symm
 have hds:=oG hj rfl
 have hrun:=aR7 hmk hi (a:=a) (w:=w)
 unfold wpOp
 simp only[ho]
 rw[if_pos (gS hgn _)]
 refine .inl ?_
 unfold Oper.wp
 rw[hrun,Oper.upon_value]
 refine ⟨fun x=>if x=d then some (m.S w.heap.size) else ov x,?_⟩
 have hput:=h.fra.put (d:=o.dst) hN (s:=m.S w.heap.size) (v:=m.v w.heap.size) rfl
 have hrel:Rel X E ro (w.alloc (.cells m.cs.toArray m.T)):=h.rel.grown (kH w _) (iW w _) rfl rfl rfl
 have only:∀i∈rest,Dn l i->False:=fun i hi hid=>by
  have hai:=h.ra i hi hid
  have:i≠k:=fun e=>hu (e ▸ hid)
  rw[eq] at hi
  rcases cL.1 hi with hi|hi
  · have:=ck.a1 ha i (jV _ hi)
    rw[hai] at this;cases this
  · rcases bU.1 hi with hi|hi
    · exact this hi
    · obtain ⟨p,r',e,hip,_⟩:=DX eπ hi
      have:=(ok.ck p i r' e).a1 hai k hip
      rw[ha] at this;cases this
 refine ⟨h.ord,by rw[UF];exact h.size,EK h.clo hw,fun i hi hiq=>jI (h.pq i hi hiq),fun i hi hid=>?_,?_,fun x hx=>?_,fun i hi hid=>?_,⟨hput.size,fun x=>?_,hput.defers⟩,hrel,h.hqs,fun t ht=>jI (h.hkd t ht),h.vo,fun i hi hiu jj hjj=>h.rc i hi (fun hd=>hiu (jI hd)) jj hjj⟩
 · rcases i5 hid with h1|rfl
   · exact h.ra i hi h1
   · exact ha
 · have:=L9 (n:=ops.size) ck.lt h.size hu;have:=h.fuel;omega
 · by_cases hxd:x=d
   · subst hxd
     exact ⟨k,hds,.inr ⟨hk,xQ (by rw[h.size];exact ck.lt)⟩⟩
   · simp only[hxd,if_false] at hx
     obtain ⟨i,h1,h2|h2⟩:=h.v1 x hx
     · refine ⟨i,h1,.inl ⟨h2.1,fun hid=>?_⟩⟩
       rcases i5 hid with h3|rfl
       · exact h2.2 h3
       · exact ck.new (jW _ h2.1)
     · exact ⟨i,h1,.inr ⟨h2.1,jI h2.2⟩⟩
 · rcases i5 hid with h1|rfl
   · exact (only i hi h1).elim
   · refine ⟨d,ei,m,w.heap.size,hj,hmk,by simp,heap_alloc_new w _,h.rel.sz,fun n g blk hn hl hob=>?_,fun off v hv=>?_⟩
     · have:=(h.rel.own n g blk hn).lt hl hob;omega
     · have:=h.rel.cell_lt hv;omega
 · have:=hput.slot x
   rw[hod] at this ⊢
   by_cases hxd:x=d
   · subst hxd
     rw[CP (s:=m.S w.heap.size) (by simp)]
     rw[gA] at this
     exact this
   · simp only[W.put,hxd,if_false] at this
     unfold over at this ⊢
     simp only[hxd,if_false]
     exact this
theorem ZM (ok:OrdOk P nw N ops js π) (hm:MeetsIn P X Γ) {i:Nat} {r:List Nat} (h:Inv X Γ ops js π K N ov qs kd (f+1) (i::r) pre l fr E ro a w) {Q':Exit->Act->World->Prop} (hnq:fT ops js i=false) (hvo:∀j,js[i]? = some j->vO Γ (.m j::(BO js qs (kd++kU ops i)++iT ops js qs (kd++kU ops i) r)) fr (hp E) K) (hr:i∈Region.ready .any ops l) :
 wpOp P ops Q' i (fun a' w'=>∃fr' E' ro' kd',Inv X Γ ops js π K N ov qs kd' f r (pre++[i]) (l.setIfInBounds i true) fr' E' ro' a' w') a w:=by
 obtain ⟨hu,o,ho,hw⟩:=rL hr
 have ck:=ok.ck pre i r h.ord
 obtain ⟨j,σ,hj,htr⟩:=ok.jt i o ho
 have hfree:=SN ok h h.ord (fun x hx=>.inl hx) (.inr ⟨r,rfl⟩) hu hw
 rw[H7 hj] at hfree
 have hvo:=hvo j hj
 simp only[vO] at hvo
 have hdfree:∀d,j.d=some d->ov d=none:=fun d hd=>by
  cases hov:ov d with
  |none=>rfl
  |some x=>
   exfalso
   obtain ⟨k,h1,h2|h2⟩:=h.v1 d (by rw[hov];simp)
   · exact ck.ds d (oG hj hd) k h2.1 h1
   · rcases bU.1 h2.1 with rfl|h3
     · exact hu h2.2
     · obtain ⟨p,r',e,hip,_⟩:=DX h.ord h3
       exact (ok.ck p k r' e).ds d h1 i hip (oG hj hd)
 obtain ⟨KK,hKK⟩:∃KK:Fr->Hp->Prop,KK=fun fr' H'=>vO Γ (BO js qs (kd++kU ops i)++iT ops js qs (kd++kU ops i) r) fr' H' K:=⟨_,rfl⟩
 rw[<-hKK] at hvo
 let res:Fr->Fr:=fun f1 x=>match ov x with|some _=>fr x|none=>f1 x
 have hv1:vJ Γ (over ov fr) (hp E) (fun f1 H'=>KK (res f1) H'/\∀x s,ov x=some s->f1 x=s) j:=by
  rw[Z8 (K2:=KK) (f2:=fr) (fun f1 f2=>∀x,(ov x=none->f1 x=f2 x)/\∀s,ov x=some s->f1 x=s/\f2 x=fr x) (fun f1 f2 hR x hx=>(hR x).1 (hfree x hx)) (fun f1 f2 sl s hg hR x=>?_) (fun f1 f2 s H' hR=>?_) (fun x=>⟨fun hx=>sW hx,fun s hs=>⟨CP hs,rfl⟩⟩)]
  · exact hvo
  · have hsl:ov sl=none:=by
     obtain ⟨w',hg⟩:=hg
     exact hfree sl (by unfold J.rds;rw[hg];simp)
    simp only[put]
    refine ⟨fun hx=>?_,fun s' hs'=>?_⟩
    · split
      · rfl
      · exact (hR x).1 hx
    · have:x≠sl:=fun e=>by rw[e,hsl] at hs';cases hs'
      simp only[this,if_false]
      exact (hR x).2 s' hs'
  · have e1:res (put f1 j.d s)=put f2 j.d s:=by
     funext x
     simp only[res]
     cases hov:ov x with
     |none=>
      simp only
      cases hjd:j.d with
      |none=>exact (hR x).1 hov
      |some d=>
       simp only[put];split
       · rfl
       · exact (hR x).1 hov
     |some s'=>
      simp only
      cases hjd:j.d with
      |none=>exact ((hR x).2 s' hov).2.symm
      |some d=>
       have:x≠d:=fun e=>by rw[e,hdfree d hjd] at hov;cases hov
       simp only[put,this,if_false]
       exact ((hR x).2 s' hov).2.symm
    have e2:∀x s',ov x=some s'->put f1 j.d s x=s':=fun x s' hov=>by
     cases hjd:j.d with
     |none=>exact ((hR x).2 s' hov).1
     |some d=>
      have:x≠d:=fun e=>by rw[e,hdfree d hjd] at hov;cases hov
      simp only[put,this,if_false]
      exact ((hR x).2 s' hov).1
    simp only[e1]
    exact propext ⟨fun h=>h.1,fun h=>⟨h,e2⟩⟩
 have step:=KI (Q:=Q') (next:=fun a' w'=>∃fr' E' ro' kd',Inv X Γ ops js π K N ov qs kd' f r (pre++[i]) (l.setIfInBounds i true) fr' E' ro' a' w') h.fra h.rel.here (hm.here h.rel) htr hv1 (fun fr1 E' ro' a' w' hK1 hf1 hr1=>by
  obtain ⟨hK1,hov1⟩:=hK1
  rw[hKK] at hK1
  obtain ⟨hrc,hvo3⟩:=QH hK1
  have hover:over ov (res fr1)=fr1:=by
   funext x
   unfold over
   simp only[res]
   cases hov:ov x with
   |none=>rfl
   |some s=>exact (hov1 x s hov).symm
  have hkd:∀t∈kd++kU ops i,Dn (l.setIfInBounds i true) t:=fun t ht=>by
   rcases cL.1 ht with ht|ht
   · exact jI (h.hkd t ht)
   · exact MA (p:=Dn (l.setIfInBounds i true)) (EK h.clo hw) (xQ (by rw[h.size];exact ck.lt)) t ht
  have hir:∀k∈r,k≠i:=fun k hk e=>by
   obtain ⟨p,r',e',hip,_⟩:=DX h.ord hk
   exact (ok.ck p k r' e').new (by rw[e];exact hip)
  refine ⟨res fr1,E',ro',kd++kU ops i,⟨by rw[h.ord];simp,by rw[UF];exact h.size,EK h.clo hw,fun k hk hkq=>?_,fun k hk hkd=>?_,?_,fun x hx=>?_,fun k hk hkd=>?_,by rw[hover];exact hf1,h.rel.thru hr1,fun k hk hkq=>?_,hkd,hvo3,fun k hk hku jk hjk=>?_⟩⟩
  · rcases cL.1 hk with hk|hk
    · exact jI (h.pq k hk hkq)
    · rw[dS.1 hk];exact xQ (by rw[h.size];exact ck.lt)
  · rcases i5 hkd with h1|h1
    · exact h.ra k (by simp[hk]) h1
    · exact absurd h1 (hir k hk)
  · have:=L9 (n:=ops.size) ck.lt h.size hu;have:=h.fuel;omega
  · obtain ⟨k,h1,h2|h2⟩:=h.v1 x hx
    · refine ⟨k,h1,.inl ⟨by simp[h2.1],fun hkd=>?_⟩⟩
      rcases i5 hkd with h3|rfl
      · exact h2.2 h3
      · exact ck.new h2.1
    · rcases bU.1 h2.1 with rfl|h3
      · exact absurd h2.2 hu
      · exact ⟨k,h1,.inr ⟨h3,jI h2.2⟩⟩
  · have hdk:Dn l k:=by
     rcases i5 hkd with h1|h1
     · exact h1
     · exact absurd h1 (hir k hk)
    obtain ⟨d',ei,m,b,h1,hmk,h2,h3⟩:=h.v3 k (by simp[hk]) hdk
    exact ⟨d',ei,m,b,h1,hmk,h2,h3.keep hr1⟩
  · rcases cL.1 hk with hk|hk
    · exact h.hqs k hk hkq
    · rw[dS.1 hk,hnq] at hkq;cases hkq
  · have hkp:k∈pre:=by
     rcases cL.1 hk with hk|hk
     · exact hk
     · rw[dS.1 hk] at hku;exact absurd (xQ (by rw[h.size];exact ck.lt)) hku
    have hkq:fT ops js k=true:=by
     cases hc:fT ops js k with
     |true=>rfl
     |false=>exact absurd (jI (h.pq k hkp hc)) hku
    exact hrc k (h.hqs k hkp hkq) (fun hin=>hku (hkd k hin)) jk hjk)
 unfold wpOp
 simp only[ho]
 split
 · rename_i hwt
   rw[if_pos hwt] at step
   exact .inl step
 · rename_i hwt
   rw[if_neg hwt] at step
   exact step
theorem CZ (l:Array Bool):∀q:List Nat,(∀i∈q,Dn l i)\/∃p i r,q=p++i::r/\(∀k∈p,Dn l k)/\¬ Dn l i
 |[]=>.inl fun i hi=>by cases hi
 |x::q=>by
  by_cases hx:Dn l x
  · rcases CZ l q with h|⟨p,i,r,h1,h2,h3⟩
    · exact .inl fun i hi=>by rcases bU.1 hi with rfl|hi;exact hx;exact h i hi
    · exact .inr ⟨x::p,i,r,by rw[h1];rfl,fun k hk=>by rcases bU.1 hk with rfl|hk;exact hx;exact h2 k hk,h3⟩
  · exact .inr ⟨[],x,q,rfl,fun k hk=>(by cases hk),hx⟩
theorem E8 (ok:OrdOk P nw N ops js π) (hs:l.size=ops.size) (h:Region.ready .any ops l=[]):∀i∈π,Dn l i:=by
 rcases CZ l π with hd|⟨p,i,r,e,h1,h2⟩
 · exact hd
 · exfalso
   have ck:=ok.ck p i r e
   have hlt:=ck.lt
   have ho:ops[i]? = some ops[i]:=nO hlt
   have:i∈Region.ready .any ops l:=mem_ready.2 ⟨getD_in (by rw[hs];exact ck.lt) (by
    cases hd:l.getD i false with
    |false=>rfl
    |true=>exact absurd hd h2),_,ho,fun e he hb=>h1 _ (ck.wt _ ho e he hb)⟩
   rw[h] at this;cases this
theorem aED (hm:MeetsIn P X Γ) {Q':Exit->Act->World->Prop} (hQ:∀fr E ro a w,K fr (hp E)->FRel N (gm E) ro fr a->Rel X E ro w->Q' .normal a w) :
 ∀(f:Nat) (π:List Nat),OrdOk P nw N ops js π->(∀p i k,π=p++[i,k]->qS ops js i [k]=true->OrdOk P nw N ops js (p++[k,i]))->∀(rest pre:List Nat) (l:Array Bool) (fr:Fr) (E:Es) (ro:RO) (a:Act) (w:World) (ov:Nat->Option S) (qs kd:List Nat),Inv X Γ ops js π K N ov qs kd f rest pre l fr E ro a w->wpAny P .any ops Q' f l a w:=by
 have fin:∀(f:Nat) (π:List Nat) (ok:OrdOk P nw N ops js π) (rest pre:List Nat) (l:Array Bool) (fr:Fr) (E:Es) (ro:RO) (a:Act) (w:World) (ov:Nat->Option S) (qs kd:List Nat),Inv X Γ ops js π K N ov qs kd f rest pre l fr E ro a w->(∀i∈π,Dn l i)->Q' .normal a w:=by
  intro f π ok rest
  induction rest with
  |nil=>
   intro pre l fr E ro a w ov qs kd h hd
   have hov:∀x,ov x=none:=fun x=>by
    cases hov:ov x with
    |none=>rfl
    |some s=>
     obtain ⟨i,_,h2|h2⟩:=h.v1 x (by rw[hov];simp)
     · exact absurd (hd i (by rw[h.ord];simp[h2.1])) h2.2
     · cases h2.1
   have he:over ov fr=fr:=funext fun x=>sW (hov x)
   have hf:=h.fra
   rw[he] at hf
   exact hQ fr E ro a w h.vo hf h.rel
  |cons i r ih=>
   intro pre l fr E ro a w ov qs kd h hd
   obtain ⟨fr',E',ov',kd',h'⟩:=aIY ok h (hd i (by rw[h.ord];simp))
   exact ih _ _ _ _ _ _ _ _ _ _ h' hd
 intro f
 induction f with
 |zero=>
  intro π ok hG rest pre l fr E ro a w ov qs kd h
  have hd:∀i∈π,Dn l i:=fun i hi=>aD8 (Nat.le_zero.1 h.fuel) i (by
   obtain ⟨p,r,e⟩:=uE hi
   exact (ok.ck p i r e).lt)
  refine ⟨?_,fin _ _ ok _ _ _ _ _ _ _ _ _ _ _ h hd⟩
  cases hr:Region.ready .any ops l with
  |nil=>rfl
  |cons k ks=>
   obtain ⟨hu,o,ho,_⟩:=rL (ops:=ops) (l:=l) (k:=k) (by rw[hr];simp)
   exact absurd (hd k (ok.all k (mQ.1 ho).1)) hu
 |succ f ih=>
  intro π ok hG rest
  induction rest with
  |nil=>
   intro pre l fr E ro a w ov qs kd h
   refine ⟨fun hr=>fin _ _ ok _ _ _ _ _ _ _ _ _ _ _ h (E8 ok h.size hr),fun k hk=>?_⟩
   obtain ⟨hu,o,ho,_⟩:=rL hk
   have hkp:k∈pre:=by
    have:=ok.all k (mQ.1 ho).1
    rw[h.ord] at this;simpa using this
   exact wpOp_mono (fun a' w' ⟨ov',h'⟩=>ih π ok hG _ _ _ _ _ _ _ _ _ _ _ h') (aMT ok h hkp hk)
  |cons i r ihr=>
   intro pre l fr E ro a w ov qs kd h
   by_cases hd:Dn l i
   · obtain ⟨fr',E',ov',kd',h'⟩:=aIY ok h hd
     exact ihr _ _ _ _ _ _ _ _ _ _ h'
   · cases hq:fT ops js i with
     |true=>
      obtain ⟨fr',ov',qs',h'⟩:=a1V ok h hq hd
      exact ihr _ _ _ _ _ _ _ _ _ _ h'
     |false=>
      refine ⟨fun hr=>absurd (E8 ok h.size hr i (by rw[h.ord];simp)) hd,fun k hk=>?_⟩
      obtain ⟨hu,o,ho,hw⟩:=rL hk
      have hkπ:=ok.all k (mQ.1 ho).1
      rw[h.ord] at hkπ
      rcases cL.1 hkπ with hkp|hkr
      · exact wpOp_mono (fun a' w' ⟨ov',h'⟩=>ih π ok hG _ _ _ _ _ _ _ _ _ _ _ h') (aMT ok h hkp hk)
      · cases hak:dX js k with
        |true=>exact wpOp_mono (fun a' w' ⟨ov',h'⟩=>ih π ok hG _ _ _ _ _ _ _ _ _ _ _ h') (a0R ok h hkr hak hk)
        |false=>
         have hvo:=h.vo
         cases hnf:qS ops js i r with
         |true=>
          obtain ⟨k',rfl,h1,h2,h3,h4,h5⟩:=G2 hnf
          have hG2:∀p i0 k0,pre++[k',i]=p++[i0,k0]->qS ops js i0 [k0]=true->OrdOk P nw N ops js (p++[k0,i0]):=fun p i0 k0 e _=>by
           obtain ⟨rfl,e2⟩:=List.append_inj' e rfl
           obtain ⟨rfl,rfl⟩:k'=i0/\i=k0:=by simpa using e2
           have:=h.ord;subst this;exact ok
          obtain ⟨ji,_,eji,_⟩:=ok.jt i _ (nO (ok.ck pre i [k'] h.ord).lt)
          obtain ⟨jk,_,ejk,_⟩:=ok.jt k' _ (nO (ok.ck (pre++[i]) k' [] (by rw[h.ord];simp)).lt)
          have tl:∀(x y:Nat) (jx jy:J),js[x]? = some jx->js[y]? = some jy->fT ops js x=false->fT ops js y=false->qS ops js x [y]=true->vO Γ (iT ops js qs kd [x,y]) fr (hp E) K->∀j,js[x]? = some j->vO Γ (.m j::(BO js qs (kd++kU ops x)++iT ops js qs (kd++kU ops x) [y])) fr (hp E) K:=by
           intro x y jx jy hx hy qx qy hxy hv j hj
           cases hj.symm.trans hx
           have ny:qS ops js y []=false:=rfl
           simp only[iT,hx,hy,qx,qy,hxy,ny,if_true,if_false,qQ,fI] at hv ⊢
           simp only[vO] at hv ⊢
           unfold BO at hv ⊢
           simp only[QU,vO]
           exact hv.1
          rcases bU.1 hkr with rfl|hkr'
          · exact wpOp_mono (fun a' w' ⟨fr',E',ro',kd',h'⟩=>ih π ok hG _ _ _ _ _ _ _ _ _ _ _ h') (ZM ok hm h hq (tl _ _ _ _ eji ejk h1 h3 hnf h.vo) hk)
          · rw[dS.1 hkr'] at hk
            have hs:=h.swap hnf
            have ok2:=hG pre i k' h.ord hnf
            rw[dS.1 hkr']
            exact wpOp_mono (fun a' w' ⟨fr',E',ro',kd',h'⟩=>ih _ ok2 hG2 _ _ _ _ _ _ _ _ _ _ _ h') (ZM ok2 hm hs h3 (tl _ _ _ _ ejk eji h3 h1 h5 hs.vo) hk)
         |false=>
         have hvo':∀j,js[i]? = some j->vO Γ (.m j::(BO js qs (kd++kU ops i)++iT ops js qs (kd++kU ops i) r)) fr (hp E) K:=fun j hj=>by
          simp only[iT,hj,hq,hnf,if_false,qQ] at hvo
          exact hvo
         rcases bU.1 hkr with rfl|hkr'
         · exact wpOp_mono (fun a' w' ⟨fr',E',ro',kd',h'⟩=>ih π ok hG _ _ _ _ _ _ _ _ _ _ _ h') (ZM ok hm h hq hvo' hk)
         · exfalso
           rcases (ok.ck pre i r h.ord).hd hq hnf k hkr' hak with h1|⟨k',h1,h2,h3⟩
           · exact hd (hw i h1)
           · have:=h.ra k' (by simp[h1]) (hw k' h3)
             rw[h2] at this;cases this
theorem OU (hm:MeetsIn P X Γ) {id:Nat} {hh:Nat->CH} (hmix:P.follows .mixedOrders=true) (hB:XC ops js=true)
 (hf:FRel N (gm E) ro fr a) (hr:Rel X E ro w) (hv:vO Γ (iT ops js [] [] (A7 ops js)) fr (hp E) K) {Q:Exit->Act->World->Prop}
 (hQ:∀fr E ro a w,K fr (hp E)->FRel N (gm E) ro fr a->Rel X E ro w->Q .normal a w) (hget:∀(i:Nat) (o:Oper),ops.toList[i]? = some o->∃(j:J),js[i]? = some j/\xY P nw N ops (hh i) o=some j):(Code.region id ops true).wp P Q a w:=by
 unfold XC at hB
 simp only[bI,fU] at hB
 obtain ⟨⟨⟨_,hl⟩,hC⟩,hF⟩:=hB
 have ok1:∀π,C3 ops js [] π=true->π.length=ops.size->OrdOk P nw N ops js π:=fun π hC hl=>by
  refine ⟨fun i o ho=>?_,fun p i r e=>?_,aOY hC hl⟩
  · obtain ⟨j,h1,h2⟩:=hget i o (by simpa using ho)
    exact ⟨j,_,h1,h2⟩
  · have:=K6 _ [] p i r hC e
    simpa using this
 have ok:=ok1 _ hC hl
 have hG:∀p i k,A7 ops js=p++[i,k]->qS ops js i [k]=true->OrdOk P nw N ops js (p++[k,i]):=fun p i k e hf=>by
  rw[I4 _ p i k e hf] at hF
  exact ok1 _ hF (by rw[<-hl,e];simp)
 refine wp_region_any hmix (aED hm hQ _ _ ok hG (A7 ops js) [] _ fr E ro a _ (fun _=>none) [] [] ?_)
 have hnd:∀i,¬ Dn (Array.replicate ops.size false) i:=fun i h=>by unfold Dn at h;rw[getD_replicate_false] at h;cases h
 refine ⟨rfl,by simp,fun i k hi=>absurd hi (hnd i),fun i hi=>(by cases hi),fun i _ hi=>absurd hi (hnd i),?_,fun s hs=>absurd rfl hs,fun i _ hi=>absurd hi (hnd i),?_,hr.drew,fun i hi=>(by cases hi),fun t ht=>(by cases ht),hv,fun i hi=>(by cases hi)⟩
 · unfold cnt
   exact dM (List.length_filter_le _ _) (by rw[aCY];exact bE _)
 · have he:over (fun _=>none) fr=fr:=rfl
   rw[he];exact hf
end
def Ex.to:Ex->Exit
 |.n=>.normal
 |.e id=>.exit id
 |.r=>.ret
inductive RV where
 |mv (o:O)
 |ld (i:LI)
def aEA (P:Program):ResultVar->Option RV
 |.tmp t=>some (.mv (.t t))
 |.cell c t=>match qW P t,kC P t with
  |some true,some n=>some (.ld (.ldn n (.t c)))
  |some false,some _=>some (.ld (.ld1 (.t c)))
  |_,_=>none
def DP (P:Program):List ResultVar->Option (List RV)
 |[]=>some []
 |r::l=>match aEA P r,DP P l with
  |some i,some l=>some (i::l)
  |_,_=>none
def FV (fr:Fr) (H:Hp):List RV->(List A->Prop)->Prop
 |[],K=>K []
 |.mv o::r,K=>match ev (fst fr) o with
  |.va a=>cZ fr o.sl/\FV fr H r fun l=>K (a::l)
  |_=>False
 |.ld i::r,K=>cZ fr i.sl/\vL (fst fr) H i fun s=>match s with
  |.va a=>FV fr H r fun l=>K (a::l)
  |_=>False
def VX:List A->S
 |[a]=>.va a
 |l=>.tu l
def pY (k0:Nat) (rs:List RV) (K:S->Hp->Prop):Ex->Fr->Hp->Prop
 |.e _,_,_=>False
 |_,fr,H=>FV fr H rs fun l=>Fin k0 K (VX l).nf H
def ZQ (az:List S):Fr:=fun i=>az.getD i .un
section
variable {P:Program} {N:Nat} {nw:Bool} {X:Ctx} {Γ:eX}
theorem w4 {ops:Array Oper} {h:Nat->CH}:∀(n:Nat) {l:List Oper} {k:Nat} {js:List J},nY P nw N ops h k l=some js->
 nY P nw N ops h k (l.take n)=some (js.take n)/\nY P nw N ops h (k+n) (l.drop n)=some (js.drop n)
 |0,l,k,js,hj=>⟨rfl,by simpa using hj⟩
 |n+1,[],k,js,hj=>by simp only[nY,aM] at hj;subst hj;exact ⟨rfl,rfl⟩
 |n+1,o::l,k,js,hj=>by
  obtain ⟨j,js',rfl,h1,h2⟩:=rD hj
  obtain ⟨h3,h4⟩:=w4 n h2
  refine ⟨?_,?_⟩
  · simp only[eG,nY,h1,h3]
  · simp only[JP];rw[<-h4];congr 1;omega
theorem z8:∀(js:List J),∀j∈js.take (i7 js),j.quiet=true
 |[],j,h=>by simp at h
 |k::r,j,h=>by
  simp only[i7] at h
  split at h
  · rename_i hk
    simp only[eG,bU] at h
    rcases h with rfl|h
    · exact hk
    · exact z8 r j h
  · simp at h
theorem OO (hm:MeetsIn P X Γ) {id:Nat} {ops:Array Oper} {draw:Bool} {h:Nat->CH} {js:List J} (hj:nY P nw N ops h 0 ops.toList=some js)
 (hd:draw=true->(P.follows .mixedOrders&&(if js.all J.quietC then Region.lexB .any ops else Region.lexTailB .any ops (i7 js)))=true)
 {fr:Fr} {E:Es} {ro:RO} {a:Act} {w:World} {K:Fr->Hp->Prop} (hf:FRel N (gm E) ro fr a) (hr:Rel X E ro w) (hv:vR Γ js fr (hp E) K) {Q:Exit->Act->World->Prop}
 (hQ:∀fr E ro a w,K fr (hp E)->FRel N (gm E) ro fr a->Rel X E ro w->Q .normal a w):(Code.region id ops draw).wp P Q a w:=by
 cases draw with
 |false=>exact wp_region_list (yW hm hQ _ _ _ hj _ _ _ _ _ hf hr hv)
 |true=>
  have hd:=hd rfl
  simp only[bI] at hd
  obtain ⟨hmix,hB⟩:=hd
  split at hB
  · rename_i hl
    refine wp_region_quiet (C:=Rel X E ro) hmix hB hr.drew ?_
    exact xF (X:=X) hm w ops.toList 0 js hj (fun j hj'=>nN.1 hl j hj') fr E ro a K hf hr hv fun fr' a' hf' hK w' hr'=>hQ _ _ _ _ _ hK hf' hr'
  · rename_i hl
    have hops:ops=ops.toList.toArray:=by simp
    rw[hops] at hB ⊢
    refine wp_region_still_tail (i7 js) hmix hB ?_
    obtain ⟨h1,h2⟩:=w4 (i7 js) hj
    rw[gJ] at h2
    rw[hops] at h1 h2
    refine AA (Y:=X) _ 0 _ (js.drop (i7 js)) h1 (z8 js) fr E ro a K hf hr.drew (by rw[sH];exact hv) fun fr' a' hf' hK=>?_
    exact yW (X:=X) hm hQ _ _ _ h2 _ _ _ _ _ hf' hr.drew hK
theorem M8 {ops:Array Oper} {n:Nat}:∀(m:Nat) (acc:List Nat),(∀x∈acc,x<n)->m<=n->∀x∈II ops n m acc,x<n
 |0,acc,h,_,x,hx=>h x hx
 |m+1,acc,h,hm,x,hx=>by
  simp only[II] at hx
  refine M8 m _ ?_ (by omega) x hx
  split
  · intro y hy
    rcases bU.1 hy with rfl|hy
    · omega
    · exact h y hy
  · exact h
theorem N1 {ops:Array Oper} {n:Nat}:∀(is:List Nat) (l:Array Bool),HeadInv .any ops n l->tU ops is l=true->(∀i∈is,i<n)->
 HeadInv .any ops n (IB is l)/\(∀k,l.getD k false=true->(IB is l).getD k false=true)/\∀i∈is,(IB is l).getD i false=true
 |[],l,inv,_,_=>⟨inv,fun _ h=>h,fun _ h=>by cases h⟩
 |i::is,l,inv,hB,hlt=>by
  simp only[tU,bI] at hB
  obtain ⟨⟨hr,_⟩,hB'⟩:=hB
  have hr':i∈Region.ready .any ops l:=by simpa using hr
  obtain ⟨h1,h2,h3⟩:=N1 is _ (inv.set hr' (hlt i (by simp))) hB' fun k hk=>hlt k (by simp[hk])
  have hset:(l.setIfInBounds i true).getD i false=true:=by
   obtain ⟨_,o,ho,_⟩:=mem_ready.1 hr'
   have:i<l.size:=by rw[inv.size];exact (mQ.1 ho).1
   simp[this]
  refine ⟨h1,fun k hk=>h2 k (getD_set_true hk),fun k hk=>?_⟩
  rcases bU.1 hk with rfl|hk
  · exact h2 _ hset
  · exact h3 k hk
theorem MV {ops:Array Oper} {h:Nat->CH}:∀{l:List Oper} {k:Nat} {js:List J},nY P nw N ops h k l=some js->∀(i:Nat) (o:Oper),l[i]? = some o->∃j,js[i]? = some j/\xY P nw N ops (h (k+i)) o=some j
 |[],_,_,_,_,_,h1=>by cases h1
 |o'::l,k,js,hj,i,o,ho=>by
  obtain ⟨j,js',rfl,h1,h2⟩:=rD hj
  cases i with
  |zero=>cases ho;exact ⟨j,rfl,h1⟩
  |succ i=>
   obtain ⟨j',h3,h4⟩:=MV h2 i o (by simpa using ho)
   exact ⟨j',by simpa using h3,by rw[<-h4];congr 2;omega⟩
theorem tL {ops:Array Oper} {h:Nat->CH} {js:List J} (hj:nY P nw N ops h 0 ops.toList=some js):∀(is:List Nat),(∀i∈is,i<ops.size)->ZB P nw N ops is (hY js is)
 |[],_=>.nil
 |i::is,hlt=>by
  have hi:=hlt i (by simp)
  obtain ⟨j,h1,h2⟩:=MV hj i ops[i] (by simp[hi])
  have hpk:hY js (i::is)=j::hY js is:=by
   unfold hY
   rw[UE,h1]
  rw[hpk]
  exact .cons ⟨ops[i],_,nO hi,h2⟩ (tL hj is fun k hk=>hlt k (by simp[hk]))
theorem FQ:∀(js:List J),∀j∈js.take (eK js),j.quietC=true
 |[],j,h=>by simp at h
 |k::r,j,h=>by
  simp only[eK] at h
  split at h
  · rename_i hk
    simp only[eG,bU] at h
    rcases h with rfl|h
    · exact hk
    · exact FQ r j h
  · simp at h
theorem KF (hm:MeetsIn P X Γ) {id:Nat} {ops:Array Oper} {h:Nat->CH} {js:List J} (hj:nY P nw N ops h 0 ops.toList=some js) (hmix:P.follows .mixedOrders=true) (hB:PA P ops (eK js)=true)
 {fr:Fr} {E:Es} {ro:RO} {a:Act} {w:World} {K:Fr->Hp->Prop} (hf:FRel N (gm E) ro fr a) (hr:Rel X E ro w) (hv:vR Γ (IR ops js) fr (hp E) K) {Q:Exit->Act->World->Prop}
 (hQ:∀fr E ro a w,K fr (hp E)->FRel N (gm E) ro fr a->Rel X E ro w->Q .normal a w):(Code.region id ops true).wp P Q a w:=by
 unfold PA at hB
 simp only[bI,fU] at hB
 obtain ⟨⟨⟨⟨⟨⟨⟨hsel,hn⟩,hs⟩,hc⟩,htk⟩,hlex⟩,hpu⟩,hlen⟩:=hB
 have hlt:∀i∈r9 ops (eK js),i<eK js:=M8 _ _ (fun x hx=>by cases hx) (bE _)
 have hltr:∀i∈wA ops (eK js),i<eK js:=fun i hi=>by unfold wA at hi;rw[List.mem_filter] at hi;exact oQ.1 hi.1
 have inv0:HeadInv .any ops (eK js) (Array.replicate ops.size false):=
  ⟨by simp,fun j oj _ hl=>(by rw[getD_replicate_false] at hl;cases hl),fun t _ ht=>getD_in (by simpa using ht) (getD_replicate_false _ _)⟩
 obtain ⟨inv,_,hls⟩:=N1 _ _ inv0 htk hlt
 refine Code.wp_mono (Q:=fun e a w=>e=.normal/\Q .normal a w) (fun e a w h=>by obtain ⟨rfl,h⟩:=h;exact h) (wp_region_any hmix ?_)
 have hf0:ops.size=(r9 ops (eK js)).length+((wA ops (eK js)).length+(ops.size-eK js)):=hlen.symm
 have key:=FF (P:=P) (N:=N) (nw:=nw) (Γ:=Γ) (ops:=ops) (E:=E) (ro:=ro) (w:={ w with drawn:=w.drawn+1 }) (Q':=fun e a w=>e=.normal/\Q .normal a w) (fun c a w h=>by cases h.1) hsel (Y:=X) (f:=(wA ops (eK js)).length+(ops.size-eK js))
  (r9 ops (eK js)) _ (hY js (wA ops (eK js))++js.drop (eK js)) _ (tL hj _ fun i hi=>by have:=hlt i hi;omega) (fun i hi o ho=>by
    have:=nN.1 hpu i hi
    rw[ho] at this;exact this) htk fr a K hf hr.drew hv fun fr' a' hf' hv'=>?_
 · rw[<-hf0] at key;exact key
 · refine FR (C:=Rel X E ro) (n:=eK js) (L:=fun l' a'=>Region.seqB .any ops (ops.size-eK js) (eK js) l'=true/\∀w',Rel X E ro w'->wpList P ops (fun e a w=>e=.normal/\Q .normal a w) (ops.toList.drop (eK js)) a' w') (fun l' a' w' hw' hL=>?_) _ _ _ _ hr.drew
    (TD hsel hs hc hn _ _ _ inv hls hlex (xG (X:=X) hm _ _ (js.drop (eK js)) (tL hj _ fun i hi=>by have:=hltr i hi;omega) (fun j hj'=>?_) fr' a' K hf' hr hv' fun fr2 a2 hf2 hv2=>?_))
   · have h1:=wpAny_of_seq (md:=.any) (Q':=fun e a w=>e=.normal/\Q .normal a w) (ops.toList.drop (eK js)) (eK js) l' a' w' (fun j=>by simp[vV]) (by rw[qP,uH];exact hL.1) (hL.2 w' hw')
     rwa [qP,uH] at h1
   · unfold hY at hj'
     obtain ⟨i,hi,hji⟩:=UC.1 hj'
     have hin:=hltr i hi
     exact FQ js j (cC (i:=i) (by rw[gW,if_pos hin];exact hji))
   · obtain ⟨_,h2⟩:=w4 (eK js) hj
     exact fun w' hw'=>yW (X:=X) hm (fun fr E ro a w hK hf hr=>⟨rfl,hQ fr E ro a w hK hf hr⟩) _ _ _ h2 _ _ _ _ _ hf2 hw' hv2
theorem FG {α:Type} (l:List α):∀n,hY l (List.range n)=l.take n
 |0=>rfl
 |n+1=>by
  have ih:=FG l n
  unfold hY at ih ⊢
  rw[List.range_succ,List.filterMap_append,ih,List.take_add_one]
  cases h:l[n]?<;>simp[h]
theorem aB1 {ops:Array Oper} {i j:Nat} {oj:Oper} (hj:ops[j]? = some oj) (h:Region.waitsFor .any ops j i=false):∀e∈oj.after,Region.binds .any e=true->e.on≠i:=by
 intro e he hb heq
 unfold Region.waitsFor at h
 simp only[hj] at h
 have:=Array.any_eq_false'.1 h e he
 simp[hb,heq] at this
theorem aHP {op:Op} {o:Oper} (ho:o.op=op) (h:XK P op=true) {ev:Operand->Value} {w w1:World} {r:Next} (hr:(execOp ev o).run P w=.ok r w1) :
 (∃v,r=.value v)/\(∀k,k<w.heap.size->w1.heap[k]? = w.heap[k]?)/\w.heap.size<=w1.heap.size/\w1.os=w.os/\w1.tape=w.tape/\w1.output=w.output:=by
 unfold XK at h
 split at h
 case h_2=>cases h
 rename_i t len parts
 split at h
 case h_2=>cases h
 rename_i e ht
 split at h
 case h_2=>cases h
 rename_i i hi
 obtain ⟨z,hz⟩:=oW.1 h
 simp only[execOp,ho,Instr.buildSlice] at hr
 simp[run_underlying ht,sizeOf,typeInfo,hi,zeroValue,hz] at hr
 split at hr
 · cases hr
 · split at hr
   all_goals
    generalize Instr.fill _ _ _=x at hr
    cases x with
    |none=>simp at hr
    |some cells=>
     simp[newRow] at hr
     obtain ⟨rfl,rfl⟩:=hr
     refine ⟨⟨_,rfl⟩,fun k hk=>?_,?_,rfl,rfl,rfl⟩
     · show (w.heap.push _)[k]? = _
       rw[Array.getElem?_push,if_neg (Nat.ne_of_lt hk)]
     · show _<=(w.heap.push _).size
       rw[Array.size_push];exact Nat.le_succ _
theorem vC {ops:Array Oper} {E:Es} {ro:RO} {L:Act->Prop} {w0:World}:∀(is:List Nat) (js rest:List J),ZB P nw N ops is js->(∀j∈js,j.quiet=true)->∀(fr:Fr) (a:Act) (K:Fr->Hp->Prop),FRel N (gm E) ro fr a->Rel X E ro w0->
 vR Γ (js++rest) fr (hp E) K->(∀fr' a',FRel N (gm E) ro fr' a'->vR Γ rest fr' (hp E) K->L a')->wpS P ops (Rel X E ro) L is a
 |[],js,rest,ht,_,fr,a,K,hf,hr,hv,hL=>by
  obtain rfl:=All2.nil_inv ht
  exact hL _ _ hf hv
 |i::is,js,rest,ht,hq,fr,a,K,hf,hr,hv,hL=>by
  obtain ⟨j,js',rfl,⟨o,σ,ho,h1⟩,h2⟩:=All2.cons_inv ht
  simp only[sG,vR] at hv
  have hs:=u3 hf hr h1 (hq j (by simp)) hv
  simp only[wpS,sOp,ho]
  split
  · rename_i hw
    rw[if_pos hw] at hs
    obtain ⟨fr',hK,v,hf',hrun⟩:=hs
    exact ⟨v,hrun,vC is js' rest h2 (fun y hy=>hq y (by simp[hy])) fr' _ K hf' hr hK hL⟩
  · rename_i hw
    rw[if_neg hw] at hs
    obtain ⟨fr',hK,hs⟩:=hs
    exact vC is js' rest h2 (fun y hy=>hq y (by simp[hy])) fr' _ K hs hr hK hL
theorem HN (hm:MeetsIn P X Γ) {id:Nat} {ops:Array Oper} {h:Nat->CH} {js:List J} (hj:nY P nw N ops h 0 ops.toList=some js) (hmix:P.follows .mixedOrders=true) (hB:ID P ops (i7 js)=true)
 {fr:Fr} {E:Es} {ro:RO} {a:Act} {w:World} {K:Fr->Hp->Prop} (hf:FRel N (gm E) ro fr a) (hr:Rel X E ro w) (hv:vR Γ js fr (hp E) K) {Q:Exit->Act->World->Prop}
 (hQ:∀fr E ro a w,K fr (hp E)->FRel N (gm E) ro fr a->Rel X E ro w->Q .normal a w):(Code.region id ops true).wp P Q a w:=by
 obtain ⟨n,hnl⟩:∃n,n=i7 js:=⟨_,rfl⟩
 rw[<-hnl] at hB
 unfold ID at hB
 simp only[bI,fU] at hB
 obtain ⟨⟨⟨⟨⟨⟨hsel,hn⟩,hc0⟩,hc⟩,hs⟩,hlex⟩,hon⟩:=hB
 split at hon
 case h_2=>cases hon
 rename_i on hon0
 simp only[bI] at hon
 obtain ⟨⟨hgd,hgr⟩,hall⟩:=hon
 have hgd':on.guard=none:=by simpa using hgd
 have hat:∀j,j<n->Region.waitsFor .any ops j n=false/\(Region.waitsFor .any ops n j=true\/∀oj,ops[j]? = some oj->on.apart ops oj=true):=fun j hjn=>by
  have:=nN.1 hall j (oQ.2 hjn)
  simp only[bI,oR,fB] at this
  refine ⟨this.1,this.2.imp (fun h=>h) fun h oj hoj=>?_⟩
  rw[hoj] at h;exact h
 have inv0:HeadInv .any ops n (Array.replicate ops.size false):=
  ⟨by simp,fun j oj _ hl=>(by rw[getD_replicate_false] at hl;cases hl),fun t _ ht=>getD_in (by simpa using ht) (getD_replicate_false _ _)⟩
 refine Code.wp_mono (Q:=fun e a w=>e=.normal/\Q .normal a w) (fun e a w h=>by obtain ⟨rfl,h⟩:=h;exact h) (wp_region_any hmix ?_)
 obtain ⟨g,hg⟩:∃g,ops.size=n+(g+1):=⟨ops.size-n-1,by omega⟩
 obtain ⟨_,h2⟩:=w4 n hj
 rw[gJ] at h2
 have hdr:ops.toList.drop n=on::ops.toList.drop (n+1):=by
  rw[List.drop_eq_getElem_cons (by simp;omega)]
  congr 1
  have:=mQ.1 hon0
  obtain ⟨_,h⟩:=this
  simpa using h
 have hlen2:(ops.toList.drop n).length=g+1:=by simp;omega
 have hlen3:(ops.toList.drop (n+1)).length=g:=by simp;omega
 obtain ⟨jn,jr,hjd,hj1,hj2⟩:∃jn jr,js.drop n=jn::jr/\xY P nw N ops (h n) on=some jn/\nY P nw N ops h (n+1) (ops.toList.drop (n+1))=some jr:=by
  rw[hdr] at h2
  exact rD h2
 let Lq:Act->Prop:=fun a'=>∃fr',FRel N (gm E) ro fr' a'/\vR Γ (js.drop n) fr' (hp E) K
 have hheads:wK P ops (Rel X E ro) n (fun l' a'=>Region.seqB .any ops (ops.size-n) n l'=true/\Lq a') n (Array.replicate ops.size false) a:=by
  have:=ON (P:=P) (C:=Rel X E ro) (Lq:=Lq) hsel (by omega:n<ops.size) (List.range n) (Array.replicate ops.size false) a hlex
   (vC (nw:=nw) (X:=X) (Γ:=Γ) (List.range n) (js.take n) (js.drop n) ?_ (by rw[hnl];exact z8 js) fr a K hf hr.drew (by rw[sH];exact hv) fun fr' a' hf' hv'=>⟨fr',hf',hv'⟩)
  · rwa [aCY] at this
  · have h3:=tL hj (List.range n) fun i hi=>by have:=oQ.1 hi;omega
    have h4:hY js (List.range n)=js.take n:=FG js n
    rw[h4] at h3;exact h3
 have hwp:∀a' w',Rel X E ro w'->∀fr',FRel N (gm E) ro fr' a'->vR Γ (js.drop n) fr' (hp E) K->on.wp P a' w' (wpList P ops (fun e a w=>e=.normal/\Q .normal a w) (ops.toList.drop (n+1))) (fun e a w=>e=.normal/\Q .normal a w):=fun a' w' hw' fr' hf' hv'=>by
  rw[hjd] at hv'
  have:=KI (Q:=fun e a w=>e=.normal/\Q .normal a w) (next:=wpList P ops (fun e a w=>e=.normal/\Q .normal a w) (ops.toList.drop (n+1))) hf' hw' hm hj1 hv' fun fr2 E2 ro2 a2 w2 hK2 hf2 hr2=>
   yW (X:=X) hm (fun fr E ro a w hK hf hr=>⟨rfl,hQ fr E ro a w hK hf hr⟩) _ _ _ hj2 _ _ _ _ _ hf2 hr2 hK2
  rwa [if_pos (gS hgd' _)] at this
 have key:=aCC (P:=P) (C:=Rel X E ro) (g:=g) (L:=fun l' a'=>Region.seqB .any ops (ops.size-n) n l'=true/\Lq a') (Q':=fun e a w=>e=.normal/\Q .normal a w) (fun c a w h=>by cases h.1) (Region.noSelect_spec hsel) hon0 hgd'
  (fun j oj hoj hjn hno=>(hat j hjn).2.elim (fun hw=>by
    obtain ⟨o',ho',e,he,hb,hon'⟩:=Region.waitsFor_spec hw
    cases hon0.symm.trans ho'
    exact absurd hon' (hno e he hb)) fun h=>h oj hoj)
  (fun j oj hoj hjn=>aB1 hoj (hat j hjn).1) hs hc0 hc hn
  (fun a' w' r w1 hw' hrun=>by
    obtain ⟨h1,h2,h3,h4,h5,h6⟩:=aHP rfl hgr hrun
    exact ⟨h1,hw'.grown h2 h3 h4 h5 h6⟩)
  (fun l' a' w' hw' ⟨hseq,fr',hf',hv'⟩=>by
    have h1:=wpAny_of_seq (md:=.any) (P:=P) (ops:=ops) (Q':=fun e a w=>e=.normal/\Q .normal a w) (ops.toList.drop n) n l' a' w' (fun j=>by simp[vV]) (by rw[hlen2,<-(by omega:ops.size-n=g+1)];exact hseq)
     (by rw[hdr];simp only[wpList];rw[if_pos (gS hgd' _)];exact .inl (hwp a' w' hw' fr' hf' hv'))
    rwa [hlen2] at h1)
  (fun l' a' w' hw' ⟨hseq,fr',hf',hv'⟩=>by
    have hsz:ops.size-n=g+1:=by omega
    rw[hsz] at hseq
    simp only[Region.seqB,bI] at hseq
    refine Oper.wp_mono (fun a2 w2 h=>?_) (hwp a' w' hw' fr' hf' hv')
    have h1:=wpAny_of_seq (md:=.any) (P:=P) (ops:=ops) (Q':=fun e a w=>e=.normal/\Q .normal a w) (ops.toList.drop (n+1)) (n+1) (l'.setIfInBounds n true) a2 w2 (fun j=>by simp[vV]) (by rw[hlen3];exact hseq.2) h
    rwa [hlen3] at h1)
  n _ a { w with drawn:=w.drawn+1 } hr.drew inv0 hheads
 rw[<-hg] at key
 exact key
theorem YO (hm:MeetsIn P X Γ) {h:Hint} {k0:Nat} (hk0:X.g0.length=k0):∀(c:Code) (pc:PC),tr P nw N h c=some pc->∀(fr:Fr) (E:Es) (ro:RO) (a:Act) (w:World) (K:Ex->Fr->Hp->Prop),FRel N (gm E) ro fr a->Rel X E ro w->vc Γ k0 pc fr (hp E) K->
 ∀(Q:Exit->Act->World->Prop),(∀ex fr' E' ro' a' w',K ex fr' (hp E')->FRel N (gm E') ro' fr' a'->Rel X E' ro' w'->Q ex.to a' w')->c.wp P Q a w:=by
 intro c
 induction c with
 |skip=>intro pc hpc fr E ro a w K hf hr hv Q hQ;simp only[tr,aM] at hpc;subst hpc;exact wp_skip (hQ .n _ _ _ _ _ hv hf hr)
 |exit id=>intro pc hpc fr E ro a w K hf hr hv Q hQ;simp only[tr,aM] at hpc;subst hpc;exact wp_exit (hQ (.e id) _ _ _ _ _ hv hf hr)
 |ret=>intro pc hpc fr E ro a w K hf hr hv Q hQ;simp only[tr,aM] at hpc;subst hpc;exact wp_ret (hQ .r _ _ _ _ _ hv hf hr)
 |seq x y ihx ihy=>
  intro pc hpc fr E ro a w K hf hr hv Q hQ
  simp only[tr] at hpc
  split at hpc
  · rename_i px py hx hy
    simp only[aM] at hpc
    subst hpc
    simp only[vc] at hv
    refine wp_seq (ihx px hx fr E ro a w _ hf hr hv _ ?_)
    intro ex fr' E' ro' a' w' hK hf' hr'
    cases ex with
    |n=>exact ihy py hy fr' E' ro' a' w' K hf' hr' hK Q hQ
    |e id=>exact hQ (.e id) _ _ _ _ _ hK hf' hr'
    |r=>exact hQ .r _ _ _ _ _ hK hf' hr'
  · cases hpc
 |cond o x y ihx ihy=>
  intro pc hpc fr E ro a w K hf hr hv Q hQ
  simp only[tr] at hpc
  split at hpc
  · rename_i px py hx hy
    simp only[aM] at hpc
    subst hpc
    simp only[vc] at hv
    split at hv
    · rename_i b hb
      obtain ⟨hg,h1,h2⟩:=hv
      have he:a.eval o=.bool b:=by
       have:=bC hf.res o
       rw[<-bD (eW hg),hb] at this
       exact this
      exact wp_cond_split he (fun hb=>ihx px hx fr E ro a w K hf hr (h1 hb) Q hQ) (fun hb=>ihy py hy fr E ro a w K hf hr (h2 hb) Q hQ)
    · exact hv.elim
  · cases hpc
 |block id x ihx=>
  intro pc hpc fr E ro a w K hf hr hv Q hQ
  simp only[tr] at hpc
  split at hpc
  · rename_i px hx
    simp only[aM] at hpc
    subst hpc
    simp only[vc] at hv
    refine wp_block (ihx px hx fr E ro a w _ hf hr hv _ ?_)
    intro ex fr' E' ro' a' w' hK hf' hr'
    cases ex with
    |n=>exact hQ .n _ _ _ _ _ hK hf' hr'
    |e j=>
     simp only[Ex.to,Exit.inBlock]
     simp only at hK
     split at hK
     · rename_i hj;rw[if_pos hj];exact hQ .n _ _ _ _ _ hK hf' hr'
     · rename_i hj;rw[if_neg hj];exact hQ (.e j) _ _ _ _ _ hK hf' hr'
    |r=>exact hQ .r _ _ _ _ _ hK hf' hr'
  · cases hpc
 |loop x ihx=>
  intro pc hpc fr E ro a w K hf hr hv Q hQ
  simp only[tr] at hpc
  split at hpc
  · rename_i px hx
    simp only[aM] at hpc
    subst hpc
    simp only[vc] at hv
    obtain ⟨Inv,h0,hround⟩:=hv
    obtain ⟨fr1,E1,ro1,⟨m,hI⟩,hf1,hr1⟩:=BD hk0 h0 rfl hf hr
    refine wp_loop_ghost (fun m a w=>∃fr E ro,Inv m fr (hp E)/\FRel N (gm E) ro fr a/\Rel X E ro w) m ⟨_,_,_,hI,hf1,hr1⟩ ?_
    rintro n a w ⟨fr2,E2,ro2,hI2,hf2,hr2⟩
    refine ihx px hx fr2 E2 ro2 a w _ hf2 hr2 (hround n fr2 _ hI2) _ ?_
    intro ex fr' E' ro' a' w' hK hf' hr'
    cases ex with
    |n=>
     obtain ⟨fr3,E3,ro3,⟨m',hlt,hI3⟩,hf3,hr3⟩:=BD hk0 hK rfl hf' hr'
     exact ⟨m',hlt,_,_,_,hI3,hf3,hr3⟩
    |e id=>exact hQ (.e id) _ _ _ _ _ hK hf' hr'
    |r=>exact hQ .r _ _ _ _ _ hK hf' hr'
  · cases hpc
 |region id ops draw=>
  intro pc hpc fr E ro a w K hf hr hv Q hQ
  simp only[tr] at hpc
  split at hpc
  · rename_i js hj
    have fin:∀(js':List J),(∀{fr1:Fr} {E1:Es} {ro1:RO},FRel N (gm E1) ro1 fr1 a->Rel X E1 ro1 w->vR Γ js' fr1 (hp E1) (K .n)->(Code.region id ops draw).wp P Q a w)->pc=(if h.gh id then .gh (.reg js') else .reg js')->(Code.region id ops draw).wp P Q a w:=fun js' hs hp'=>by
     subst hp'
     split at hv
     · simp only[vc] at hv
       obtain ⟨fr1,E1,ro1,hv1,hf1,hr1⟩:=BD hk0 hv rfl hf hr
       exact hs hf1 hr1 hv1
     · simp only[vc] at hv
       exact hs hf hr hv
    by_cases hdr:draw=true
    · rw[if_pos hdr] at hpc
      by_cases hB:(P.follows .mixedOrders&&(if js.all J.quietC then Region.lexB .any ops else Region.lexTailB .any ops (i7 js)))=true
      · rw[if_pos hB] at hpc
        exact fin js (fun hf1 hr1 hv1=>OO hm hj (fun _=>hB) hf1 hr1 hv1 fun fr E ro a w hK hf hr=>hQ .n _ _ _ _ _ hK hf hr) (dV hpc).symm
      · rw[if_neg hB] at hpc
        by_cases hB2:(P.follows .mixedOrders&&PA P ops (eK js))=true
        · rw[if_pos hB2] at hpc
          rw[bI] at hB2
          subst hdr
          exact fin (IR ops js) (fun hf1 hr1 hv1=>KF hm hj hB2.1 hB2.2 hf1 hr1 hv1 fun fr E ro a w hK hf hr=>hQ .n _ _ _ _ _ hK hf hr) (dV hpc).symm
        · rw[if_neg hB2] at hpc
          by_cases hB3:(P.follows .mixedOrders&&ID P ops (i7 js))=true
          · rw[if_pos hB3] at hpc
            rw[bI] at hB3
            subst hdr
            exact fin js (fun hf1 hr1 hv1=>HN hm hj hB3.1 hB3.2 hf1 hr1 hv1 fun fr E ro a w hK hf hr=>hQ .n _ _ _ _ _ hK hf hr) (dV hpc).symm
          · rw[if_neg hB3] at hpc
            by_cases hB4:(P.follows .mixedOrders&&XC ops js)=true
            · rw[if_pos hB4] at hpc
              rw[bI] at hB4
              subst hdr
              obtain rfl:=(dV hpc).symm
              have key:∀{fr1:Fr} {E1:Es} {ro1:RO},FRel N (gm E1) ro1 fr1 a->Rel X E1 ro1 w->vO Γ (iT ops js [] [] (A7 ops js)) fr1 (hp E1) (K .n)->(Code.region id ops true).wp P Q a w:=fun hf1 hr1 hv1=>
               OU hm (hh:=h.σ id) hB4.1 hB4.2 hf1 hr1 hv1 (fun fr E ro a w hK hf hr=>hQ .n _ _ _ _ _ hK hf hr) (fun i o ho=>by have:=MV hj i o ho;simpa using this)
              split at hv
              · simp only[vc] at hv
                obtain ⟨fr1,E1,ro1,hv1,hf1,hr1⟩:=BD hk0 hv rfl hf hr
                exact key hf1 hr1 hv1
              · simp only[vc] at hv
                exact key hf hr hv
            · rw[if_neg hB4] at hpc;cases hpc
    · rw[if_neg hdr] at hpc
      exact fin js (fun hf1 hr1 hv1=>OO hm hj (fun h=>absurd h hdr) hf1 hr1 hv1 fun fr E ro a w hK hf hr=>hQ .n _ _ _ _ _ hK hf hr) (dV hpc).symm
  · cases hpc
 |rangeFunc f ps x y=>intro pc hpc;simp[tr] at hpc
 |scope x=>intro pc hpc;simp[tr] at hpc
 |label l=>intro pc hpc;simp[tr] at hpc
 |goto l=>intro pc hpc;simp[tr] at hpc
 |refuse s=>intro pc hpc fr E ro a w K hf hr hv Q hQ;simp only[tr,aM] at hpc;subst hpc;exact hv.elim
def N9 (tmps:Array Value) (r:ResultVar):Sem Value:=
 match r with
 |.tmp t=>pure (tmps.getD t undef)
 |.cell c t=>do loadVar t (<-asAddr (tmps.getD c undef))
theorem UM (fn:Func) (tmps:Array Value):results fn tmps=(do let vs <-fn.results.mapM (N9 tmps);pure (if h:vs.size=1 then vs[0] else .tuple vs)):=rfl
theorem NC {fr:Fr} {a:Act} {E:Es} {ro:RO} {w:World} (hf:FRel N (gm E) ro fr a) (hr:Rel X E ro w):∀{rvs:List ResultVar} {rs:List RV} {K:List A->Prop},DP P rvs=some rs->FV fr (hp E) rs K->
 ∃l vs,K l/\(rvs.mapM (N9 a.tmps)).run P w=.ok vs w/\All2 (A.rel (gm E) ro) l vs
 |[],rs,K,h1,h2=>by
  simp only[DP,aM] at h1
  subst h1
  exact ⟨[],[],h2,by simp,.nil⟩
 |rv::rvs,rs,K,h1,h2=>by
  simp only[DP] at h1
  split at h1
  · rename_i i rs' hi hrs
    simp only[aM] at h1
    subst h1
    have fin:∀{y:A} {v:Value},(N9 a.tmps rv).run P w=.ok v w->y.rel (gm E) ro v->FV fr (hp E) rs' (fun l=>K (y::l))->∃l vs,K l/\((rv::rvs).mapM (N9 a.tmps)).run P w=.ok vs w/\All2 (A.rel (gm E) ro) l vs:=by
     intro y v hv hy hr'
     obtain ⟨l,vs,k1,k2,k3⟩:=NC hf hr hrs hr'
     exact ⟨_,v::vs,k1,by simp only[List.mapM_cons,Sem.run_bind,hv,Result.andThen_ok,k2];simp,.cons hy k3⟩
    cases rv with
    |tmp t=>
     simp only[aEA,aM] at hi
     subst hi
     simp only[FV] at h2
     split at h2
     · rename_i y hy
       obtain ⟨hg,h2⟩:=h2
       have h3:=bC hf.res (.tmp t)
       simp only[aT] at h3
       rw[<-bD (fr:=fst fr) (eW hg),hy] at h3
       exact fin (v:=a.tmps.getD t undef) (by simp[N9]) h3 h2
     · exact h2.elim
    |cell c t=>
     have hld:∀{v:Value},(execOp a.eval { dst:=none,op:=.load t (.tmp c),type:=t,pos:="",after:=#[],guard:=none }).run P w=.ok (.value v) w->(N9 a.tmps (.cell c t)).run P w=.ok v w:=by
      intro v hv
      simp only[execOp,Instr.loadAt,Act.eval] at hv
      simp only[N9]
      cases hp:a.tmps.getD c undef with
      |pointer p=>
       cases p with
       |none=>rw[hp] at hv;simp[Instr.sureAddr] at hv
       |some ad=>
        rw[hp] at hv
        simp only[Instr.sureAddr,asAddr] at hv ⊢
        simp only[pure_bind,Sem.run_bind] at hv ⊢
        cases hl:(loadVar t ad).run P w with
        |ok x w'=>rw[hl] at hv;simpa using hv
        |halt x w'=>rw[hl] at hv;simp at hv
      |_=>rw[hp] at hv;simp[Instr.sureAddr] at hv
     have hcase:∃li,i=.ld li/\W5 P (.load t (.tmp c))=some li:=by
      simp only[aEA] at hi
      simp only[W5]
      split at hi<;>simp only[aM,reduceCtorEq] at hi<;>subst hi<;>simp_all[aT]
     obtain ⟨li,rfl,hli⟩:=hcase
     obtain ⟨hg,h2⟩:=h2
     rw[uJ (eW hg)] at h2
     obtain ⟨s,hK,v,hv,hrun⟩:=EX (P:=P) (o:={ dst:=none,op:=.load t (.tmp c),type:=t,pos:="",after:=#[],guard:=none }) hf.res hr hli h2
     cases s with
     |va y=>exact fin (hld (hrun X w hr)) hv hK
     |_=>exact hK.elim
  · cases h1
theorem aHM {f:FuncId} {fn:Func} {c:Code} {pc:PC} {rs:List RV} {h:Hint} (hf:P.funcs[f]? = some fn) (hb:fn.body=some c) (hnm:(fn.name == "runtime.NumGoroutine")=false) (hN:fn.ntmps=N) (hpc:tr P nw N h c=some pc) (hrs:DP P fn.results.toList=some rs)
 (hm:mS P Γ) {s:Spec} (hlen:∀az H K,s az H K->az.length<=N) (hs:∀az H K,s az H K->vc Γ H.length pc (ZQ az) H (pY H.length rs K)):Meets P f s:=by
 refine ⟨by simp[yP,hf,hb,hnm],?_⟩
 intro az vs E ro w K hl hrel hr hsp hG
 have hlN:=hlen az (hp E) K hsp
 refine calls_of_wp hf hb ?_
 have hfr:FRel N (gm E) ro (ZQ az) { tmps:=vs.toArray++Array.replicate (fn.ntmps-vs.toArray.size) undef,defers:=[] }:=by
  refine ⟨by simp[hN];omega,fun i=>?_,rfl⟩
  unfold ZQ
  rw[E6]
  cases hi:az[i]? with
  |none=>trivial
  |some x=>
   have hlt:i<vs.length:=by rw[<-hl];exact (bT.1 hi).1
   have hv:vs[i]? = some vs[i]:=aX hlt
   have:=hrel i x _ hi hv
   simp only[Option.getD_some]
   have he:(vs.toArray++Array.replicate (fn.ntmps-vs.toArray.size) undef).getD i undef=vs[i]:=by
    rw[vW,Array.getElem?_append_left (by simpa using hlt)]
    simp[hlt]
   simp only[he]
   exact this
 have hk0:(Ctx.mk w (fL E) ro (gm E)).g0.length=(hp E).length:=by simp[gm,hp]
 refine YO (X:=⟨w,fL E,ro,gm E⟩) ⟨hG,hG.nb hr,hm⟩ hk0 c pc hpc _ _ _ _ _ _ hfr hr (hs az (hp E) K hsp) _ ?_
 have fin:∀fr' E' ro' a' w',FV fr' (hp E') rs (fun l=>Fin (hp E).length K (VX l).nf (hp E'))->FRel N (gm E') ro' fr' a'->Rel ⟨w,fL E,ro,gm E⟩ E' ro' w'->
  a'.defers=[]/\∃v,(results fn a'.tmps).run P w'=.ok v w'/\∃r v' E'' ro'',Ending.returned v=.returned v'/\S.rel (gm E'') ro'' r v'/\K r (hp E'')/\Rel ⟨w,fL E,ro,gm E⟩ E'' ro'' w':=by
  intro fr' E' ro' a' w' h1 h4 h5
  obtain ⟨l,us,h3,hrun,hus⟩:=NC h4 h5 hrs h1
  refine ⟨h4.defers,(if h:us.toArray.size=1 then us.toArray[0] else .tuple us.toArray),?_,?_⟩
  · simp only[UM,Array.mapM_eq_mapM_toList,Sem.run_bind,Sem.run_map,hrun,Result.andThen_ok,Sem.run_pure]
  · have hrel:(VX l).rel (gm E') ro' (if h:us.toArray.size=1 then us.toArray[0] else .tuple us.toArray):=by
     match l,us,hus with
     |[],us,hus=>have:=hus.nil_inv;subst this;exact ⟨[],rfl,.nil⟩
     |[y],us,hus=>
      obtain ⟨u,m',rfl,hy,hm'⟩:=hus.cons_inv
      have:=hm'.nil_inv
      subst this
      exact hy
     |y::z::r,us,hus=>
      have:¬ us.toArray.size=1:=by have:=hus.1;simp at this ⊢;omega
      rw[dif_neg this]
      exact ⟨us,rfl,hus⟩
    obtain ⟨r',E'',ro'',hK,hr',hR⟩:=OE hk0 h3 rfl (S.rel_nf hrel) h5
    exact ⟨r',_,E'',ro'',rfl,hr',hK,hR⟩
 intro ex fr' E' ro' a' w' hK h4 h5
 cases ex with
 |n=>exact fin fr' E' ro' a' w' hK h4 h5
 |r=>exact fin fr' E' ro' a' w' hK h4 h5
 |e id=>exact hK.elim
end
def aU (P:Program) (nw:Bool) (h:Hint) (fn:Func):Option (PC×List RV):=
 if fn.name == "runtime.NumGoroutine" then none else
 match fn.body with
 |some c=>match tr P nw fn.ntmps h c,DP P fn.results.toList with
  |some pc,some rs=>some (pc,rs)
  |_,_=>none
 |none=>none
theorem aF {P:Program} {nw:Bool} {Γ:eX} {f:FuncId} {fn:Func} {pc:PC} {rs:List RV} {h:Hint} (hf:P.funcs[f]? = some fn) (hpc:aU P nw h fn=some (pc,rs)) (n:Nat) (hn:n<=fn.ntmps)
 (hm:mS P Γ) {s:Spec} (hlen:∀az H K,s az H K->az.length=n) (hs:∀az H K,s az H K->vc Γ H.length pc (ZQ az) H (pY H.length rs K)):Meets P f s:=by
 unfold aU at hpc
 split at hpc
 · cases hpc
 · rename_i hnm
   split at hpc
   · rename_i c hc
     split at hpc
     · rename_i pc' rs' h1 h2
       simp only[aM,Prod.mk.injEq] at hpc
       obtain ⟨rfl,rfl⟩:=hpc
       exact aHM hf hc (by simpa using hnm) rfl h1 h2 hm (fun az H K hh=>by rw[hlen az H K hh];exact hn) hs
     · cases hpc
   · cases hpc
def PC.hgh:PC->Bool
 |.gh _=>true
 |.seq x _=>x.hgh
 |_=>false
def PC.ungh:PC->PC
 |.gh x=>x
 |.seq x y=>.seq x.ungh y
 |x=>x
theorem aH {Γ:eX} {k0:Nat}:∀{pc:PC} {fr:Fr} {H:Hp} {K:Ex->Fr->Hp->Prop},pc.hgh=true->Gh k0 (fun fr' H'=>vc Γ k0 pc.ungh fr' H' K) fr H->vc Γ k0 pc fr H K
 |.gh x,fr,H,K,_,h=>h
 |.seq x y,fr,H,K,hg,h=>aH (pc:=x) (K:=fun e fr' H'=>match e with | .n=>vc Γ k0 y fr' H' K|e=>K e fr' H') hg h
structure Tag {α:Type} (a:α):Type where
def vcn (Γ:eX) (k0:Nat) (x:PC) (fr:Fr) (H:Hp) (K:Ex->Fr->Hp->Prop) (_:Tag (Γ,x,fr,K)):Prop:=vc Γ k0 x fr H K
attribute [go_sem ↓] nV vI IE IL sp Fun.sp FV lM
@[go_sem ↓] theorem bF4 (s:Spec) (az':List S) (H:Hp) (K:S->Hp->Prop):(Entry.s s).sp az' H K=s az' H K:=rfl
@[go_sem ↓] theorem bF3 (p:Fun) (az':List S) (H:Hp) (K:S->Hp->Prop):(Entry.f p).sp az' H K=p.sp az' H K:=rfl
attribute [go_sem ↓] xB rX lkS lq vE vA vZ vL qv qc ev gv cZ QI.sl LI.sl EI.sl O.sl O.sls O.slo O.slp VX
@[go_sem ↓] theorem bDW (fr:Fr) (d:Nat) (s:S) (i:Nat):put fr (some d) s i=if i=d then s else fr i:=rfl
@[go_sem ↓] theorem bCW (fr:Fr) (s:S) (i:Nat):put fr none s i=fr i:=rfl
@[go_sem ↓] theorem bEK (fr:Fr) (i:Nat):fst fr i=(fr i).st:=rfl
@[go_sem ↓] theorem bCT (xs:List S) (i:Nat):ZQ xs i=xs.getD i .un:=rfl
attribute [go_sem] S.ofV A.ofV G0 HU QC I8 nG
attribute [go_sem] wr dW I9 NP l6 rows pN H3 eqC W7 A6 Entry.f gN back wI vN cS qR aK6 sV u4
section
variable {Γ:eX} {k0:Nat} {x y:PC} {fr:Fr} {H:Hp} {K:Ex->Fr->Hp->Prop} {id:Nat} {o:O} {js:List J}
@[go_sem ↓] theorem bDD (K:Fr->Hp->Prop):vR Γ [] fr H K=K fr H:=rfl
@[go_sem ↓] theorem a8Y (K:Fr->Hp->Prop) (d:Option Nat) (i:I) (r:List J):vR Γ (⟨d,none,i⟩::r) fr H K=nV Γ fr H (fun fr' H'=>vR Γ r fr' H' K) d i:=rfl
@[go_sem ↓] theorem a9A (K:Fr->Hp->Prop) (d:Option Nat) (sl:Nat) (want:Bool) (i:I) (r:List J):vR Γ (⟨d,some (sl,want),i⟩::r) fr H K=(match gv fr sl want with
 |none=>False
 |some g=>l8 Γ fr H (fun fr' H'=>vR Γ r fr' H' K) d sl want g i):=rfl
@[go_sem ↓] theorem bE3 (K:Fr->Hp->Prop) (d:Option Nat) (sl:Nat) (want g:Bool) (i:QI):l8 Γ fr H K d sl want g (.q i)=(match qv (fst fr) H i with
 |some s=>(g=true->cZ fr i.sl/\qc (fst fr) H i)/\K (put fr d (s.cnd g)) H
 |none=>g=false/\K (put fr d dum) H):=rfl
@[go_sem ↓] theorem bEU (K:Fr->Hp->Prop) (d:Option Nat) (sl:Nat) (want g:Bool) (x y:O):l8 Γ fr H K d sl want g (.ix x y)=(match ev (fst fr) x,ev (fst fr) y with
 |.va (.c1 (.vl (.string s))),.va (.c1 (.vl (.int _ k)))=>(g=true->cZ fr (x.sl++y.sl)/\0<=k/\k<(bl s).length)/\∀c:UInt8,(g=true->(bl s)[k.toNat]? = some c)->K (put fr d (.cn g (.c1 (.vl (.int .u8 c.toNat))))) H
 |_,_=>g=false/\K (put fr d dum) H):=rfl
@[go_sem ↓] theorem bFF (K:Fr->Hp->Prop) (d:Option Nat) (sl:Nat) (want g:Bool) (i:LI):l8 Γ fr H K d sl want g (.l i)=(match lq (fst fr) H i with
 |some s=>(g=true->cZ fr i.sl)/\K (put fr d (s.cnd g)) H
 |none=>(g=true->cZ (lM fr sl want) i.sl/\vL (fst (lM fr sl want)) H i fun s=>K (put (lM fr sl want) d s) H)/\(g=false->K (put (u4 fr sl want) d dum) H)):=rfl
@[go_sem ↓] theorem a91 (K:Fr->Hp->Prop) (d:Option Nat) (sl:Nat) (want g:Bool) (c x y:O):l8 Γ fr H K d sl want g (.pick c x y)=(match ev (fst fr) c,ev (fst fr) x,ev (fst fr) y with
 |.va (.c1 (.vl (.bool b))),.va ax,.va ay=>(g=true->cZ fr c.sl/\(b=true->cZ fr x.sl)/\(b=false->cZ fr y.sl))/\K (put fr d (.cn g (yZ b ax ay))) H
 |_,_,_=>g=false/\K (put fr d dum) H):=rfl
@[go_sem ↓] theorem bED (K:Fr->Hp->Prop) (d:Option Nat) (sl:Nat) (want g:Bool) (f:FuncId) (xs:List O):l8 Γ fr H K d sl want g (.cq f xs)=IL Γ fr H f xs (g=true) fun a=>K (put fr d (.cn g a)) H:=rfl
@[go_sem ↓] theorem bEX (K:Fr->Hp->Prop) (d:Option Nat) (sl:Nat) (want g:Bool) (i:EI):l8 Γ fr H K d sl want g (.e i)=((g=true->vI Γ (lM fr sl want) H (fun s H'=>K (put (lM fr sl want) d s) H') (.e i))/\(g=false->K (put (u4 fr sl want) d dum) H)):=rfl
@[go_sem ↓] theorem bCE (K:Fr->Hp->Prop) (d:Option Nat) (sl:Nat) (want g:Bool) (f:FuncId) (xs:List O) (σ:List Nat):l8 Γ fr H K d sl want g (.cl f xs σ)=((g=true->vI Γ (lM fr sl want) H (fun s H'=>K (put (lM fr sl want) d s) H') (.cl f xs σ))/\(g=false->K (put (u4 fr sl want) d dum) H)):=rfl
@[go_sem ↓] theorem bD9 (K:Fr->Hp->Prop) (d:Option Nat) (sl:Nat) (want g:Bool) (f:O) (xs:List O) (σ:List Nat):l8 Γ fr H K d sl want g (.ca f xs σ)=((g=true->vI Γ (lM fr sl want) H (fun s H'=>K (put (lM fr sl want) d s) H') (.ca f xs σ))/\(g=false->K (put (u4 fr sl want) d dum) H)):=rfl
def vcl (Γ:eX) (k0:Nat) (x:PC) (fr:Fr) (H:Hp) (K:Ex->Fr->Hp->Prop) (_:Tag (Γ,x,fr,K)):Prop:=vc Γ k0 (.loop x) fr H K
@[go_sem ↓] theorem aSP:vc Γ k0 (.loop x) fr H K=vcl Γ k0 x fr H K ⟨⟩:=rfl
def vcg (Γ:eX) (k0:Nat) (x:PC) (fr:Fr) (H:Hp) (K:Ex->Fr->Hp->Prop) (_:Tag (Γ,x,fr,K)):Prop:=Gh k0 (fun fr' H'=>vc Γ k0 x fr' H' K) fr H
@[go_sem ↓] theorem a0A:vc Γ k0 (.gh x) fr H K=vcg Γ k0 x fr H K ⟨⟩:=rfl
@[go_sem ↓] theorem bBU:vc Γ k0 .skip fr H K=K .n fr H:=rfl
@[go_sem ↓] theorem bCU:vc Γ k0 (.seq x y) fr H K=vc Γ k0 x fr H (fun e fr' H'=>match e with | .n=>vc Γ k0 y fr' H' K|e=>K e fr' H'):=rfl
@[go_sem ↓] theorem bEH:vc Γ k0 (.reg js) fr H K=vR Γ js fr H (K .n):=rfl
@[go_sem ↓] theorem bC5 (l:List OJ):vc Γ k0 (.ord l) fr H K=vO Γ l fr H (K .n):=rfl
@[go_sem ↓] theorem bD1 (K:Fr->Hp->Prop):vO Γ [] fr H K=K fr H:=rfl
@[go_sem ↓] theorem bFV (K:Fr->Hp->Prop) (d:Nat) (i:I) (r:List OJ):vO Γ (.q ⟨some d,none,i⟩::r) fr H K=nV Γ fr H (fun fr' _=>vO Γ r (put fr (some d) (fr' d)) H K) (some d) i:=rfl
@[go_sem ↓] theorem bFE (K:Fr->Hp->Prop) (d sl:Nat) (want:Bool) (i:I) (r:List OJ):vO Γ (.q ⟨some d,some (sl,want),i⟩::r) fr H K=(match gv fr sl want with
 |none=>False
 |some g=>l8 Γ fr H (fun fr' _=>vO Γ r (put fr (some d) (fr' d)) H K) (some d) sl want g i):=rfl
@[go_sem ↓] theorem bFD (K:Fr->Hp->Prop) (d:Option Nat) (i:I) (r:List OJ):vO Γ (.m ⟨d,none,i⟩::r) fr H K=nV Γ fr H (fun fr' H'=>vO Γ r fr' H' K) d i:=rfl
@[go_sem ↓] theorem bEY (K:Fr->Hp->Prop) (d:Option Nat) (sl:Nat) (want:Bool) (i:I) (r:List OJ):vO Γ (.m ⟨d,some (sl,want),i⟩::r) fr H K=(match gv fr sl want with
 |none=>False
 |some g=>l8 Γ fr H (fun fr' H'=>vO Γ r fr' H' K) d sl want g i):=rfl
@[go_sem ↓] theorem bDN (K:Fr->Hp->Prop) (d:Nat) (i:I) (r:List OJ):vO Γ (.rc ⟨some d,none,i⟩::r) fr H K=(nV Γ fr H (fun fr' _=>fr' d=fr d) (some d) i/\vO Γ r fr H K):=rfl
@[go_sem ↓] theorem bC9 (K:Fr->Hp->Prop) (d sl:Nat) (want:Bool) (i:I) (r:List OJ):vO Γ (.rc ⟨some d,some (sl,want),i⟩::r) fr H K=((match gv fr sl want with
 |none=>False
 |some g=>l8 Γ fr H (fun fr' _=>fr' d=fr d) (some d) sl want g i)/\vO Γ r fr H K):=rfl
def I1:List J->List OJ->List OJ
 |[],l=>l
 |j::r,l=>.rc j::I1 r l
@[go_sem ↓] theorem bA8 (l:List OJ):I1 [] l=l:=rfl
@[go_sem ↓] theorem a99 (j:J) (r:List J) (l:List OJ):I1 (j::r) l=.rc j::I1 r l:=rfl
theorem ZZ (K:Fr->Hp->Prop):∀(ra:List J) (fr:Fr) (l:List OJ),vO Γ (I1 ra l) fr H K=(BS Γ ra fr H/\vO Γ l fr H K)
 |[],fr,l=>by simp[I1,BS]
 |j::r,fr,l=>by simp only[I1,BS,vO,ZZ K r,and_assoc]
@[go_sem ↓] theorem bF2 (K:Fr->Hp->Prop) (a b:J) (ra rb:List J) (r:List OJ):vO Γ (.fk a b ra rb::r) fr H K=(vO Γ (.m a::I1 ra (.m b::r)) fr H K/\vO Γ (.m b::I1 rb (.m a::r)) fr H K):=by
 simp only[vO,ZZ]
@[go_sem ↓] theorem bA6:vc Γ k0 (.cond o x y) fr H K=(match ev (fst fr) o with
 |.va (.c1 (.vl (.bool b)))=>cZ fr o.sl/\(b=true->vc Γ k0 x fr H K)/\(b=false->vc Γ k0 y fr H K)
 |_=>False):=rfl
@[go_sem ↓] theorem a88:vc Γ k0 (.block id x) fr H K=vc Γ k0 x fr H (fun e fr' H'=>match e with | .e j=>if j=id then K .n fr' H' else K (.e j) fr' H'|e=>K e fr' H'):=rfl
@[go_sem ↓] theorem bBE:vc Γ k0 (.exit id) fr H K=K (.e id) fr H:=rfl
@[go_sem ↓] theorem bFH:vc Γ k0 .no fr H K=False:=rfl
@[go_sem ↓] theorem bCF:vc Γ k0 .ret fr H K=K .r fr H:=rfl
def gY:List (Nat×S)->Fr
 |[]=>fun _=>.un
 | (i,s)::r=>put (gY r) (some i) s
def nF (L:Nat) (fr:Fr):List (Nat×S)->Prop
 |[]=>True
 | (i,s)::r=>(fr i).ren (qR L)=s/\nF L fr r
@[go_sem ↓] theorem bBF (l:List (Nat×S)) (i j:Nat) (s:S):gY ((j,s)::l) i=if i=j then s else gY l i:=rfl
@[go_sem ↓] theorem bBI (i:Nat):gY [] i=.un:=rfl
attribute [go_sem ↓] nF
theorem xM {L:Nat}:∀{l:List (Nat×S)} {fr:Fr},nF L fr l->∀i,gY l i=(fr i).ren (qR L)\/gY l i=.un
 |[],fr,_,i=>.inr rfl
 | (j,s)::r,fr,h,i=>by
  simp only[gY,put]
  split
  · rename_i hi;subst hi;exact .inl h.1.symm
  · exact xM h.2 i
def I0 (ns:List Nat) (fr:Fr):List (Nat×S)->Prop
 |[]=>True
 | (i,s)::r=>(fr i).ren (gN ns)=s/\I0 ns fr r
attribute [go_sem ↓] I0
theorem SJ {ns:List Nat}:∀{l:List (Nat×S)} {fr:Fr},I0 ns fr l->∀i,gY l i=(fr i).ren (gN ns)\/gY l i=.un
 |[],fr,_,i=>.inr rfl
 | (j,s)::r,fr,h,i=>by
  simp only[gY,put]
  split
  · rename_i hi;subst hi;exact .inl h.1.symm
  · exact SJ h.2 i
def EM {α:Type} (k0:Nat) (up:α->List (Nat×S)) (Hs:α->Hp) (Inv:α->Prop) (μ:α->Nat) (z:α) (K:Ex->Fr->Hp->Prop):Ex->Fr->Hp->Prop
 |.n,fr',H'=>Gh k0 (fun fr'' H''=>∃m',m'<μ z/\∃z',Inv z'/\fr''=gY (up z')/\H''=Hs z'/\m'=μ z') fr' H'
 |e,fr',H'=>K e fr' H'
section
variable {α:Type} {up:α->List (Nat×S)} {Hs:α->Hp} {Inv:α->Prop} {μ:α->Nat} {z:α}
def aKV (k0:Nat) (up:α->List (Nat×S)) (Hs:α->Hp) (Inv:α->Prop) (μ:α->Nat) (z:α) (fr:Fr) (H:Hp) (_:Tag (up,Hs,Inv,μ,z,fr)):Prop:=
 Gh k0 (fun fr'' H''=>∃m',m'<μ z/\∃z',Inv z'/\fr''=gY (up z')/\H''=Hs z'/\m'=μ z') fr H
@[go_sem ↓] theorem bBV:EM k0 up Hs Inv μ z K .n fr H=aKV k0 up Hs Inv μ z fr H ⟨⟩:=rfl
@[go_sem ↓] theorem bA2 (j:Nat):EM k0 up Hs Inv μ z K (.e j) fr H=K (.e j) fr H:=rfl
@[go_sem ↓] theorem bBS:EM k0 up Hs Inv μ z K .r fr H=K .r fr H:=rfl
theorem aC (z':α) (L:Nat) (h1:Inv z') (h2:μ z'<μ z) (h3:nF L fr (up z')) (h4:(H.take L).map (B.ren (qR L))=Hs z') (h0:k0<=L:=by decide):aKV k0 up Hs Inv μ z fr H ⟨⟩:=
 .cut L h0 (.wk _ (xM h3) (.done ⟨_,h2,z',h1,rfl,h4,rfl⟩))
theorem dL (up:α->List (Nat×S)) (Hs:α->Hp) (Inv:α->Prop) (μ:α->Nat)
 (h0:Gh k0 (fun fr' H'=>∃z,Inv z/\fr'=gY (up z)/\H'=Hs z) fr H)
 (step:∀z,Inv z->vc Γ k0 x (gY (up z)) (Hs z) (EM k0 up Hs Inv μ z K)):vcl Γ k0 x fr H K ⟨⟩:=by
 refine ⟨fun m fr' H'=>∃z,Inv z/\fr'=gY (up z)/\H'=Hs z/\m=μ z,?_,?_⟩
 · clear step
   induction h0 with
   |done h=>obtain ⟨z,h1,h2,h3⟩:=h;exact .done ⟨_,z,h1,h2,h3,rfl⟩
   |wk fr' hw _ ih=>exact .wk fr' hw ih
   |cut k hk _ ih=>exact .cut k hk ih
   |sel ns h1 h2 h3 _ ih=>exact .sel ns h1 h2 h3 ih
   |kill n _ ih=>exact .kill n ih
   |nil sl T sz h _ ih=>exact .nil sl T sz h ih
   |nilc nm k T sz cs T' h1 h2 _ ih=>exact .nilc nm k T sz cs T' h1 h2 ih
   |nf sl _ ih=>exact .nf sl ih
   |pub n xs T sz h _ ih=>exact .pub n xs T sz h ih
   |opn n xs T sz h _ ih=>exact .opn n xs T sz h ih
   |nfr n xs T sz h _ ih=>exact .nfr n xs T sz h ih
   |shu n xs T sz h hs _ ih=>exact .shu n xs T sz h hs ih
 · rintro m fr' H' ⟨z,hI,rfl,rfl,rfl⟩
   have e:EM k0 up Hs Inv μ z K=fun e fr' H'=>match e with
    |.n=>Gh k0 (fun fr'' H''=>∃m',m'<μ z/\∃z',Inv z'/\fr''=gY (up z')/\H''=Hs z'/\m'=μ z') fr' H'
    |e=>K e fr' H':=by
    funext e fr' H';cases e<;>rfl
   have:=step z hI
   rw[e] at this
   exact this
theorem lA (z:α) (L:Nat) (h1:Inv z) (h2:nF L fr (up z)) (h3:(H.take L).map (B.ren (qR L))=Hs z) (h0:k0<=L:=by decide):Gh k0 (fun fr' H'=>∃z,Inv z/\fr'=gY (up z)/\H'=Hs z) fr H:=
 .cut L h0 (.wk _ (xM h2) (.done ⟨z,h1,rfl,h3⟩))
theorem aO (up:α->List (Nat×S)) (Hs:α->Hp) (Inv:α->Prop) (μ:α->Nat) (z:α) (L:Nat) (h1:Inv z) (h2:nF L fr (up z)) (h3:(H.take L).map (B.ren (qR L))=Hs z)
 (step:∀z,Inv z->vc Γ k0 x (gY (up z)) (Hs z) (EM k0 up Hs Inv μ z K)) (h0:k0<=L:=by decide):vcl Γ k0 x fr H K ⟨⟩:=
 dL up Hs Inv μ (.cut L h0 (.wk _ (xM h2) (.done ⟨z,h1,rfl,h3⟩))) step
end
theorem bZ {up:List (Nat×S)} {Hs:Hp} (L:Nat) (h:vc Γ k0 x.ungh (gY up) Hs K) (h1:nF L fr up) (h2:(H.take L).map (B.ren (qR L))=Hs) (hg:x.hgh=true:=by rfl) (h0:k0<=L:=by decide):vcn Γ k0 x fr H K ⟨⟩:=
 aH hg (.cut L h0 (.wk _ (xM h1) (.done (by rw[h2];exact h))))
end
section
variable (a:A) (l:List A) (g:Bool) (c:C) (cs:List C) (f:Nat->Option Nat) (n b o i j sz len cap k m:Nat) (v:Value) (T:TypeId) (xs ys:List (List C)) (x y:A) (H:Hp)
@[go_sem] theorem bFT:(S.va a).st=.va a:=rfl
@[go_sem] theorem bF1:(S.tu l).st=.tu l:=rfl
@[go_sem] theorem bE4:(S.cn g a).st=.va a:=rfl
@[go_sem] theorem bE1:S.un.st=.un:=rfl
@[go_sem] theorem bFC:(S.va a).gd=True:=rfl
@[go_sem] theorem bFR:(S.tu l).gd=True:=rfl
@[go_sem] theorem bFG:(S.cn g a).gd=(g=true):=rfl
@[go_sem] theorem bFA:S.un.gd=True:=rfl
@[go_sem] theorem bC1:(S.va a).cnd g=.cn g a:=rfl
@[go_sem] theorem bC6:(S.tu l).cnd g=.un:=rfl
@[go_sem] theorem bDX:S.un.cnd g=.un:=rfl
@[go_sem] theorem bEA:(S.va a).ren f=.va (a.ren f):=rfl
@[go_sem] theorem bCS:(S.tu l).ren f=.tu (l.map (A.ren f)):=rfl
@[go_sem] theorem bEG:(S.cn g a).ren f=.cn g (a.ren f):=rfl
@[go_sem] theorem bEM:S.un.ren f=.un:=rfl
@[go_sem] theorem bCH:(A.c1 c).ren f=.c1 (c.ren f):=rfl
@[go_sem] theorem bDI:(A.gs cs).ren f=.gs (cs.map (C.ren f)):=rfl
@[go_sem] theorem bD4:C.no.ren f=.no:=rfl
@[go_sem] theorem bBH (k:FuncId):(C.fn k []).ren f=.fn k []:=rfl
@[go_sem] theorem bDL (k:FuncId) (l:List (Bool×List C)):(C.fn k l).ren f=.fn k (l.map fun x=>(x.1,x.2.map (C.ren0 f))):=rfl
@[go_sem] theorem bC2 (k:FuncId):(C.fm k xs).ren f=.fm k xs:=rfl
@[go_sem] theorem bFY (k:FuncId):(C.fm k xs).nf=.fm k xs:=rfl
@[go_sem] theorem bCR (k:FuncId):(C.fm k xs).one=True:=rfl
@[go_sem] theorem bDK:(C.mp n).ren f=(match f n with|some m=>.mp m|none=>.no):=rfl
@[go_sem] theorem bE5:(C.mp n).nf=.mp n:=rfl
@[go_sem] theorem bEE:(C.mp n).bor H=.no:=rfl
@[go_sem] theorem bDU:(C.mp k).pub n xs=.mp k:=rfl
@[go_sem] theorem bDZ:(C.mp n).one=True:=rfl
@[go_sem] theorem bBK:(C.mp n).isFn=false:=rfl
@[go_sem] theorem bB1:(C.pt n o).isFn=false:=rfl
@[go_sem] theorem bBZ:(C.vl v).isFn=false:=rfl
@[go_sem] theorem bBW:(C.fz xs).isFn=false:=rfl
@[go_sem] theorem bBO:(C.sl n len).isFn=false:=rfl
@[go_sem] theorem bAV:C.no.ren0 f=.no:=rfl
@[go_sem] theorem bBQ:(C.vl v).ren0 f=.vl v:=rfl
@[go_sem] theorem bB8:(C.fz xs).ren0 f=.fz xs:=rfl
@[go_sem] theorem bBD:(C.pt n o).ren0 f=(match f n with|some m=>.pt m o|none=>.no):=rfl
@[go_sem] theorem bB5:(C.sl n len).ren0 f=(match f n with|some m=>.sl m len|none=>.no):=rfl
@[go_sem] theorem bBB:(C.mp n).ren0 f=(match f n with|some m=>.mp m|none=>.no):=rfl
@[go_sem] theorem bB4:(C.vl v).bor0 H=.vl v:=rfl
@[go_sem] theorem bCB:(C.fz xs).bor0 H=.fz xs:=rfl
@[go_sem] theorem bBL:(C.pt n o).bor0 H=.no:=rfl
@[go_sem] theorem bBP:(C.mp n).bor0 H=.no:=rfl
@[go_sem] theorem bBA:C.no.bor0 H=.no:=rfl
@[go_sem] theorem bB6:(C.vl v).pub0 n xs=.vl v:=rfl
@[go_sem] theorem bA4:(C.fz ys).pub0 n xs=.fz ys:=rfl
@[go_sem] theorem bA0:(C.pt k o).pub0 n xs=.pt k o:=rfl
@[go_sem] theorem bBN:(C.mp k).pub0 n xs=.mp k:=rfl
@[go_sem] theorem bB9:C.no.pub0 n xs=.no:=rfl
@[go_sem] theorem a8Q (kd:TypeDesc) (ks:List Value) (vs:List A):(B.map kd ks vs).ren f=.map kd ks (vs.map (A.ren f)):=rfl
@[go_sem] theorem a7H (kd:TypeDesc) (ks:List Value) (vs:List A):(B.map kd ks vs).pub n xs=.map kd ks (vs.map (A.pub n xs)):=rfl
@[go_sem] theorem bCN:XJ (false,[c])=.c1 c:=rfl
@[go_sem] theorem bC3:XJ (true,cs)=.gs cs:=rfl
@[go_sem] theorem bA9 (k k':IntKind) (q:Int):MapKept.IsKey (.int k) (.int k' q)=(k'=k):=rfl
@[go_sem] theorem bA7 (s:ByteArray):MapKept.IsKey .string (.string s)=True:=rfl
@[go_sem] theorem bCZ:(C.vl v).ren f=.vl v:=rfl
@[go_sem] theorem bCK:(C.pt n o).ren f=(match f n with|some m=>.pt m o|none=>.no):=rfl
@[go_sem] theorem bDG:(C.sl n len).ren f=(match f n with|some m=>.sl m len|none=>.no):=rfl
@[go_sem] theorem bEO:(C.qt n len sz i j).ren f=(match f n with|some m=>.qt m len sz i j|none=>.no):=rfl
@[go_sem] theorem bDO:(C.dp n len).ren f=(match f n with|some m=>.dp m len|none=>.no):=rfl
@[go_sem] theorem bFJ:(C.dp n len).nf=.dp n len:=rfl
@[go_sem] theorem bC4:(C.fz xs).ren f=.fz xs:=rfl
@[go_sem] theorem bEV:(C.fp cs j).ren f=.fp cs j:=rfl
@[go_sem] theorem aZQ:(B.cells cs T).ren f=.cells (cs.map (C.ren f)) T:=rfl
@[go_sem] theorem bAT:(B.row xs T sz).ren f=.row xs T sz:=rfl
@[go_sem] theorem a4Y:(B.rowx xs T sz).ren f=.rowx (xs.map fun r=>r.map (C.ren f)) T sz:=rfl
@[go_sem] theorem a5M:(B.rowx ys T sz).pub n xs=.rowx (ys.map fun r=>r.map (C.pub n xs)) T sz:=rfl
@[go_sem] theorem a5B:B.dead.ren f=.dead:=rfl
@[go_sem] theorem bEJ:(S.va a).pub n xs=.va (a.pub n xs):=rfl
@[go_sem] theorem bDQ:(S.tu l).pub n xs=.tu (l.map (A.pub n xs)):=rfl
@[go_sem] theorem bDB:(S.cn g a).pub n xs=.cn g (a.pub n xs):=rfl
@[go_sem] theorem bCM:S.un.pub n xs=.un:=rfl
@[go_sem] theorem bEQ:(A.c1 c).pub n xs=.c1 (c.pub n xs):=rfl
@[go_sem] theorem bEC:(A.gs cs).pub n xs=.gs (cs.map (C.pub n xs)):=rfl
@[go_sem] theorem bDJ:(C.vl v).pub n xs=.vl v:=rfl
@[go_sem] theorem bCI:C.no.pub n xs=.no:=rfl
@[go_sem] theorem bEP:(C.pt k o).pub n xs=.pt k o:=rfl
@[go_sem] theorem bDS:(C.sl m len).pub n xs=if m=n then (if len=xs.length then .fz xs else .no) else .sl m len:=rfl
@[go_sem] theorem bDV:(C.fz ys).pub n xs=.fz ys:=rfl
@[go_sem] theorem bCX:(C.fp cs j).pub n xs=.fp cs j:=rfl
@[go_sem] theorem a1M:(B.cells cs T).pub n xs=.cells (cs.map (C.pub n xs)) T:=rfl
@[go_sem] theorem bAS:(B.row ys T sz).pub n xs=.row ys T sz:=rfl
@[go_sem] theorem a4J:B.dead.pub n xs=.dead:=rfl
@[go_sem] theorem bFP:(S.va a).nf=.va a.nf:=rfl
@[go_sem] theorem bFO:(S.tu l).nf=.tu (l.map A.nf):=rfl
@[go_sem] theorem bE0:(S.cn g a).nf=.cn g a.nf:=rfl
@[go_sem] theorem bFX:S.un.nf=.un:=rfl
@[go_sem] theorem bFQ:(A.c1 c).nf=.c1 c.nf:=rfl
@[go_sem] theorem bFW:(A.gs cs).nf=.gs (cs.map C.nf):=rfl
@[go_sem] theorem bDY:(C.vl (.slice none 0 0)).nf=.fz []:=rfl
@[go_sem] theorem bCP (k:IntKind) (z:Int):(C.vl (.int k z)).nf=.vl (.int k z):=rfl
@[go_sem] theorem bBT:(C.vl (.bool g)).nf=.vl (.bool g):=rfl
@[go_sem] theorem bEB (s:ByteArray):(C.vl (.string s)).nf=.vl (.string s):=rfl
@[go_sem] theorem bC7 (p:Option Addr):(C.vl (.pointer p)).nf=.vl (.pointer p):=rfl
@[go_sem] theorem bCO (p:Option Nat):(C.vl (.map p)).nf=.vl (.map p):=rfl
@[go_sem] theorem bFN:(C.vl .nilIface).nf=.vl .nilIface:=rfl
@[go_sem] theorem bEL:(C.vl .nilFunc).nf=.vl .nilFunc:=rfl
@[go_sem] theorem bE2:C.no.nf=.no:=rfl
@[go_sem] theorem bFS:(C.pt n o).nf=.pt n o:=rfl
@[go_sem] theorem bE7:(C.sl n len).nf=.sl n len:=rfl
@[go_sem] theorem bFB:(C.qt n len sz i j).nf=.qt n len sz i j:=rfl
@[go_sem] theorem bFU:(C.fz xs).nf=.fz xs:=rfl
@[go_sem] theorem bFK:(C.fp cs j).nf=.fp cs j:=rfl
@[go_sem] theorem bFL (q:FuncId) (ns:List (Bool×List C)):(C.fn q ns).nf=.fn q ns:=rfl
@[go_sem] theorem bDE:(S.va a).bor H=.va (a.bor H):=rfl
@[go_sem] theorem bEW:(S.tu l).bor H=.un:=rfl
@[go_sem] theorem bDH:S.un.bor H=.un:=rfl
@[go_sem] theorem bES:(A.c1 c).bor H=.c1 (c.bor H):=rfl
@[go_sem] theorem bEN:(A.gs cs).bor H=.gs (cs.map (C.bor H)):=rfl
@[go_sem] theorem bD3:(C.vl v).bor H=.vl v:=rfl
@[go_sem] theorem bD5:C.no.bor H=.no:=rfl
@[go_sem] theorem bDM:(C.pt n o).bor H=.no:=rfl
@[go_sem] theorem bDR:(C.sl n len).bor H=(match H[n]? with
 |some (.row xs _ _)=>if len=xs.length then .fz xs else .no
 |_=>.no):=rfl
@[go_sem] theorem bCY:(C.fz xs).bor H=.fz xs:=rfl
@[go_sem] theorem bD6:(C.fp cs j).bor H=.fp cs j:=rfl
@[go_sem] theorem bER (q:FuncId) (l:List (Bool×List C)):(C.fn q l).bor H=.fn q (l.map fun x=>(x.1,x.2.map (C.bor0 H))):=rfl
@[go_sem] theorem bDT (q:FuncId) (l:List (Bool×List C)):(C.fn q l).pub n xs=.fn q (l.map fun x=>(x.1,x.2.map (C.pub0 n xs))):=rfl
@[go_sem] theorem bE6:(A.c1 c).ok=c.one:=rfl
@[go_sem] theorem bFZ:(A.gs cs).ok=True:=rfl
@[go_sem] theorem bAN:(A.c1 c).cells=[c]:=rfl
@[go_sem] theorem a93:(A.gs cs).cells=cs:=rfl
@[go_sem] theorem bCG:(C.pt n o).one=True:=rfl
@[go_sem] theorem bD0:(C.sl n len).one=True:=rfl
@[go_sem] theorem bD7:(C.qt n len sz i j).one=True:=rfl
@[go_sem] theorem bDA:(C.fz xs).one=True:=rfl
@[go_sem] theorem bCQ:(C.fp cs j).one=True:=rfl
@[go_sem] theorem bD8 (q:FuncId) (ns:List (Bool×List C)):(C.fn q ns).one=True:=rfl
@[go_sem] theorem bA5 (k:IntKind) (n:Int):(C.vl (.int k n)).one=True:=by simp[C.one,Value.oneCell']
@[go_sem] theorem a79 (b:Bool):(C.vl (.bool b)).one=True:=by simp[C.one,Value.oneCell']
@[go_sem] theorem a2Q (s:ByteArray):(C.vl (.string s)).one=True:=by simp[C.one,Value.oneCell']
@[go_sem] theorem aYT (p:Option Addr):(C.vl (.pointer p)).one=True:=by simp[C.one,Value.oneCell']
@[go_sem] theorem a33 (p:Option Addr):(C.vl (.slice p n m)).one=True:=by simp[C.one,Value.oneCell']
@[go_sem] theorem bBX (p:Option Nat):(C.vl (.map p)).one=True:=by simp[C.one,Value.oneCell']
@[go_sem] theorem bA3:(C.vl v).shut=true:=rfl
@[go_sem] theorem bAZ:(C.fz xs).shut=true:=rfl
@[go_sem] theorem bFM (p q r:Bool):yZ p (.c1 (.vl (.bool q))) (.c1 (.vl (.bool r)))=.c1 (.vl (.bool (bif p then q else r))):=rfl
@[go_sem] theorem bE9:yZ true x y=x:=by unfold yZ;split<;>rfl
@[go_sem] theorem bEZ:yZ false x y=y:=by unfold yZ;split<;>rfl
@[go_sem ↓] theorem bE8 (k0:Nat) (rs:List RV) (K:S->Hp->Prop) (fr:Fr) (H:Hp):pY k0 rs K .n fr H=FV fr H rs fun l=>Fin k0 K (VX l).nf H:=rfl
@[go_sem ↓] theorem bFI (k0:Nat) (rs:List RV) (K:S->Hp->Prop) (fr:Fr) (H:Hp):pY k0 rs K .r fr H=FV fr H rs fun l=>Fin k0 K (VX l).nf H:=rfl
@[go_sem ↓] theorem bF0 (k0:Nat) (rs:List RV) (K:S->Hp->Prop) (id:Nat) (fr:Fr) (H:Hp):pY k0 rs K (.e id) fr H=False:=rfl
end
@[go_sem ↓] theorem bB2 {α:Type} (l:List α) (f:α->List C) (i:Nat) (p:List C->Prop):(∀r,(l.map f)[i]? = some r->p r) ↔ ∀x,l[i]? = some x->p (f x):=by
 simp only[b9,lX]
 exact ⟨fun h x hx=>h _ ⟨x,hx,rfl⟩,fun h r ⟨x,hx,e⟩=>by subst e;exact h x hx⟩
attribute [go_sem ↓] PC.ungh
@[go_sem ↓] theorem bC8 (A B:Prop):((true=true->A)/\(true=false->B))=A:=by simp
@[go_sem ↓] theorem bET (A B:Prop):((false=true->A)/\(false=false->B))=B:=by simp
theorem aOA (p q:Prop):(p->p/\q) ↔ (p->q):=⟨fun h hp=>(h hp).2,fun h hp=>⟨hp,h hp⟩⟩
attribute [go_sem] aOA and_self Bool.not_eq_true'
attribute [go_sem] BG qC dum List.length_map List.map_append List.length_append
attribute [go_sem ↓] reduceIte
attribute [go_sem] reduceIte Nat.reduceEqDiff List.getD_cons_zero List.getD_cons_succ List.append_nil true_and and_true Option.map_some Option.map_none reduceCtorEq forall_const beq_true beq_false implies_true imp_self List.nil_append List.cons_append List.getElem?_cons_zero List.getElem?_cons_succ List.getElem?_nil
attribute [go_sem] Option.getD_some Option.getD_none List.map_cons List.map_nil List.length_cons List.length_nil aM false_implies true_implies List.nodup_nil List.nodup_cons List.not_mem_nil List.mem_cons or_false false_or not_false_eq_true List.set_cons_zero List.set_cons_succ List.headD_cons List.headD_nil List.tail_cons List.tail_nil
attribute [go_sem] Nat.zero_add Nat.add_zero List.take_zero List.take_succ_cons List.drop_zero List.drop_succ_cons Nat.reduceAdd Nat.reduceSub Nat.reduceLeDiff Nat.reduceLT Nat.reduceMul List.take_nil List.drop_nil aQ aI beq_self_eq_true Bool.true_and Bool.and_true Bool.not_true Bool.not_false Option.isSome_some Option.isSome_none
attribute [go_sem] forall_eq forall_eq_or_imp Int.toNat_natCast List.take_length Int.reduceToNat Int.reduceNeg
theorem jG {k0:Nat} {K:S->Hp->Prop} {r r':S} {H:Hp} (h:K r H) (e:r'=r):Fin k0 K r' H:=by rw[e];exact .done h
@[simp] theorem aNW (b x:Bool):(bif b then true else x)=(b||x):=by cases b<;>rfl
@[simp] theorem S1 (b x:Bool):(bif b then x else false)=(b&&x):=by cases b<;>rfl
attribute [go_sem] aNW S1
theorem getD_some {α:Type} {l:List α} {i:Nat} (d:α) (h:i<l.length):l[i]? = some (l.getD i d):=by rw[List.getD,aX h];rfl
@[go_sem] theorem bBR (n:Int):inr .i64 n ↔ -9223372036854775808<=n/\n<=9223372036854775807:=by
 simp[inr,IntKind.min,IntKind.max,IntKind.signed,IntKind.bits]
@[go_sem] theorem bAW (n:Int):inr .u64 n ↔ 0<=n/\n<=18446744073709551615:=by
 simp[inr,IntKind.min,IntKind.max,IntKind.signed,IntKind.bits]
@[go_sem] theorem bAY (n:Int):inr .i32 n ↔ -2147483648<=n/\n<=2147483647:=by
 simp[inr,IntKind.min,IntKind.max,IntKind.signed,IntKind.bits]
@[go_sem] theorem bBG (n:Int):inr .u32 n ↔ 0<=n/\n<=4294967295:=by
 simp[inr,IntKind.min,IntKind.max,IntKind.signed,IntKind.bits]
@[go_sem] theorem bCJ (n:Int):inr .u8 n ↔ 0<=n/\n<=255:=by
 simp[inr,IntKind.min,IntKind.max,IntKind.signed,IntKind.bits]
@[go_sem] theorem bDP (n:Int):inr .i8 n ↔ -128<=n/\n<=127:=by
 simp[inr,IntKind.min,IntKind.max,IntKind.signed,IntKind.bits]
@[go_sem] theorem bAX (n:Int):inr .u16 n ↔ 0<=n/\n<=65535:=by
 simp[inr,IntKind.min,IntKind.max,IntKind.signed,IntKind.bits]
@[go_sem] theorem bA1 (n:Int):inr .i16 n ↔ -32768<=n/\n<=32767:=by
 simp[inr,IntKind.min,IntKind.max,IntKind.signed,IntKind.bits]
theorem aL2 {n:Int} (h1:-9223372036854775808<=n) (h2:n<=9223372036854775807):inr .i64 n:=by
 simp[inr,IntKind.min,IntKind.max,IntKind.signed,IntKind.bits];omega
theorem TX {p:UInt8->Bool} (h:(List.range 256).all (fun n=>p (UInt8.ofNat n))=true) (c:UInt8):p c=true:=by
 have:=nN.1 h c.toNat (by simpa using c.toNat_lt)
 simpa using this
end Go.W
