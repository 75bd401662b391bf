/- Lemmas and walks for the proof. -/
import Derived.Test.YtgogpogophflhaaGreatDoorQa
import Derived.Deep.Quiet
import Derived.Deep.LoopGhost
set_option maxRecDepth 100000
set_option maxHeartbeats 8000000
namespace Go.W
section
variable {γ γ':List Gb} {ro ro':RO} {f:Nat->Option Nat}
theorem yJ {g:C->C} (hi:∀ c v,C.rel0 γ ro c v->C.rel0 γ' ro' (g c) v) {x:Bool × List C} {v:Value} (h:yL γ ro x v):yL γ' ro' (x.1,x.2.map g) v:=by
 obtain ⟨b,cs⟩:=x
 cases b with
 | false=>
  match cs,h with
  | [c],h=>exact hi c v h
 | true=>
  obtain ⟨vs,h1,h2⟩:=h
  exact ⟨vs,h1,h2.map (f:=g) hi⟩
theorem C.rel0_ren (hf:∀ (n m:Nat) (g:Gb),f n=some m->γ[n]? = some g->γ'[m]? = some g) {c:C} {v:Value} (h:c.rel0 γ ro v):(c.ren0 f).rel0 γ' ro v:=by
 cases c with
 | no=>trivial
 | vl u=>exact h
 | pt n off=>
  simp only [C.ren0]
  split
  · rename_i m hm; obtain ⟨g,b,h1,h2⟩:=h; exact ⟨g,b,hf n m g hm h1,h2⟩
  · trivial
 | sl n len=>
  simp only [C.ren0]
  split
  · rename_i m hm; obtain ⟨g,h1,h2⟩:=h; exact ⟨g,hf n m g hm h1,h2⟩
  · trivial
 | qt n len sz i j=>
  simp only [C.ren0]
  split
  · rename_i m hm; obtain ⟨g,h1,h2⟩:=h; exact ⟨g,hf n m g hm h1,h2⟩
  · trivial
 | fz xs=>exact h
 | fp r j=>exact h
 | dp n len=>
  simp only [C.ren0]
  split
  · rename_i m hm; obtain ⟨g,h1,h2⟩:=h; exact ⟨g,hf n m g hm h1,h2⟩
  · trivial
 | mp n=>
  simp only [C.ren0]
  split
  · rename_i m hm; obtain ⟨g,b,h1,h2⟩:=h; exact ⟨g,b,hf n m g hm h1,h2⟩
  · trivial
 | fn g cs=>exact h.elim
 | fm g cs=>exact h
theorem C.rel_ren (hf:∀ (n m:Nat) (g:Gb),f n=some m->γ[n]? = some g->γ'[m]? = some g) {c:C} {v:Value} (h:c.rel γ ro v):(c.ren f).rel γ' ro v:=by
 cases c with
 | no=>trivial
 | vl u=>exact h
 | pt n off=>
  simp only [C.ren]
  split
  · rename_i m hm; obtain ⟨g,b,h1,h2⟩:=h; exact ⟨g,b,hf n m g hm h1,h2⟩
  · trivial
 | sl n len=>
  simp only [C.ren]
  split
  · rename_i m hm; obtain ⟨g,h1,h2⟩:=h; exact ⟨g,hf n m g hm h1,h2⟩
  · trivial
 | qt n len sz i j=>
  simp only [C.ren]
  split
  · rename_i m hm; obtain ⟨g,h1,h2⟩:=h; exact ⟨g,hf n m g hm h1,h2⟩
  · trivial
 | fz xs=>exact h
 | fp r j=>exact h
 | dp n len=>
  simp only [C.ren]
  split
  · rename_i m hm; obtain ⟨g,h1,h2⟩:=h; exact ⟨g,hf n m g hm h1,h2⟩
  · trivial
 | mp n=>
  simp only [C.ren]
  split
  · rename_i m hm; obtain ⟨g,b,h1,h2⟩:=h; exact ⟨g,b,hf n m g hm h1,h2⟩
  · trivial
 | fn g cs=>
  obtain ⟨vs,h1,h2⟩:=h
  exact ⟨vs,h1,h2.map (f:=fun x=>(x.1,x.2.map (C.ren0 f))) fun _ _=>yJ fun _ _=>C.rel0_ren hf⟩
 | fm g cs=>exact h
theorem A.rel_ren (hf:∀ (n m:Nat) (g:Gb),f n=some m->γ[n]? = some g->γ'[m]? = some g) {a:A} {v:Value} (h:a.rel γ ro v):(a.ren f).rel γ' ro v:=by
 cases a with
 | c1 c=>exact C.rel_ren hf h
 | gs cs=>obtain ⟨vs,h1,h2⟩:=h; exact ⟨vs,h1,h2.map (f:=C.ren f) fun _ _=>C.rel_ren hf⟩
theorem S.rel_ren (hf:∀ (n m:Nat) (g:Gb),f n=some m->γ[n]? = some g->γ'[m]? = some g) {s:S} {v:Value} (h:s.rel γ ro v):(s.ren f).rel γ' ro v:=by
 cases s with
 | va a=>exact A.rel_ren hf h
 | tu l=>obtain ⟨vs,h1,h2⟩:=h; exact ⟨vs,h1,h2.map (f:=A.ren f) fun _ _=>A.rel_ren hf⟩
 | cn g a=>exact ⟨fun e=>A.rel_ren hf (h.1 e),h.2⟩
 | un=>trivial
theorem B.On_ren (hf:∀ (n m:Nat) (g:Gb),f n=some m->γ[n]? = some g->γ'[m]? = some g) {w:World} {g:Gb} {blk:B} (h:blk.On γ ro w g):(blk.ren f).On γ' ro w g:=by
 cases blk with
 | cells cs T=>obtain ⟨h1,b,h2,h3,h4⟩:=h; exact ⟨h1,b,h2,h3,h4.map (f:=C.ren f) fun _ _=>C.rel_ren hf⟩
 | row xs T sz=>exact h
 | rowx xs T sz=>
  obtain ⟨h1,h2,h3,h4,h5,h6⟩:=h
  refine ⟨h1,by rw [List.length_map]; exact h2,fun x hx=>?_,by rw [List.length_map]; exact h4,?_,h6⟩
  · obtain ⟨y,hy,rfl⟩:=List.mem_map.1 hx
    rw [List.length_map]; exact h3 y hy
  · rw [<-List.map_flatten]
    exact h5.map (f:=C.ren f) fun _ _=>C.rel_ren hf
 | map kd ks vs=>obtain ⟨h1,h2,h3,h4⟩:=h; exact ⟨h1,h2,h3.map (f:=A.ren f) fun _ _=>A.rel_ren hf,h4⟩
 | dead=>trivial
theorem B.live_ren (f:Nat->Option Nat) (blk:B):(blk.ren f).live=blk.live:=by cases blk<;>rfl
theorem FzR.nil (ro:RO):FzR ro [] (.slice none 0 0):=
 .mk [] 0 none none (fun h=>absurd rfl h) 0 (fun _=>undef) (by simp) (Nat.le_refl _) (by simp) (by simp) (by simp) (by simp) (by simp) (by simp)
theorem C.rel_nf {c:C} {v:Value} (h:c.rel γ ro v):c.nf.rel γ ro v:=by
 unfold C.nf
 split
 · have h':v=.slice none 0 0:=h
   subst h'
   exact FzR.nil ro
 · exact h
theorem A.rel_nf {a:A} {v:Value} (h:a.rel γ ro v):a.nf.rel γ ro v:=by
 cases a with
 | c1 c=>exact C.rel_nf h
 | gs cs=>obtain ⟨vs,h1,h2⟩:=h; exact ⟨vs,h1,h2.map (f:=C.nf) fun _ _=>C.rel_nf⟩
theorem S.rel_nf {s:S} {v:Value} (h:s.rel γ ro v):s.nf.rel γ ro v:=by
 cases s with
 | va a=>exact A.rel_nf h
 | tu l=>obtain ⟨vs,h1,h2⟩:=h; exact ⟨vs,h1,h2.map (f:=A.nf) fun _ _=>A.rel_nf⟩
 | cn g a=>exact ⟨fun e=>A.rel_nf (h.1 e),h.2⟩
 | un=>trivial
theorem C.rel0_pub {n:Nat} {g:Gb} {xs:List (List C)} (hext:Ext ro ro') (hn:γ[n]? = some g) (hl:g.len=xs.length) (hfz:FzR ro' xs (.slice (bI g.ob 0) xs.length g.cap)) {c:C} {v:Value} (h:c.rel0 γ ro v):(c.pub0 n xs).rel0 γ ro' v:=by
 have hm:=C.rel0_mono (GExt.refl γ) hext h
 cases c with
 | sl m l=>
  simp only [C.pub0]
  split
  · rename_i he
    subst he
    split
    · rename_i hlen
      obtain ⟨g',h1,h2,h3,h4,h5⟩:=h
      rw [hn] at h1
      simp only [aH] at h1
      subst h1
      have:=h5 (by omega)
      subst this
      show FzR ro' xs _
      rw [hlen]
      exact hfz
    · trivial
  · exact hm
 | qt m l sz i j=>
  simp only [C.pub0]
  split
  · trivial
  · exact hm
 | dp m l=>
  simp only [C.pub0]
  split
  · trivial
  · exact hm
 | fn f cs=>exact h.elim
 | _=>exact hm
theorem C.rel_pub {n:Nat} {g:Gb} {xs:List (List C)} (hext:Ext ro ro') (hn:γ[n]? = some g) (hl:g.len=xs.length) (hfz:FzR ro' xs (.slice (bI g.ob 0) xs.length g.cap)) {c:C} {v:Value} (h:c.rel γ ro v):(c.pub n xs).rel γ ro' v:=by
 have hm:=C.rel_mono (GExt.refl γ) hext h
 cases c with
 | sl m l=>
  simp only [C.pub]
  split
  · rename_i he
    subst he
    split
    · rename_i hlen
      obtain ⟨g',h1,h2,h3,h4,h5⟩:=h
      rw [hn] at h1
      simp only [aH] at h1
      subst h1
      have:=h5 (by omega)
      subst this
      show FzR ro' xs _
      rw [hlen]
      exact hfz
    · trivial
  · exact hm
 | qt m l sz i j=>
  simp only [C.pub]
  split
  · trivial
  · exact hm
 | dp m l=>
  simp only [C.pub]
  split
  · trivial
  · exact hm
 | fn f cs=>
  obtain ⟨vs,h1,h2⟩:=h
  exact ⟨vs,h1,h2.map (f:=fun x=>(x.1,x.2.map (C.pub0 n xs))) fun _ _=>yJ fun _ _=>C.rel0_pub hext hn hl hfz⟩
 | _=>exact hm
theorem A.rel_pub {n:Nat} {g:Gb} {xs:List (List C)} (hext:Ext ro ro') (hn:γ[n]? = some g) (hl:g.len=xs.length) (hfz:FzR ro' xs (.slice (bI g.ob 0) xs.length g.cap)) {a:A} {v:Value} (h:a.rel γ ro v):(a.pub n xs).rel γ ro' v:=by
 cases a with
 | c1 c=>exact C.rel_pub hext hn hl hfz h
 | gs cs=>obtain ⟨vs,h1,h2⟩:=h; exact ⟨vs,h1,h2.map (f:=C.pub n xs) fun _ _=>C.rel_pub hext hn hl hfz⟩
theorem S.rel_pub {n:Nat} {g:Gb} {xs:List (List C)} (hext:Ext ro ro') (hn:γ[n]? = some g) (hl:g.len=xs.length) (hfz:FzR ro' xs (.slice (bI g.ob 0) xs.length g.cap)) {s:S} {v:Value} (h:s.rel γ ro v):(s.pub n xs).rel γ ro' v:=by
 cases s with
 | va a=>exact A.rel_pub hext hn hl hfz h
 | tu l=>obtain ⟨vs,h1,h2⟩:=h; exact ⟨vs,h1,h2.map (f:=A.pub n xs) fun _ _=>A.rel_pub hext hn hl hfz⟩
 | cn g a=>exact ⟨fun e=>A.rel_pub hext hn hl hfz (h.1 e),h.2⟩
 | un=>trivial
end
def PH:Gb:=⟨none,false,0,0,0,[]⟩
def eI (E:Es) (σ:List Nat):Es:=σ.map fun n=>E.getD n (PH,.dead)
theorem xC (E:Es) (σ:List Nat):hp (eI E σ)=sS (hp E) σ:=by
 simp only [hp,eI,sS,List.map_map]
 apply List.map_congr_left
 intro n _
 simp only [Function.comp,List.getD_eq_getElem?_getD,List.getElem?_map]
 cases E[n]?<;>rfl
theorem I7:∀ {σ:List Nat} {n j:Nat},loc σ n=some j->σ[j]? = some n
 | [],n,j,h=>by simp [loc] at h
 | m :: σ,n,j,h=>by
  simp only [loc] at h
  split at h
  · rename_i he; simp only [aH] at h; subst h; subst he; rfl
  · simp only [Option.map_eq_some_iff] at h
    obtain ⟨k,hk,rfl⟩:=h
    simpa using I7 hk
theorem wC {E:Es} {σ:List Nat} (n m:Nat) (g:Gb) (h:loc σ n=some m) (hg:(gm E)[n]? = some g):(gm (eI E σ))[m]? = some g:=by
 have hs:=I7 h
 obtain ⟨blk,hE⟩:=rM hg
 simp [gm,eI,hs,hE]
def cN (f:B->B) (E:Es):Es:=E.map fun e=>(e.1,f e.2)
theorem gM (f:B->B) (E:Es):gm (cN f E)=gm E:=by simp [gm,cN,List.map_map,Function.comp_def]
theorem iZ (f:B->B) (E:Es):hp (cN f E)=(hp E).map f:=by simp [hp,cN,List.map_map,Function.comp_def]
section
variable {N:Nat} {fr:Fr} {a:Act} {E:Es} {ro:RO} {X:Ctx} {w:World}
theorem Rel.sub (h:Rel X E ro w) {E':Es} (μ:Nat->Nat) (hg:∀ (n:Nat) (g:Gb) (blk:B),E'[n]? = some (g,blk)->blk.live=true->∃ bk,E[μ n]? = some (g,bk)/\bk.live=true/\(bk.On (gm E) ro w g->blk.On (gm E') ro w g))
 (hi:∀ (n m:Nat),n < E'.length->m < E'.length->μ n=μ m->n=m) (gx:GExt X.g0 (gm E')):Rel X E' ro w:=by
 have lt:∀ {n:Nat} {e:Gb × B},E'[n]? = some e->n < E'.length:=fun h=>(bC.1 h).1
 refine ⟨fun n g blk hn=>?_,fun n m gn gm bn bm b hn hm en em ln lm=>?_,fun b off c hc n g blk hn en=>?_,h.rd,h.ro0,h.rob,fun n b g blk hn en ln=>?_,gx,h.sz,h.keep,h.os,h.tape,h.output⟩
 · by_cases hl:blk.live=true
   · obtain ⟨bk,h1,h2,h3⟩:=hg n g blk hn hl
     exact h3 (h.own _ g bk h1)
   · cases blk<;>simp [B.live] at hl; trivial
 · obtain ⟨bk,h1,h2,_⟩:=hg n _ _ hn ln
   obtain ⟨bk',k1,k2,_⟩:=hg m _ _ hm lm
   exact hi n m (lt hn) (lt hm) (h.inj _ _ gn gm bk bk' b h1 k1 en em h2 k2)
 · by_cases hl:blk.live=true
   · obtain ⟨bk,h1,h2,_⟩:=hg n g blk hn hl
     have:=h.apart b off c hc _ g bk h1 en
     rw [h2] at this; cases this
   · simpa using hl
 · obtain ⟨bk,h1,h2,_⟩:=hg n g blk hn ln
   exact h.par _ b g bk h1 en h2
theorem Rel.cut (h:Rel X E ro w) {k:Nat} (hk:X.g0.length<=k):Rel X (cN (B.ren (iC k)) (E.take k)) ro w:=by
 have hren:∀ (n m:Nat) (g:Gb),iC k n=some m->(gm E)[n]? = some g->(gm (cN (B.ren (iC k)) (E.take k)))[m]? = some g:=by
  intro n m g h1 h2
  unfold iC at h1
  split at h1
  · rename_i hlt
    simp only [aH] at h1
    subst h1
    rw [gM,gm,List.map_take,List.getElem?_take,if_pos hlt]
    exact h2
  · cases h1
 refine h.sub id (fun n g blk hn hl=>?_) (fun n m _ _ e=>e) ?_
 · simp only [cN,List.getElem?_map,List.getElem?_take] at hn
   split at hn
   · cases hE:E[n]? with
     | none=>simp [hE] at hn
     | some e=>
      simp only [hE,Option.map_some,aH,Prod.mk.injEq] at hn
      obtain ⟨rfl,rfl⟩:=hn
      exact ⟨e.2,hE,by rw [B.live_ren] at hl; exact hl,B.On_ren hren⟩
   · simp at hn
 · intro n g hn
   obtain ⟨g',h1,h2⟩:=h.gx n g hn
   have hlt:n < k:=Nat.lt_of_lt_of_le (bC.1 hn).1 hk
   exact ⟨g',hren n n g' (by simp [iC,hlt]) h1,h2⟩
theorem Rel.kill (h:Rel X E ro w) {n:Nat} {g0:Gb} {bk0:B} (hn:E[n]? = some (g0,bk0)):Rel X (E.set n (g0,.dead)) ro w:=by
 have hgm:gm (E.set n (g0,.dead))=gm E:=by
  apply List.ext_getElem?
  intro j
  simp only [gm,List.getElem?_map,List.getElem?_set]
  split
  · rename_i hj; subst hj; rw [if_pos (bC.1 hn).1,hn]; rfl
  · rfl
 refine h.sub id (fun m g blk hm hl=>?_) (fun n m _ _ e=>e) (by rw [hgm]; exact h.gx)
 rw [List.getElem?_set] at hm
 split at hm
 · rw [if_pos (by rename_i e; subst e; exact (bC.1 hn).1)] at hm; simp only [aH,Prod.mk.injEq] at hm; rw [<-hm.2] at hl; simp [B.live] at hl
 · exact ⟨blk,hm,hl,fun h=>by rw [hgm]; exact h⟩
theorem fC {n:Nat} {g0:Gb} {bk0 blk:B} (hn:E[n]? = some (g0,bk0)):gm (E.set n (g0,blk))=gm E:=by
 apply List.ext_getElem?
 intro j
 simp only [gm,List.getElem?_map,List.getElem?_set]
 split
 · rename_i hj; subst hj; rw [if_pos (bC.1 hn).1,hn]; rfl
 · rfl
theorem Rel.sel (h:Rel X E ro w) {ns:List Nat} (hd:ns.Nodup) (hlt:∀ n ∈ ns,n < E.length) (gx:GExt X.g0 (gm (eI E ns))):Rel X (cN (B.ren (loc ns)) (eI E ns)) ro w:=by
 refine h.sub (fun n=>ns.getD n 0) (fun n g blk hn hl=>?_) (fun n m hn hm e=>?_) (by rw [gM]; exact gx)
 · simp only [cN,List.getElem?_map,eI] at hn
   cases hns:ns[n]? with
   | none=>simp [hns] at hn
   | some m=>
    simp only [hns,Option.map_some,aH,Prod.mk.injEq,List.getD_eq_getElem?_getD] at hn
    obtain ⟨h1,h2⟩:=hn
    cases hE:E[m]? with
    | none=>have:=hlt m (bW hns); rw [List.getElem?_eq_none_iff] at hE; omega
    | some e=>
     rw [hE] at h1 h2
     simp only [Option.getD_some] at h1 h2
     subst h1 h2
     refine ⟨e.2,by simp [hns,hE],by rw [B.live_ren] at hl; exact hl,fun ho=>B.On_ren (fun n m g k1 k2=>?_) ho⟩
     rw [gM]; exact wC n m g k1 k2
 · simp only [cN,eI,List.length_map] at hn hm
   simp only [List.getD_eq_getElem?_getD,bB hn,bB hm,Option.getD_some] at e
   exact (List.getElem_inj hd).1 e
theorem Rel.push (h:Rel X E ro w) (T sz:Nat):Rel X (E ++ [(⟨none,true,0,0,T,[]⟩,.row [] T sz)]) ro w:=
 h.new (fun k _=>rfl) (Nat.le_refl _) rfl rfl rfl (.inl rfl) ⟨rfl,rfl,fun x hx=>by simp at hx,by simp,World.ownsRow_nil w 0 T sz,.nil,fun b hb=>by simp at hb⟩
theorem IP (h:Rel X E ro w) {n:Nat} {g:Gb} {xs:List (List C)} {T sz:Nat} (hn:E[n]? = some (g,.row xs T sz)) {ro':RO} (hext:Ext ro ro') (hro:∀ b,g.ob=some b->∀ off v,g.vs[off]? = some v->ro' b off=some v) (hst:∀ b,g.ob=some b->ro'.st b=sz) :
 FzR ro' xs (.slice (bI g.ob 0) xs.length g.cap):=by
 obtain ⟨hrow,hglen,hxl,hsh,⟨hfl,hown⟩,hrel,_⟩:=h.own n _ _ hn
 have hob:tT (g.ob.map fun b=>(b,0)) 0=bI g.ob 0:=by cases g.ob<;>simp [tT,bI]
 rw [<-hob]
 have hne:xs ≠ []->g.ob.isSome=true/\True:=fun hne=>by
  rcases hown with ⟨_,h0⟩ | ⟨b,cap',cur,hv,_⟩
  · exact absurd (List.eq_nil_of_length_eq_zero h0) hne
  · cases hgo:g.ob with
    | none=>rw [hgo] at hv; simp [bI] at hv
    | some b=>simp
 refine .mk xs sz _ _ (fun _=>rfl) g.cap (fun k=>g.vs.getD k undef) hxl ?_ (fun h=>by have:=(hne h).1; cases hg:g.ob<;>simp [hg] at this ⊢) (fun k c hk=>?_) (fun k v hk=>?_) (fun k ys hk=>?_) hsh (fun k c hk=>?_)
 · rcases hown with ⟨hv,h0⟩ | ⟨b,cap',cur,hv,_,_,hnc,_⟩
   · omega
   · simp only [Value.slice.injEq] at hv; omega
 · obtain ⟨v,hv,_⟩:=hrel.get hk
   have hs:=(hne (fun e=>by subst e; simp at hk)).1
   cases hgo:g.ob with
   | none=>rw [hgo] at hs; simp at hs
   | some b=>simp [hv,hro b hgo k v hv]
 · obtain ⟨u,hu,hr⟩:=hrel.get hk
   have hr':u=v:=hr
   simp [hu,hr']
 · obtain ⟨u,hu,hr⟩:=hrel.get hk
   have hr':FzR ro ys u:=hr
   simp only [List.getD_eq_getElem?_getD,hu,Option.getD_some]
   exact hr'.mono hext
 · have hs:=(hne (fun e=>by subst e; simp at hk)).1
   cases hgo:g.ob with
   | none=>rw [hgo] at hs; simp at hs
   | some b=>exact .inr ⟨by simpa using hst b hgo,by simp⟩
theorem Rel.pubR2 (h:Rel X E ro w) {n:Nat} {g:Gb} {xs:List (List C)} {T sz:Nat} (hn:E[n]? = some (g,.row xs T sz)) :
 ∃ ro',Ext ro ro'/\FzR ro' xs (.slice (bI g.ob 0) xs.length g.cap)/\g.len=xs.length/\(∀ b,g.ob=some b->(∀ off v,ro' b off=some v->g.vs[off]? = some v)/\∀ (j:Nat) (gj:Gb) (blk:B),(cN (B.pub n xs) (E.set n (g,.dead)))[j]? = some (gj,blk)->gj.ob=some b->blk.live=false)/\(∀ b,g.ob=some b->ro'.st b=sz)/\Rel X (cN (B.pub n xs) (E.set n (g,.dead))) ro' w:=by
 obtain ⟨hrow,hglen,hxl,hsh,hown,hrel,_⟩:=h.own n _ _ hn
 have hk:=h.kill hn
 let ro':RO:=⟨fun b' off=>if g.ob=some b' then g.vs[off]? else ro b' off,fun b'=>if g.ob=some b' then sz else ro.st b'⟩
 have hnb:∀ b,g.ob=some b->∀ off c,ro b off ≠ some c:=fun b hb off c hc=>by have:=h.apart b off c hc n g _ hn hb; simp [B.live] at this
 have hext:Ext ro ro':=by
  intro b' off c hc
  simp only [ro']
  rw [if_neg (fun e=>hnb b' e off c hc),if_neg (fun e=>hnb b' e off c hc)]
  exact ⟨hc,rfl⟩
 have hro:∀ b,g.ob=some b->∀ off v,g.vs[off]? = some v->ro' b off=some v:=fun b hb off v hv=>by simp only [ro',hb,if_true]; exact hv
 have hfz:=IP h hn hext hro (fun b hb=>by simp only [ro',hb,if_true])
 have hcell:∀ b,g.ob=some b->∀ off v,g.vs[off]? = some v->w.cell? ⟨b,off,none⟩=some v:=by
  intro b hb off v hv
  rw [hb] at hown
  have:=World.ownsRow.cells (h:=hown) (g:=b) rfl off v hv
  rwa [eN,Nat.zero_add] at this
 have hfro:∀ b,g.ob=some b->∀ off,w.frozen? ⟨b,off,none⟩=false:=by
  intro b hb off
  rw [hb] at hown
  exact World.ownsRow.frozenAt (h:=hown) off
 have hgm:gm (cN (B.pub n xs) (E.set n (g,.dead)))=gm E:=by rw [gM,fC hn]
 have hgn:(gm E)[n]? = some g:=cT hn
 have hlt:n < E.length:=(bC.1 hn).1
 have get:∀ (j:Nat) (gj:Gb) (blk:B),(cN (B.pub n xs) (E.set n (g,.dead)))[j]? = some (gj,blk)->blk.live=true->j ≠ n/\∃ bk,E[j]? = some (gj,bk)/\blk=bk.pub n xs/\bk.live=true:=by
  intro j gj blk hj hl
  simp only [cN,List.getElem?_map,List.getElem?_set] at hj
  split at hj
  · rename_i e
    subst e
    simp only [Option.map_some,aH,Prod.mk.injEq,B.pub] at hj
    rw [<-hj.2] at hl; simp [B.live] at hl
  · rename_i e
    cases hE:E[j]? with
    | none=>simp [hE] at hj
    | some y=>
     simp only [hE,Option.map_some,aH,Prod.mk.injEq] at hj
     obtain ⟨rfl,rfl⟩:=hj
     exact ⟨fun e2=>e e2.symm,y.2,rfl,rfl,by cases hy:y.2<;>simp_all [B.pub,B.live]⟩
 have hout:∀ b,g.ob=some b->(∀ off v,ro' b off=some v->g.vs[off]? = some v)/\∀ (j:Nat) (gj:Gb) (blk:B),(cN (B.pub n xs) (E.set n (g,.dead)))[j]? = some (gj,blk)->gj.ob=some b->blk.live=false:=by
  intro b hb
  refine ⟨fun off v hv=>by simpa only [ro',hb,if_true] using hv,fun j gj blk hj ej=>?_⟩
  by_cases hl:blk.live=true
  · obtain ⟨hne,bk,h1,_,h3⟩:=get j gj blk hj hl
    exact absurd (h.inj n j g gj _ bk b hn h1 hb ej rfl h3).symm hne
  · simpa using hl
 refine ⟨ro',hext,hfz,hglen,hout,fun b hb=>by simp only [ro',hb,if_true],⟨fun j gj blk hj=>?_,fun j m gj gm' bj bm b hj hm ej em lj lm=>?_,fun b off c hc j gj blk hj ej=>?_,fun b off c hc=>?_,h.ro0.trans hext,fun b off c hc=>?_,fun j b gj blk hj ej lj=>?_,by rw [hgm]; exact h.gx,h.sz,h.keep,h.os,h.tape,h.output⟩⟩
 · by_cases hl:blk.live=true
   · obtain ⟨_,bk,h1,rfl,h3⟩:=get j gj blk hj hl
     have:=h.own j gj bk h1
     rw [hgm]
     cases bk with
     | cells cs T=>
      obtain ⟨q1,b,q2,q3,q4⟩:=this
      exact ⟨q1,b,q2,q3,q4.map (f:=C.pub n xs) fun _ _=>C.rel_pub hext hgn hglen hfz⟩
     | row ys T' sz'=>
      obtain ⟨q0,q1,q2,q3,q4,q5,q6⟩:=this
      exact ⟨q0,q1,q2,q3,q4,q5.imp fun _ _=>C.fv_mono hext,q6⟩
     | rowx ys T' sz'=>
      obtain ⟨h1,h2,h3,h4,h5,h6⟩:=this
      refine ⟨h1,by rw [List.length_map]; exact h2,fun x hx=>?_,by rw [List.length_map]; exact h4,?_,h6⟩
      · obtain ⟨y,hy,rfl⟩:=List.mem_map.1 hx
        rw [List.length_map]; exact h3 y hy
      · rw [<-List.map_flatten]
        exact h5.map (f:=C.pub n xs) fun _ _=>C.rel_pub hext hgn hglen hfz
     | map kd ks vs=>
      obtain ⟨q0,q1,q2,q3⟩:=this
      exact ⟨q0,q1,q2.map (f:=A.pub n xs) fun _ _=>A.rel_pub hext hgn hglen hfz,q3⟩
     | dead=>trivial
   · cases blk<;>simp [B.live] at hl; trivial
 · obtain ⟨_,bk,h1,_,h3⟩:=get j _ _ hj lj
   obtain ⟨_,bk',k1,_,k3⟩:=get m _ _ hm lm
   exact h.inj j m gj gm' bk bk' b h1 k1 ej em h3 k3
 · by_cases hl:blk.live=true
   · obtain ⟨hne,bk,h1,_,h3⟩:=get j gj blk hj hl
     simp only [ro'] at hc
     split at hc
     · rename_i he
       exact absurd (h.inj n j g gj _ bk b hn h1 he ej rfl h3).symm hne
     · have:=h.apart b off c hc j gj bk h1 ej
       rw [h3] at this; cases this
   · simpa using hl
 · simp only [ro'] at hc
   split at hc
   · rename_i he; exact ⟨hcell b he off c hc,fun _=>hfro b he off⟩
   · rename_i he; have:=h.rd b off c hc; simp only [ro']; rw [if_neg he]; exact this
 · simp only [ro'] at hc
   split at hc
   · rename_i he
     refine .inr ⟨h.par n b g _ hn he rfl,?_⟩
     simp only [ro',he,if_true]
     intro h0
     subst h0
     have hf:xs.flatten=[]:=by rw [List.flatten_eq_nil_iff]; exact fun x hx=>List.eq_nil_of_length_eq_zero (hxl x hx)
     have:=hrel.1
     rw [hf] at this
     rw [List.eq_nil_of_length_eq_zero this.symm] at hc
     simp at hc
   · rename_i he
     rcases h.rob b off c hc with q | ⟨q,q'⟩
     · exact .inl q
     · exact .inr ⟨q,by simp only [ro',he,if_false]; exact q'⟩
 · obtain ⟨_,bk,h1,_,h3⟩:=get j _ _ hj lj
   exact h.par j b gj bk h1 ej h3
theorem Rel.pubR (h:Rel X E ro w) {n:Nat} {g:Gb} {xs:List (List C)} {T sz:Nat} (hn:E[n]? = some (g,.row xs T sz)) :
 ∃ ro',Ext ro ro'/\FzR ro' xs (.slice (bI g.ob 0) xs.length g.cap)/\g.len=xs.length/\Rel X (cN (B.pub n xs) (E.set n (g,.dead))) ro' w:=by
 obtain ⟨ro',h1,h2,h3,_,_,h5⟩:=h.pubR2 hn
 exact ⟨ro',h1,h2,h3,h5⟩
theorem Rel.opn (h:Rel X E ro w) {n:Nat} {g:Gb} {xs:List (List C)} {T sz:Nat} (hn:E[n]? = some (g,.row xs T sz)):Rel X (E.set n (g,.rowx xs T sz)) ro w:=by
 obtain ⟨h1,h2,h3,h4,h5,h6,h7⟩:=h.own n _ _ hn
 exact h.swap (w':=w) hn rfl g.le_refl (Nat.le_refl _) rfl rfl rfl ⟨h1,h2,h3,h5,⟨h6.1,fun k c u hc hu=>(C.rel_shut (h4 c (bW hc))).2 (h6.2 k c u hc hu)⟩,h7⟩ (.inl ⟨rfl,fun _ _=>rfl⟩)
theorem Rel.shu (h:Rel X E ro w) {n:Nat} {g:Gb} {xs:List (List C)} {T sz:Nat} (hn:E[n]? = some (g,.rowx xs T sz)) (hs:∀ c ∈ xs.flatten,c.shut=true):Rel X (E.set n (g,.row xs T sz)) ro w:=by
 obtain ⟨h1,h2,h3,h5,h6,h7⟩:=h.own n _ _ hn
 exact h.swap (w':=w) hn rfl g.le_refl (Nat.le_refl _) rfl rfl rfl ⟨h1,h2,h3,hs,h5,⟨h6.1,fun k c u hc hu=>(C.rel_shut (hs c (bW hc))).1 (h6.2 k c u hc hu)⟩,h7⟩ (.inl ⟨rfl,fun _ _=>rfl⟩)
theorem Rel.nfr (h:Rel X E ro w) {n:Nat} {g:Gb} {xs:List (List C)} {T sz:Nat} (hn:E[n]? = some (g,.rowx xs T sz)):Rel X (E.set n (g,.rowx (xs.map (List.map C.nf)) T sz)) ro w:=by
 obtain ⟨h1,h2,h3,h5,h6,h7⟩:=h.own n _ _ hn
 have hfl:(xs.map (List.map C.nf)).flatten=xs.flatten.map C.nf:=by rw [List.map_flatten]
 exact h.swap (w':=w) hn rfl g.le_refl (Nat.le_refl _) rfl rfl rfl ⟨h1,by rw [List.length_map]; exact h2,fun x hx=>by
  obtain ⟨y,hy,rfl⟩:=List.mem_map.1 hx
  rw [List.length_map]; exact h3 y hy,by rw [List.length_map]; exact h5,by
  rw [hfl]
  refine ⟨by rw [List.length_map]; exact h6.1,fun k c u hc hu=>?_⟩
  rw [List.getElem?_map] at hc
  cases hx:xs.flatten[k]? with
  | none=>rw [hx] at hc; cases hc
  | some d=>
   rw [hx] at hc
   obtain rfl:=bK hc
   rw [fC hn]; exact C.rel_nf (h6.2 k d u hx hu),h7⟩ (.inl ⟨rfl,fun _ _=>rfl⟩)
theorem hp_kill {n:Nat} {g:Gb}:hp (E.set n (g,.dead))=(hp E).set n .dead:=fR E n g .dead
theorem KU {n:Nat} (h:E[n]? = none):(hp E).set n .dead=hp E:=by
 rw [List.set_eq_of_length_le]
 rw [eX]; exact List.getElem?_eq_none_iff.1 h
theorem tI {k0:Nat} (hk0:X.g0.length=k0) {H:Hp} {Q:Fr->Hp->Prop} (h:Gh k0 Q fr H):∀ {E:Es} {ro:RO},H=hp E->FRel N (gm E) ro fr a->Rel X E ro w->∃ fr' E' ro',Q fr' (hp E')/\FRel N (gm E') ro' fr' a/\Rel X E' ro' w:=by
 induction h with
 | done h=>intro E ro he hf hr; subst he; exact ⟨_,_,_,h,hf,hr⟩
 | wk fr' hw _ ih=>
  intro E ro he hf hr
  refine ih he ⟨hf.size,fun i=>?_,hf.defers⟩ hr
  rcases hw i with e | e
  · rw [e]; exact hf.slot i
  · rw [e]; trivial
 | cut k hk _ ih=>
  intro E ro he hf hr
  subst he
  refine ih (E:=cN (B.ren (iC k)) (E.take k)) (by rw [iZ]; simp [hp,List.map_take]) ⟨hf.size,fun i=>?_,hf.defers⟩ (hr.cut (by omega))
  refine S.rel_ren (fun n m g h1 h2=>?_) (hf.slot i)
  unfold iC at h1
  split at h1
  · rename_i hlt
    simp only [aH] at h1
    subst h1
    rw [gM,gm,List.map_take,List.getElem?_take,if_pos hlt]
    exact h2
  · cases h1
 | sel ns hd hl hk _ ih=>
  intro E ro he hf hr
  subst he
  refine ih (E:=cN (B.ren (loc ns)) (eI E ns)) (by rw [iZ,xC]) ⟨hf.size,fun i=>S.rel_ren (fun n m g h1 h2=>by rw [gM]; exact wC n m g h1 h2) (hf.slot i),hf.defers⟩ (hr.sel hd (fun n hn=>by have:=hl n hn; rwa [eX] at this) fun n g hn=>?_)
  obtain ⟨g',h1,h2⟩:=hr.gx n g hn
  refine ⟨g',?_,h2⟩
  have hlt:n < k0:=by rw [<-hk0]; exact (bC.1 hn).1
  have hns:ns[n]? = some n:=by
   have:=congrArg (·[n]?) hk
   simpa [List.getElem?_take,hlt,List.getElem?_range] using this
  obtain ⟨blk,hE⟩:=rM h1
  simp [gm,eI,hns,hE]
 | kill n _ ih=>
  intro E ro he hf hr
  subst he
  cases hE:E[n]? with
  | none=>exact ih (KU hE) hf hr
  | some y=>
   obtain ⟨g,blk⟩:=y
   exact ih (E:=E.set n (g,.dead)) hp_kill.symm (by rw [fC hE]; exact hf) (hr.kill hE)
 | nil sl T sz hsl _ ih=>
  intro E ro he hf hr
  subst he
  refine ih (E:=E ++ [((⟨none,true,0,0,T,[]⟩:Gb),B.row [] T sz)]) (by rw [jB]) ⟨hf.size,fun i=>?_,hf.defers⟩ (hr.push T sz)
  simp only [W.put]
  split
  · rename_i hi
    subst hi
    have:=hf.slot i
    rw [hsl] at this
    have h':a.tmps.getD i undef=.slice none 0 0:=this
    rw [h']
    exact ⟨⟨none,true,0,0,T,[]⟩,by simp [gm,eX],rfl,Nat.le_refl _,⟨_,_,_,rfl⟩,fun _=>rfl⟩
  · exact S.rel_mono (d9 _) (Ext.refl _) (hf.slot i)
 | @nilc fr H nm k T sz cs T' hnm hk _ ih=>
  intro E ro he hf hr
  subst he
  obtain ⟨g,hE⟩:=cM hnm
  have hp1:=hr.push T sz
  have hlt:=(bC.1 hE).1
  have hE1:(E ++ [((⟨none,true,0,0,T,[]⟩:Gb),B.row [] T sz)])[nm]? = some (g,.cells cs T'):=by rw [List.getElem?_append_left hlt]; exact hE
  obtain ⟨q1,b,q2,q3,q4⟩:=hp1.own nm _ _ hE1
  have hle:=fW (E:=E ++ [((⟨none,true,0,0,T,[]⟩:Gb),B.row [] T sz)]) (blk':=.cells (cs.set k (.sl (hp E).length 0)) T') hE1 g.le_refl
  have hgm:=fC (E:=E ++ [((⟨none,true,0,0,T,[]⟩:Gb),B.row [] T sz)]) (blk:=.cells (cs.set k (.sl (hp E).length 0)) T') hE1
  have h2:=hp1.swap (w':=w) (blk':=.cells (cs.set k (.sl (hp E).length 0)) T') hE1 rfl g.le_refl (Nat.le_refl _) rfl rfl rfl (by
   rw [hgm]
   refine ⟨q1,b,q2,q3,by rw [List.length_set]; exact q4.1,fun i c v h1 h2=>?_⟩
   rw [List.getElem?_set] at h1
   split at h1
   · rename_i hi
     subst hi
     rw [if_pos (bC.1 hk).1] at h1
     simp only [aH] at h1
     subst h1
     have h':v=.slice none 0 0:=q4.2 k _ v hk h2
     subst h'
     exact ⟨⟨none,true,0,0,T,[]⟩,by simp [gm,eX],rfl,Nat.le_refl _,⟨_,_,_,rfl⟩,fun _=>rfl⟩
   · exact q4.2 i c v h1 h2) (.inl ⟨rfl,fun _ _=>rfl⟩)
  refine ih (E:=(E ++ [((⟨none,true,0,0,T,[]⟩:Gb),B.row [] T sz)]).set nm (g,.cells (cs.set k (.sl (hp E).length 0)) T')) ?_ (by rw [hgm]; exact hf.mono (d9 _) (Ext.refl _)) h2
  rw [fR,jB,List.set_append_left _ _ (by rw [eX]; exact hlt)]
 | nf sl _ ih=>
  intro E ro he hf hr
  refine ih he ⟨hf.size,fun i=>?_,hf.defers⟩ hr
  simp only [W.put]
  split
  · rename_i hi; subst hi; exact S.rel_nf (hf.slot i)
  · exact hf.slot i
 | pub n xs T sz hn _ ih=>
  intro E ro he hf hr
  subst he
  obtain ⟨g,hE⟩:=cM hn
  obtain ⟨ro',hext,hfz,hglen,hr'⟩:=hr.pubR hE
  refine ih (E:=cN (B.pub n xs) (E.set n (g,.dead))) (by rw [iZ,hp_kill]; rfl) ⟨hf.size,fun i=>?_,hf.defers⟩ hr'
  rw [gM,fC hE]
  exact S.rel_pub hext (cT hE) hglen hfz (hf.slot i)
 | opn n xs T sz hn _ ih=>
  intro E ro he hf hr
  subst he
  obtain ⟨g,hE⟩:=cM hn
  exact ih (E:=E.set n (g,.rowx xs T sz)) (by rw [fR]) (by rw [fC hE]; exact hf) (hr.opn hE)
 | nfr n xs T sz hn _ ih=>
  intro E ro he hf hr
  subst he
  obtain ⟨g,hE⟩:=cM hn
  exact ih (E:=E.set n (g,.rowx (xs.map (List.map C.nf)) T sz)) (by rw [fR]) (by rw [fC hE]; exact hf) (hr.nfr hE)
 | shu n xs T sz hn hs _ ih=>
  intro E ro he hf hr
  subst he
  obtain ⟨g,hE⟩:=cM hn
  exact ih (E:=E.set n (g,.row xs T sz)) (by rw [fR]) (by rw [fC hE]; exact hf) (hr.shu hE hs)
theorem EF {k0:Nat} (hk0:X.g0.length=k0) {H:Hp} {K:S->Hp->Prop} {r:S} (h:Fin k0 K r H) {v:Value}:∀ {E:Es} {ro:RO},H=hp E->r.rel (gm E) ro v->Rel X E ro w->∃ r' E' ro',K r' (hp E')/\r'.rel (gm E') ro' v/\Rel X E' ro' w:=by
 induction h with
 | done h=>intro E ro he hf hr; subst he; exact ⟨_,_,_,h,hf,hr⟩
 | sel ns hd hl hk _ ih=>
  intro E ro he hf hr
  subst he
  refine ih (E:=cN (B.ren (loc ns)) (eI E ns)) (by rw [iZ,xC]) (S.rel_ren (fun n m g h1 h2=>by rw [gM]; exact wC n m g h1 h2) hf) (hr.sel hd (fun n hn=>by have:=hl n hn; rwa [eX] at this) fun n g hn=>?_)
  obtain ⟨g',h1,h2⟩:=hr.gx n g hn
  refine ⟨g',?_,h2⟩
  have hlt:n < k0:=by rw [<-hk0]; exact (bC.1 hn).1
  have hns:ns[n]? = some n:=by
   have:=congrArg (·[n]?) hk
   simpa [List.getElem?_take,hlt,List.getElem?_range] using this
  obtain ⟨blk,hE⟩:=rM h1
  simp [gm,eI,hns,hE]
 | kill n _ ih=>
  intro E ro he hf hr
  subst he
  cases hE:E[n]? with
  | none=>exact ih (KU hE) hf hr
  | some y=>
   obtain ⟨g,blk⟩:=y
   exact ih (E:=E.set n (g,.dead)) hp_kill.symm (by rw [fC hE]; exact hf) (hr.kill hE)
 | @nilc r H nm k T sz cs T' hnm hk _ ih=>
  intro E ro he hf hr
  subst he
  obtain ⟨g,hE⟩:=cM hnm
  have hp1:=hr.push T sz
  have hlt:=(bC.1 hE).1
  have hE1:(E ++ [((⟨none,true,0,0,T,[]⟩:Gb),B.row [] T sz)])[nm]? = some (g,.cells cs T'):=by rw [List.getElem?_append_left hlt]; exact hE
  obtain ⟨q1,b,q2,q3,q4⟩:=hp1.own nm _ _ hE1
  have hle:=fW (E:=E ++ [((⟨none,true,0,0,T,[]⟩:Gb),B.row [] T sz)]) (blk':=.cells (cs.set k (.sl (hp E).length 0)) T') hE1 g.le_refl
  have hgm:=fC (E:=E ++ [((⟨none,true,0,0,T,[]⟩:Gb),B.row [] T sz)]) (blk:=.cells (cs.set k (.sl (hp E).length 0)) T') hE1
  have h2:=hp1.swap (w':=w) (blk':=.cells (cs.set k (.sl (hp E).length 0)) T') hE1 rfl g.le_refl (Nat.le_refl _) rfl rfl rfl (by
   rw [hgm]
   refine ⟨q1,b,q2,q3,by rw [List.length_set]; exact q4.1,fun i c v h1 h2=>?_⟩
   rw [List.getElem?_set] at h1
   split at h1
   · rename_i hi
     subst hi
     rw [if_pos (bC.1 hk).1] at h1
     simp only [aH] at h1
     subst h1
     have h':v=.slice none 0 0:=q4.2 k _ v hk h2
     subst h'
     exact ⟨⟨none,true,0,0,T,[]⟩,by simp [gm,eX],rfl,Nat.le_refl _,⟨_,_,_,rfl⟩,fun _=>rfl⟩
   · exact q4.2 i c v h1 h2) (.inl ⟨rfl,fun _ _=>rfl⟩)
  refine ih (E:=(E ++ [((⟨none,true,0,0,T,[]⟩:Gb),B.row [] T sz)]).set nm (g,.cells (cs.set k (.sl (hp E).length 0)) T')) ?_ (by rw [hgm]; exact S.rel_mono (d9 _) (Ext.refl _) hf) h2
  rw [fR,jB,List.set_append_left _ _ (by rw [eX]; exact hlt)]
 | pub n xs T sz hn _ ih=>
  intro E ro he hf hr
  subst he
  obtain ⟨g,hE⟩:=cM hn
  obtain ⟨ro',hext,hfz,hglen,hr'⟩:=hr.pubR hE
  refine ih (E:=cN (B.pub n xs) (E.set n (g,.dead))) (by rw [iZ,hp_kill]; rfl) ?_ hr'
  rw [gM,fC hE]
  exact S.rel_pub hext (cT hE) hglen hfz hf
 | opn n xs T sz hn _ ih=>
  intro E ro he hf hr
  subst he
  obtain ⟨g,hE⟩:=cM hn
  exact ih (E:=E.set n (g,.rowx xs T sz)) (by rw [fR]) (by rw [fC hE]; exact hf) (hr.opn hE)
 | nfr n xs T sz hn _ ih=>
  intro E ro he hf hr
  subst he
  obtain ⟨g,hE⟩:=cM hn
  exact ih (E:=E.set n (g,.rowx (xs.map (List.map C.nf)) T sz)) (by rw [fR]) (by rw [fC hE]; exact hf) (hr.nfr hE)
 | shu n xs T sz hn hs _ ih=>
  intro E ro he hf hr
  subst he
  obtain ⟨g,hE⟩:=cM hn
  exact ih (E:=E.set n (g,.row xs T sz)) (by rw [fR]) (by rw [fC hE]; exact hf) (hr.shu hE hs)
end
def eG (E:Es):List Nat:=E.filterMap fun e=>if e.2.live then e.1.ob else none
theorem f0 {E:Es} {b:Nat}:b ∈ eG E ↔ ∃ (n:Nat) (g:Gb) (blk:B),E[n]? = some (g,blk)/\g.ob=some b/\B.live blk=true:=by
 unfold eG
 rw [List.mem_filterMap]
 constructor
 · rintro ⟨⟨g,blk⟩,hm,he⟩
   simp only at he
   split at he
   · rename_i hl
     obtain ⟨n,hn⟩:=List.mem_iff_getElem?.1 hm
     exact ⟨n,g,blk,hn,he,hl⟩
   · cases he
 · rintro ⟨n,g,blk,hn,hb,hl⟩
   exact ⟨(g,blk),bW hn,by simp [hl,hb]⟩
def FK:List (String × Array Value):=[("internal/strconv.uint64pow10",((List.range 20).map fun i=>Value.int .u64 ((10 ^ i:Nat):Int)).toArray)]
def GR (P:Program) (ro:RO) (w:World):Prop:=∀ x ∈ FK,∀ g,P.globalNamed x.1=some g->(∃ v,ro g 0=some v)/\w.var? P x.1=some x.2
theorem GR.mono {P:Program} {ro ro':RO} {w:World} (h:GR P ro w) (he:Ext ro ro'):GR P ro' w:=fun x hx g hg=>⟨(h x hx g hg).1.imp fun _ hv=>(he _ _ _ hv).1,(h x hx g hg).2⟩
theorem ZR {P:Program} {w:World} {n:String} {g:Nat} {cs:Array Value} (hg:P.globalNamed n=some g) (h:w.var? P n=some cs):g < w.heap.size:=by
 unfold World.var? at h
 rw [hg,Option.bind_some] at h
 rcases bL g w.heap.size with h1 | h1
 · exact h1
 · rw [Array.getElem?_eq_none h1] at h; cases h
def Meets (P:Program) (f:FuncId) (s:Spec):Prop:=
 nP P f=true/\∀ (az:List S) (vs:List Value) (E:Es) (ro:RO) (w:World) (K:S->Hp->Prop),az.length=vs.length->(∀ (i:Nat) (x:S) (v:Value),az[i]? = some x->vs[i]? = some v->x.rel (gm E) ro v)->
  Rel ⟨w,eG E,ro,gm E⟩ E ro w->s az (hp E) K->GR P ro w->
  Calls P f vs.toArray w (fun e w'=>∃ r v E' ro',e=.returned v/\S.rel (gm E') ro' r v/\K r (hp E')/\Rel ⟨w,eG E,ro,gm E⟩ E' ro' w')
def gP (P:Program) (Γ:dP):Prop:=∀ f s,(f,s) ∈ Γ->Meets P f s.sp/\∀ p,s.fn=some p->Meets P f p.sp
structure MeetsIn (P:Program) (X:Ctx) (Γ:dP):Prop where
 g:GR P X.ro0 X.w0
 nb:∀ x ∈ FK,∀ g,P.globalNamed x.1=some g->g ∉ X.pb
 m:gP P Γ
theorem MeetsIn.at {P:Program} {X:Ctx} {Γ:dP} {E:Es} {ro:RO} {w:World} (h:MeetsIn P X Γ) (hr:Rel X E ro w):GR P ro w:=fun x hx g hg=>by
 obtain ⟨⟨v,hv⟩,h2⟩:=h.g x hx g hg
 refine ⟨⟨v,(hr.ro0 _ _ _ hv).1⟩,?_⟩
 have hk:=hr.keep g (ZR hg h2) (h.nb x hx g hg)
 unfold World.var? at h2 ⊢
 rw [hg,Option.bind_some] at h2 ⊢
 rw [hk]; exact h2
theorem GR.nb {P:Program} {X:Ctx} {E:Es} {ro:RO} {w:World} (h:GR P ro w) (hr:Rel X E ro w):∀ x ∈ FK,∀ g,P.globalNamed x.1=some g->g ∉ eG E:=fun x hx g hg hb=>by
 obtain ⟨⟨v,hv⟩,_⟩:=h x hx g hg
 obtain ⟨n,gb,blk,h1,h2,h3⟩:=f0.1 hb
 rw [hr.apart _ _ _ hv n gb blk h1 h2] at h3
 cases h3
theorem MeetsIn.here {P:Program} {X:Ctx} {Γ:dP} {E:Es} {ro:RO} {w:World} (h:MeetsIn P X Γ) (hr:Rel X E ro w):MeetsIn P ⟨w,eG E,ro,gm E⟩ Γ:=⟨h.at hr,(h.at hr).nb hr,h.m⟩
theorem RN {f:FuncId} {az:List S} {H:Hp} {K:S->Hp->Prop}:∀ {Γ:dP},sp Γ f az H K->∃ s,(f,s) ∈ Γ/\s.sp az H K
 | [],h=>h.elim
 | (g,s) :: r,h=>by
  simp only [sp] at h
  split at h
  · rename_i hg; subst hg; exact ⟨s,by simp,h⟩
  · obtain ⟨s',h1,h2⟩:=RN h; exact ⟨s',by simp [h1],h2⟩
theorem ID {f:FuncId} {p:Fun}:∀ {Γ:dP},mH Γ f=some p->∃ s,(f,s) ∈ Γ/\s.fn=some p
 | [],h=>by simp [mH] at h
 | (g,s) :: r,h=>by
  simp only [mH] at h
  split at h
  · rename_i hg; subst hg; exact ⟨s,by simp,h⟩
  · obtain ⟨s',h1,h2⟩:=ID h; exact ⟨s',by simp [h1],h2⟩
theorem aB (P:Program):gP P []:=fun f s h=>by simp at h
theorem aA {P:Program} {f:FuncId} {s:Spec} {Γ:dP} (h:Meets P f s) (hr:gP P Γ):gP P ((f,.s s) :: Γ):=by
 intro g t hm
 rcases List.mem_cons.1 hm with he | hm
 · simp only [Prod.mk.injEq] at he; obtain ⟨rfl,rfl⟩:=he; exact ⟨h,fun p hp=>by simp [Entry.s] at hp⟩
 · exact hr g t hm
theorem aI {P:Program} {f:FuncId} {p:Fun} {Γ:dP} (h:Meets P f p.sp) (hr:gP P Γ):gP P ((f,.f p) :: Γ):=by
 intro g t hm
 rcases List.mem_cons.1 hm with he | hm
 · simp only [Prod.mk.injEq] at he; obtain ⟨rfl,rfl⟩:=he; exact ⟨h,fun q hq=>by simp only [Entry.f,aH] at hq; subst hq; exact h⟩
 · exact hr g t hm
def res (fr:Fr):Fr:=fun i=>match fr i with | .cn g a=>bif g then .va a else .un | s=>s
section
variable {P:Program} {o:Oper} {N:Nat} {fr:Fr} {a:Act} {E:Es} {γ:List Gb} {ro:RO} {X:Ctx} {w:World} {nw:Bool} {Γ:dP} {ops:Array Oper}
theorem FRel.res (h:FRel N γ ro fr a):FRel N γ ro (res fr) a:=by
 refine ⟨h.size,fun i=>?_,h.defers⟩
 have:=h.slot i
 unfold W.res
 split
 · rename_i g y he
   rw [he] at this
   cases g
   · trivial
   · exact this.1 rfl
 · exact this
theorem K6:∀ {l:List Nat},cP fr l->∀ j ∈ l,(fr j).gd
 | [],_,j,hj=>by simp at hj
 | i :: r,h,j,hj=>by
  rcases List.mem_cons.1 hj with rfl | hj
  · exact h.1
  · exact K6 h.2 j hj
theorem dZ {l:List Nat} (h:cP fr l):∀ j ∈ l,fst fr j=res fr j:=by
 intro j hj
 have:=K6 h j hj
 unfold W.fst W.res S.st
 cases hfr:fr j with
 | cn g y=>rw [hfr] at this; simp only [S.gd] at this; subst this; rfl
 | va y=>rfl
 | tu l=>rfl
 | un=>rfl
theorem CB (hf:FRel N γ ro fr a) {sl:Nat} {want g:Bool} (hg:gv fr sl want=some g) {k:Nat} (hk:(ops[k]?).bind (·.dst)=some sl):(yielded ops a.tmps k == some want)=g/\(g=true->a.tmps.getD sl undef=.bool want)/\
 (g=false->∀ b,fr sl=bS b->a.tmps.getD sl undef=.bool (!want)):=by
 have hs:=hf.slot sl
 have key:∀ b:Bool,a.tmps.getD sl undef=.bool b->a.tmps[sl]? = some (.bool b):=by
  intro b hb
  rw [Array.getD_eq_getD_getElem?] at hb
  cases h:a.tmps[sl]? with
  | none=>rw [h] at hb; simp [undef] at hb
  | some v=>rw [h] at hb; simp at hb; rw [hb]
 have hfalse:∀ x:A,fr sl=.cn false x->(yielded ops a.tmps k == some want)=false/\(false=true->a.tmps.getD sl undef=.bool want)/\(false=false->∀ b,fr sl=bS b->a.tmps.getD sl undef=.bool (!want)):=by
  intro x he
  rw [he] at hs
  have hu:a.tmps.getD sl undef=undef:=hs.2 rfl
  have:∀ b:Bool,a.tmps[sl]? ≠ some (.bool b):=by
   intro b hb
   rw [Array.getD_eq_getD_getElem?,hb] at hu
   simp [undef] at hu
  refine ⟨?_,by simp,fun h b' hb'=>by rw [he] at hb'; cases hb'⟩
  unfold yielded
  rw [hk]
  simp only [Option.bind_some]
  cases h:a.tmps[sl]? with
  | none=>rfl
  | some v=>
   cases v with
   | bool b=>exact absurd h (this b)
   | _=>rfl
 unfold gv at hg
 split at hg<;>simp only [aH,reduceCtorEq] at hg
 · rename_i b he
   rw [he] at hs
   have hs':a.tmps.getD sl undef=.bool b:=hs
   unfold yielded
   rw [hk]
   simp only [Option.bind_some]
   rw [key b hs']
   subst hg
   refine ⟨by cases b<;>cases want<;>rfl,fun h=>?_,fun h b' hb'=>?_⟩
   · rw [hs']; simp at h; rw [h]
   · rw [hs']; cases b<;>cases want<;>simp_all
 · rename_i g0 b he
   cases g0 with
   | true=>
    rw [he] at hs
    have hs':a.tmps.getD sl undef=.bool b:=hs.1 rfl
    unfold yielded
    rw [hk]
    simp only [Option.bind_some]
    rw [key b hs']; subst hg
    refine ⟨by cases b<;>cases want<;>rfl,fun h=>?_,fun h b' hb'=>?_⟩
    · rw [hs']; simp at h; rw [h]
    · rw [he] at hb'; cases hb'
   | false=>
    subst hg
    rw [Bool.false_and]
    exact hfalse _ he
 · rename_i x _ he
   subst hg
   exact hfalse _ he
theorem K4 (hf:FRel N γ ro fr a) {sl:Nat} {s:S} (h:s.rel γ ro (a.tmps.getD sl undef)):FRel N γ ro (put fr (some sl) s) a:=by
 refine ⟨hf.size,fun i=>?_,hf.defers⟩
 simp only [W.put]
 split
 · rename_i hi; subst hi; exact h
 · exact hf.slot i
theorem KW (hf:FRel N γ ro fr a) {sl:Nat} {want:Bool} (h:a.tmps.getD sl undef=.bool want):FRel N γ ro (jF fr sl want) a:=K4 hf h
theorem KD (hf:FRel N γ ro fr a) {sl:Nat} {want:Bool} (h:∀ b,fr sl=bS b->a.tmps.getD sl undef=.bool (!want)):FRel N γ ro (pD fr sl want) a:=by
 unfold pD
 split
 · rename_i b he; exact K4 hf (h b he)
 · exact hf
theorem m5 {σ:CH} {j:J} (h:rG P nw N ops σ o=some j):j1 P nw σ o.op=some j.i/\xO ops o.guard=some j.g/\j.d=o.dst/\∀ k,o.dst=some k->k < N:=by
 unfold rG at h
 split at h
 · rename_i i g hi hg
   split at h
   · rename_i d hd
     split at h
     · rename_i hlt; simp only [aH] at h; subst h; exact ⟨hi,hg,rfl,fun k hk=>by rw [hd] at hk; simp only [aH] at hk; rw [<-hk]; exact hlt⟩
     · cases h
   · rename_i hd
     simp only [aH] at h; subst h; exact ⟨hi,hg,rfl,fun k hk=>by rw [hd] at hk; cases hk⟩
 · cases h
theorem UT {σ:CH} {op:Op} {i:QI} (h:j1 P nw σ op=some (.q i)):HK P nw op=some i:=by
 unfold j1 at h
 split at h
 · rename_i h1; simp only [aH,I.q.injEq] at h; rw [<-h]; exact h1
 · repeat' (split at h)
   all_goals first | (simp at h; done) | (cases σ<;>simp at h; done)
theorem OI {σ:CH} {op:Op} {i:LI} (h:j1 P nw σ op=some (.l i)):cW P op=some i:=by
 unfold j1 at h
 split at h
 · simp at h
 · split at h
   · rename_i h1; simp only [aH,I.l.injEq] at h; rw [<-h]; exact h1
   · repeat' (split at h)
     all_goals first | (simp at h; done) | (cases σ<;>simp at h; done)
theorem PJ {σ:CH} {op:Op} {x y:O} (h:j1 P nw σ op=some (.ix x y)):UK P op=some (x,y):=by
 unfold j1 at h
 split at h
 · simp at h
 · split at h
   · simp at h
   · split at h
     · rename_i h1; simp only [aH,I.ix.injEq] at h; obtain ⟨rfl,rfl⟩:=h; exact h1
     · repeat' (split at h)
       all_goals first | (simp at h; done) | (cases σ<;>simp at h; done)
theorem VM {σ:CH} {op:Op} {i:EI} (h:j1 P nw σ op=some (.e i)):∃ i0,tO P op=some i0/\(i=i0\/i=i0.ext):=by
 unfold j1 at h
 split at h
 · simp at h
 · split at h
   · simp at h
   · split at h
     · simp at h
     · split at h
       · rename_i i0 h1
         simp only [aH,I.e.injEq] at h
         refine ⟨i0,h1,?_⟩
         rw [<-h]
         cases σ with
         | own l=>exact .inl rfl
         | q=>exact .inr rfl
       · repeat' (split at h)
         all_goals first | (simp at h; done) | (cases σ<;>simp at h; done)
theorem TG {σ:CH} {op:Op} {c x y:O} (h:j1 P nw σ op=some (.pick c x y)):∃ c' x' y',op=.pick c' x' y'/\c=aJ c'/\x=aJ x'/\y=aJ y':=by
 unfold j1 at h
 repeat' (split at h)
 all_goals first
  | (simp only [aH,I.pick.injEq] at h; exact ⟨_,_,_,rfl,h.1.symm,h.2.1.symm,h.2.2.symm⟩)
  | (simp at h; done)
  | (cases σ<;>simp at h; done)
theorem aAP {σ:CH} {σ':List Nat} {op:Op} {f:FuncId} {xs:List O} (h:j1 P nw σ op=some (.cl f xs σ')):∃ c:Call,op=.call c/\c.callee=.value (.func f)/\xs=c.args.toList.map aJ:=by
 unfold j1 at h
 split at h
 · simp at h
 · split at h
   · simp at h
   · split at h
     · simp at h
     · split at h
       · simp at h
       · split at h
         · simp at h
         · rename_i c _ _ _ _
           split at h
           · rename_i g hcal
             cases σ with
             | own l=>
              simp only [aH,I.cl.injEq] at h
              obtain ⟨rfl,rfl,rfl⟩:=h
              exact ⟨c,rfl,hcal,rfl⟩
             | q=>simp at h
           · cases σ<;>simp at h
           · cases h
         · cases h
theorem aCJ {σ:CH} {σ':List Nat} {op:Op} {x:O} {xs:List O} (h:j1 P nw σ op=some (.ca x xs σ')):∃ (c:Call) (t:Nat),op=.call c/\c.callee=.value (.tmp t)/\x=.t t/\xs=c.args.toList.map aJ:=by
 unfold j1 at h
 split at h
 · simp at h
 · split at h
   · simp at h
   · split at h
     · simp at h
     · split at h
       · simp at h
       · split at h
         · simp at h
         · rename_i c _ _ _ _
           split at h
           · cases σ<;>simp at h
           · rename_i t hcal
             cases σ with
             | own l=>
              simp only [aH,I.ca.injEq] at h
              obtain ⟨rfl,rfl,rfl⟩:=h
              exact ⟨c,t,rfl,hcal,rfl,rfl⟩
             | q=>simp at h
           · cases h
         · cases h
theorem aFC {σ:CH} {op:Op} {f:FuncId} {xs:List O} (h:j1 P nw σ op=some (.cq f xs)):∃ c:Call,op=.call c/\c.callee=.value (.func f)/\xs=c.args.toList.map aJ:=by
 unfold j1 at h
 split at h
 · simp at h
 · split at h
   · simp at h
   · split at h
     · simp at h
     · split at h
       · simp at h
       · split at h
         · simp at h
         · rename_i c _ _ _ _
           split at h
           · rename_i g hcal
             cases σ with
             | own l=>simp at h
             | q=>
              simp only [aH,I.cq.injEq] at h
              obtain ⟨rfl,rfl⟩:=h
              exact ⟨c,rfl,hcal,rfl⟩
           · cases σ<;>simp at h
           · cases h
         · cases h
theorem eF (h:o.guard=none) (y:Nat->Option Bool):Region.wanted o y=true:=by simp [Region.wanted,h]
theorem ZJ {b:Bool} {x y:A} {u v:Value} (hx:b=true->x.rel γ ro u) (hy:b=false->y.rel γ ro v):(rR b x y).rel γ ro (if b then u else v):=by
 cases b with
 | true=>
  have:=hx rfl
  unfold rR
  split
  · exact this
  · exact this
 | false=>
  have:=hy rfl
  unfold rR
  split
  · exact this
  · exact this
def QJ (P:Program) (N:Nat) (o:Oper) (a:Act) (E:Es) (ro:RO) (X:Ctx) (K:Fr->Hp->Prop):Prop:=
 ∃ fr',K fr' (hp E)/\∃ v,FRel N (gm E) ro fr' (a.put o.dst v)/\∀ w,Rel X E ro w->(execOp a.eval o).run P w=.ok (.value v) w
theorem QOk.qj {s:S} (h:QOk P o E ro a s) (hf:FRel N (gm E) ro fr a) (hN:∀ k,o.dst=some k->k < N) {K:Fr->Hp->Prop} (hK:K (put fr o.dst s) (hp E)):QJ P N o a E ro X K:=by
 obtain ⟨v,h1,h2⟩:=h
 exact ⟨_,hK,v,hf.put hN h1,fun w hr=>h2 X w hr⟩
theorem qj0 (hf:FRel N (gm E) ro fr a) (hr0:Rel X E ro w) {σ:CH} {i:I} (hi:j1 P nw σ o.op=some i) (hN:∀ k,o.dst=some k->k < N) (hq:(J.mk o.dst none i).quiet=true) {K:Fr->Hp->Prop} (hv:kP Γ fr (hp E) K o.dst i):QJ P N o a E ro X K:=by
 cases i with
 | q q=>
  simp only [kP] at hv
  split at hv
  · rename_i s hs
    obtain ⟨h1,h2,hK⟩:=hv
    obtain ⟨e1,e2⟩:=wO (H:=hp E) (i:=q) (fr:=fst fr) (fr2:=W.res fr) (dZ h1)
    rw [e1] at hs
    rw [e2] at h2
    exact (KQ hf.res hr0 (UT hi) hs h2).qj hf hN hK
  · exact hv.elim
 | ix x y=>
  simp only [kP] at hv
  split at hv
  · rename_i s k n hx hy
    obtain ⟨⟨hg,h0,h1⟩,hK⟩:=hv
    have hfr:=dZ hg
    have hx':ev (W.res fr) x=tS s:=by rw [<-aW (fr:=fst fr) (fun j hj=>hfr j (by simp [hj]))]; exact hx
    have hy':ev (W.res fr) y=iS k n:=by rw [<-aW (fr:=fst fr) (fun j hj=>hfr j (by simp [hj]))]; exact hy
    obtain ⟨c,hc,hq⟩:=KM hf.res (PJ hi) hx' hy' ⟨h0,h1⟩
    exact hq.qj hf hN (hK c hc)
  · exact hv.elim
 | l i=>
  obtain ⟨hg,hv⟩:=hv
  rw [oL (dZ hg)] at hv
  obtain ⟨s,hK,hq⟩:=w9 hf.res hr0 (OI hi) hv
  exact hq.qj hf hN hK
 | pick c x y=>
  simp only [kP] at hv
  split at hv
  · rename_i b ax ay hc hx hy
    obtain ⟨hgc,hgx,hgy,hK⟩:=hv
    obtain ⟨c',x',y',ho,rfl,rfl,rfl⟩:=TG hi
    have hc2:a.eval c'=.bool b:=by
     have:=aV hf.res c'
     rw [<-aW (fr:=fst fr) (dZ hgc),hc] at this
     exact this
    have hq:QOk P o E ro a (.va (rR b ax ay)):=by
     refine ⟨if b then a.eval x' else a.eval y',ZJ (fun hb=>?_) (fun hb=>?_),fun X w _=>by simp [execOp,ho,hc2,asBool]⟩
     · have:=aV hf.res x'
       rw [<-aW (fr:=fst fr) (dZ (hgx hb)),hx] at this
       exact this
     · have:=aV hf.res y'
       rw [<-aW (fr:=fst fr) (dZ (hgy hb)),hy] at this
       exact this
    exact hq.qj hf hN hK
  · exact hv.elim
 | e i=>simp [J.quiet] at hq
 | cl f xs σ=>simp [J.quiet] at hq
 | ca f xs σ=>simp [J.quiet] at hq
 | cq f xs=>simp [J.quiet] at hq
theorem wH {g:Bool} {s:S} {v:Value} (h:g=true->s.rel γ ro v) (h2:g=false->v=undef):(s.cnd g).rel γ ro v:=by
 cases s with
 | va y=>exact ⟨h,h2⟩
 | _=>trivial
theorem LY:dum.rel γ ro undef:=⟨fun h=>(by cases h),fun _=>rfl⟩
theorem pA (hf:FRel N (gm E) ro fr a) (hr0:Rel X E ro w) {σ:CH} {j:J} (hj:rG P nw N ops σ o=some j) (hq:j.quiet=true) {K:Fr->Hp->Prop} (hv:vJ Γ fr (hp E) K j) :
 if Region.wanted o (yielded ops a.tmps)=true then QJ P N o a E ro X K else ∃ fr',K fr' (hp E)/\FRel N (gm E) ro fr' (a.put o.dst undef):=by
 obtain ⟨hi,hg,hd,hN⟩:=m5 hj
 obtain ⟨d,jg,i⟩:=j
 simp only at hi hg hd
 subst hd
 unfold vJ at hv
 cases hgd:o.guard with
 | none=>
  rw [hgd] at hg
  simp only [xO,aH] at hg
  subst hg
  simp only at hv
  rw [if_pos (eF hgd _)]
  exact qj0 hf hr0 hi hN hq hv
 | some gw=>
  obtain ⟨k,want⟩:=gw
  rw [hgd] at hg
  simp only [xO] at hg
  split at hg
  · rename_i sl hsl
    simp only [aH] at hg
    subst hg
    simp only at hv
    split at hv
    · exact hv.elim
    · rename_i g hgv
      obtain ⟨hwant,hgt,hgf⟩:=CB hf hgv hsl
      have hw:Region.wanted o (yielded ops a.tmps)=g:=by simp only [Region.wanted,hgd]; exact hwant
      rw [hw]
      have dm:∀ {fr2:Fr},FRel N (gm E) ro fr2 a->K (put fr2 o.dst dum) (hp E)->∃ fr',K fr' (hp E)/\FRel N (gm E) ro fr' (a.put o.dst undef):=fun h hK=>⟨_,hK,h.put hN LY⟩
      cases i with
      | q q=>
       simp only [jT] at hv
       split at hv
       · rename_i s hs
         obtain ⟨h1,hK⟩:=hv
         cases g with
         | true=>
          rw [if_pos rfl]
          obtain ⟨hg1,h2⟩:=h1 rfl
          obtain ⟨e1,e2⟩:=wO (H:=hp E) (i:=q) (fr:=fst fr) (fr2:=W.res fr) (dZ hg1)
          rw [e1] at hs
          rw [e2] at h2
          obtain ⟨v,k1,k2⟩:=KQ hf.res hr0 (UT hi) hs h2
          exact ⟨_,hK,v,hf.put hN (wH (fun _=>k1) (fun h=>by cases h)),fun w hr=>k2 X w hr⟩
         | false=>
          rw [if_neg (by simp)]
          exact ⟨_,hK,hf.put hN (wH (fun h=>by cases h) (fun _=>rfl))⟩
       · obtain ⟨rfl,hK⟩:=hv
         rw [if_neg (by simp)]
         exact dm hf hK
      | ix x y=>
       simp only [jT] at hv
       split at hv
       · rename_i s k n hx hy
         obtain ⟨h1,hK⟩:=hv
         cases g with
         | true=>
          rw [if_pos rfl]
          obtain ⟨hg1,h2,h3⟩:=h1 rfl
          have hfr:=dZ hg1
          have hx':ev (W.res fr) x=tS s:=by rw [<-aW (fr:=fst fr) (fun j hj=>hfr j (by simp [hj]))]; exact hx
          have hy':ev (W.res fr) y=iS k n:=by rw [<-aW (fr:=fst fr) (fun j hj=>hfr j (by simp [hj]))]; exact hy
          obtain ⟨c,hc,v,k1,k2⟩:=KM hf.res (PJ hi) hx' hy' ⟨h2,h3⟩
          exact ⟨_,hK c fun _=>hc,v,hf.put hN ⟨fun _=>k1,fun h=>by cases h⟩,fun w hr=>k2 X w hr⟩
         | false=>
          rw [if_neg (by simp)]
          exact ⟨_,hK 0 (fun h=>by cases h),hf.put hN (s:=.cn false _) ⟨fun h=>(by cases h),fun _=>rfl⟩⟩
       · obtain ⟨rfl,hK⟩:=hv
         rw [if_neg (by simp)]
         exact dm hf hK
      | l i=>
       simp only [jT] at hv
       split at hv
       · rename_i s hs
         obtain ⟨h1,hK⟩:=hv
         cases g with
         | true=>
          rw [if_pos rfl]
          have h3:=aGW hs
          rw [oL (dZ (h1 rfl))] at h3
          obtain ⟨s',rfl,v,k1,k2⟩:=w9 hf.res hr0 (OI hi) h3
          exact ⟨_,hK,v,hf.put hN (wH (fun _=>k1) (fun h=>by cases h)),fun w hr=>k2 X w hr⟩
         | false=>
          rw [if_neg (by simp)]
          exact ⟨_,hK,hf.put hN (wH (fun h=>by cases h) (fun _=>rfl))⟩
       obtain ⟨h1,h2⟩:=hv
       cases g with
       | true=>
        rw [if_pos rfl]
        obtain ⟨hg1,h3⟩:=h1 rfl
        have hf2:=KW hf (hgt rfl)
        rw [oL (dZ hg1)] at h3
        obtain ⟨s,hK,hq⟩:=w9 hf2.res hr0 (OI hi) h3
        exact hq.qj hf2 hN hK
       | false=>
        rw [if_neg (by simp)]
        exact dm (KD hf (hgf rfl)) (h2 rfl)
      | pick c x y=>
       simp only [jT] at hv
       split at hv
       · rename_i b ax ay hc hx hy
         obtain ⟨h1,hK⟩:=hv
         cases g with
         | true=>
          rw [if_pos rfl]
          obtain ⟨hgc,hgx,hgy⟩:=h1 rfl
          have h0:kP Γ fr (hp E) (fun fr' H=>∃ s,fr'=put fr o.dst s/\s=.va (rR b ax ay)/\True) o.dst (.pick c x y):=by
           simp only [kP,hc,hx,hy]
           exact ⟨hgc,hgx,hgy,_,rfl,rfl,trivial⟩
          obtain ⟨fr',⟨s,rfl,rfl,_⟩,v,k1,k2⟩:=qj0 hf hr0 hi hN rfl h0
          refine ⟨_,hK,v,⟨k1.size,fun i=>?_,k1.defers⟩,k2⟩
          have:=k1.slot i
          cases hd:o.dst with
          | none=>rw [hd] at this; simpa [W.put] using this
          | some d=>
           rw [hd] at this
           simp only [W.put] at this ⊢
           split
           · rename_i he; rw [if_pos he] at this; exact ⟨fun _=>this,fun h=>by cases h⟩
           · rename_i he; rw [if_neg he] at this; exact this
         | false=>
          rw [if_neg (by simp)]
          exact ⟨_,hK,hf.put hN ⟨fun h=>(by cases h),fun _=>rfl⟩⟩
       · obtain ⟨rfl,hK⟩:=hv
         rw [if_neg (by simp)]
         exact dm hf hK
      | e i=>simp [J.quiet] at hq
      | cl f xs σ=>simp [J.quiet] at hq
      | ca f xs σ=>simp [J.quiet] at hq
      | cq f xs=>simp [J.quiet] at hq
  · cases hg
end
def eY:List Nat->Es->Es->Es
 | [],E,E'=>E ++ E'
 | n :: σ,E,E'=>eY σ (E.set n (E'.headD (PH,.dead))) E'.tail
theorem yW:∀ (σ:List Nat) (E E':Es),hp (eY σ E E')=pX σ (hp E) (hp E')
 | [],E,E'=>by simp [eY,pX,hp]
 | n :: σ,E,E'=>by
  simp only [eY,pX]
  rw [yW σ]
  congr 1
  · cases E'<;>simp [hp,List.map_set]
  · cases E'<;>simp [hp]
theorem tG:∀ (σ:List Nat) (E E':Es) {n:Nat},n ∉ σ->n < E.length->(eY σ E E')[n]? = E[n]?
 | [],E,E',n,h,hl=>by simp only [eY]; rw [List.getElem?_append_left hl]
 | k :: σ,E,E',n,h,hl=>by
  simp only [List.mem_cons,not_or] at h
  simp only [eY]
  rw [tG σ _ _ h.2 (by rw [List.length_set]; exact hl),List.getElem?_set,if_neg (fun e=>h.1 e.symm)]
theorem BC:∀ (σ:List Nat) (E E':Es),σ.Nodup->(∀ n ∈ σ,n < E.length)->σ.length<=E'.length->∀ (j:Nat) (e:Gb × B),E'[j]? = some e->∃ n,back σ E.length j=some n/\(eY σ E E')[n]? = some e
 | [],E,E',_,_,_,j,e,hj=>⟨E.length + j,by simp [back],by simp only [eY]; rw [List.getElem?_append_right (by omega)]; simpa using hj⟩
 | k :: σ,E,[],_,_,hl,j,e,hj=>by simp at hl
 | k :: σ,E,e0 :: E',hd,hlt,hl,j,e,hj=>by
  simp only [List.nodup_cons] at hd
  simp only [eY,List.headD_cons,List.tail_cons]
  cases j with
  | zero=>
   simp only [List.getElem?_cons_zero,aH] at hj
   subst hj
   have hk:=hlt k (by simp)
   exact ⟨k,by simp [back],by rw [tG σ _ _ hd.1 (by rw [List.length_set]; exact hk),List.getElem?_set,if_pos rfl,if_pos hk]⟩
  | succ j=>
   obtain ⟨n,h1,h2⟩:=BC σ (E.set k e0) E' hd.2 (fun n hn=>by rw [List.length_set]; exact hlt n (by simp [hn])) (by simpa using hl) j e (by simpa using hj)
   refine ⟨n,?_,h2⟩
   rw [List.length_set] at h1
   rw [<-h1]
   simp [back]
theorem z8:∀ (σ:List Nat) (E E':Es) (n:Nat) (e:Gb × B),(eY σ E E')[n]? = some e->
 (n ∉ σ/\n < E.length/\E[n]? = some e)\/(∃ j,E'[j]? = some e/\some n=back σ E.length j)\/e=(PH,.dead)
 | [],H,H',n,e,h=>by
  simp only [eY,List.getElem?_append] at h
  split at h
  · exact .inl ⟨by simp,by assumption,h⟩
  · exact .inr (.inl ⟨_,h,by simp [back]; omega⟩)
 | k :: σ,H,H',n,e,h=>by
  simp only [eY] at h
  have ih:=z8 σ _ _ n e h
  rw [List.length_set] at ih
  rcases ih with ⟨h1,h2,h3⟩ | ⟨j,h1,h2⟩ | h1
  · rw [List.getElem?_set] at h3
    split at h3
    · rename_i hk
      subst hk
      have h4:H'.headD (PH,.dead)=e:=by
       have h3':some (H'.headD (PH,.dead))=some e:=by simpa [h2] using h3
       exact bK h3'
      cases H' with
      | nil=>exact .inr (.inr h4.symm)
      | cons y r=>exact .inr (.inl ⟨0,by simpa using h4,rfl⟩)
    · rename_i hk
      exact .inl ⟨by simp; exact ⟨fun e=>hk e.symm,h1⟩,h2,h3⟩
  · refine .inr (.inl ⟨j + 1,?_,?_⟩)
    · cases H' with
      | nil=>simp at h1
      | cons y r=>simpa using h1
    · rw [h2]; simp [back]
  · exact .inr (.inr h1)
section
variable {P:Program} {o:Oper} {N:Nat} {fr:Fr} {a:Act} {E:Es} {γ:List Gb} {ro:RO} {X:Ctx} {w:World} {nw:Bool} {Γ:dP} {ops:Array Oper}
theorem Rel.here (h:Rel X E ro w):Rel ⟨w,eG E,ro,gm E⟩ E ro w:=
 ⟨h.own,h.inj,h.apart,h.rd,Ext.refl _,fun _ _ _ h=>.inl h,fun n b g blk hn en hl=>.inr (f0.2 ⟨n,g,blk,hn,en,hl⟩),GExt.refl _,Nat.le_refl _,fun _ _ _=>rfl,rfl,rfl,rfl⟩
theorem Rel.back (h:Rel X E ro w) {σ:List Nat} (hnd:σ.Nodup) (hlt:∀ n ∈ σ,n < E.length) {El E':Es} (hEl:El=cN (B.ren (loc σ)) (eI E σ)) {ro':RO} {w':World}
 (k:Rel ⟨w,eG El,ro,gm El⟩ E' ro' w'):Rel X (eY σ E (cN (B.ren (W.back σ E.length)) E')) ro' w'/\GExt (gm E) (gm (eY σ E (cN (B.ren (W.back σ E.length)) E')))/\
   ∀ (n m:Nat) (g:Gb),W.back σ E.length n=some m->(gm E')[n]? = some g->(gm (eY σ E (cN (B.ren (W.back σ E.length)) E')))[m]? = some g:=by
 have hEll:El.length=σ.length:=by rw [hEl]; simp [cN,eI]
 have hel:∀ (j n:Nat),σ[j]? = some n->∃ g blk,E[n]? = some (g,blk)/\El[j]? = some (g,blk.ren (loc σ)):=by
  intro j n hj
  have hn:=hlt n (bW hj)
  refine ⟨(E[n]).1,(E[n]).2,by rw [bB hn],?_⟩
  rw [hEl]
  simp [cN,eI,hj,bB hn]
 have hbl:∀ b,b ∈ eG El->∃ (n:Nat) (g:Gb) (blk:B),n ∈ σ/\E[n]? = some (g,blk)/\g.ob=some b/\B.live blk=true:=by
  intro b hb
  obtain ⟨j,g,blk,hj,hgb,hl⟩:=f0.1 hb
  have hjl:j < σ.length:=by rw [<-hEll]; exact (bC.1 hj).1
  obtain ⟨g',blk',h1,h2⟩:=hel j _ (bB hjl)
  rw [h2] at hj
  simp only [aH,Prod.mk.injEq] at hj
  obtain ⟨rfl,rfl⟩:=hj
  exact ⟨_,_,blk',List.getElem_mem hjl,h1,hgb,by rw [B.live_ren] at hl; exact hl⟩
 have hlen':σ.length<=E'.length:=by
  rcases bL E'.length σ.length with hc | hc
  · have hg:=(hel _ _ (bB hc))
    obtain ⟨g,blk,_,h2⟩:=hg
    obtain ⟨g',h3,_⟩:=k.gx _ g (cT h2)
    have:=(bC.1 h3).1
    rw [aCY] at this
    omega
  · exact hc
 have hlenb:σ.length<=(cN (B.ren (W.back σ E.length)) E').length:=by simpa [cN] using hlen'
 have fwd:∀ (n m:Nat) (g:Gb),W.back σ E.length n=some m->(gm E')[n]? = some g->(gm (eY σ E (cN (B.ren (W.back σ E.length)) E')))[m]? = some g:=by
  intro n m g h1 h2
  obtain ⟨blk,h3⟩:=rM h2
  obtain ⟨n',h4,h5⟩:=BC σ E (cN (B.ren (W.back σ E.length)) E') hnd hlt hlenb n (g,blk.ren (W.back σ E.length)) (by simp [cN,h3])
  rw [h1] at h4
  simp only [aH] at h4
  subst h4
  exact cT h5
 have gx2:GExt (gm E) (gm (eY σ E (cN (B.ren (W.back σ E.length)) E'))):=by
  intro n g hn
  obtain ⟨blk,hE⟩:=rM hn
  by_cases hs:n ∈ σ
  · obtain ⟨j,hj⟩:=List.mem_iff_getElem?.1 hs
    obtain ⟨g1,b1,h1,h2⟩:=hel j n hj
    rw [hE] at h1
    simp only [aH,Prod.mk.injEq] at h1
    obtain ⟨rfl,rfl⟩:=h1
    obtain ⟨g',h3,h4⟩:=k.gx j g (cT h2)
    exact ⟨g',fwd j n g' (by simp [W.back,hj]) h3,h4⟩
  · exact ⟨g,by simp only [gm,List.getElem?_map]; rw [tG σ _ _ hs (bC.1 hE).1,hE]; rfl,g.le_refl⟩
 have hlb:∀ (n b:Nat) (g:Gb) (blk:B),n ∈ σ->E[n]? = some (g,blk)->g.ob=some b->B.live blk=true->b ∈ eG El:=by
  intro n b g blk hn hE hb hl
  obtain ⟨j,hj⟩:=List.mem_iff_getElem?.1 hn
  obtain ⟨g1,b1,h1,h2⟩:=hel j n hj
  rw [hE] at h1
  simp only [aH,Prod.mk.injEq] at h1
  obtain ⟨rfl,rfl⟩:=h1
  exact f0.2 ⟨j,g,_,h2,hb,by rw [B.live_ren]; exact hl⟩
 have hold:∀ (n b:Nat) (g:Gb) (blk:B),n ∉ σ->E[n]? = some (g,blk)->g.ob=some b->B.live blk=true->b < w.heap.size/\b ∉ eG El:=by
  intro n b g blk hn hE hgb hl
  refine ⟨(h.own n _ blk hE).lt hl hgb,fun hb=>?_⟩
  obtain ⟨m,gm',bk,hm,hEm,hgm,hlm⟩:=hbl b hb
  have:=h.inj n m g gm' blk bk b hE hEm hgb hgm hl hlm
  subst this
  exact hn hm
 have hget:∀ (n:Nat) (g:Gb) (blk:B),(eY σ E (cN (B.ren (W.back σ E.length)) E'))[n]? = some (g,blk)->blk.live=true->
  (n ∉ σ/\E[n]? = some (g,blk))\/(∃ (j:Nat) (bk:B),E'[j]? = some (g,bk)/\bk.live=true/\blk=bk.ren (W.back σ E.length)/\some n=W.back σ E.length j):=by
  intro n g blk hn hl
  rcases z8 _ _ _ _ _ hn with ⟨h1,_,h2⟩ | ⟨j,h1,h2⟩ | h1
  · exact .inl ⟨h1,h2⟩
  · simp only [cN,List.getElem?_map] at h1
    cases hj:E'[j]? with
    | none=>rw [hj] at h1; cases h1
    | some y=>
     rw [hj] at h1
     simp only [Option.map_some,aH,Prod.mk.injEq] at h1
     obtain ⟨h1a,h1b⟩:=h1
     subst h1b
     exact .inr ⟨j,y.2,by rw [hj,<-h1a],by rw [B.live_ren] at hl; exact hl,rfl,h2⟩
  · simp only [Prod.mk.injEq] at h1; rw [h1.2] at hl; cases hl
 have hext:Ext ro ro':=k.ro0
 refine ⟨⟨fun n g blk hn=>?_,fun n m gn gm' bn bm b hn hm en em ln lm=>?_,fun b off c hc n g blk hn en=>?_,k.rd,h.ro0.trans hext,fun b off c hc=>?_,fun n b g blk hn en hl=>?_,h.gx.trans gx2,Nat.le_trans h.sz k.sz,fun b hb hp=>?_,k.os.trans h.os,k.tape.trans h.tape,k.output.trans h.output⟩,gx2,fwd⟩
 · by_cases hl:blk.live=true
   · rcases hget n g blk hn hl with ⟨h1,h2⟩ | ⟨j,bk,h1,h2,rfl,h4⟩
     · refine (h.own n g blk h2).same gx2 hext fun b hb=>?_
       obtain ⟨h3,h4⟩:=hold n b g blk h1 h2 hb hl
       exact k.keep b h3 h4
     · exact B.On_ren fwd (k.own j g bk h1)
   · cases blk<;>simp [B.live] at hl; trivial
 · rcases hget n _ bn hn ln with ⟨h1,h2⟩ | ⟨j,bk,h1,h2,h3,h4⟩<;>rcases hget m _ bm hm lm with ⟨k1,k2⟩ | ⟨j',bk',k1,k2,k3,k4⟩
   · exact h.inj n m gn gm' bn bm b h2 k2 en em ln lm
   · obtain ⟨q1,q2⟩:=hold n b gn bn h1 h2 en ln
     rcases k.par j' b gm' bk' k1 em k2 with q | q
     · simp only at q; omega
     · exact absurd q q2
   · obtain ⟨q1,q2⟩:=hold m b gm' bm k1 k2 em lm
     rcases k.par j b gn bk h1 en h2 with q | q
     · simp only at q; omega
     · exact absurd q q2
   · have:=k.inj j j' gn gm' bk bk' b h1 k1 en em h2 k2
     subst this
     rw [<-k4] at h4
     exact bK h4
 · by_cases hl:blk.live=true
   · rcases hget n _ blk hn hl with ⟨h1,h2⟩ | ⟨j,bk,h1,h2,h3,h4⟩
     · obtain ⟨q1,q2⟩:=hold n b g blk h1 h2 en hl
       rcases k.rob b off c hc with q | ⟨q | q,_⟩
       · have:=h.apart b off c q n g blk h2 en; rw [hl] at this; cases this
       · simp only at q; omega
       · exact absurd q q2
     · have:=k.apart b off c hc j g bk h1 en; rw [h2] at this; cases this
   · simpa using hl
 · rcases k.rob b off c hc with q | ⟨q | q,q'⟩
   · rcases h.rob b off c q with r | ⟨r,r'⟩
     · exact .inl r
     · exact .inr ⟨r,by rw [(k.ro0 b off c q).2]; exact r'⟩
   · simp only at q; have:=h.sz; exact .inr ⟨.inl (by omega),q'⟩
   · obtain ⟨n,g,blk,hn,hE,hgb,hl⟩:=hbl b q
     exact .inr ⟨h.par n b g blk hE hgb hl,q'⟩
 · rcases hget n _ blk hn hl with ⟨h1,h2⟩ | ⟨j,bk,h1,h2,h3,h4⟩
   · exact h.par n b g blk h2 en hl
   · rcases k.par j b g bk h1 en h2 with q | q
     · simp only at q; have:=h.sz; exact .inl (by omega)
     · obtain ⟨n',g',blk',hn',hE,hgb,hl'⟩:=hbl b q
       exact h.par n' b g' blk' hE hgb hl'
 · rw [k.keep b (by have:=h.sz; simp only; omega) (fun hb'=>?_)]
   · exact h.keep b hb hp
   · obtain ⟨n,g,blk,hn,hE,hgb,hl⟩:=hbl b hb'
     rcases h.par n b g blk hE hgb hl with q | q
     · omega
     · exact hp q
theorem nN {f:FuncId} (he:nP P f=true) (args:Array Value) (w:World):(callFunc f args).run P w=.ok (.enter f args) w:=by
 unfold nP at he
 cases hf:P.funcs[f]? with
 | none=>simp [hf] at he
 | some fn=>
  simp only [hf,Bool.and_eq_true,Bool.not_eq_true'] at he
  cases hb:fn.body with
  | none=>simp [hb] at he
  | some c=>
   have hn:=he.2
   simp only [callFunc,Sem.run_bind,run_program,Result.andThen_ok,hf,hn,hb]
   simp
theorem uX (hr:Rel X E ro w) (hm:MeetsIn P X Γ) {f:FuncId} {az:List S} {vs:List Value} (hl:az.length=vs.length) (hrel:∀ (i:Nat) (x:S) (v:Value),az[i]? = some x->vs[i]? = some v->x.rel (gm E) ro v)
 (hrun:nP P f=true->(execOp a.eval o).run P w=.ok (.enter f vs.toArray) w) {σ:List Nat} {R:S->Hp->Prop} (hv:AK Γ (hp E) f az σ R):eU P o a w X E ro R:=by
 intro next Q hK
 obtain ⟨⟨hnd,hlt⟩,hsp⟩:=hv
 obtain ⟨s,hmem,hs⟩:=RN hsp
 rw [eX] at hlt
 have gxl:∀ (n m:Nat) (g:Gb),loc σ n=some m->(gm E)[n]? = some g->(gm (cN (B.ren (loc σ)) (eI E σ)))[m]? = some g:=fun n m g h1 h2=>by rw [gM]; exact wC n m g h1 h2
 have hloc:Rel ⟨w,eG (cN (B.ren (loc σ)) (eI E σ)),ro,gm (cN (B.ren (loc σ)) (eI E σ))⟩ (cN (B.ren (loc σ)) (eI E σ)) ro w:=by
  have h0:Rel ⟨w,eG E,ro,[]⟩ E ro w:=⟨hr.own,hr.inj,hr.apart,hr.rd,Ext.refl _,fun _ _ _ h=>.inl h,fun n b g blk hn en hl=>.inr (f0.2 ⟨n,g,blk,hn,en,hl⟩),fun n g hn=>by simp at hn,Nat.le_refl _,fun _ _ _=>rfl,rfl,rfl,rfl⟩
  exact (h0.sel hnd hlt (fun n g hn=>by simp at hn)).here
 obtain ⟨hent,hmeets⟩:=(hm.m f s hmem).1
 have hcall:=hmeets (az.map fun s=>s.nf.ren (loc σ)) vs (cN (B.ren (loc σ)) (eI E σ)) ro w _ (by simpa using hl) (fun i x v hx hv=>by
  rw [List.getElem?_map] at hx
  cases hi:az[i]? with
  | none=>rw [hi] at hx; cases hx
  | some y=>
   rw [hi] at hx
   simp only [Option.map_some,aH] at hx
   subst hx
   exact S.rel_ren gxl (S.rel_nf (hrel i y v hi hv))) hloc (by rw [iZ,xC]; exact hs) (hm.at hr)
 unfold Oper.wp
 rw [hrun hent,Oper.upon_enter]
 refine hcall.mono ?_
 rintro e w' ⟨r,v,E',ro',rfl,hrv,hR,hrel'⟩
 obtain ⟨q1,q2,q3⟩:=hr.back hnd hlt rfl hrel'
 refine hK _ v _ ro' w' ?_ (S.rel_ren q3 hrv) q2 hrel'.ro0 q1
 rw [yW,iZ]
 rw [eX] at hR
 exact hR
theorem KT:∀ {xs:List O},cP fr (O.sls xs)->∀ x ∈ xs,cP fr x.sl
 | [],_,x,hx=>by simp at hx
 | y :: r,h,x,hx=>by
  simp only [O.sls] at h
  have hsplit:∀ {l1 l2:List Nat},cP fr (l1 ++ l2)->cP fr l1/\cP fr l2:=by
   intro l1
   induction l1 with
   | nil=>intro l2 h; exact ⟨trivial,h⟩
   | cons i r ih=>intro l2 h; exact ⟨⟨h.1,(ih h.2).1⟩,(ih h.2).2⟩
  rcases List.mem_cons.1 hx with rfl | hx
  · exact (hsplit h).1
  · exact KT (hsplit h).2 x hx
theorem K5:∀ {l1 l2:List Nat},cP fr (l1 ++ l2)->cP fr l1/\cP fr l2
 | [],l2,h=>⟨trivial,h⟩
 | i :: r,l2,h=>by obtain ⟨h1,h2⟩:=K5 (l1:=r) h.2; exact ⟨⟨h.1,h1⟩,h2⟩
theorem wW (hf:FRel N γ ro fr a) {xs:List Operand} (hg:cP fr (O.sls (xs.map aJ))):∀ (i:Nat) (x:S) (v:Value),((xs.map aJ).map fun o=>ev (fst fr) o)[i]? = some x->(xs.map a.eval)[i]? = some v->x.rel γ ro v:=by
 intro i x v hx hv
 rw [List.map_map,List.getElem?_map] at hx
 rw [List.getElem?_map] at hv
 cases hi:xs[i]? with
 | none=>rw [hi] at hx; cases hx
 | some y=>
  rw [hi] at hx hv
  simp only [Option.map_some,Function.comp,aH] at hx hv
  subst hx; subst hv
  have hgy:=KT hg (aJ y) (List.mem_map.2 ⟨y,bW hi,rfl⟩)
  rw [aW (dZ hgy)]
  exact aV hf.res y
theorem TN (hf:FRel N (gm E) ro fr a) (hr:Rel X E ro w) (hm:MeetsIn P X Γ) {f:FuncId} {c:Call} (ho:o.op=.call c) (hc:c.callee=.value (.func f)) {σ:List Nat} {R:S->Hp->Prop}
 (hv:vI Γ fr (hp E) R (.cl f (c.args.toList.map aJ) σ)):eU P o a w X E ro R:=by
 obtain ⟨hg,hv⟩:=hv
 refine uX (vs:=c.args.toList.map a.eval) hr hm (by simp) (wW hf hg) (fun hent=>?_) hv
 have he':=nN hent (c.args.map a.eval) w
 have harr:c.args.map a.eval=(c.args.toList.map a.eval).toArray:=by rw [<-Array.toList_map,Array.toArray_toList]
 rw [harr] at he'
 simp [execOp,ho,resolve,hc,Act.eval,Deferred.ofValue,invoke,harr,he']
theorem SG {γ:List Gb} {ro:RO} {x:Bool × List C} {v:Value} (h:yL γ ro x v):(MV x).rel γ ro v:=by
 obtain ⟨b,cs⟩:=x
 cases b with
 | false=>
  match cs,h with
  | [c],h=>exact C.rel_of0 h
 | true=>
  obtain ⟨vs,h1,h2⟩:=h
  exact ⟨vs,h1,h2.imp fun _ _=>C.rel_of0⟩
theorem TU (hf:FRel N (gm E) ro fr a) (hr:Rel X E ro w) (hm:MeetsIn P X Γ) {t:Nat} {c:Call} (ho:o.op=.call c) (hc:c.callee=.value (.tmp t)) {σ:List Nat} {R:S->Hp->Prop}
 (hv:vI Γ fr (hp E) R (.ca (.t t) (c.args.toList.map aJ) σ)):eU P o a w X E ro R:=by
 obtain ⟨hg,hv⟩:=hv
 obtain ⟨hg1,hg2⟩:=K5 hg
 split at hv
 · rename_i f ns hx
   have h1:(C.fn f ns).rel (gm E) ro (a.eval (.tmp t)):=by
    have:=aV hf.res (.tmp t)
    simp only [aJ] at this
    rw [<-aW (fr:=fst fr) (dZ hg1),hx] at this
    exact this
   obtain ⟨bs,h2,h3⟩:=h1
   refine uX (vs:=c.args.toList.map a.eval ++ bs) hr hm (by simp [h3.1]) (fun i x v hxx hvv=>?_) (fun hent=>?_) hv
   · rw [List.getElem?_append] at hxx hvv
     simp only [List.length_map] at hxx hvv
     split at hxx
     · rename_i hlt
       rw [if_pos hlt] at hvv
       exact wW hf hg2 i x v hxx hvv
     · rename_i hlt
       rw [if_neg hlt] at hvv
       rw [List.getElem?_map] at hxx
       cases hn:ns[i - c.args.toList.length]? with
       | none=>rw [hn] at hxx; cases hxx
       | some n=>
        rw [hn] at hxx
        simp only [Option.map_some,aH] at hxx
        subst hxx
        exact SG (h3.2 _ n v hn hvv)
   · have harr:c.args.map a.eval ++ bs.toArray=(c.args.toList.map a.eval ++ bs).toArray:=by
      apply Array.ext'; simp
     have he':=nN hent (c.args.map a.eval ++ bs.toArray) w
     simp only [Act.eval] at h2
     rw [<-harr]
     simp [execOp,ho,resolve,hc,Act.eval,h2,Deferred.ofValue,invoke] at he' ⊢
     exact he'
 · rename_i f fs hx
   have h1:(C.fm f fs).rel (gm E) ro (a.eval (.tmp t)):=by
    have:=aV hf.res (.tmp t)
    simp only [aJ] at this
    rw [<-aW (fr:=fst fr) (dZ hg1),hx] at this
    exact this
   obtain ⟨bs,h2,h3⟩:=h1
   refine uX (vs:=bs ++ c.args.toList.map a.eval) hr hm (by simp [h3.1]) (fun i x v hxx hvv=>?_) (fun hent=>?_) hv
   · rw [List.getElem?_append] at hxx hvv
     simp only [List.length_map,<-h3.1] at hxx hvv
     split at hxx
     · rename_i hlt
       rw [if_pos hlt] at hvv
       rw [List.getElem?_map] at hxx
       cases hn:fs[i]? with
       | none=>rw [hn] at hxx; cases hxx
       | some n=>
        rw [hn] at hxx
        simp only [Option.map_some,aH] at hxx
        subst hxx
        obtain ⟨us,k1,k2⟩:=h3.2 _ n v hn hvv
        exact ⟨us,k1,k2.imp fun _ _=>C.rel_fv⟩
     · rename_i hlt
       rw [if_neg hlt] at hvv
       exact wW hf hg2 _ x v hxx hvv
   · have harr:bs.toArray ++ c.args.map a.eval=(bs ++ c.args.toList.map a.eval).toArray:=by
      apply Array.ext'; simp
     have he':=nN hent (bs.toArray ++ c.args.map a.eval) w
     simp only [Act.eval] at h2
     rw [<-harr]
     simp [execOp,ho,resolve,hc,Act.eval,h2,Deferred.ofValue,invoke] at he' ⊢
     exact he'
 · exact hv.elim
end
section
variable {P:Program} {o:Oper} {N:Nat} {fr:Fr} {a:Act} {E:Es} {ro:RO} {X:Ctx} {w:World} {R:S->Hp->Prop}
theorem Rel.more (h:Rel X E ro w) {b sz:Nat} {vs:List Value} (hz:∀ (off:Nat) (v:Value),vs[off]? = some v->sz ≠ 0) (hst:∀ off v,ro b off=some v->ro.st b=sz) (hb:X.w0.heap.size<=b\/b ∈ X.pb) (hn:∀ (n:Nat) (g:Gb) (blk:B),E[n]? = some (g,blk)->g.ob=some b->blk.live=false)
 (hcell:∀ off v,vs[off]? = some v->w.cell? ⟨b,off,none⟩=some v) (hfr:∀ off,w.frozen? ⟨b,off,none⟩=false) (hro:∀ off v,ro b off=some v->vs[off]? = some v) :
 ∃ ro',Ext ro ro'/\(∀ off v,vs[off]? = some v->ro' b off=some v)/\ro'.st b=sz/\Rel X E ro' w:=by
 let ro':RO:=⟨fun b' off=>if b'=b then vs[off]? else ro b' off,fun b'=>if b'=b then sz else ro.st b'⟩
 have hext:Ext ro ro':=by
  intro b' off c hc
  simp only [ro']
  by_cases e:b'=b
  · subst e; rw [if_pos rfl,if_pos rfl]; exact ⟨hro off c hc,(hst off c hc).symm⟩
  · rw [if_neg e,if_neg e]; exact ⟨hc,rfl⟩
 refine ⟨ro',hext,fun off v hv=>by simp only [ro',if_true]; exact hv,by simp only [ro',if_true],⟨fun n g blk hn'=>?_,h.inj,fun b' off c hc n g blk hn' e=>?_,fun b' off c hc=>?_,h.ro0.trans hext,fun b' off c hc=>?_,h.par,h.gx,h.sz,h.keep,h.os,h.tape,h.output⟩⟩
 · exact (h.own n g blk hn').same (GExt.refl _) hext fun _ _=>rfl
 · simp only [ro'] at hc
   split at hc
   · rename_i e2; subst e2; exact hn n g blk hn' e
   · exact h.apart b' off c hc n g blk hn' e
 · simp only [ro'] at hc
   split at hc
   · rename_i e2; subst e2; exact ⟨hcell off c hc,fun _=>hfr off⟩
   · rename_i e2; have:=h.rd b' off c hc; simp only [ro']; rw [if_neg e2]; exact this
 · simp only [ro'] at hc
   split at hc
   · rename_i e2; subst e2; exact .inr ⟨hb,by simp only [ro',if_true]; exact hz off c hc⟩
   · rename_i e2
     rcases h.rob b' off c hc with q | ⟨q,q'⟩
     · exact .inl q
     · exact .inr ⟨q,by simp only [ro',e2,if_false]; exact q'⟩
theorem Rel.move (h:Rel X E ro w) {w':World} {ob:Option Nat} (hsz:w.heap.size<=w'.heap.size) (h1:w'.os=w.os) (h2:w'.tape=w.tape) (h3:w'.output=w.output)
 (hk:∀ k,k < w.heap.size->some k ≠ ob->w'.heap[k]? = w.heap[k]?) (hl:∀ b,ob=some b->∀ (n:Nat) (g:Gb) (blk:B),E[n]? = some (g,blk)->g.ob=some b->blk.live=false)
 (hrd:∀ b,ob=some b->∀ off v,ro b off=some v->Rd (ro.st b) w' b off v) (hp:∀ b,ob=some b->X.w0.heap.size<=b\/b ∈ X.pb):Rel X E ro w':=by
 refine ⟨fun n g blk hn=>?_,h.inj,h.apart,fun b off c hc=>?_,h.ro0,h.rob,h.par,h.gx,Nat.le_trans h.sz hsz,fun b hb hpb=>?_,h1.trans h.os,h2.trans h.tape,h3.trans h.output⟩
 · by_cases hlv:blk.live=true
   · refine (h.own n g blk hn).same (GExt.refl _) (Ext.refl _) fun k hk'=>hk k ((h.own n g blk hn).lt hlv hk') fun e=>?_
     have:=hl k e.symm n g blk hn hk'
     rw [hlv] at this; cases this
   · cases blk<;>simp [B.live] at hlv; trivial
 · by_cases e:some b=ob
   · exact hrd b e.symm off c hc
   · exact (h.rd b off c hc).same (hk b (h.cell_lt hc) e)
 · rw [hk b (by have:=h.sz; omega) fun e=>by rcases hp b e.symm with h4 | h4; omega; exact hpb h4]
   exact h.keep b hb hpb
theorem aHT {ro ro':RO} {ob:Option Nat} {cap sz:Nat} {xs:List (List C)} {vs:List Value} (hxl:∀ x ∈ xs,x.length=sz) (hsh:∀ c ∈ xs.flatten,c.shut=true) (hrel:All2 (C.fv ro) xs.flatten vs) (hext:Ext ro ro')
 (hcap:xs.length<=cap) (hob:xs ≠ []->ob.isSome=true) (hro:∀ b,ob=some b->∀ off v,vs[off]? = some v->ro' b off=some v) (hst:∀ b,ob=some b->ro'.st b=sz):FzR ro' xs (.slice (bI ob 0) xs.length cap):=by
 have hob2:tT (ob.map fun b=>(b,0)) 0=bI ob 0:=by cases ob<;>simp [tT,bI]
 rw [<-hob2]
 refine .mk xs sz _ _ (fun _=>rfl) cap (fun k=>vs.getD k undef) hxl hcap (fun h=>by have:=hob h; cases hg:ob<;>simp [hg] at this ⊢) (fun k c hk=>?_) (fun k v hk=>?_) (fun k ys hk=>?_) hsh (fun k c hk=>?_)
 · obtain ⟨v,hv,_⟩:=hrel.get hk
   have hs:=hob (fun e=>by subst e; simp at hk)
   cases hgo:ob with
   | none=>rw [hgo] at hs; simp at hs
   | some b=>simp [hv,hro b hgo k v hv]
 · obtain ⟨u,hu,hr⟩:=hrel.get hk
   have hr':u=v:=hr
   simp [hu,hr']
 · obtain ⟨u,hu,hr⟩:=hrel.get hk
   have hr':FzR ro ys u:=hr
   simp only [List.getD_eq_getElem?_getD,hu,Option.getD_some]
   exact hr'.mono hext
 · have hs:=hob (fun e=>by subst e; simp at hk)
   cases hgo:ob with
   | none=>rw [hgo] at hs; simp at hs
   | some b=>exact .inr ⟨by simpa using hst b hgo,by simp⟩
theorem K9 {c:C} (h:c.shut=true):c.nf.shut=true:=by
 unfold C.nf
 split
 · rfl
 · exact h
theorem aGM {ro:RO} {c:C} {v:Value} (hs:c.shut=true) (h:c.fv ro v):c.nf.fv ro v:=
 (C.rel_shut (γ:=[]) (K9 hs)).1 (C.rel_nf ((C.rel_shut hs).2 h))
theorem YC (hf:FRel N (gm E) ro fr a) (hr:Rel X E ro w) {t t2 e:TypeId} {x y:Operand} (ho:o.op=.call { callee:=.builtin .append,args:=#[x,y],argTypes:=#[t,t2] })
 {ys:List (List C)} {sz bytes:Nat} (s:Src P a ro w t t2 o.type e y ys sz bytes)
 (hv:vZ fr (hp E) e sz bytes (aJ x) ys R):eU P o a w X E ro R:=by
 intro next Q hK
 have h1:=aV hf x
 have hshf:∀ c ∈ ys.flatten,c.shut=true:=fun c hc=>by
  obtain ⟨r,h1,h2⟩:=List.mem_flatten.1 hc
  exact (s.hsh r h1 c h2).1
 unfold vZ at hv
 split at hv
 case h_2=>exact hv.elim
 rename_i n len hx
 rw [hx] at h1
 split at hv
 case h_2=>exact hv.elim
 rename_i xs T1 sz1 hH
 obtain ⟨⟨hxl,rfl,rfl,hpos⟩,hb,hR⟩:=hv
 obtain ⟨g,hE⟩:=cM hH
 obtain ⟨hrow,hglen,hxs1,hxsh,hown,hrel,_⟩:=hr.own n _ _ hE
 obtain ⟨g',k1,k2,k3,k4,k5⟩:=h1
 have:g'=g:=by have:=cT hE; rw [k1] at this; exact (bK this)
 subst this
 have h1':=k5 (by omega)
 have hm:ys ≠ []:=List.length_pos_iff.1 hpos
 rw [hxl] at hown
 obtain ⟨ob',cap',w',hrun,hown',hszw,e1,e2,e3,hc,hcap⟩:=s.told hm g'.ob len g'.cap g'.vs hown hb
 unfold Oper.wp
 have hrun2:(execOp a.eval o).run P w=.ok (.value (.slice (bI ob' 0) (len + ys.length) cap')) w':=by
  simp only [execOp,ho,resolve]
  simp [h1',invoke,builtin,hrun]
 rw [hrun2,Oper.upon_value]
 obtain ⟨ro1,hx1,_,_,hout,hst1,hr1⟩:=hr.pubR2 hE
 generalize hE1:cN (B.pub n xs) (E.set n (g',.dead))=E1 at hout hr1
 have hhp:hp E1=cC n xs (hp E):=by rw [<-hE1,iZ,fR]; rfl
 have hgm:gm E1=gm E:=by rw [<-hE1,gM,fC hE]
 have hpar:∀ b,g'.ob=some b->X.w0.heap.size<=b\/b ∈ X.pb:=fun b hb=>hr.par n b g' _ hE hb rfl
 have hcells:∀ b,ob'=some b->∀ off v,(g'.vs ++ s.news)[off]? = some v->w'.cell? ⟨b,off,none⟩=some v:=by
  intro b hb off v hv
  rw [hb] at hown'
  have:=World.ownsRow.cells (h:=hown') (g:=b) rfl off v hv
  rwa [eN,Nat.zero_add] at this
 have hfro:∀ b,ob'=some b->∀ off,w'.frozen? ⟨b,off,none⟩=false:=by
  intro b hb off
  rw [hb] at hown'
  exact World.ownsRow.frozenAt (h:=hown') off
 have hr2:Rel X E1 ro1 w':=by
  refine hr1.move (ob:=g'.ob) hszw e1 e2 e3 (fun k hk hne=>?_) (fun b hb=>(hout b hb).2) (fun b hb off v hv=>?_) hpar
  · rcases hc with ⟨_,h⟩ | ⟨_,h⟩
    · exact h k hne
    · exact h k hk
  · rcases hc with ⟨h,_⟩ | ⟨_,h⟩
    · have h4:=(hout b hb).1 off v hv
      exact ⟨hcells b (h.trans hb) off v (by rw [List.getElem?_append_left (bC.1 h4).1]; exact h4),fun _=>hfro b (h.trans hb) off⟩
    · exact (hr1.rd b off v hv).same (h b (hr1.cell_lt hv))
 cases hob:ob' with
 | none=>
  exfalso
  rw [hob] at hown'
  rcases hown'.2 with ⟨_,h0⟩ | ⟨b,cap0,cur,hv,_⟩
  · omega
  · simp [bI] at hv
 | some b'=>
  obtain ⟨ro2,hx2,hro2,hst2,hr3⟩:=hr2.more (b:=b') (sz:=sz1) (vs:=g'.vs ++ s.news) (fun off v hv h0=>by
   have h1:xs.flatten.length=0:=by rw [lF _ hxs1,h0,Nat.mul_zero]
   rw [hrel.1] at h1
   have h2:s.news.length=0:=s.hl.trans ((congrArg (ys.length * ·) h0).trans (Nat.mul_zero _))
   rw [List.eq_nil_of_length_eq_zero h1,List.eq_nil_of_length_eq_zero h2] at hv
   simp at hv) (fun off v hv=>by
   rcases hc with ⟨h,_⟩ | ⟨h,_⟩
   · exact hst1 b' (by rw [<-h,hob])
   · rw [hob] at h; cases h
     have:=hr1.cell_lt hv; omega) (by
   rcases hc with ⟨h,_⟩ | ⟨h,_⟩
   · exact hpar b' (by rw [<-h,hob])
   · rw [hob] at h; cases h; exact .inl hr.sz) (fun j gj blk hj ej=>by
   rcases hc with ⟨h,_⟩ | ⟨h,_⟩
   · exact (hout b' (by rw [<-h,hob])).2 j gj blk hj ej
   · rw [hob] at h; cases h
     by_cases hl:blk.live=true
     · have:=(hr1.own j gj blk hj).lt hl ej; omega
     · simpa using hl) (hcells b' hob) (hfro b' hob) (fun off v hv=>by
   rcases hc with ⟨h,_⟩ | ⟨h,_⟩
   · have h4:=(hout b' (by rw [<-h,hob])).1 off v hv
     rw [List.getElem?_append_left (bC.1 h4).1]; exact h4
   · rw [hob] at h; cases h
     have:=hr1.cell_lt hv; omega)
  have hnl:(ys.map (List.map C.nf)).length=ys.length:=by rw [List.length_map]
  have hfz:FzR ro2 (xs ++ ys.map (List.map C.nf)) (.slice (bI ob' 0) (xs ++ ys.map (List.map C.nf)).length cap'):=by
   refine aHT (ro:=ro) (sz:=sz1) (vs:=g'.vs ++ s.news) (fun r hr'=>?_) (fun c hc=>?_) ?_ (hx1.trans hx2) ?_ (fun _=>by rw [hob]; rfl) (fun b hb off v hv=>?_) (fun b hb=>?_)
   · rcases List.mem_append.1 hr' with hr' | hr'
     · exact hxs1 r hr'
     · obtain ⟨q,hq,rfl⟩:=List.mem_map.1 hr'
       rw [List.length_map]; exact s.hz q hq
   · rw [List.flatten_append] at hc
     rcases List.mem_append.1 hc with hc | hc
     · exact hxsh c hc
     · rw [<-List.map_flatten] at hc
       obtain ⟨d,hd,rfl⟩:=List.mem_map.1 hc
       exact K9 (hshf d hd)
   · rw [List.flatten_append,<-List.map_flatten]
     exact hrel.app ⟨by rw [List.length_map]; exact s.hrel.1,fun k c v hc hv=>by
      rw [List.getElem?_map] at hc
      cases hd:ys.flatten[k]? with
      | none=>rw [hd] at hc; cases hc
      | some d=>
       rw [hd] at hc
       obtain rfl:=bK hc
       exact aGM (hshf d (bW hd)) (s.hrel.2 k d v hd hv)⟩
   · rw [List.length_append,hxl,hnl]; exact hcap
   · rw [hob] at hb; cases hb; exact hro2 off v hv
   · rw [hob] at hb; cases hb; exact hst2
  rw [<-hob]
  refine hK (.va (.c1 (.fz (xs ++ ys.map (List.map C.nf))))) _ E1 ro2 _ (by rw [hhp]; exact hR) ?_ (by rw [hgm]; exact GExt.refl _) (hx1.trans hx2) hr3
  show FzR ro2 (xs ++ ys.map (List.map C.nf)) (.slice (bI ob' 0) (len + ys.length) cap')
  rw [show len + ys.length=(xs ++ ys.map (List.map C.nf)).length by rw [List.length_append,hxl,hnl]]
  exact hfz
theorem aIX (hf:FRel N (gm E) ro fr a) (hr:Rel X E ro w) {t e:TypeId} {x y:Operand} {i:TypeInfo} {z:Value} (ho:o.op=.call { callee:=.builtin .append,args:=#[x,y],argTypes:=#[t,t] })
 (ht:P.underlying t=some (.slice e)) (hi:P.info? e=some i) (hz:i.zero=some z) (hzs:z.cells.size=i.size) (hsz:0 < i.size) (hby:0 < i.bytes)
 {ys:List (List C)} {T2:TypeId} {m:Nat} (hm:(hp E)[m]? = some (.rowx ys T2 i.size)) (h2:(C.sl m ys.length).rel (gm E) ro (a.eval y)) (hone:∀ c ∈ ys.flatten,c.one)
 (hv:vX fr (hp E) e i.size i.bytes (aJ x) ys R):eU P o a w X E ro R:=by
 intro next Q hK
 have h1:=aV hf x
 unfold vX at hv
 split at hv
 case h_2=>exact hv.elim
 rename_i n len hx
 rw [hx] at h1
 split at hv
 case h_2=>exact hv.elim
 rename_i xs T1 sz1 hH
 obtain ⟨⟨hxl,rfl,rfl,hpos⟩,hb,hR⟩:=hv
 obtain ⟨gy,hEy⟩:=cM hm
 obtain ⟨_,hyl,hys1,howny,hrely,_⟩:=hr.own m _ _ hEy
 obtain ⟨gy',l1,l2,l3,l4,l5⟩:=h2
 have:gy'=gy:=by have:=cT hEy; rw [l1] at this; exact (bK this)
 subst this
 have h2':=l5 (by omega)
 obtain ⟨g,hE⟩:=cM hH
 obtain ⟨hrow,hglen,hxs1,hown,hrel,_⟩:=hr.own n _ _ hE
 obtain ⟨g',k1,k2,k3,k4,k5⟩:=h1
 have:g'=g:=by have:=cT hE; rw [k1] at this; exact (bK this)
 subst this
 have h1':=k5 (by omega)
 rw [hxl] at hown
 cases hob:gy'.ob with
 | none=>
  exfalso
  rcases howny.2 with ⟨_,h0⟩ | ⟨b,cap0,cur,hv,_⟩
  · omega
  · rw [hob] at hv; simp [bI] at hv
 | some by'=>
  rw [hob] at howny h2'
  obtain ⟨ob',cap',w',hrun,hown',hszw,e1,e2,e3,hc,hcap,_⟩:=qJ (w:=w) (P:=P) (ty:=o.type) (c:=gy'.cap) ht hi hz hzs hsz hown howny.1 (fun j u hj=>World.ownsRow.cells (h:=howny) (g:=by') rfl j u hj)
   (fun u hu=>by
     obtain ⟨j,hj⟩:=List.mem_iff_getElem?.1 hu
     obtain ⟨c,hc,hr'⟩:=hrely.get' hj
     exact C.one_rel (hone c (bW hc)) hr') hby hb
  unfold Oper.wp
  have hrun2:(execOp a.eval o).run P w=.ok (.value (.slice (bI ob' 0) (len + ys.length) cap')) w':=by
   simp only [execOp,ho,resolve]
   simp only [bI,Option.map_some] at h2' hrun
   simp [h1',h2',invoke,builtin,bI,hrun]
  rw [hrun2,Oper.upon_value]
  let g2:Gb:=⟨ob',true,len + ys.length,cap',T1,g'.vs ++ gy'.vs⟩
  have hle:g'.le g2:=⟨hrow.symm,.inr ⟨hrow,by show g'.len < len + ys.length; omega⟩⟩
  have hx:=fW (blk':=.rowx (xs ++ ys) T1 i.size) hE hle
  refine hK (.va (.c1 (.sl n (len + ys.length)))) _ (E.set n (g2,.rowx (xs ++ ys) T1 i.size)) ro _ (by rw [fR]; exact hR) ⟨g2,?_,rfl,Nat.le_refl _,⟨_,_,_,rfl⟩,fun _=>rfl⟩ hx (Ext.refl _)
   (hr.swap (g':=g2) (blk':=.rowx (xs ++ ys) T1 i.size) hE rfl hle hszw e1 e2 e3 ⟨rfl,?_,?_,?_,?_,fun _ _=>by show 0 < cap'; omega⟩ hc)
  · simp [gm,(bC.1 hE).1]
  · show len + ys.length=_; rw [List.length_append]; omega
  · intro r hr'
    rcases List.mem_append.1 hr' with hr' | hr'
    · exact hxs1 r hr'
    · exact hys1 r hr'
  · rw [List.length_append,hxl]; exact hown'
  · rw [List.flatten_append]
    exact (hrel.app hrely).imp fun _ _=>C.rel_mono hx (Ext.refl _)
theorem aHR (hf:FRel N (gm E) ro fr a) (hr:Rel X E ro w) {t e:TypeId} {x y:Operand} {i:TypeInfo} {z:Value} (ho:o.op=.call { callee:=.builtin .append,args:=#[x,y],argTypes:=#[t,t] })
 (ht:P.underlying t=some (.slice e)) (hi:P.info? e=some i) (hz:i.zero=some z) (hzs:z.cells.size=i.size) (hsz:0 < i.size) (hby:0 < i.bytes)
 (hv:vE fr (hp E) R (.apz e i.size i.bytes (aJ x) (aJ y))):eU P o a w X E ro R:=by
 have h2:=aV hf y
 simp only [vE] at hv
 split at hv
 · rename_i m k hy
   rw [hy] at h2
   split at hv
   case h_3=>exact hv.elim
   case h_2=>
    rename_i ys T2 sz2 hH
    obtain ⟨⟨rfl,rfl,hone⟩,hv⟩:=hv
    exact aIX hf hr ho ht hi hz hzs hsz hby hH h2 hone hv
   rename_i ys T2 sz2 hH
   obtain ⟨⟨hk,rfl,hsh⟩,hv⟩:=hv
   obtain ⟨g,hE⟩:=cM hH
   obtain ⟨hrow,hglen,hys1,hysh,hown,hrel,_⟩:=hr.own m _ _ hE
   obtain ⟨g',k1,k2,k3,k4,k5⟩:=h2
   have:g'=g:=by have:=cT hE; rw [k1] at this; exact (bK this)
   subst this
   have h2':=k5 (by omega)
   subst hk
   refine YC hf hr ho (Src.slice ht hi hz hzs hsz hby (bI g'.ob 0) g'.cap g'.vs h2' hown.1 hys1 hsh hrel (fun ad had=>?_) (fun hn=>?_)) hv
   · cases hob:g'.ob with
     | none=>rw [hob] at had; simp [bI] at had
     | some b=>
      rw [hob] at had hown
      simp only [bI,Option.map_some,aH] at had
      subst had
      exact World.ownsRow.cells (h:=hown) (g:=b) rfl
   · rcases hown.2 with ⟨hv,h0⟩ | ⟨b,cap0,cur,hv,_⟩
     · exact List.eq_nil_of_length_eq_zero h0
     · rw [hn] at hv; simp at hv
 · exact hv.elim
theorem aD0 {op:Op} {T:TypeId} {sz b:Nat} {x0 y0:O} (hi:tO P op=some (.ap T sz b x0 y0)):∃ (x y:Operand) (t:TypeId) (i:TypeInfo) (z:Value),op=.call { callee:=.builtin .append,args:=#[x,y],argTypes:=#[t,t] }/\P.underlying t=some (.slice T)/\P.info? T=some i/\i.zero=some z/\z.cells.size=i.size/\0 < i.size/\0 < i.bytes/\sz=i.size/\b=i.bytes/\x0=aJ x/\y0=aJ y:=by
 cases op<;>simp only [tO,reduceCtorEq,aH] at hi
 case store t x y=>split at hi<;>simp at hi
 case alloc t=>split at hi<;>simp at hi
 case makeMap t r=>
  split at hi
  · cases hi
  · split at hi<;>simp at hi
 case makeSlice t x y=>
  split at hi<;>try (cases hi; done)
  split at hi<;>try (cases hi; done)
  split at hi<;>try (cases hi; done)
  split at hi<;>simp at hi
 case mapUpdate t m k v=>split at hi<;>simp at hi
 case buildSlice t len parts=>
  split at hi<;>try (cases hi; done)
  split at hi<;>try (cases hi; done)
  split at hi<;>try (cases hi; done)
  split at hi<;>simp at hi
 case call c=>
  obtain ⟨cl,args,ats⟩:=c
  simp only at hi
  split at hi
  · rename_i x y t t' ha hat
    obtain rfl:args=#[x,y]:=by rw [<-Array.toArray_toList (xs:=args),ha]
    obtain rfl:ats=#[t,t']:=by rw [<-Array.toArray_toList (xs:=ats),hat]
    split at hi<;>try (cases hi; done)
    rename_i e ht
    split at hi<;>try (cases hi; done)
    rename_i inf hinf
    split at hi<;>try (cases hi; done)
    rename_i z hz
    split at hi
    · rename_i hc
      simp only [aH,EI.ap.injEq] at hi
      obtain ⟨c1,c2,rfl,c4⟩:=hc
      obtain ⟨rfl,rfl,rfl,rfl,rfl⟩:=hi
      exact ⟨x,y,t,inf,z,rfl,ht,hinf,hz,c1,c2,c4,rfl,rfl,rfl,rfl⟩
    · split at hi<;>try (cases hi; done)
      split at hi<;>simp at hi
  · split at hi<;>try (cases hi; done)
    split at hi<;>try (cases hi; done)
    split at hi<;>simp at hi
  · cases hi
theorem PN (hf:FRel N (gm E) ro fr a) (hr:Rel X E ro w) {i:EI} (hi:tO P o.op=some i) (hv:vE fr (hp E) R i.ext):eU P o a w X E ro R:=by
 by_cases hap:∃ T sz b x y,i=.ap T sz b x y
 · obtain ⟨T,sz,b,x0,y0,rfl⟩:=hap
   obtain ⟨x,y,t,inf,z,ho,ht,hinf,hz,c1,c2,c3,rfl,rfl,rfl,rfl⟩:=aD0 hi
   exact aHR hf hr ho ht hinf hz c1 c2 c3 hv
 · exact OV hf hr hi hv (fun T sz b x y e=>hap ⟨T,sz,b,x,y,e⟩) fun j hj hvj=>LU hf hr hj hvj
end
def C.pv:C->Value
 | .vl v=>v
 | _=>undef
def A.fval:A->Value
 | .c1 c=>c.pv
 | .gs cs=>.agg (cs.map C.pv).toArray
theorem yF {γ:List Gb} {ro:RO} {x:A} (h:x.flat) {v:Value}:x.rel γ ro v ↔ v=x.fval:=by
 cases x with
 | c1 c=>
  cases c with
  | vl u=>exact Iff.rfl
  | _=>exact h.elim
 | gs cs=>
  constructor
  · rintro ⟨vs,rfl,h2⟩
    simp only [A.fval]
    congr 2
    apply List.ext_getElem?
    intro i
    rw [List.getElem?_map]
    cases hi:cs[i]? with
    | none=>
     have:vs[i]? = none:=by rw [List.getElem?_eq_none_iff] at hi ⊢; rw [<-h2.1]; exact hi
     rw [this]; rfl
    | some c=>
     obtain ⟨u,hu,hr⟩:=h2.get hi
     obtain ⟨p,rfl⟩:=h c (bW hi)
     rw [hu]
     exact congrArg some hr
  · rintro rfl
    refine ⟨_,rfl,by simp,fun i c v h1 h2=>?_⟩
    rw [List.getElem?_map,h1] at h2
    obtain ⟨p,rfl⟩:=h c (bW h1)
    simp only [Option.map_some,aH,C.pv] at h2
    exact h2.symm
section
variable {P:Program} {o:Oper} {N:Nat} {fr:Fr} {a:Act} {E:Es} {γ:List Gb} {ro:RO} {X:Ctx} {w:World} {nw:Bool} {Γ:dP} {ops:Array Oper}
noncomputable def H0 (E:Es) (ro:RO):Nat->Nat->Option Value:=fun b off=>
 open Classical in
 if h:∃ v,ro b off=some v\/∃ (n:Nat) (g:Gb) (xs:List (List C)) (T sz:Nat),E[n]? = some (g,.row xs T sz)/\g.ob=some b/\g.vs[off]? = some v then some (Classical.choose h) else none
noncomputable def GF (E:Es) (ro:RO):Nat->Nat:=fun b=>
 open Classical in
 if h:∃ z,∃ (n:Nat) (g:Gb) (xs:List (List C)) (T:TypeId),E[n]? = some (g,.row xs T z)/\g.ob=some b then Classical.choose h else ro.st b
noncomputable def uF (E:Es) (ro:RO):RO:=⟨H0 E ro,GF E ro⟩
theorem HN (h:Rel X E ro w) {n:Nat} {g:Gb} {xs:List (List C)} {T sz:Nat} (hn:E[n]? = some (g,.row xs T sz)) {b:Nat} (hb:g.ob=some b):GF E ro b=sz:=by
 have hex:∃ z,∃ (n:Nat) (g:Gb) (xs:List (List C)) (T:TypeId),E[n]? = some (g,.row xs T z)/\g.ob=some b:=⟨_,n,g,xs,T,hn,hb⟩
 unfold GF
 rw [dif_pos hex]
 obtain ⟨m,g2,ys,T',h1,h2⟩:=Classical.choose_spec hex
 have:=h.inj n m _ _ _ _ b hn h1 hb h2 rfl rfl
 subst this
 rw [hn] at h1
 simp only [aH,Prod.mk.injEq,B.row.injEq] at h1
 exact h1.2.2.2.symm
theorem KX (h:Rel X E ro w) {b off:Nat} {v:Value} (hc:ro b off=some v):GF E ro b=ro.st b:=by
 unfold GF
 rw [dif_neg]
 rintro ⟨z,n,g,xs,T,h1,h2⟩
 have:=h.apart b off v hc n _ _ h1 h2
 simp [B.live] at this
theorem yN (h:Rel X E ro w):Ext ro (uF E ro)/\(∀ (n:Nat) (g:Gb) (xs:List (List C)) (T sz:Nat),E[n]? = some (g,.row xs T sz)->∀ b,g.ob=some b->∀ off v,g.vs[off]? = some v->uF E ro b off=some v)/\
 ∀ b off v,uF E ro b off=some v->Rd ((uF E ro).st b) w b off v:=by
 have key:∀ b off (v v':Value),(ro b off=some v\/∃ (n:Nat) (g:Gb) (xs:List (List C)) (T sz:Nat),E[n]? = some (g,.row xs T sz)/\g.ob=some b/\g.vs[off]? = some v)->
  (ro b off=some v'\/∃ (n:Nat) (g:Gb) (xs:List (List C)) (T sz:Nat),E[n]? = some (g,.row xs T sz)/\g.ob=some b/\g.vs[off]? = some v')->v=v':=by
  intro b off v v' h1 h2
  rcases h1 with h1 | ⟨n,g,xs,T,sz,h1,h1b,h1'⟩<;>rcases h2 with h2 | ⟨m,g2,ys,T',sz',h2,h2b,h2'⟩
  · rw [h1] at h2; exact bK h2
  · have:=h.apart b off v h1 m _ _ h2 h2b; simp [B.live] at this
  · have:=h.apart b off v' h2 n _ _ h1 h1b; simp [B.live] at this
  · have:=h.inj n m _ _ _ _ b h1 h2 h1b h2b rfl rfl
    subst this
    rw [h1] at h2
    simp only [aH,Prod.mk.injEq] at h2
    rw [<-h2.1,h1'] at h2'
    exact bK h2'
 have put:∀ b off v,(ro b off=some v\/∃ (n:Nat) (g:Gb) (xs:List (List C)) (T sz:Nat),E[n]? = some (g,.row xs T sz)/\g.ob=some b/\g.vs[off]? = some v)->uF E ro b off=some v:=by
  intro b off v hc
  show H0 E ro b off=some v
  unfold H0
  rw [dif_pos ⟨v,hc⟩]
  exact congrArg some (key b off _ _ (Classical.choose_spec (p:=fun v=>ro b off=some v\/∃ (n:Nat) (g:Gb) (xs:List (List C)) (T sz:Nat),E[n]? = some (g,.row xs T sz)/\g.ob=some b/\g.vs[off]? = some v) ⟨v,hc⟩) hc)
 refine ⟨fun b off v hc=>⟨put b off v (.inl hc),KX h hc⟩,fun n g xs T sz hn b hb off v hv=>put b off v (.inr ⟨n,g,xs,T,sz,hn,hb,hv⟩),fun b off v hc=>?_⟩
 have hc:H0 E ro b off=some v:=hc
 unfold H0 at hc
 split at hc
 · rename_i hex
   simp only [aH] at hc
   have hs:=Classical.choose_spec hex
   rw [hc] at hs
   rcases hs with hs | ⟨n,g,xs,T,sz,hn,hb,hv⟩
   · have:=h.rd b off v hs
     rw [<-KX h hs] at this
     exact this
   · obtain ⟨_,_,_,_,hown,_,_⟩:=h.own n _ _ hn
     rw [hb] at hown
     have:=World.ownsRow.cells (h:=hown) (g:=b) rfl off v hv
     rw [eN,Nat.zero_add] at this
     exact ⟨this,fun _=>World.ownsRow.frozenAt (h:=hown) off⟩
 · cases hc
theorem C.rel0_bor (h:Rel X E ro w) {c:C} {v:Value} (hc:c.rel0 (gm E) ro v):(c.bor0 (hp E)).rel0 [] (uF E ro) v:=by
 obtain ⟨h1,h2,_⟩:=yN h
 cases c with
 | no=>trivial
 | vl u=>exact hc
 | pt n off=>trivial
 | qt n l sz i j=>trivial
 | dp n l=>trivial
 | sl n l=>
  simp only [C.bor0]
  split
  · rename_i xs T sz hH
    split
    · rename_i hl
      obtain ⟨g,hE⟩:=cM hH
      obtain ⟨_,hgl,_⟩:=h.own n g _ hE
      obtain ⟨g',k1,k2,k3,k4,k5⟩:=hc
      have:g'=g:=by have:=cT hE; rw [k1] at this; exact (bK this)
      subst this
      have:=k5 (by omega)
      subst this
      show FzR _ xs _
      rw [hl]
      exact IP h hE h1 (h2 n g' xs T sz hE) fun b hb=>HN h hE hb
    · trivial
  · trivial
 | fz xs=>exact FzR.mono h1 hc
 | fp r j=>obtain ⟨b,off,k1,k2⟩:=hc; exact ⟨b,off,k1,fun k c hk=>by obtain ⟨u,p,q⟩:=k2 k c hk; exact ⟨u,(h1 _ _ _ p).1,C.fv_mono h1 q⟩⟩
 | mp n=>trivial
 | fn f cs=>exact hc.elim
 | fm f cs=>obtain ⟨vs,k1,k2⟩:=hc; exact ⟨vs,k1,k2.imp fun _ _ ⟨us,q1,q2⟩=>⟨us,q1,q2.imp fun _ _=>C.fv_mono h1⟩⟩
theorem C.rel_bor (h:Rel X E ro w) {c:C} {v:Value} (hc:c.rel (gm E) ro v):(c.bor (hp E)).rel [] (uF E ro) v:=by
 obtain ⟨h1,h2,_⟩:=yN h
 cases c with
 | no=>trivial
 | vl u=>exact hc
 | pt n off=>trivial
 | qt n l sz i j=>trivial
 | dp n l=>trivial
 | sl n l=>
  simp only [C.bor]
  split
  · rename_i xs T sz hH
    split
    · rename_i hl
      obtain ⟨g,hE⟩:=cM hH
      obtain ⟨_,hgl,_⟩:=h.own n g _ hE
      obtain ⟨g',k1,k2,k3,k4,k5⟩:=hc
      have:g'=g:=by have:=cT hE; rw [k1] at this; exact (bK this)
      subst this
      have:=k5 (by omega)
      subst this
      show FzR _ xs _
      rw [hl]
      exact IP h hE h1 (h2 n g' xs T sz hE) fun b hb=>HN h hE hb
    · trivial
  · trivial
 | fz xs=>exact FzR.mono h1 hc
 | fp r j=>obtain ⟨b,off,k1,k2⟩:=hc; exact ⟨b,off,k1,fun k c hk=>by obtain ⟨u,p,q⟩:=k2 k c hk; exact ⟨u,(h1 _ _ _ p).1,C.fv_mono h1 q⟩⟩
 | mp n=>trivial
 | fn f cs=>
  obtain ⟨vs,k1,k2⟩:=hc
  exact ⟨vs,k1,k2.map (f:=fun x=>(x.1,x.2.map (C.bor0 (hp E)))) fun _ _=>yJ fun _ _=>C.rel0_bor h⟩
 | fm f cs=>obtain ⟨vs,k1,k2⟩:=hc; exact ⟨vs,k1,k2.imp fun _ _ ⟨us,q1,q2⟩=>⟨us,q1,q2.imp fun _ _=>C.fv_mono h1⟩⟩
theorem S.rel_bor (h:Rel X E ro w) {s:S} {v:Value} (hs:s.rel (gm E) ro v):(s.bor (hp E)).rel [] (uF E ro) v:=by
 cases s with
 | va a=>
  cases a with
  | c1 c=>exact C.rel_bor h hs
  | gs cs=>obtain ⟨vs,h1,h2⟩:=hs; exact ⟨vs,h1,h2.map (f:=C.bor (hp E)) fun _ _=>C.rel_bor h⟩
 | tu l=>trivial
 | cn g a=>trivial
 | un=>trivial
theorem Rel.grown (h:Rel X E ro w) {w':World} (hk:∀ k,k < w.heap.size->w'.heap[k]? = w.heap[k]?) (hsz:w.heap.size<=w'.heap.size) (h1:w'.os=w.os) (h2:w'.tape=w.tape) (h3:w'.output=w.output):Rel X E ro w':=by
 refine ⟨fun n g blk hn=>?_,h.inj,h.apart,fun b off c hc=>?_,h.ro0,h.rob,h.par,h.gx,Nat.le_trans h.sz hsz,fun b hb hp=>?_,h1.trans h.os,h2.trans h.tape,h3.trans h.output⟩
 · by_cases hl:blk.live=true
   · exact (h.own n g blk hn).same (GExt.refl _) (Ext.refl _) fun k hk'=>hk k ((h.own n g blk hn).lt hl hk')
   · cases blk<;>simp [B.live] at hl; trivial
 · exact (h.rd b off c hc).same (hk b (h.cell_lt hc))
 · rw [hk b (by have:=h.sz; omega)]; exact h.keep b hb hp
theorem Y9 (hf:FRel N (gm E) ro fr a) (hm:MeetsIn P X Γ) {f:FuncId} {c:Call} (ho:o.op=.call c) (hc:c.callee=.value (.func f)) {p:Fun} (hp':mH Γ f=some p) (hg:cP fr (O.sls (c.args.toList.map aJ)))
 (hr:Rel X E ro w) (hpre:p.pre ((c.args.toList.map aJ).map fun o=>((ev (fst fr) o).bor (hp E)).nf)) :
 (execOp a.eval o).run P w=.ok (.enter f (c.args.map a.eval)) w/\Calls P f (c.args.map a.eval) w (fun e w'=>e=.returned (p.val ((c.args.toList.map aJ).map fun o=>((ev (fst fr) o).bor (hp E)).nf)).fval/\Rel X E ro w'):=by
 obtain ⟨s,hmem,hfn⟩:=ID hp'
 obtain ⟨hent,hmeets⟩:=(hm.m f s hmem).2 p hfn
 have hrun:(execOp a.eval o).run P w=.ok (.enter f (c.args.map a.eval)) w:=by
  have he':=nN hent (c.args.map a.eval) w
  simp [execOp,ho,resolve,hc,Act.eval,Deferred.ofValue,invoke,he']
 refine ⟨hrun,?_⟩
 have harr:c.args.map a.eval=(c.args.toList.map a.eval).toArray:=by rw [<-Array.toList_map,Array.toArray_toList]
 rw [harr]
 obtain ⟨hxr,_,hrd⟩:=yN hr
 have hloc:Rel ⟨w,eG [],uF E ro,gm []⟩ [] (uF E ro) w:=⟨fun n g blk hn=>by simp at hn,fun n m gn gm bn bm b hn=>by simp at hn,fun b off v hc n g blk hn=>by simp at hn,hrd,Ext.refl _,fun _ _ _ h=>.inl h,
  fun n b g blk hn=>by simp at hn,GExt.refl _,Nat.le_refl _,fun _ _ _=>rfl,rfl,rfl,rfl⟩
 refine (hmeets _ (c.args.toList.map a.eval) [] (uF E ro) w (fun r _=>r=.va (p.val ((c.args.toList.map aJ).map fun o=>((ev (fst fr) o).bor (hp E)).nf))) (by simp) ?_ hloc ⟨⟨hpre,rfl⟩,rfl⟩ ((hm.at hr).mono hxr)).mono ?_
 · intro i x v hx hv
   rw [List.map_map,List.getElem?_map] at hx
   cases hi:c.args.toList[i]? with
   | none=>rw [hi] at hx; cases hx
   | some z=>
    rw [hi] at hx
    simp only [Option.map_some,Function.comp,aH] at hx
    subst hx
    have:=wW hf hg i (ev (fst fr) (aJ z)) v (by rw [List.map_map,List.getElem?_map,hi]; rfl) hv
    exact S.rel_nf (S.rel_bor hr this)
 · rintro e w' ⟨r,v,E',ro',rfl,hrv,rfl,hrel⟩
   have hv:=(yF (p.flat _ hpre)).1 hrv
   subst hv
   exact ⟨rfl,hr.grown (fun k hk=>hrel.keep k hk (by simp [eG])) hrel.sz hrel.os hrel.tape hrel.output⟩
theorem SE (hf:FRel N (gm E) ro fr a) (hr:Rel X E ro w) (hm:MeetsIn P X Γ) {σ:CH} {i:I} (hi:j1 P nw σ o.op=some i) (hq:(J.mk none none i).quietC=false) {R:S->Hp->Prop}
 (hv:vI Γ fr (hp E) R i):eU P o a w X E ro R:=by
 cases i with
 | q q=>simp [J.quietC] at hq
 | ix x y=>simp [J.quietC] at hq
 | l i=>simp [J.quietC] at hq
 | pick c x y=>simp [J.quietC] at hq
 | cq f xs=>simp [J.quietC] at hq
 | e i=>
  obtain ⟨hg,hv⟩:=hv
  rw [KR (dZ hg)] at hv
  obtain ⟨i0,h0,rfl | rfl⟩:=VM hi
  · exact LU hf.res hr h0 hv
  · exact PN hf.res hr h0 hv
 | cl f xs σ'=>
  obtain ⟨c,ho,hc,rfl⟩:=aAP hi
  exact TN hf hr hm ho hc hv
 | ca x xs σ'=>
  obtain ⟨c,t,ho,hc,rfl,rfl⟩:=aCJ hi
  exact TU hf hr hm ho hc hv
theorem vF (hf:FRel N (gm E) ro fr a) (hm:MeetsIn P X Γ) (hr0:Rel X E ro w) {σ:CH} {j:J} (hj:rG P nw N ops σ o=some j) (hq:j.quietC=true) {K:Fr->Hp->Prop} (hv:vJ Γ fr (hp E) K j) :
 ∃ fr',K fr' (hp E)/\(if Region.wanted o (yielded ops a.tmps)=true then ∃ v,FRel N (gm E) ro fr' (a.put o.dst v)/\∀ w,Rel X E ro w->o.quietAt P a (Rel X E ro) w v else FRel N (gm E) ro fr' (a.put o.dst undef)):=by
 by_cases hq':j.quiet=true
 · have h:=pA hf hr0 hj hq' hv
   split at h
   · rename_i hw
     obtain ⟨fr',hK,v,h1,h2⟩:=h
     refine ⟨fr',hK,?_⟩
     rw [if_pos hw]
     refine ⟨v,h1,fun w hr=>?_⟩
     unfold Oper.quietAt
     rw [h2 w hr]
     exact ⟨rfl,rfl⟩
   · rename_i hw
     obtain ⟨fr',hK,h1⟩:=h
     refine ⟨fr',hK,?_⟩
     rw [if_neg hw]
     exact h1
 · obtain ⟨hi,hg,hd,hN⟩:=m5 hj
   obtain ⟨d,jg,i⟩:=j
   simp only at hi hg hd
   subst hd
   cases i with
   | q q=>exact absurd rfl hq'
   | ix x y=>exact absurd rfl hq'
   | l i=>exact absurd rfl hq'
   | pick c x y=>exact absurd rfl hq'
   | e i=>simp [J.quietC] at hq
   | cl f xs σ=>simp [J.quietC] at hq
   | ca f xs σ=>simp [J.quietC] at hq
   | cq f xs=>
    obtain ⟨c,ho,hc,rfl⟩:=aFC hi
    have key:∀ {g:Prop} {K:A->Prop},AP Γ fr (hp E) f (c.args.toList.map aJ) g K->∃ y,K y/\(g->y.flat/\∀ w,Rel X E ro w->o.quietAt P a (Rel X E ro) w y.fval):=by
     intro g K hv
     unfold AP at hv
     split at hv
     · exact hv.elim
     · rename_i p hp'
       obtain ⟨hg,hK⟩:=hv
       refine ⟨_,hK,fun hgt=>?_⟩
       obtain ⟨hgd,hpre⟩:=hg hgt
       refine ⟨p.flat _ hpre,fun w hr=>?_⟩
       obtain ⟨k1,k2⟩:=Y9 hf hm ho hc hp' hgd hr hpre
       unfold Oper.quietAt
       rw [k1]
       exact ⟨rfl,k2⟩
    unfold vJ at hv
    cases hgd:o.guard with
    | none=>
     rw [hgd] at hg
     simp only [xO,aH] at hg
     subst hg
     simp only [kP] at hv
     obtain ⟨y,hK,hy⟩:=key hv
     refine ⟨_,hK,?_⟩
     rw [if_pos (eF hgd _)]
     exact ⟨y.fval,hf.put hN ((yF (hy trivial).1).2 rfl),(hy trivial).2⟩
    | some gw=>
     obtain ⟨k,want⟩:=gw
     rw [hgd] at hg
     simp only [xO] at hg
     split at hg
     · rename_i sl hsl
       simp only [aH] at hg
       subst hg
       simp only at hv
       split at hv
       · exact hv.elim
       · rename_i g hgv
         have hwant:Region.wanted o (yielded ops a.tmps)=g:=by
          simp only [Region.wanted,hgd]
          exact (CB hf hgv hsl).1
         simp only [jT] at hv
         obtain ⟨y,hK,hy⟩:=key hv
         refine ⟨_,hK,?_⟩
         rw [hwant]
         cases g with
         | true=>rw [if_pos rfl]; exact ⟨y.fval,hf.put hN (s:=.cn true y) ⟨fun _=>(yF (hy rfl).1).2 rfl,fun h=>(by cases h)⟩,(hy rfl).2⟩
         | false=>rw [if_neg (by simp)]; exact hf.put hN (s:=.cn false y) ⟨fun h=>(by cases h),fun _=>rfl⟩
     · cases hg
theorem B4 (hf:FRel N (gm E) ro fr a) (hr:Rel X E ro w) (hm:MeetsIn P X Γ) {σ:CH} {j:J} (hj:rG P nw N ops σ o=some j) {K:Fr->Hp->Prop} (hv:vJ Γ fr (hp E) K j)
 {next:Act->World->Prop} {Q:Exit->Act->World->Prop} (hK:∀ fr' E' ro' a' w',K fr' (hp E')->FRel N (gm E') ro' fr' a'->Rel X E' ro' w'->next a' w') :
 if Region.wanted o (yielded ops a.tmps)=true then o.wp P a w next Q else next (a.put o.dst undef) w:=by
 by_cases hq:j.quietC=true
 · obtain ⟨fr',hK',h⟩:=vF hf hm hr hj hq hv
   split
   · rename_i hw
     simp only [hw,if_true] at h
     obtain ⟨v,hf',hrun⟩:=h
     refine Oper.wp_of_quiet (C:=Rel X E ro) (K:=fun a'=>FRel N (gm E) ro fr' a') hr ?_ ⟨v,hrun,hf'⟩
     exact fun a' w' hr' hf''=>hK _ _ _ _ _ hK' hf'' hr'
   · rename_i hw
     rw [if_neg hw] at h
     exact hK _ _ _ _ _ hK' h hr
 · obtain ⟨hi,hg,hd,hN⟩:=m5 hj
   obtain ⟨d,jg,i⟩:=j
   simp only at hi hg hd
   subst hd
   have hni:(J.mk none none i).quietC=false:=by cases i<;>first | rfl | exact absurd rfl hq
   have key:∀ {fr2:Fr} {R:S->Hp->Prop},FRel N (gm E) ro fr2 a->vI Γ fr2 (hp E) R i->(∀ s H',R s H'->K (W.put fr2 o.dst s) H')->o.wp P a w next Q:=by
    intro fr2 R hf2 hv hR
    exact SE hf2 hr hm hi hni hv next Q fun s v E' ro' w' h1 h2 g1 g2 h3=>hK _ _ _ _ _ (hR _ _ h1) ((hf2.mono g1 g2).put hN h2) h3
   unfold vJ at hv
   cases hgd:o.guard with
   | none=>
    rw [hgd] at hg
    simp only [xO,aH] at hg
    subst hg
    rw [if_pos (eF hgd _)]
    cases i with
    | q q=>exact absurd rfl hq
    | ix x y=>exact absurd rfl hq
    | l i=>exact absurd rfl hq
    | pick c x y=>exact absurd rfl hq
    | cq f xs=>exact absurd rfl hq
    | e i=>exact key hf hv fun _ _ h=>h
    | cl f xs σ=>exact key hf hv fun _ _ h=>h
    | ca f xs σ=>exact key hf hv fun _ _ h=>h
   | some gw=>
    obtain ⟨k,want⟩:=gw
    rw [hgd] at hg
    simp only [xO] at hg
    split at hg
    · rename_i sl hsl
      simp only [aH] at hg
      subst hg
      simp only at hv
      split at hv
      · exact hv.elim
      · rename_i g hgv
        obtain ⟨hwant,hgt,hgf⟩:=CB hf hgv hsl
        have hw:Region.wanted o (yielded ops a.tmps)=g:=by simp only [Region.wanted,hgd]; exact hwant
        rw [hw]
        have h2:(g=true->vI Γ (jF fr sl want) (hp E) (fun s H'=>K (W.put (jF fr sl want) o.dst s) H') i)/\(g=false->K (W.put (pD fr sl want) o.dst dum) (hp E)):=by
         cases i with
         | q q=>exact absurd rfl hq
         | ix x y=>exact absurd rfl hq
         | l i=>exact absurd rfl hq
         | pick c x y=>exact absurd rfl hq
         | cq f xs=>exact absurd rfl hq
         | e i=>exact hv
         | cl f xs σ=>exact hv
         | ca f xs σ=>exact hv
        cases g with
        | true=>rw [if_pos rfl]; exact key (KW hf (hgt rfl)) (h2.1 rfl) fun _ _ h=>h
        | false=>rw [if_neg (by simp)]; exact hK _ _ _ _ _ (h2.2 rfl) ((KD hf (hgf rfl)).put hN LY) hr
    · cases hg
theorem mX {h:Nat->CH} {k:Nat} {o:Oper} {r:List Oper} {js:List J} (hj:kQ P nw N ops h k (o :: r)=some js):∃ j js',js=j :: js'/\rG P nw N ops (h k) o=some j/\kQ P nw N ops h (k + 1) r=some js':=by
 simp only [kQ] at hj
 split at hj
 · rename_i j js' h1 h2; simp only [aH] at hj; exact ⟨j,js',hj.symm,h1,h2⟩
 · cases hj
theorem rO (hm:MeetsIn P X Γ) {h:Nat->CH} {Q:Exit->Act->World->Prop} {K:Fr->Hp->Prop} (hQ:∀ fr E ro a w,K fr (hp E)->FRel N (gm E) ro fr a->Rel X E ro w->Q .normal a w) :
 ∀ (l:List Oper) (k:Nat) (js:List J),kQ P nw N ops h k l=some js->∀ (fr:Fr) (E:Es) (ro:RO) (a:Act) (w:World),FRel N (gm E) ro fr a->Rel X E ro w->vR Γ js fr (hp E) K->wpList P ops Q l a w
 | [],k,js,hj,fr,E,ro,a,w,hf,hr,hv=>by
  simp only [kQ,aH] at hj
  subst hj
  exact hQ _ _ _ _ _ hv hf hr
 | o :: l,k,js,hj,fr,E,ro,a,w,hf,hr,hv=>by
  obtain ⟨j,js',rfl,h1,h2⟩:=mX hj
  have:=B4 (Q:=Q) (next:=wpList P ops Q l) hf hr hm h1 hv fun fr' E' ro' a' w' hK hf' hr'=>rO hm hQ l (k + 1) js' h2 fr' E' ro' a' w' hf' hr' hK
  simp only [wpList]
  split
  · rename_i hw; rw [if_pos hw] at this; exact .inl this
  · rename_i hw; rw [if_neg hw] at this; exact this
theorem sK {h:Nat->CH} {L:Act->Prop} {w:World} {Y:Ctx}:∀ (l:List Oper) (k:Nat) (js rest:List J),kQ P nw N ops h k l=some js->(∀ j ∈ js,j.quiet=true)->∀ (fr:Fr) (E:Es) (ro:RO) (a:Act) (K:Fr->Hp->Prop),FRel N (gm E) ro fr a->Rel Y E ro w->
 vR Γ (js ++ rest) fr (hp E) K->(∀ fr' a',FRel N (gm E) ro fr' a'->vR Γ rest fr' (hp E) K->L a')->wpStill P ops w L l a
 | [],k,js,rest,hj,hq,fr,E,ro,a,K,hf,hr,hv,hL=>by
  simp only [kQ,aH] at hj
  subst hj
  exact hL _ _ hf hv
 | o :: l,k,js,rest,hj,hq,fr,E,ro,a,K,hf,hr,hv,hL=>by
  obtain ⟨j,js',rfl,h1,h2⟩:=mX hj
  simp only [List.cons_append,vR] at hv
  have hs:=pA hf hr h1 (hq j (by simp)) hv
  simp only [wpStill]
  split
  · rename_i hw
    rw [if_pos hw] at hs
    obtain ⟨fr',hK,v,hf',hrun⟩:=hs
    unfold Oper.still
    rw [hrun w hr,Oper.stillUpon_value]
    exact sK l (k + 1) js' rest h2 (fun y hy=>hq y (by simp [hy])) fr' E ro _ K hf' hr hK hL
  · rename_i hw
    rw [if_neg hw] at hs
    obtain ⟨fr',hK,hs⟩:=hs
    exact sK l (k + 1) js' rest h2 (fun y hy=>hq y (by simp [hy])) fr' E ro _ K hs hr hK hL
theorem qU (hm:MeetsIn P X Γ) (w0:World) {h:Nat->CH} {L:Act->Prop}:∀ (l:List Oper) (k:Nat) (js:List J),kQ P nw N ops h k l=some js->(∀ j ∈ js,j.quietC=true)->∀ (fr:Fr) (E:Es) (ro:RO) (a:Act) (K:Fr->Hp->Prop),FRel N (gm E) ro fr a->Rel X E ro w0->
 vR Γ js fr (hp E) K->(∀ fr' a',FRel N (gm E) ro fr' a'->K fr' (hp E)->L a')->wpQuiet P ops (Rel X E ro) L l a
 | [],k,js,hj,hq,fr,E,ro,a,K,hf,hr0,hv,hL=>by
  simp only [kQ,aH] at hj
  subst hj
  exact hL _ _ hf hv
 | o :: l,k,js,hj,hq,fr,E,ro,a,K,hf,hr0,hv,hL=>by
  obtain ⟨j,js',rfl,h1,h2⟩:=mX hj
  obtain ⟨fr',hK,hs⟩:=vF hf hm hr0 h1 (hq j (by simp)) hv
  simp only [wpQuiet]
  split
  · rename_i hw
    simp only [hw,if_true] at hs
    obtain ⟨v,hf',hrun⟩:=hs
    exact ⟨v,hrun,qU hm w0 l (k + 1) js' h2 (fun y hy=>hq y (by simp [hy])) fr' E ro _ K hf' hr0 hK hL⟩
  · rename_i hw
    rw [if_neg hw] at hs
    exact qU hm w0 l (k + 1) js' h2 (fun y hy=>hq y (by simp [hy])) fr' E ro _ K hs hr0 hK hL
end
section
variable {P:Program} {N:Nat} {nw:Bool} {X:Ctx} {Γ:dP} {ops:Array Oper} {o:Oper} {fr:Fr} {a:Act} {E:Es} {ro:RO} {w:World}
theorem S2 (hf:FRel N (gm E) ro fr a) (hr0:Rel X E ro w) {σ:CH} {j:J} (hj:rG P nw N ops σ o=some j) (hpu:uG P o=true) {K:Fr->Hp->Prop} (hv:vJ Γ fr (hp E) K j) :
 ∃ fr' v,K fr' (hp E)/\FRel N (gm E) ro fr' (a.put o.dst v)/\∀ w,(execOp a.eval o).run P w=.ok (.value v) w:=by
 obtain ⟨hi,hg,hd,hN⟩:=m5 hj
 unfold uG at hpu
 rw [Bool.and_eq_true] at hpu
 obtain ⟨hgn,hop⟩:=hpu
 have hgn':o.guard=none:=by simpa using hgn
 rw [hgn'] at hg
 simp only [xO,aH] at hg
 have run:j.quiet=true->∃ fr',K fr' (hp E)/\∃ v,FRel N (gm E) ro fr' (a.put o.dst v)/\∀ w,Rel X E ro w->(execOp a.eval o).run P w=.ok (.value v) w:=fun hq=>by
  have h:=pA hf hr0 hj hq hv
  rwa [if_pos (eF hgn' _)] at h
 have bin:∀ (op:BinOp) (t:TypeId) (x y:Operand) (t':TypeId) (k0:IntKind),o.op=.binOp op t x y t'->P.underlying t=some (.int k0)->(op=.add\/op=.sub)->
  ∃ fr' v,K fr' (hp E)/\FRel N (gm E) ro fr' (a.put o.dst v)/\∀ w,(execOp a.eval o).run P w=.ok (.value v) w:=fun op t x y t' k0 ho ht hops=>by
  have hji:j.i=.q (.bin op nw (aJ x) (aJ y)):=by
   rw [ho] at hi
   simpa [j1,HK,ht] using hi.symm
  obtain ⟨fr',hK,v,hf',hrun⟩:=run (by unfold J.quiet; rw [hji])
  refine ⟨fr',v,hK,hf',?_⟩
  unfold vJ at hv
  rw [<-hg] at hv
  simp only [hji,kP,qv] at hv
  have hw:=hrun w hr0
  have step:∀ (f:∀ (w:World),∃ v',(∀ w,(execOp a.eval o).run P w=.ok (.value v') w)),∀ w,(execOp a.eval o).run P w=.ok (.value v) w:=fun f=>by
   obtain ⟨v',h'⟩:=f w
   rw [h' w] at hw
   simp only [Result.ok.injEq,Next.value.injEq,and_true] at hw
   subst hw
   exact h'
  split at hv
  case h_2=>exact hv.elim
  rename_i s hs
  obtain ⟨hgd,hc,_⟩:=hv
  have e1:ev (fst fr) (aJ x)=ev (res fr) (aJ x):=aW fun i hi=>dZ hgd i (by simp [QI.sl,hi])
  have e2:ev (fst fr) (aJ y)=ev (res fr) (aJ y):=aW fun i hi=>dZ hgd i (by simp [QI.sl,hi])
  simp only [qc] at hc
  rw [e1,e2] at hs hc
  have r1:=aV hf.res x; have r2:=aV hf.res y
  split at hs
  · rename_i k m k' n hx hy
    rw [hx] at r1; rw [hy] at r2
    rw [hx,hy] at hc
    have r1':a.eval x=.int k m:=r1
    have r2':a.eval y=.int k' n:=r2
    obtain ⟨v',_,hr⟩:=HH (P:=P) (t:=t) hs hc
    exact step fun _=>⟨v',fun w=>by simp only [execOp,ho,r1',r2']; simp [hr,eqGuard]⟩
  · rename_i m n hx hy
    rw [hx] at r1; rw [hy] at r2
    rw [hx,hy] at hc
    have r1':a.eval x=.string m:=r1
    have r2':a.eval y=.string n:=r2
    obtain ⟨v',_,hr⟩:=HJ (P:=P) (t:=t) hs hc
    exact step fun _=>⟨v',fun w=>by simp only [execOp,ho,r1',r2']; simp [hr,eqGuard]⟩
  · cases hs
 split at hop
 · rename_i x ho
   have hji:j.i=.q (.mv (aJ x)):=by rw [ho] at hi; simpa [j1,HK] using hi.symm
   obtain ⟨fr',hK,v,hf',hrun⟩:=run (by unfold J.quiet; rw [hji])
   have hw:=hrun w hr0
   simp [execOp,ho] at hw
   subst hw
   exact ⟨fr',_,hK,hf',fun w=>by simp [execOp,ho]⟩
 · rename_i x ho
   have hji:j.i=.q (.mv (aJ x)):=by rw [ho] at hi; simpa [j1,HK] using hi.symm
   obtain ⟨fr',hK,v,hf',hrun⟩:=run (by unfold J.quiet; rw [hji])
   have hw:=hrun w hr0
   simp [execOp,ho] at hw
   subst hw
   exact ⟨fr',_,hK,hf',fun w=>by simp [execOp,ho]⟩
 · rename_i t x y t' ho
   split at hop
   · rename_i k0 ht; exact bin .add t x y t' k0 ho ht (.inl rfl)
   · cases hop
 · rename_i t x y t' ho
   split at hop
   · rename_i k0 ht; exact bin .sub t x y t' k0 ho ht (.inr rfl)
   · cases hop
 · cases hop
theorem wB {n:Nat} {ls:List Nat} {l:Array Bool} (hs:tJ ops n ls=true) (hc:Region.chainB .any ops n=true) (hn:n < ops.size) (inv:HeadInv .any ops n l) (hls:∀ i ∈ ls,l.getD i false=true) :
 ∀ (d i:Nat),n - i<=d->i < n->l.getD i true=false->∀ t,n<=t->t ∉ Region.ready .any ops l:=by
 intro d
 induction d with
 | zero=>intro i h1 h2; omega
 | succ d ih=>
  intro i hd hi hun t ht hr
  have hni:l.getD i false=false:=getD_both hun
  have hil:ls.contains i=false:=by
   cases hq:ls.contains i with
   | false=>rfl
   | true=>have:=hls i (by simpa using hq); rw [hni] at this; cases this
  obtain ⟨_,ot,hot,hall⟩:=mem_ready.1 hr
  have htlt:t < ops.size:=(Array.getElem?_eq_some_iff.1 hot).1
  rcases bL n t with hnt | hnt
  · have h1:=List.all_eq_true.1 hc t (List.mem_range.2 htlt)
    simp only [Bool.or_eq_true,decide_eq_true_eq] at h1
    have h2:Region.waitsFor .any ops t (t - 1)=true:=by
     rcases h1 with h | h
     · omega
     · exact h
    obtain ⟨o',ho',e,he,hb,hon⟩:=Region.waitsFor_spec h2
    cases hot.symm.trans ho'
    have:=hall e he hb
    rw [hon,getD_both (inv.tail (t - 1) (by omega) (by omega))] at this
    cases this
  · obtain rfl:t=n:=by omega
    have h1:=List.all_eq_true.1 hs i (List.mem_range.2 hi)
    rw [hil,Bool.false_or] at h1
    obtain ⟨j,hj,hj2⟩:=List.any_eq_true.1 h1
    simp only [Bool.and_eq_true,decide_eq_true_eq] at hj2
    obtain ⟨⟨hij,hjl⟩,hw⟩:=hj2
    obtain ⟨oj,hoj,e,he,hb,hon⟩:=Region.waitsFor_spec hw
    have hjle:j<=t:=by have:=List.mem_range.1 hj; omega
    rcases bL j t with hjt | hjt
    · cases hlj:l.getD j false with
      | true=>have:=inv.closed j oj hoj hlj e he hb; rw [hon,hni] at this; cases this
      | false=>exact ih j (by omega) hjt (getD_in (by rw [inv.size]; omega) hlj) t (Nat.le_refl _) hr
    · obtain rfl:j=t:=by omega
      cases hoj.symm.trans hot
      have:=hall e he hb
      rw [hon,hni] at this; cases this
def rP (P:Program) (ops:Array Oper) (C:World->Prop) (n:Nat) (L:Array Bool->Act->Prop):Nat->Array Bool->Act->Prop
 | 0,l,a=>L l a
 | f + 1,l,a=>Region.ready .any ops l ≠ []/\∀ i ∈ Region.ready .any ops l,i < n/\qOp P ops C i (rP P ops C n L f (l.setIfInBounds i true)) a
theorem xX {n g:Nat} {C:World->Prop} {L:Array Bool->Act->Prop} {Q':Exit->Act->World->Prop} (hL:∀ l a w,C w->L l a->wpAny P .any ops Q' g l a w) :
 ∀ (f:Nat) (l:Array Bool) (a:Act) (w:World),C w->rP P ops C n L f l a->wpAny P .any ops Q' (f + g) l a w
 | 0,l,a,w,hw,h=>by rw [Nat.zero_add]; exact hL _ _ _ hw h
 | f + 1,l,a,w,hw,h=>by
  rw [show f + 1 + g=(f + g) + 1 by omega]
  exact ⟨fun h0=>absurd h0 h.1,fun i hi=>wpOp_of_qOp hw (fun a' w' hw' h'=>xX hL f _ a' w' hw' h') (h.2 i hi).2⟩
theorem OG {n i:Nat} {ls:List Nat} {oi:Oper} {v:Value} {C:World->Prop} {L:Array Bool->Act->Prop} (hi:ops[i]? = some oi) (hsel:∀ (j:Nat) (o:Oper) cs b,ops[j]? = some o->o.op ≠ .select cs b)
 (hs:tJ ops n ls=true) (hc:Region.chainB .any ops n=true) (hn:n < ops.size) (hin:i < n) (hL:∀ l a,L l a->∀ j ∈ Region.ready .any ops l,n<=j) :
 ∀ (f:Nat) (l:Array Bool) (a:Act),HeadInv .any ops n l->(∀ k ∈ ls,l.getD k false=true)->
  (∀ j oj,ops[j]? = some oj->j ≠ i->l.getD j true=false->(∀ e ∈ oj.after,Region.binds .any e=true->e.on ≠ i)->oi.apart ops oj=true)->
  i ∈ Region.ready .any ops l->YieldsIn P ops C oi v a->rP P ops C n L f (l.setIfInBounds i true) (a.put oi.dst v)->rP P ops C n L (f + 1) l a:=by
 intro f
 induction f with
 | zero=>
  intro l a inv hls _ hr hy H
  have hun:=(mem_ready.1 hr).1
  refine ⟨fun h=>(by rw [h] at hr; cases hr),fun j hj=>?_⟩
  have hjn:j < n:=Nat.lt_of_not_le fun h=>wB hs hc hn inv hls _ i (Nat.le_refl _) hin hun j h hj
  by_cases hji:j=i
  · subst hji; exact ⟨hjn,hy.qOp hi H⟩
  · have:=hL _ _ H j (ready_mono hj hji); omega
 | succ f ih=>
  intro l a inv hls hfree hr hy H
  have hun:=(mem_ready.1 hr).1
  refine ⟨fun h=>(by rw [h] at hr; cases hr),fun j hj=>?_⟩
  have hjn:j < n:=Nat.lt_of_not_le fun h=>wB hs hc hn inv hls _ i (Nat.le_refl _) hin hun j h hj
  by_cases hji:j=i
  · subst hji; exact ⟨hjn,hy.qOp hi H⟩
  · obtain ⟨hjun,oj,hoj,hall⟩:=mem_ready.1 hj
    have hno:∀ e ∈ oj.after,Region.binds .any e=true->e.on ≠ i:=fun e he hb heq=>by
     have:=hall e he hb
     rw [heq,getD_both hun] at this; cases this
    have hnext:=qOp_put hoj (hfree j oj hoj hji hjun hno) (fun cs b=>hsel i oi cs b hi) (fun cs b=>hsel j oj cs b hoj) hy (H.2 j (ready_mono hj hji)).2
    refine ⟨hjn,qOp_mono (fun a' h3=>ih (l.setIfInBounds j true) a' (inv.set hj hjn) (fun k hk=>getD_set_true (hls k hk)) (fun k ok hk hki hku hkn=>hfree k ok hk hki ?_ hkn) (ready_mono hr (Ne.symm hji)) h3.1 ?_) hnext⟩
    · by_cases hjk:j=k
      · subst hjk; exact hjun
      · rwa [getD_set_ne true hjk] at hku
    · rw [Array.setIfInBounds_comm _ _ hji]; exact h3.2
theorem I6 {n:Nat} {ls:List Nat} {C:World->Prop} {Lq:Act->Prop} (hsel:Region.noSelect ops=true) (hs:tJ ops n ls=true) (hc:Region.chainB .any ops n=true) (hn:n < ops.size) :
 ∀ (is:List Nat) (l:Array Bool) (a:Act),HeadInv .any ops n l->(∀ k ∈ ls,l.getD k false=true)->x9 ops n is l=true->wpQuiet P ops C Lq (fV ops.toList is) a->
  rP P ops C n (fun l' a'=>Region.seqB .any ops (ops.size - n) n l'=true/\Lq a') is.length l a
 | [],l,a,_,_,hB,h=>⟨hB,h⟩
 | k :: is,l,a,inv,hls,hB,h=>by
  simp only [x9,Bool.and_eq_true,decide_eq_true_eq] at hB
  obtain ⟨⟨⟨hkn,hr⟩,hfr⟩,hB'⟩:=hB
  have hr':k ∈ Region.ready .any ops l:=by simpa using hr
  have h0:ops[k]? = some ops[k]:=Array.getElem?_eq_getElem (by omega)
  have hpk:fV ops.toList (k :: is)=ops[k] :: fV ops.toList is:=by
   unfold fV
   rw [List.filterMap_cons]
   simp [show k < ops.size by omega]
  rw [hpk] at h
  have hst:qOp P ops C k (wpQuiet P ops C Lq (fV ops.toList is)) a:=by unfold qOp; simp only [h0]; exact h
  obtain ⟨v,hy,hK⟩:=yieldsIn_of_qOp h0 hst
  exact OG h0 (Region.noSelect_spec hsel) hs hc hn hkn (fun l' a' hL=>seqB_ready hL.1) is.length l a inv hls (Region.free_spec h0 hfr) hr' hy
   (I6 hsel hs hc hn is _ _ (inv.set hr' hkn) (fun k hk=>getD_set_true (hls k hk)) hB' hK)
def OC (P:Program) (nw:Bool) (N:Nat) (ops:Array Oper) (is:List Nat) (js:List J):Prop:=All2 (fun i j=>∃ o σ,ops[i]? = some o/\rG P nw N ops σ o=some j) is js
theorem qZ (hm:MeetsIn P X Γ) {L:Act->Prop} {w0:World}:∀ (is:List Nat) (js rest:List J),OC P nw N ops is js->(∀ j ∈ js,j.quietC=true)->∀ (fr:Fr) (a:Act) (K:Fr->Hp->Prop),FRel N (gm E) ro fr a->Rel X E ro w0->
 vR Γ (js ++ rest) fr (hp E) K->(∀ fr' a',FRel N (gm E) ro fr' a'->vR Γ rest fr' (hp E) K->L a')->wpQuiet P ops (Rel X E ro) L (fV ops.toList is) a
 | [],js,rest,ht,_,fr,a,K,hf,hr,hv,hL=>by
  obtain rfl:=All2.nil_inv ht
  exact hL _ _ hf hv
 | i :: is,js,rest,ht,hq,fr,a,K,hf,hr,hv,hL=>by
  obtain ⟨j,js',rfl,⟨o,σ,ho,h1⟩,h2⟩:=All2.cons_inv ht
  have hpk:fV ops.toList (i :: is)=o :: fV ops.toList is:=by
   unfold fV
   rw [List.filterMap_cons]
   simp [ho]
  rw [hpk]
  simp only [List.cons_append,vR] at hv
  obtain ⟨fr',hK,hs⟩:=vF hf hm hr h1 (hq j (by simp)) hv
  simp only [wpQuiet]
  split
  · rename_i hw
    simp only [hw,if_true] at hs
    obtain ⟨v,hf',hrun⟩:=hs
    exact ⟨v,hrun,qZ hm is js' rest h2 (fun y hy=>hq y (by simp [hy])) fr' _ K hf' hr hK hL⟩
  · rename_i hw
    rw [if_neg hw] at hs
    exact qZ hm is js' rest h2 (fun y hy=>hq y (by simp [hy])) fr' _ K hs hr hK hL
theorem xL {Q':Exit->Act->World->Prop} (hnp:∀ c a w,¬ Q' (.panic c) a w) (hsel:Region.noSelect ops=true) {Y:Ctx} {f:Nat}:∀ (is:List Nat) (js rest:List J) (l:Array Bool),OC P nw N ops is js->(∀ i ∈ is,∀ o,ops[i]? = some o->uG P o=true)->
 w5 ops is l=true->∀ (fr:Fr) (a:Act) (K:Fr->Hp->Prop),FRel N (gm E) ro fr a->Rel Y E ro w->vR Γ (js ++ rest) fr (hp E) K->
 (∀ fr' a',FRel N (gm E) ro fr' a'->vR Γ rest fr' (hp E) K->wpAny P .any ops Q' f (AF is l) a' w)->wpAny P .any ops Q' (is.length + f) l a w
 | [],js,rest,l,ht,_,_,fr,a,K,hf,hr,hv,hL=>by
  obtain rfl:=All2.nil_inv ht
  rw [List.length_nil,Nat.zero_add]
  exact hL _ _ hf hv
 | i :: is,js,rest,l,ht,hpu,hB,fr,a,K,hf,hr,hv,hL=>by
  obtain ⟨j,js',rfl,⟨o,σ,ho,h1⟩,h2⟩:=All2.cons_inv ht
  simp only [w5,Bool.and_eq_true] at hB
  obtain ⟨⟨hrd,hfr⟩,hB'⟩:=hB
  simp only [List.cons_append,vR] at hv
  obtain ⟨fr',v,hK,hf',hrun⟩:=S2 hf hr h1 (hpu i (by simp) o ho) hv
  have hgn:o.guard=none:=by
   have:=hpu i (by simp) o ho
   unfold uG at this
   rw [Bool.and_eq_true] at this
   simpa using this.1
  rw [List.length_cons,show is.length + 1 + f=(is.length + f) + 1 by omega]
  exact wpAny_take ho hsel hfr hrd (fun c a w h=>absurd h (hnp _ _ _)) (.inl ⟨eF hgn _,hrun⟩)
   (xL hnp hsel is js' rest _ h2 (fun k hk=>hpu k (by simp [hk])) hB' fr' _ K hf' hr hK hL)
end
section
variable {P:Program} {ops:Array Oper} {C:World->Prop}
def sOp (P:Program) (ops:Array Oper) (C:World->Prop) (i:Nat) (K:Act->Prop) (a:Act):Prop:=
 match ops[i]? with
 | none=>K a
 | some o=>if Region.wanted o (yielded ops a.tmps) then ∃ v,(∀ w,C w->(execOp a.eval o).run P w=.ok (.value v) w)/\K (a.put o.dst v) else K (a.put o.dst undef)
def SYields (P:Program) (ops:Array Oper) (C:World->Prop) (o:Oper) (v:Value) (a:Act):Prop:=
 (Region.wanted o (yielded ops a.tmps)=true/\∀ w,C w->(execOp a.eval o).run P w=.ok (.value v) w)\/
 (Region.wanted o (yielded ops a.tmps)=false/\v=undef)
theorem SYields.sOp {i:Nat} {o:Oper} {v:Value} {a:Act} (hi:ops[i]? = some o) (hy:SYields P ops C o v a) {K:Act->Prop} (h:K (a.put o.dst v)):sOp P ops C i K a:=by
 unfold W.sOp
 simp only [hi]
 rcases hy with ⟨hw,hv⟩ | ⟨hw,rfl⟩
 · simp only [hw,if_true]; exact ⟨v,hv,h⟩
 · simp only [hw,Bool.false_eq_true,if_false]; exact h
theorem A4 {i:Nat} {o:Oper} {a:Act} {K:Act->Prop} (hi:ops[i]? = some o) (h:sOp P ops C i K a):∃ v,SYields P ops C o v a/\K (a.put o.dst v):=by
 unfold sOp at h
 simp only [hi] at h
 by_cases hw:Region.wanted o (yielded ops a.tmps)=true
 · simp only [hw,if_true] at h
   obtain ⟨v,h1,h2⟩:=h
   exact ⟨v,.inl ⟨hw,h1⟩,h2⟩
 · simp only [hw] at h
   exact ⟨undef,.inr ⟨by simpa using hw,rfl⟩,h⟩
theorem SYields.of_same {o:Oper} {v:Value} {a a':Act} (hy:SYields P ops C o v a) (he:execOp a'.eval o=execOp a.eval o)
 (hw:Region.wanted o (yielded ops a'.tmps)=Region.wanted o (yielded ops a.tmps)):SYields P ops C o v a':=by
 unfold SYields at *
 rw [he,hw]
 exact hy
theorem TL {i:Nat} {a:Act} {K K':Act->Prop} (h:∀ a,K a->K' a) (hh:sOp P ops C i K a):sOp P ops C i K' a:=by
 unfold sOp at *
 split
 · exact h _ (by simpa [*] using hh)
 · rename_i o ho
   simp only [ho] at hh
   split
   · rename_i hw; simp only [hw,if_true] at hh; obtain ⟨v,h1,h2⟩:=hh; exact ⟨v,h1,h _ h2⟩
   · rename_i hw; simp only [hw] at hh; exact h _ hh
theorem xV {i:Nat} {a:Act} {K:Act->Prop} {K':Act->World->Prop} {Q':Exit->Act->World->Prop} {w:World} (hC:C w) (h:∀ a,K a->K' a w) (hh:sOp P ops C i K a):wpOp P ops Q' i K' a w:=by
 unfold sOp at hh
 unfold wpOp
 split
 · rename_i ho; simp only [ho] at hh; exact h _ hh
 · rename_i o ho
   simp only [ho] at hh
   split
   · rename_i hw
     simp only [hw,if_true] at hh
     obtain ⟨v,h1,h2⟩:=hh
     refine .inl ?_
     unfold Oper.wp
     rw [h1 w hC]
     exact h _ h2
   · rename_i hw; simp only [hw] at hh; exact h _ hh
theorem XX {j:Nat} {oi oj:Oper} {v:Value} (hj:ops[j]? = some oj) (hap:oi.apart ops oj=true)
 (hsi:∀ cs b,oi.op ≠ .select cs b) (hsj:∀ cs b,oj.op ≠ .select cs b) {K:Act->Prop} {a:Act}
 (hy:SYields P ops C oi v a) (h:sOp P ops C j K (a.put oi.dst v)) :
 sOp P ops C j (fun a'=>SYields P ops C oi v a'/\K (a'.put oi.dst v)) a:=by
 obtain ⟨h1,h2,h3⟩:=Oper.apart_spec hap
 have keep:∀ (a:Act),SYields P ops C oi v a->∀ u,SYields P ops C oi v (a.put oj.dst u):=fun a hy u=>
  hy.of_same (execOp_put oi hsi a oj.dst u h3) (wanted_put oi a oj.dst u h3)
 unfold sOp at *
 simp only [hj] at *
 rw [wanted_put oj a oi.dst v h1] at h
 split
 · rename_i hw
   simp only [hw,if_true] at h
   obtain ⟨u,hu,hn⟩:=h
   refine ⟨u,fun w hw'=>?_,keep a hy u,by rw [<-Act.put_comm a v u h2]; exact hn⟩
   have:=hu w hw'
   rwa [execOp_put oj hsj a oi.dst v h1] at this
 · rename_i hw
   simp only [hw] at h
   exact ⟨keep a hy _,by rw [<-Act.put_comm a v undef h2]; exact h⟩
theorem SM {j:Nat} {oi oj:Oper} {v:Value} (hj:ops[j]? = some oj) (hap:oi.apart ops oj=true) (hsj:∀ cs b,oj.op ≠ .select cs b) {K:Act->Prop} {a:Act}
 (h:sOp P ops C j K a):sOp P ops C j (fun a'=>∃ a0,a'=a0.put oi.dst v/\K a0/\∃ u,a0=a.put oj.dst u) (a.put oi.dst v):=by
 obtain ⟨h1,h2,h3⟩:=Oper.apart_spec hap
 unfold sOp at *
 simp only [hj] at *
 rw [wanted_put oj a oi.dst v h1]
 split
 · rename_i hw
   simp only [hw,if_true] at h
   obtain ⟨u,hu,hn⟩:=h
   refine ⟨u,fun w hw'=>?_,_,Act.put_comm a v u h2,hn,u,rfl⟩
   rw [execOp_put oj hsj a oi.dst v h1]
   exact hu w hw'
 · rename_i hw
   simp only [hw] at h
   exact ⟨_,Act.put_comm a v undef h2,h,undef,rfl⟩
def qF (P:Program) (ops:Array Oper) (C:World->Prop) (n:Nat) (L:Array Bool->Act->Prop):Nat->Array Bool->Act->Prop
 | 0,l,a=>L l a
 | f + 1,l,a=>(∃ i ∈ Region.ready .any ops l,i < n)/\∀ i ∈ Region.ready .any ops l,i < n->sOp P ops C i (qF P ops C n L f (l.setIfInBounds i true)) a
theorem J4 {n i:Nat} {oi:Oper} {v:Value} {L:Array Bool->Act->Prop} (hi:ops[i]? = some oi) (hsel:∀ (j:Nat) (o:Oper) cs b,ops[j]? = some o->o.op ≠ .select cs b)
 (hin:i < n) (hL:∀ l a,L l a->∀ j ∈ Region.ready .any ops l,n<=j) :
 ∀ (f:Nat) (l:Array Bool) (a:Act),
  (∀ j oj,ops[j]? = some oj->j ≠ i->l.getD j true=false->(∀ e ∈ oj.after,Region.binds .any e=true->e.on ≠ i)->oi.apart ops oj=true)->
  i ∈ Region.ready .any ops l->SYields P ops C oi v a->qF P ops C n L f (l.setIfInBounds i true) (a.put oi.dst v)->qF P ops C n L (f + 1) l a:=by
 intro f
 induction f with
 | zero=>
  intro l a _ hr hy H
  refine ⟨⟨i,hr,hin⟩,fun j hj hjn=>?_⟩
  by_cases hji:j=i
  · subst hji; exact hy.sOp hi H
  · have:=hL _ _ H j (ready_mono hj hji); omega
 | succ f ih=>
  intro l a hfree hr hy H
  have hun:=(mem_ready.1 hr).1
  refine ⟨⟨i,hr,hin⟩,fun j hj hjn=>?_⟩
  by_cases hji:j=i
  · subst hji; exact hy.sOp hi H
  · obtain ⟨hjun,oj,hoj,hall⟩:=mem_ready.1 hj
    have hno:∀ e ∈ oj.after,Region.binds .any e=true->e.on ≠ i:=fun e he hb heq=>by
     have:=hall e he hb
     rw [heq,getD_both hun] at this; cases this
    have hnext:=XX hoj (hfree j oj hoj hji hjun hno) (fun cs b=>hsel i oi cs b hi) (fun cs b=>hsel j oj cs b hoj) hy (H.2 j (ready_mono hj hji) hjn)
    refine TL (fun a' h3=>ih (l.setIfInBounds j true) a' (fun k ok hk hki hku hkn=>hfree k ok hk hki ?_ hkn) (ready_mono hr (Ne.symm hji)) h3.1 ?_) hnext
    · by_cases hjk:j=k
      · subst hjk; exact hjun
      · rwa [getD_set_ne true hjk] at hku
    · rw [Array.setIfInBounds_comm _ _ hji]; exact h3.2
def U5 (P:Program) (ops:Array Oper) (C:World->Prop) (L:Act->Prop):List Nat->Act->Prop
 | [],a=>L a
 | i :: is,a=>sOp P ops C i (U5 P ops C L is) a
theorem EP {n:Nat} {Lq:Act->Prop} (hsel:Region.noSelect ops=true) (hn:n < ops.size) :
 ∀ (is:List Nat) (l:Array Bool) (a:Act),x9 ops n is l=true->U5 P ops C Lq is a->
  qF P ops C n (fun l' a'=>Region.seqB .any ops (ops.size - n) n l'=true/\Lq a') is.length l a
 | [],l,a,hB,h=>⟨hB,h⟩
 | k :: is,l,a,hB,h=>by
  simp only [x9,Bool.and_eq_true,decide_eq_true_eq] at hB
  obtain ⟨⟨⟨hkn,hr⟩,hfr⟩,hB'⟩:=hB
  have hr':k ∈ Region.ready .any ops l:=by simpa using hr
  have h0:ops[k]? = some ops[k]:=Array.getElem?_eq_getElem (by omega)
  obtain ⟨v,hy,hK⟩:=A4 h0 h
  exact J4 h0 (Region.noSelect_spec hsel) hkn (fun l' a' hL=>seqB_ready hL.1) is.length l a (Region.free_spec h0 hfr) hr' hy
   (EP hsel hn is _ _ hB' hK)
theorem DU {n:Nat} {on:Oper} {L:Array Bool->Act->Prop} (hsel:∀ (j:Nat) (o:Oper) cs b,ops[j]? = some o->o.op ≠ .select cs b) (hon:ops[n]? = some on)
 (hap:∀ j oj,ops[j]? = some oj->j < n->(∀ e ∈ on.after,Region.binds .any e=true->e.on ≠ j)->on.apart ops oj=true) :
 ∀ (f:Nat) (l:Array Bool) (a:Act),n ∈ Region.ready .any ops l->qF P ops C n L f l a->∃ l' a',L l' a'/\execOp a'.eval on=execOp a.eval on
 | 0,l,a,_,h=>⟨l,a,h,rfl⟩
 | f + 1,l,a,hr,⟨⟨i,hi,hin⟩,h⟩=>by
  obtain ⟨hun,oi,hoi,_⟩:=mem_ready.1 hi
  obtain ⟨_,on',hon',hall⟩:=mem_ready.1 hr
  cases hon.symm.trans hon'
  have hno:∀ e ∈ on.after,Region.binds .any e=true->e.on ≠ i:=fun e he hb heq=>by
   have:=hall e he hb
   rw [heq,getD_both hun] at this; cases this
  obtain ⟨_,_,h3⟩:=Oper.apart_spec (hap i oi hoi hin hno)
  obtain ⟨v,_,hK⟩:=A4 hoi (h i hi hin)
  obtain ⟨l',a',h4,h5⟩:=DU hsel hon hap f _ _ (ready_mono hr (by omega)) hK
  exact ⟨l',a',h4,h5.trans (execOp_put on (fun cs b=>hsel n on cs b hon) a oi.dst v h3)⟩
theorem Q1 {n g:Nat} {on:Oper} {L:Array Bool->Act->Prop} {Q':Exit->Act->World->Prop} {v:Value} {w1:World} {S0:Sem Next} (hsel:∀ (j:Nat) (o:Oper) cs b,ops[j]? = some o->o.op ≠ .select cs b) (hon:ops[n]? = some on)
 (hap:∀ j oj,ops[j]? = some oj->j < n->(∀ e ∈ on.after,Region.binds .any e=true->e.on ≠ j)->on.apart ops oj=true)
 (hnw:∀ j oj,ops[j]? = some oj->j < n->∀ e ∈ oj.after,Region.binds .any e=true->e.on ≠ n)
 (hs:tJ ops (n + 1) []=true) (hc:Region.chainB .any ops (n + 1)=true) (hn:n + 1 < ops.size) (hC1:C w1)
 (hL1:∀ l a,L l a->execOp a.eval on=S0->wpAny P .any ops Q' g (l.setIfInBounds n true) (a.put on.dst v) w1) :
 ∀ (f:Nat) (l:Array Bool) (a:Act),HeadInv .any ops (n + 1) (l.setIfInBounds n true)->n ∈ Region.ready .any ops l->qF P ops C n L f l a->execOp a.eval on=S0->wpAny P .any ops Q' (f + g) (l.setIfInBounds n true) (a.put on.dst v) w1
 | 0,l,a,_,_,h,he=>by rw [Nat.zero_add]; exact hL1 l a h he
 | f + 1,l,a,inv,hr,⟨⟨i,hi,hin⟩,h⟩,he=>by
  rw [show f + 1 + g=(f + g) + 1 by omega]
  have hi':=ready_mono (i:=n) hi (by omega)
  refine ⟨fun h0=>(by rw [h0] at hi'; cases hi'),fun j hj=>?_⟩
  obtain ⟨hjun,oj,hoj,hall⟩:=mem_ready.1 hj
  rcases Nat.lt_trichotomy j n with hjn | hjn | hjn
  · have hjun':l.getD j true=false:=by rwa [getD_set_ne true (by omega)] at hjun
    have hjl:j ∈ Region.ready .any ops l:=mem_ready.2 ⟨hjun',oj,hoj,fun e he' hb=>by
     have:=hall e he' hb
     rwa [getD_set_ne false (Ne.symm (hnw j oj hoj hjn e he' hb))] at this⟩
    obtain ⟨_,on',hon',halln⟩:=mem_ready.1 hr
    cases hon.symm.trans hon'
    have hno:∀ e ∈ on.after,Region.binds .any e=true->e.on ≠ j:=fun e he' hb heq=>by
     have:=halln e he' hb
     rw [heq,getD_both hjun'] at this; cases this
    have hap':=hap j oj hoj hjn hno
    obtain ⟨_,_,h3⟩:=Oper.apart_spec hap'
    refine xV hC1 ?_ (SM hoj hap' (fun cs b=>hsel j oj cs b hoj) (h j hjl hjn))
    rintro a' ⟨a0,rfl,h4,u,rfl⟩
    have hcm:(l.setIfInBounds n true).setIfInBounds j true=(l.setIfInBounds j true).setIfInBounds n true:=Array.setIfInBounds_comm _ _ (by omega)
    rw [hcm]
    refine Q1 hsel hon hap hnw hs hc hn hC1 hL1 f _ _ ?_ (ready_mono hr (by omega)) h4 ((execOp_put on (fun cs b=>hsel n on cs b hon) a oj.dst u h3).trans he)
    rw [<-hcm]
    exact inv.set hj (by omega)
  · subst hjn
    exfalso
    rcases bL j l.size with h' | h'<;>simp [h'] at hjun
  · exact absurd hj (wB hs hc hn inv (fun k hk=>by cases hk) _ i (Nat.le_refl _) (by omega) (mem_ready.1 hi').1 j hjn)
theorem Q6 {n g:Nat} {on:Oper} {L:Array Bool->Act->Prop} {Q':Exit->Act->World->Prop} (hQ:∀ c a w,¬ Q' (.panic c) a w) (hsel:∀ (j:Nat) (o:Oper) cs b,ops[j]? = some o->o.op ≠ .select cs b) (hon:ops[n]? = some on) (hgd:on.guard=none)
 (hap:∀ j oj,ops[j]? = some oj->j < n->(∀ e ∈ on.after,Region.binds .any e=true->e.on ≠ j)->on.apart ops oj=true)
 (hnw:∀ j oj,ops[j]? = some oj->j < n->∀ e ∈ oj.after,Region.binds .any e=true->e.on ≠ n)
 (hs:tJ ops (n + 1) []=true) (hc0:Region.chainB .any ops n=true) (hc:Region.chainB .any ops (n + 1)=true) (hn:n + 1 < ops.size)
 (hgrow:∀ (a:Act) w r w1,C w->(execOp a.eval on).run P w=.ok r w1->(∃ v,r=.value v)/\C w1)
 (hL0:∀ l a w,C w->L l a->wpAny P .any ops Q' (g + 1) l a w)
 (hL2:∀ l a w,C w->L l a->on.wp P a w (fun a' w'=>wpAny P .any ops Q' g (l.setIfInBounds n true) a' w') Q') :
 ∀ (f:Nat) (l:Array Bool) (a:Act) (w:World),C w->HeadInv .any ops n l->qF P ops C n L f l a->wpAny P .any ops Q' (f + (g + 1)) l a w
 | 0,l,a,w,hw,_,h=>by rw [Nat.zero_add]; exact hL0 l a w hw h
 | f + 1,l,a,w,hw,inv,hH=>by
  obtain ⟨⟨i,hi,hin⟩,h⟩:=id hH
  rw [show f + 1 + (g + 1)=(f + (g + 1)) + 1 by omega]
  refine ⟨fun h0=>(by rw [h0] at hi; cases hi),fun j hj=>?_⟩
  obtain ⟨hjun,oj,hoj,hall⟩:=mem_ready.1 hj
  rcases Nat.lt_trichotomy j n with hjn | hjn | hjn
  · exact xV hw (fun a' h'=>Q6 hQ hsel hon hgd hap hnw hs hc0 hc hn hgrow hL0 hL2 f _ a' w hw (inv.set hj hjn) h') (h j hj hjn)
  · subst hjn
    cases hon.symm.trans hoj
    unfold wpOp
    simp only [hoj]
    rw [if_pos (eF hgd _)]
    refine .inl ?_
    obtain ⟨l',a',h4,h5⟩:=DU hsel hon hap (f + 1) l a hj hH
    have h6:=hL2 l' a' w hw h4
    unfold Oper.wp at h6 ⊢
    rw [h5] at h6
    cases hrun:(execOp a.eval on).run P w with
    | ok r w1=>
     obtain ⟨⟨v,rfl⟩,hw1⟩:=hgrow a w r w1 hw hrun
     have inv2:HeadInv .any ops (j + 1) (l.setIfInBounds j true):=HeadInv.set ⟨inv.size,inv.closed,fun t ht=>inv.tail t (by omega)⟩ hj (by omega)
     have:=Q1 (g:=g) (v:=v) (w1:=w1) (S0:=execOp a.eval on) hsel hon hap hnw hs hc hn hw1 (fun l2 a2 h7 h8=>by
      have h9:=hL2 l2 a2 w hw h7
      unfold Oper.wp at h9
      rw [h8,hrun] at h9
      exact h9) (f + 1) l a inv2 hj hH rfl
     rw [show f + 1 + g=f + (g + 1) by omega] at this
     exact this
    | halt x w1=>
     rw [hrun] at h6
     cases x<;>simp only [Oper.upon] at h6 ⊢
     case panic u=>exact absurd h6 (hQ _ _ _)
  · exfalso
    have h1:=List.all_eq_true.1 hc0 j (List.mem_range.2 (Array.getElem?_eq_some_iff.1 hoj).1)
    simp only [Bool.or_eq_true,decide_eq_true_eq] at h1
    have h2:Region.waitsFor .any ops j (j - 1)=true:=by
     rcases h1 with h | h
     · omega
     · exact h
    obtain ⟨o',ho',e,he,hb,hon'⟩:=Region.waitsFor_spec h2
    cases hoj.symm.trans ho'
    have:=hall e he hb
    rw [hon',getD_both (inv.tail (j - 1) (by omega) (by have:=(Array.getElem?_eq_some_iff.1 hoj).1; omega))] at this
    cases this
end
theorem FRel.weak {N:Nat} {γ:List Gb} {ro:RO} {fr fr2:Fr} {a:Act} (h:FRel N γ ro fr a) (hw:∀ i,fr2 i=fr i\/fr2 i=.un):FRel N γ ro fr2 a:=
 ⟨h.size,fun i=>by rcases hw i with e | e<;>rw [e]; exact h.slot i; trivial,h.defers⟩
theorem eM {f1 f2:Fr}:∀ {l:List Nat},(∀ i ∈ l,f1 i=f2 i)->cP f1 l=cP f2 l
 | [],_=>rfl
 | i :: r,h=>by
  simp only [cP]
  rw [h i (by simp),eM (l:=r) fun k hk=>h k (by simp [hk])]
theorem kJ {f1 f2:Fr} {l:List Nat} (h:∀ i ∈ l,f1 i=f2 i):∀ i ∈ l,fst f1 i=fst f2 i:=fun i hi=>by
 unfold fst; rw [h i hi]
theorem TI {f1 f2:Fr} {H:Hp} {i:LI} (h:∀ j ∈ i.sl,f1 j=f2 j):lq f1 H i=lq f2 H i:=by
 cases i with
 | ia sz x y=>rfl
 | lk kd z ok x k=>rfl
 | lm x=>rfl
 | ld1 x=>simp only [lq,aW (o:=x) (fun j hj=>h j hj)]
 | ldn n x=>simp only [lq,aW (o:=x) (fun j hj=>h j hj)]
section
variable {Γ:dP} {H:Hp} {j:J} {K1 K2:Fr->Hp->Prop}
theorem SJ {i:I} {f1 f2:Fr} {R1 R2:S->Hp->Prop} (h:∀ k ∈ i.sl,f1 k=f2 k) (hR:R1=R2):vI Γ f1 H R1 i=vI Γ f2 H R2 i:=by
 subst hR
 cases i with
 | e i=>
  simp only [vI]
  rw [show cP f1 i.sl=cP f2 i.sl from eM h,KR (kJ h)]
 | cl f xs σ=>
  simp only [vI]
  have e:(xs.map fun o=>ev (fst f1) o)=xs.map fun o=>ev (fst f2) o:=by
   refine List.map_congr_left fun o ho=>aW fun k hk=>kJ h k ?_
   simp only [I.sl]
   clear h
   induction xs with
   | nil=>cases ho
   | cons x r ih=>
    simp only [O.sls,List.mem_append]
    rcases List.mem_cons.1 ho with rfl | ho
    · exact .inl hk
    · exact .inr (ih ho)
  rw [show cP f1 (O.sls xs)=cP f2 (O.sls xs) from eM h,e]
 | ca x xs σ=>
  simp only [vI]
  have e:(xs.map fun o=>ev (fst f1) o)=xs.map fun o=>ev (fst f2) o:=by
   refine List.map_congr_left fun o ho=>aW fun k hk=>kJ h k ?_
   simp only [I.sl,List.mem_append]
   clear h
   induction xs with
   | nil=>cases ho
   | cons x r ih=>
    simp only [O.sls,List.mem_append]
    rcases List.mem_cons.1 ho with rfl | ho
    · exact .inr (.inl hk)
    · rcases ih ho with h | h
      · exact .inl h
      · exact .inr (.inr h)
  have ex:ev (fst f1) x=ev (fst f2) x:=aW fun k hk=>kJ h k (by simp only [I.sl,List.mem_append]; exact .inl hk)
  rw [eM (l:=x.sl ++ O.sls xs) h,e,ex]
 | _=>rfl
theorem KL {o:O}:∀ {xs:List O},o ∈ xs->∀ k ∈ o.sl,k ∈ O.sls xs
 | [],ho,_,_=>by cases ho
 | x :: r,ho,k,hk=>by
  simp only [O.sls,List.mem_append]
  rcases List.mem_cons.1 ho with rfl | ho
  · exact .inl hk
  · exact .inr (KL ho k hk)
theorem D9 {f:FuncId} {xs:List O} {g:Prop} {f1 f2:Fr} {R1 R2:A->Prop} (h:∀ k ∈ O.sls xs,f1 k=f2 k) (hR:R1=R2):AP Γ f1 H f xs g R1=AP Γ f2 H f xs g R2:=by
 subst hR
 have e:(xs.map fun o=>((ev (fst f1) o).bor H).nf)=xs.map fun o=>((ev (fst f2) o).bor H).nf:=
  List.map_congr_left fun o ho=>by rw [aW fun k hk=>kJ h k (KL ho k hk)]
 unfold AP
 rw [e,eM h]
theorem O7 (R:Fr->Fr->Prop) (hA:∀ f1 f2,R f1 f2->∀ i ∈ j.rds,f1 i=f2 i)
 (hP:∀ f1 f2 sl s,(∃ w,j.g=some (sl,w))->R f1 f2->R (put f1 (some sl) s) (put f2 (some sl) s))
 (hK:∀ f1 f2 s H',R f1 f2->K1 (put f1 j.d s) H'=K2 (put f2 j.d s) H') {f1 f2:Fr} (h:R f1 f2):vJ Γ f1 H K1 j=vJ Γ f2 H K2 j:=by
 obtain ⟨d,g,i⟩:=j
 simp only [J.rds] at hA
 simp only at hP hK
 have hs:∀ {f1 f2:Fr},R f1 f2->∀ k ∈ i.sl,f1 k=f2 k:=fun hR k hk=>hA _ _ hR k (List.mem_append_right _ hk)
 have hI:∀ {f1 f2:Fr},R f1 f2->vI Γ f1 H (fun s H'=>K1 (put f1 d s) H') i=vI Γ f2 H (fun s H'=>K2 (put f2 d s) H') i:=fun {f1 f2} hR=>
  SJ (hs hR) (funext fun s=>funext fun H'=>hK f1 f2 s H' hR)
 have hsl:=hs h
 have hfs:=kJ hsl
 have hgd:=eM hsl
 unfold vJ
 cases g with
 | none=>
  simp only
  cases i with
  | q i=>
   obtain ⟨e1,e2⟩:=wO (H:=H) (i:=i) hfs
   simp only [kP,e1,e2]
   rw [show cP f1 i.sl=cP f2 i.sl from hgd]
   split
   · rw [hK _ _ _ _ h]
   · rfl
  | ix x y=>
   have ex:ev (fst f1) x=ev (fst f2) x:=aW fun k hk=>hfs k (List.mem_append_left _ hk)
   have ey:ev (fst f1) y=ev (fst f2) y:=aW fun k hk=>hfs k (List.mem_append_right _ hk)
   simp only [kP,ex,ey]
   rw [show cP f1 (x.sl ++ y.sl)=cP f2 (x.sl ++ y.sl) from hgd]
   split
   · simp only [hK _ _ _ _ h]
   · rfl
  | l i=>
   simp only [kP]
   rw [show cP f1 i.sl=cP f2 i.sl from hgd,oL hfs]
   simp only [hK _ _ _ _ h]
  | pick c x y=>
   have ec:ev (fst f1) c=ev (fst f2) c:=aW fun k hk=>hfs k (List.mem_append_left _ hk)
   have ex:ev (fst f1) x=ev (fst f2) x:=aW fun k hk=>hfs k (List.mem_append_right _ (List.mem_append_left _ hk))
   have ey:ev (fst f1) y=ev (fst f2) y:=aW fun k hk=>hfs k (List.mem_append_right _ (List.mem_append_right _ hk))
   simp only [kP,ec,ex,ey]
   rw [eM (l:=c.sl) fun k hk=>hsl k (List.mem_append_left _ hk),eM (l:=x.sl) fun k hk=>hsl k (List.mem_append_right _ (List.mem_append_left _ hk)),eM (l:=y.sl) fun k hk=>hsl k (List.mem_append_right _ (List.mem_append_right _ hk))]
   split
   · rw [hK _ _ _ _ h]
   · rfl
  | cq f xs=>exact D9 hsl (funext fun a=>hK _ _ _ _ h)
  | e i=>exact hI h
  | cl f xs σ=>exact hI h
  | ca x xs σ=>exact hI h
 | some gw=>
  obtain ⟨sl,want⟩:=gw
  simp only
  have hg0:f1 sl=f2 sl:=hA _ _ h sl (by simp)
  have hgv:gv f1 sl want=gv f2 sl want:=by unfold gv; rw [hg0]
  have hn:R (jF f1 sl want) (jF f2 sl want):=hP _ _ _ _ ⟨_,rfl⟩ h
  have hf:R (pD f1 sl want) (pD f2 sl want):=by
   unfold pD
   rw [hg0]
   split
   · exact hP _ _ _ _ ⟨_,rfl⟩ h
   · exact h
  rw [hgv]
  split
  · rfl
  · rename_i b hb
    have hIf:((b=true->vI Γ (jF f1 sl want) H (fun s H'=>K1 (put (jF f1 sl want) d s) H') i)/\(b=false->K1 (put (pD f1 sl want) d dum) H))=((b=true->vI Γ (jF f2 sl want) H (fun s H'=>K2 (put (jF f2 sl want) d s) H') i)/\(b=false->K2 (put (pD f2 sl want) d dum) H)):=by
     rw [hI hn,hK _ _ _ _ hf]
    cases i with
    | q i=>
     obtain ⟨e1,e2⟩:=wO (H:=H) (i:=i) hfs
     simp only [jT,e1,e2]
     rw [show cP f1 i.sl=cP f2 i.sl from hgd]
     split<;>rw [hK _ _ _ _ h]
    | ix x y=>
     have ex:ev (fst f1) x=ev (fst f2) x:=aW fun k hk=>hfs k (List.mem_append_left _ hk)
     have ey:ev (fst f1) y=ev (fst f2) y:=aW fun k hk=>hfs k (List.mem_append_right _ hk)
     simp only [jT,ex,ey]
     rw [show cP f1 (x.sl ++ y.sl)=cP f2 (x.sl ++ y.sl) from hgd]
     split<;>simp only [hK _ _ _ _ h]
    | l i=>
     simp only [jT]
     rw [TI hfs,show cP f1 i.sl=cP f2 i.sl from hgd]
     split
     · rw [hK _ _ _ _ h]
     · have e1:cP (jF f1 sl want) i.sl=cP (jF f2 sl want) i.sl:=eM (hs hn)
       rw [e1,oL (kJ (hs hn)),hK _ _ _ _ hf]
       simp only [hK _ _ _ _ hn]
    | pick c x y=>
     have ec:ev (fst f1) c=ev (fst f2) c:=aW fun k hk=>hfs k (List.mem_append_left _ hk)
     have ex:ev (fst f1) x=ev (fst f2) x:=aW fun k hk=>hfs k (List.mem_append_right _ (List.mem_append_left _ hk))
     have ey:ev (fst f1) y=ev (fst f2) y:=aW fun k hk=>hfs k (List.mem_append_right _ (List.mem_append_right _ hk))
     simp only [jT,ec,ex,ey]
     rw [eM (l:=c.sl) fun k hk=>hsl k (List.mem_append_left _ hk),eM (l:=x.sl) fun k hk=>hsl k (List.mem_append_right _ (List.mem_append_left _ hk)),eM (l:=y.sl) fun k hk=>hsl k (List.mem_append_right _ (List.mem_append_right _ hk))]
     split<;>rw [hK _ _ _ _ h]
    | cq f xs=>exact D9 hsl (funext fun a=>hK _ _ _ _ h)
    | e i=>exact hIf
    | cl f xs σ=>exact hIf
    | ca x xs σ=>exact hIf
end
theorem LC {fr:Fr} {H:Hp} {i:LI} {Φ:S->Prop} (h:vL fr H i Φ):∃ s,Φ s/\vL fr H i (fun s'=>s'=s):=by
 cases i with
 | ia sz x y=>
  simp only [vL] at h ⊢
  split at h
  · exact ⟨_,h.2,h.1,rfl⟩
  · rename_i xs _ k hx hy
    obtain ⟨⟨h1,h2⟩,h3⟩:=h
    have hk:xs[k.toNat]? = some xs[k.toNat]:=bB (by omega)
    exact ⟨_,h3 _ hk,⟨h1,h2⟩,fun r hr=>by rw [hk] at hr; rw [bK hr]⟩
  · exact h.elim
 | lk kd z ok x k=>
  simp only [vL] at h ⊢
  split at h
  · split at h
    · exact ⟨_,h.2,h.1,rfl⟩
    · exact h.elim
  · exact h.elim
 | lm x=>
  simp only [vL] at h ⊢
  split at h
  · split at h
    · exact ⟨_,h,rfl⟩
    · exact h.elim
  · exact h.elim
 | ld1 x=>
  simp only [vL] at h ⊢
  split at h
  · split at h
    · split at h
      · exact ⟨_,h,rfl⟩
      · exact h.elim
    · exact h.elim
  · split at h
    · rename_i xs T sz' hH
      obtain ⟨h1,h3⟩:=h
      have hk:=bB h1.2.2
      have:=h3 _ hk
      split at this
      · rename_i c hc
        refine ⟨_,this,h1,fun r hr=>?_⟩
        rw [hk] at hr
        rw [<-bK hr,hc]
      · exact this.elim
    · rename_i xs T sz' hH
      obtain ⟨h1,h3⟩:=h
      have hk:=bB h1.2.2
      have:=h3 _ hk
      split at this
      · rename_i c hc
        refine ⟨_,this,h1,fun r hr=>?_⟩
        rw [hk] at hr
        rw [<-bK hr,hc]
      · exact this.elim
    · exact h.elim
  · split at h
    · exact ⟨_,h,rfl⟩
    · exact h.elim
  · exact h.elim
 | ldn n x=>
  simp only [vL] at h ⊢
  split at h
  · split at h
    · exact ⟨_,h.2,h.1,rfl⟩
    · exact h.elim
  · split at h
    · obtain ⟨h1,h3⟩:=h
      have hk:=bB h1.2.2
      obtain ⟨h4,h5⟩:=h3 _ hk
      refine ⟨_,h5,h1,fun r hr=>?_⟩
      rw [hk] at hr
      rw [<-bK hr]
      exact ⟨h4,rfl⟩
    · obtain ⟨h1,h3⟩:=h
      have hk:=bB h1.2.2
      obtain ⟨h4,h5⟩:=h3 _ hk
      refine ⟨_,h5,h1,fun r hr=>?_⟩
      rw [hk] at hr
      rw [<-bK hr]
      exact ⟨h4,rfl⟩
    · exact h.elim
  · exact ⟨_,h.2,h.1,rfl⟩
  · exact h.elim
theorem eZ (fr:Fr) (d:Nat) (s:S):put fr (some d) s d=s:=by simp [put]
theorem YW {Γ:dP} {fr:Fr} {H:Hp} {j:J} {d:Nat} (hd:j.d=some d) (hq:j.quiet=true) (hx:j.gix=false) {Φ:S->Prop} (h:vJ Γ fr H (fun fr' _=>Φ (fr' d)) j):∃ s,Φ s/\vJ Γ fr H (fun fr' _=>fr' d=s) j:=by
 obtain ⟨d',g,i⟩:=j
 simp only at hd
 subst hd
 unfold vJ at h ⊢
 cases g with
 | none=>
  simp only at h ⊢
  cases i with
  | q i=>
   simp only [kP] at h ⊢
   split at h
   · rename_i s hs
     obtain ⟨h1,h2,h3⟩:=h
     rw [eZ] at h3
     exact ⟨s,h3,h1,h2,eZ _ _ _⟩
   · exact h.elim
  | ix x y=>
   simp only [kP] at h ⊢
   split at h
   · rename_i s _ k hx hy
     obtain ⟨⟨h0,h1,h2⟩,h3⟩:=h
     have hk:(bl s)[k.toNat]? = some (bl s)[k.toNat]:=bB (by omega)
     have:=h3 _ hk
     rw [eZ] at this
     exact ⟨_,this,⟨h0,h1,h2⟩,fun c hc=>by rw [hk] at hc; rw [<-bK hc,eZ]⟩
   · exact h.elim
  | l i=>
   simp only [kP,eZ] at h ⊢
   obtain ⟨s,h1,h2⟩:=LC h.2
   exact ⟨s,h1,h.1,h2⟩
  | pick c x y=>
   simp only [kP,eZ] at h ⊢
   split at h
   · obtain ⟨h1,h2,h3,h4⟩:=h
     exact ⟨_,h4,h1,h2,h3,rfl⟩
   · exact h.elim
  | e i=>simp [J.quiet] at hq
  | cl f xs σ=>simp [J.quiet] at hq
  | ca f xs σ=>simp [J.quiet] at hq
  | cq f xs=>simp [J.quiet] at hq
 | some gw=>
  obtain ⟨sl,want⟩:=gw
  simp only at h ⊢
  split at h
  · exact h.elim
  · rename_i b hb
    cases i with
    | q i=>
     simp only [jT,eZ] at h ⊢
     split at h
     · exact ⟨_,h.2,h.1,rfl⟩
     · exact ⟨_,h.2,h.1,rfl⟩
    | ix x y=>simp [J.gix] at hx
    | l i=>
     simp only [jT,eZ] at h ⊢
     split at h
     · exact ⟨_,h.2,h.1,rfl⟩
     · obtain ⟨h1,h2⟩:=h
       cases b with
       | true=>
        obtain ⟨h3,h4⟩:=h1 rfl
        obtain ⟨s,h5,h6⟩:=LC h4
        exact ⟨s,h5,fun _=>⟨h3,h6⟩,fun h=>by cases h⟩
       | false=>exact ⟨_,h2 rfl,fun h=>(by cases h),fun _=>rfl⟩
    | pick c x y=>
     simp only [jT,eZ] at h ⊢
     split at h
     · exact ⟨_,h.2,h.1,rfl⟩
     · exact ⟨_,h.2,h.1,rfl⟩
    | e i=>simp [J.quiet] at hq
    | cl f xs σ=>simp [J.quiet] at hq
    | ca f xs σ=>simp [J.quiet] at hq
    | cq f xs=>simp [J.quiet] at hq
section
variable {X:Ctx} {E E':Es} {ro ro':RO} {w w':World}
theorem Rel.thru (h:Rel X E ro w) (k:Rel ⟨w,eG E,ro,gm E⟩ E' ro' w'):Rel X E' ro' w':=by
 have hin:∀ b,b ∈ eG E->X.w0.heap.size<=b\/b ∈ X.pb:=fun b hb=>by
  obtain ⟨n,g,blk,h1,h2,h3⟩:=f0.1 hb
  exact h.par n b g blk h1 h2 h3
 refine ⟨k.own,k.inj,k.apart,k.rd,h.ro0.trans k.ro0,fun b off v hv=>?_,fun n b g blk h1 h2 h3=>?_,h.gx.trans k.gx,Nat.le_trans h.sz k.sz,fun b hb hp=>?_,k.os.trans h.os,k.tape.trans h.tape,k.output.trans h.output⟩
 · rcases k.rob b off v hv with e | ⟨e | e,e'⟩
   · rcases h.rob b off v e with r | ⟨r,r'⟩
     · exact .inl r
     · exact .inr ⟨r,by rw [(k.ro0 b off v e).2]; exact r'⟩
   · exact .inr ⟨.inl (Nat.le_trans h.sz e),e'⟩
   · exact .inr ⟨hin b e,e'⟩
 · rcases k.par n b g blk h1 h2 h3 with e | e
   · exact .inl (Nat.le_trans h.sz e)
   · exact hin b e
 · have hlt:b < w.heap.size:=Nat.lt_of_lt_of_le hb h.sz
   refine (k.keep b hlt fun hbk=>?_).trans (h.keep b hb hp)
   rcases hin b hbk with e | e
   · omega
   · exact hp e
def Mk.g (m:Mk) (b:Nat):Gb:=match m.sz with
 | none=>⟨some b,false,0,0,m.T,m.cs⟩
 | some _=>⟨some b,true,1,1,m.T,m.cs⟩
def Mk.B (m:Mk):B:=match m.sz with
 | none=>.cells (m.cs.map C.vl) m.T
 | some sz=>.row [m.cs.map C.vl] m.T sz
def Mk.s (m:Mk) (n:Nat):S:=match m.sz with
 | none=>.va (.c1 (.pt n 0))
 | some _=>.va (.c1 (.sl n 1))
def Mk.v (m:Mk) (b:Nat):Value:=match m.sz with
 | none=>.pointer (some ⟨b,0,none⟩)
 | some _=>.slice (some ⟨b,0,none⟩) 1 1
def Mk.ok (m:Mk):Prop:=∀ sz,m.sz=some sz->m.cs.length=sz
theorem Mk.ob (m:Mk) (b:Nat):(m.g b).ob=some b:=by unfold Mk.g; split<;>rfl
theorem Mk.on {m:Mk} (hm:m.ok) {γ:List Gb} {b:Nat} (hb:w.heap[b]? = some (.cells m.cs.toArray m.T (0,0))):m.B.On γ ro w (m.g b):=by
 unfold Mk.B Mk.g
 cases h:m.sz with
 | none=>exact ⟨rfl,b,rfl,hb,oV _⟩
 | some sz=>
  have hl:=hm sz h
  have h2:=oV (γ:=γ) (ro:=ro) m.cs
  refine ⟨rfl,rfl,fun x hx=>?_,fun c hc=>?_,⟨by simp [hl],.inr ⟨b,1,_,rfl,Nat.zero_le _,hb,Nat.le_refl _,by decide,?_,?_⟩⟩,?_,fun _ _=>Nat.one_pos⟩
  · rw [List.mem_singleton.1 hx,List.length_map,hl]
  · rw [List.flatten_cons,List.flatten_nil,List.append_nil] at hc
    obtain ⟨v,_,rfl⟩:=List.mem_map.1 hc
    rfl
  · simp [hl]
  · rw [List.toList_toArray,List.take_of_length_le (by simp [hl])]
  · rw [List.flatten_cons,List.flatten_nil,List.append_nil]
    refine ⟨h2.1,fun k c u h1 h3=>(C.rel_shut (γ:=γ) ?_).1 (h2.2 k c u h1 h3)⟩
    rw [List.getElem?_map] at h1
    cases hk:m.cs[k]? with
    | none=>rw [hk] at h1; cases h1
    | some v=>rw [hk] at h1; cases h1; rfl
theorem Mk.rel (m:Mk) {γ:List Gb} {n b:Nat} (h:γ[n]? = some (m.g b)):(m.s n).rel γ ro (m.v b):=by
 unfold Mk.s Mk.v
 unfold Mk.g at h
 cases hs:m.sz with
 | none=>rw [hs] at h; exact ⟨_,b,h,rfl,rfl,rfl⟩
 | some sz=>rw [hs] at h; exact ⟨_,h,rfl,Nat.le_refl _,⟨_,_,_,rfl⟩,fun _=>rfl⟩
structure Ea (X:Ctx) (E:Es) (ro:RO) (w:World) (m:Mk) (b:Nat):Prop where
 hb:w.heap[b]? = some (.cells m.cs.toArray m.T (0,0))
 lo:X.w0.heap.size<=b
 liv:∀ (n:Nat) (g:Gb) (blk:B),E[n]? = some (g,blk)->blk.live=true->g.ob ≠ some b
 ro:∀ off v,ro b off ≠ some v
theorem Ea.lt {m:Mk} {b:Nat} (h:Ea X E ro w m b):b < w.heap.size:=by
 rcases bL b w.heap.size with e | e
 · exact e
 · have:=h.hb; rw [Array.getElem?_eq_none e] at this; cases this
theorem Ea.keep {m:Mk} {b:Nat} (h:Ea X E ro w m b) (k:Rel ⟨w,eG E,ro,gm E⟩ E' ro' w'):Ea X E' ro' w' m b:=by
 have hlt:=h.lt
 have hbk:b ∉ eG E:=fun hb=>by
  obtain ⟨n,g,blk,h1,h2,h3⟩:=f0.1 hb
  exact h.liv n g blk h1 h3 h2
 refine ⟨(k.keep b hlt hbk).trans h.hb,h.lo,fun n g blk h1 h2 h3=>?_,fun off v hv=>?_⟩
 · rcases k.par n b g blk h1 h3 h2 with e | e
   · exact absurd hlt (Nat.not_lt.2 e)
   · exact hbk e
 · rcases k.rob b off v hv with e | ⟨e | e,_⟩
   · exact h.ro off v e
   · exact absurd hlt (Nat.not_lt.2 e)
   · exact hbk e
theorem Rel.admE (h:Rel X E ro w) {q:Mk} (hq:q.ok) {b:Nat} (e:Ea X E ro w q b) :
 Rel X (E ++ [(q.g b,q.B)]) ro w:=by
 have hext:GExt (gm E) (gm (E ++ [(q.g b,q.B)])):=d9 _
 have hget:∀ (n:Nat) (y:Gb × B),(E ++ [(q.g b,q.B)])[n]? = some y->(n=E.length/\y=(q.g b,q.B))\/(n < E.length/\E[n]? = some y):=by
  intro n y hy
  rw [List.getElem?_append] at hy
  split at hy
  · exact .inr ⟨by assumption,hy⟩
  · rename_i hge
    have:n - E.length=0:=by
     rcases Nat.eq_zero_or_pos (n - E.length) with h0 | h0
     · exact h0
     · rw [List.getElem?_eq_none (by simp; omega)] at hy; cases hy
    rw [this] at hy
    exact .inl ⟨by omega,by simpa using hy.symm⟩
 refine ⟨fun n g' bk hy=>?_,fun n m gn gm bn bm k hy hz en em ln lm=>?_,fun k off c hc n gn bk hy en=>?_,h.rd,h.ro0,h.rob,fun n k gn bk hy en ln=>?_,h.gx.trans hext,h.sz,h.keep,h.os,h.tape,h.output⟩
 · rcases hget n _ hy with ⟨rfl,he⟩ | ⟨hlt,hy'⟩
   · simp only [Prod.mk.injEq] at he
     obtain ⟨rfl,rfl⟩:=he
     exact Mk.on hq e.hb
   · by_cases hlv:bk.live=true
     · exact (h.own n g' bk hy').same hext (Ext.refl _) fun k hk=>rfl
     · cases bk<;>simp [B.live] at hlv; trivial
 · rcases hget n _ hy with ⟨rfl,he⟩ | ⟨hlt,hy'⟩<;>rcases hget m _ hz with ⟨rfl,he2⟩ | ⟨hlt2,hz'⟩
   · rfl
   · simp only [Prod.mk.injEq] at he; obtain ⟨rfl,rfl⟩:=he
     simp only [Mk.ob,aH] at en
     subst en
     exact absurd em (e.liv m gm bm hz' lm)
   · simp only [Prod.mk.injEq] at he2; obtain ⟨rfl,rfl⟩:=he2
     simp only [Mk.ob,aH] at em
     subst em
     exact absurd en (e.liv n gn bn hy' ln)
   · exact h.inj n m gn gm bn bm k hy' hz' en em ln lm
 · rcases hget n _ hy with ⟨rfl,he⟩ | ⟨hlt,hy'⟩
   · simp only [Prod.mk.injEq] at he; obtain ⟨rfl,rfl⟩:=he
     simp only [Mk.ob,aH] at en
     subst en
     exact absurd hc (e.ro off c)
   · exact h.apart k off c hc n gn bk hy' en
 · rcases hget n _ hy with ⟨rfl,he⟩ | ⟨hlt,hy'⟩
   · simp only [Prod.mk.injEq] at he; obtain ⟨rfl,rfl⟩:=he
     simp only [Mk.ob,aH] at en
     subst en
     exact .inl e.lo
   · exact h.par n k gn bk hy' en ln
end
def Dn (l:Array Bool) (i:Nat):Prop:=l.getD i false=true
theorem EH {ops:Array Oper} {p:Nat->Prop} (hcl:∀ i k,p i->Region.waitsFor .any ops i k=true->p k):∀ (ks s:List Nat),(∀ t ∈ s,p t)->∀ t ∈ NB ops ks s,p t
 | [],s,h=>h
 | k :: r,s,h=>by
  refine EH hcl r _ fun t ht=>?_
  split at ht
  · rename_i hany
    obtain ⟨u,hu,hw⟩:=List.any_eq_true.1 hany
    rcases List.mem_cons.1 ht with rfl | ht
    · exact hcl u t (h u hu) hw
    · exact h t ht
  · exact h t ht
theorem C4 {ops:Array Oper} {p:Nat->Prop} (hcl:∀ i k,p i->Region.waitsFor .any ops i k=true->p k) {i:Nat} (hi:p i):∀ t ∈ iW ops i,p t:=
 EH hcl _ _ fun t ht=>by rw [List.mem_singleton.1 ht]; exact hi
structure Ck (ops:Array Oper) (js:List J) (pre:List Nat) (i:Nat) (r:List Nat):Prop where
 lt:i < ops.size
 new:i ∉ pre
 wt:∀ o,ops[i]? = some o->∀ e ∈ o.after,Region.binds .any e=true->e.on ∈ pre
 q1:(eP ops js i=true\/jZ js i=true)->∀ k ∈ pre,∀ s ∈ tK js k,n8 js i ≠ some s
 rd:∀ k ∈ pre,∀ s ∈ tK js i,n8 js k=some s->eP ops js k=true->k ∈ iW ops i
 ds:∀ d,n8 js i=some d->∀ k ∈ pre,n8 js k ≠ some d
 own:eP ops js i=true->∀ s ∈ tK js i,n8 js i ≠ some s
 hd:eP ops js i=false->mP ops js i r=false->∀ j ∈ r,jZ js j=false->Region.waitsFor .any ops j i=true\/∃ k ∈ r,jZ js k=false/\Region.waitsFor .any ops j k=true
 a1:jZ js i=true->∀ k ∈ pre,jZ js k=false
theorem aJI {ops:Array Oper} {js:List J} {pre:List Nat} {i:Nat} {r:List Nat} (h:TE ops js pre i r=true):Ck ops js pre i r:=by
 unfold TE at h
 simp only [Bool.and_eq_true,decide_eq_true_eq] at h
 obtain ⟨⟨⟨⟨⟨⟨⟨⟨h1,h2⟩,h3⟩,h4⟩,h5⟩,h6⟩,h7⟩,h8⟩,h9⟩:=h
 refine ⟨h1,by simpa using h2,fun o ho e he hb=>?_,fun hq k hk s hs heq=>?_,fun k hk s hs heq hq=>?_,fun d hd k hk heq=>?_,fun hq s hs heq=>?_,fun hq hnf j hj ha=>?_,fun ha k hk=>?_⟩
 · rw [ho] at h3
   have:=Array.all_eq_true_iff_forall_mem.1 h3 e he
   simpa [hb] using this
 · have hq':(eP ops js i || jZ js i)=true:=by rw [Bool.or_eq_true]; exact hq
   rw [hq'] at h4
   have h':∀ k ∈ pre,∀ s ∈ tK js k,¬ n8 js i=some s:=by simpa using h4
   exact h' k hk s hs heq
 · have:=List.all_eq_true.1 h5 k hk
   have h':((tK js i).any fun s=>n8 js k == some s)=true:=List.any_eq_true.2 ⟨s,hs,by simp [heq]⟩
   rw [h',hq] at this
   simpa using this
 · rw [hd] at h6
   have:=List.all_eq_true.1 h6 k hk
   simp [heq] at this
 · rw [hq] at h7
   have h':((tK js i).any fun s=>n8 js i == some s)=true:=List.any_eq_true.2 ⟨s,hs,by simp [heq]⟩
   rw [h'] at h7; cases h7
 · rw [hq,hnf,Bool.false_or,Bool.false_or] at h8
   have:=List.all_eq_true.1 h8 j hj
   rw [ha,Bool.false_or,Bool.or_eq_true] at this
   rcases this with h | h
   · exact .inl h
   · obtain ⟨k,hk,h⟩:=List.any_eq_true.1 h
     simp only [Bool.and_eq_true,Bool.not_eq_true'] at h
     exact .inr ⟨k,hk,h.1,h.2⟩
 · rw [ha] at h9
   have h':∀ k ∈ pre,jZ js k=false:=by simpa using h9
   exact h' k hk
theorem CE {ops:Array Oper} {js:List J}:∀ (l pre p:List Nat) (i:Nat) (r:List Nat),wA ops js pre l=true->l=p ++ i :: r->Ck ops js (pre ++ p) i r
 | [],_,p,i,r,_,h=>by cases p<;>cases h
 | x :: l,pre,[],i,r,hB,h=>by
  simp only [wA,Bool.and_eq_true] at hB
  obtain ⟨rfl,rfl⟩:x=i/\l=r:=by simpa using h
  rw [List.append_nil]; exact aJI hB.1
 | x :: l,pre,y :: p,i,r,hB,h=>by
  simp only [wA,Bool.and_eq_true] at hB
  obtain ⟨rfl,rfl⟩:x=y/\l=p ++ i :: r:=by simpa using h
  have:=CE _ (pre ++ [x]) p i r hB.2 rfl
  simpa using this
theorem xZ:∀ (n:Nat) (l:List Nat),l.Nodup->(∀ k ∈ l,k < n)->l.length<=n
 | 0,l,_,h=>by
  cases l with
  | nil=>exact Nat.le_refl _
  | cons x l=>exact absurd (h x (by simp)) (by omega)
 | n + 1,l,hn,h=>by
  by_cases hm:n ∈ l
  · have h1:=xZ n (l.erase n) (hn.erase n) fun k hk=>by
     obtain ⟨h2,h3⟩:=(hn.mem_erase_iff).1 hk
     have:=h k h3
     omega
    have h2:=List.length_erase_of_mem hm
    omega
  · have:=xZ n l hn fun k hk=>by
     have h3:=h k hk
     have:k ≠ n:=fun e=>hm (e ▸ hk)
     omega
    omega
theorem YM {ops:Array Oper} {js:List J} {π:List Nat} (hC:wA ops js [] π=true) (hl:π.length=ops.size):∀ i,i < ops.size->i ∈ π:=by
 have hck:∀ (p:List Nat) (i:Nat) (r:List Nat),π=p ++ i :: r->i < ops.size/\i ∉ p:=fun p i r e=>by
  have:=CE π [] p i r hC e
  exact ⟨this.lt,by simpa using this.new⟩
 have hnd:π.Nodup:=by
  have key:∀ (q p:List Nat),π=p ++ q->p.Nodup->(p ++ q).Nodup:=fun q=>by
   induction q with
   | nil=>intro p _ hp; simpa using hp
   | cons x q ih=>
    intro p e hp
    have h1:=(hck p x q e).2
    have:=ih (p ++ [x]) (by rw [e]; simp) (by
     rw [List.nodup_append]
     exact ⟨hp,List.nodup_cons.2 ⟨by simp,List.nodup_nil⟩,fun a ha b hb=>by rw [List.mem_singleton.1 hb]; rintro rfl; exact h1 ha⟩)
    simpa using this
  have:=key π [] rfl List.nodup_nil
  simpa using this
 have hlt:∀ i ∈ π,i < ops.size:=fun i hi=>by
  obtain ⟨p,r,e⟩:=List.append_of_mem hi
  exact (hck p i r e).1
 intro i hi
 refine Classical.byContradiction fun hn=>?_
 have:=xZ ops.size (i :: π) (List.nodup_cons.2 ⟨hn,hnd⟩) fun k hk=>by
  rcases List.mem_cons.1 hk with rfl | hk
  · exact hi
  · exact hlt k hk
 rw [List.length_cons,hl] at this
 omega
def QO (n:Nat) (l:Array Bool):Nat:=((List.range n).filter fun i=>!l.getD i false).length
theorem K0 {p q:Nat->Bool} (h:∀ i,q i=true->p i=true) {k:Nat} (hp:p k=true) (hq:q k=false):∀ (l:List Nat),k ∈ l->(l.filter q).length < (l.filter p).length
 | [],hk=>by cases hk
 | x :: l,hk=>by
  have hle:(l.filter q).length<=(l.filter p).length:=by
   clear hk
   induction l with
   | nil=>exact Nat.le_refl _
   | cons y l ih=>
    simp only [List.filter_cons]
    cases hy:q y with
    | true=>rw [h y hy]; simpa using ih
    | false=>cases p y<;>simp<;>omega
  simp only [List.filter_cons]
  rcases List.mem_cons.1 hk with rfl | hk
  · rw [hp,hq]; simp; omega
  · have:=K0 h hp hq l hk
    cases hx:q x with
    | true=>rw [h x hx]; simpa using this
    | false=>cases p x<;>simp<;>omega
theorem gR {l:Array Bool} {k i:Nat} (h:Dn l i):Dn (l.setIfInBounds k true) i:=getD_set_true h
theorem rD {l:Array Bool} {k:Nat} (h:k < l.size):Dn (l.setIfInBounds k true) k:=by simp [Dn,h]
theorem gH {l:Array Bool} {k i:Nat} (h:Dn (l.setIfInBounds k true) i):Dn l i\/i=k:=by
 by_cases e:k=i
 · exact .inr e.symm
 · unfold Dn at h; rw [getD_set_ne false e] at h; exact .inl h
theorem C2 {n:Nat} {l:Array Bool} {k:Nat} (hk:k < n) (hs:l.size=n) (hu:¬ Dn l k):QO n (l.setIfInBounds k true) < QO n l:=by
 refine K0 (fun i hi=>?_) (k:=k) (by simpa [Dn] using hu) ?_ _ (List.mem_range.2 hk)
 · cases hd:l.getD i false with
   | false=>rfl
   | true=>have:=gR (k:=k) (show Dn l i from hd); unfold Dn at this; rw [this] at hi; cases hi
 · have:=rD (l:=l) (k:=k) (by omega); unfold Dn at this; rw [this]; rfl
theorem RQ {n:Nat} {l:Array Bool} (h:QO n l=0):∀ i,i < n->Dn l i:=fun i hi=>by
 have:(List.range n).filter (fun i=>!l.getD i false)=[]:=List.eq_nil_of_length_eq_zero h
 have:=List.filter_eq_nil_iff.1 this i (List.mem_range.2 hi)
 simpa [Dn] using this
def over (ov:Nat->Option S) (fr:Fr):Fr:=fun i=>match ov i with
 | some s=>s
 | none=>fr i
theorem nV {ov:Nat->Option S} {fr:Fr} {i:Nat} (h:ov i=none):over ov fr i=fr i:=by unfold over; rw [h]
theorem uT {ov:Nat->Option S} {fr:Fr} {i:Nat} {s:S} (h:ov i=some s):over ov fr i=s:=by unfold over; rw [h]
theorem W5 {js:List J} {kd qs:List Nat} {j:J}:j ∈ EE js qs kd ↔ ∃ k ∈ qs,k ∉ kd/\js[k]? = some j:=by
 unfold EE
 rw [List.mem_filterMap]
 refine ⟨fun ⟨k,h1,h2⟩=>?_,fun ⟨k,h1,h2,h3⟩=>⟨k,h1,?_⟩⟩
 · split at h2
   · cases h2
   · rename_i hc
     exact ⟨k,h1,fun hk=>hc (by simpa using hk),h2⟩
 · rw [if_neg (by simpa using h2)]; exact h3
theorem RJ {js:List J} {kd kd' qs:List Nat} (h:∀ k,k ∈ kd ↔ k ∈ kd'):EE js qs kd=EE js qs kd':=by
 unfold EE
 have:∀ k,kd.contains k=kd'.contains k:=fun k=>by
  rw [Bool.eq_iff_iff]; simpa using h k
 simp only [this]
theorem KE {Γ:dP} {fr:Fr} {H:Hp}:∀ {l:List J},tP Γ l fr H ↔ ∀ j ∈ l,vJ Γ fr H (fun fr' _=>fr' j.dn=fr j.dn) j
 | []=>by simp [tP]
 | j :: r=>by simp only [tP,KE (l:=r),List.forall_mem_cons]
theorem GN {Γ:dP} {fr:Fr} {H:Hp} {K:Fr->Hp->Prop} {r:List OJ}:∀ {l:List J},vO Γ (l.map OJ.rc ++ r) fr H K ↔ tP Γ l fr H/\vO Γ r fr H K
 | []=>by simp [tP]
 | j :: l=>by simp only [List.map_cons,List.cons_append,vO,tP,GN (l:=l),and_assoc]
theorem GE {Γ:dP} {js:List J} {kd:List Nat} {fr:Fr} {H:Hp} {K:Fr->Hp->Prop} {r:List OJ} {qs:List Nat} (h:vO Γ (tM js qs kd ++ r) fr H K) :
 (∀ k ∈ qs,k ∉ kd->∀ j,js[k]? = some j->vJ Γ fr H (fun fr' _=>fr' j.dn=fr j.dn) j)/\vO Γ r fr H K:=by
 obtain ⟨h1,h2⟩:=GN.1 h
 exact ⟨fun k hk hn j hj=>KE.1 h1 j (W5.2 ⟨k,hk,hn,hj⟩),h2⟩
theorem A3 {ops:Array Oper} {js:List J}:∀ (l p:List Nat) (i k:Nat),l=p ++ [i,k]->mP ops js i [k]=true->sH ops js l=some (p ++ [k,i])
 | _,[],i,k,e,h=>by subst e; simp [sH,h]
 | _,[x],i,k,e,h=>by subst e; simp [sH,h]
 | _,x :: y :: p,i,k,e,h=>by
  subst e
  have:=A3 _ (y :: p) i k rfl h
  cases p with
  | nil=>simp only [List.cons_append,List.nil_append] at this ⊢; rw [sH,this]; rfl; intro a b; simp at b
  | cons z p=>simp only [List.cons_append] at this ⊢; rw [sH,this]; rfl; intro a b; simp at b
theorem yT {ops:Array Oper} {js:List J} {i:Nat} {r:List Nat} (h:mP ops js i r=true):∃ k,r=[k]/\eP ops js i=false/\jZ js i=false/\eP ops js k=false/\jZ js k=false/\mP ops js k [i]=true:=by
 unfold mP at h
 split at h
 · rename_i k
   simp only [Bool.and_eq_true,Bool.not_eq_true'] at h
   obtain ⟨⟨⟨⟨⟨h1,h2⟩,h3⟩,h4⟩,h5⟩,h6⟩:=h
   exact ⟨k,rfl,h1,h2,h3,h4,by simp [mP,h1,h2,h3,h4,h5,h6]⟩
 · cases h
abbrev Mk.S (m:Mk) (b:Nat):S:=.va (.c1 (.vl (m.v b)))
theorem aIM {i:EI} {m:Mk} (h:jK i=some m):m.ok:=by
 unfold jK at h
 split at h
 · cases h; intro sz hs; cases hs
 · split at h
   · rename_i hc; cases h; intro sz hs; cases hs; simpa using hc
   · cases h
 · cases h
theorem PI (v:Value):(A.ofV v).cells=v.cells.toList.map C.vl:=by cases v<;>rfl
theorem aIJ {fr:Fr} {H:Hp} {K:S->Hp->Prop} {i:EI} {m:Mk} (h:jK i=some m) (hv:vE fr H K i):K (m.s H.length) (H ++ [m.B]):=by
 unfold jK at h
 split at h
 · cases h; exact hv
 · rename_i T sz v
   split at h
   · cases h
     simp only [vE,rows,ev] at hv
     cases hs:S.ofV v with
     | va a=>
      rw [hs] at hv
      simp only at hv
      have ha:a=A.ofV v:=by
       unfold S.ofV at hs
       split at hs
       · cases hs
       · cases hs; rfl
      subst ha
      rw [PI] at hv
      exact hv.2
     | _=>rw [hs] at hv; exact hv.elim
   · cases h
 · cases h
theorem YG {P:Program} {w:World} {a:Act} {o:Oper} {t e:TypeId} {n:Nat} {x:Operand} {i:TypeInfo} {z:Value} (ho:o.op=.buildSlice t 1 #[(0,x)]) (ht:P.underlying t=some (.slice e))
 (hi:P.info? e=some i) (hz:i.zero=some z) (hzs:z.cells.size=i.size) (hsz:0 < i.size) (hb:i.size<=16777216) (hx:(a.eval x).cells.size=i.size) :
 (execOp a.eval o).run P w=.ok (.value (.slice (some ⟨w.heap.size,0,none⟩) 1 1)) (w.alloc (.cells (a.eval x).cells.toList.toArray e)):=by
 have hfill:=s9 (sz:=i.size) [a.eval x] [(a.eval x).cells.toList] 0 [] ((Array.range (1 * i.size)).map (fun j=>z.cells[j % z.cells.size]!)).toList rfl (by simp) (by simp) (by simp [hx])
  (fun j v r h1 h2=>by
    cases j with
    | zero=>simp at h1 h2; subst h1; subst h2; rfl
    | succ j=>simp at h1)
 simp only [List.nil_append,Array.toArray_toList] at hfill
 have h1:¬ (1 * i.size > 2 ^ 24):=by omega
 have h2:¬ (1 * i.size=0):=by omega
 simp only [execOp,ho,Instr.buildSlice]
 simp only [Sem.run_bind,underlying,run_program,Result.andThen_ok,ht,Sem.run_pure,sizeOf,typeInfo,hi,zeroValue,hz,h1,h2,if_false]
 have hzip:((#[(0,x)]:Array (Nat × Operand)).map fun (x:Nat × Operand)=>(x.1,a.eval x.2)).toList=(List.range' 0 [a.eval x].length).zip [a.eval x]:=by simp [List.range']
 rw [<-hzip] at hfill
 rw [hfill]
 simp [newRow]
theorem aBS {P:Program} {nw:Bool} {σ:CH} {o:Oper} {i:EI} {m:Mk} (hm:jK i=some m) (h:j1 P nw σ o.op=some (.e i)) {a:Act} {w:World}:(execOp a.eval o).run P w=.ok (.value (m.v w.heap.size)) (w.alloc (.cells m.cs.toArray m.T)):=by
 have hi:tO P o.op=some i:=by
  obtain ⟨i0,h0,h1 | h1⟩:=VM h
  · rw [h1]; exact h0
  · cases i0<;>simp only [EI.ext] at h1<;>subst h1<;>first | exact h0 | (simp [jK] at hm)
 cases ho:o.op<;>rw [ho] at hi<;>simp only [tO,reduceCtorEq,aH] at hi
 case alloc t=>
  split at hi<;>simp only [aH,reduceCtorEq] at hi
  rename_i z' hz
  subst hi
  cases hinf:P.info? t with
  | none=>simp [hinf] at hz
  | some inf=>
   simp only [hinf,Option.map_some,aH] at hz
   simp only [jK,aH] at hm
   subst hm
   simp [execOp,ho,Instr.alloc,zeroValue,typeInfo,hinf,hz,newVar,newRow,Mk.v]
 case store t x y=>split at hi<;>simp at hi; subst hi; simp [jK] at hm
 case box t x=>subst hi; simp [jK] at hm
 case makeMap t r=>
  split at hi
  · cases hi
  · split at hi
    · simp at hi; obtain ⟨_,_,rfl⟩:=hi; simp [jK] at hm
    · cases hi
 case makeSlice t x y=>
  split at hi<;>try (cases hi; done)
  split at hi<;>try (cases hi; done)
  split at hi<;>try (cases hi; done)
  split at hi<;>simp at hi
  subst hi; simp [jK] at hm
 case mapUpdate t q k v=>
  split at hi
  · simp at hi; obtain ⟨_,_,rfl⟩:=hi; simp [jK] at hm
  · cases hi
 case buildSlice t len parts=>
  split at hi<;>try (cases hi; done)
  rename_i e ht
  split at hi<;>try (cases hi; done)
  rename_i inf hinf
  split at hi<;>try (cases hi; done)
  rename_i z hz
  split at hi<;>simp only [aH,reduceCtorEq] at hi
  rename_i hc
  obtain ⟨c1,c2,c3,c4,c5,c6⟩:=hc
  subst hi
  unfold jK at hm
  split at hm
  · rename_i h0; cases h0
  · rename_i v h0
    simp only [EI.bsl.injEq] at h0
    obtain ⟨rfl,rfl,h3⟩:=h0
    split at hm<;>simp only [aH,reduceCtorEq] at hm
    rename_i hsz
    subst hm
    cases hp:parts.toList with
    | nil=>rw [hp] at h3; cases h3
    | cons p r=>
     rw [hp] at h3 c6
     simp only [List.map_cons,List.cons.injEq,List.map_eq_nil_iff] at h3
     obtain ⟨h3,rfl⟩:=h3
     obtain ⟨n,x⟩:=p
     have hlen:len=1:=by have:=congrArg List.length c6; simpa using this.symm
     subst hlen
     have hn:n=0:=by simpa using c6
     subst hn
     have hpa:parts=#[(0,x)]:=by rw [<-Array.toArray_toList (xs:=parts),hp]
     have hev:a.eval x=v:=by
      cases x with
      | tmp t=>cases h3
      | const u=>cases h3; rfl
      | global g=>cases h3; rfl
      | func f=>cases h3
     have:=YG (w:=w) (a:=a) (n:=0) (by rw [ho,hpa]) ht hinf hz c1 c2 (by omega) (by rw [hev]; exact hsz)
     rw [this,hev]
     simp [Mk.v]
  · cases hm
 case call c=>
  obtain ⟨cl,args,ats⟩:=c
  simp only at hi
  split at hi
  · split at hi<;>try (cases hi; done)
    split at hi<;>try (cases hi; done)
    split at hi<;>try (cases hi; done)
    split at hi
    · simp at hi; subst hi; simp [jK] at hm
    · split at hi<;>try (cases hi; done)
      split at hi<;>simp at hi<;>(subst hi; simp [jK] at hm)
  · split at hi<;>try (cases hi; done)
    split at hi<;>try (cases hi; done)
    split at hi<;>simp at hi
    subst hi; simp [jK] at hm
  · cases hi
structure OrdOk (P:Program) (nw:Bool) (N:Nat) (ops:Array Oper) (js:List J) (π:List Nat):Prop where
 jt:∀ (i:Nat) (o:Oper),ops[i]? = some o->∃ (j:J) (σ:CH),js[i]? = some j/\rG P nw N ops σ o=some j
 ck:∀ p i r,π=p ++ i :: r->Ck ops js p i r
 all:∀ i,i < ops.size->i ∈ π
structure Inv (X:Ctx) (Γ:dP) (ops:Array Oper) (js:List J) (π:List Nat) (K:Fr->Hp->Prop) (N:Nat) (ov:Nat->Option S) (qs kd:List Nat) (f:Nat) (rest pre:List Nat) (l:Array Bool) (fr:Fr) (E:Es) (ro:RO) (a:Act) (w:World):Prop where
 ord:π=pre ++ rest
 size:l.size=ops.size
 clo:∀ i k,Dn l i->Region.waitsFor .any ops i k=true->Dn l k
 pq:∀ i ∈ pre,eP ops js i=false->Dn l i
 ra:∀ i ∈ rest,Dn l i->jZ js i=true
 fuel:QO ops.size l<=f
 v1:∀ s,ov s ≠ none->∃ i,n8 js i=some s/\((i ∈ pre/\¬ Dn l i)\/(i ∈ rest/\Dn l i))
 v3:∀ i ∈ rest,Dn l i->∃ d ei m b,js[i]? = some ⟨some d,none,.e ei⟩/\jK ei=some m/\ov d=some (m.S b)/\Ea X E ro w m b
 fra:FRel N (gm E) ro (over ov fr) a
 rel:Rel X E ro w
 hqs:∀ i ∈ pre,eP ops js i=true->i ∈ qs
 hkd:∀ t ∈ kd,Dn l t
 vo:vO Γ (gB ops js qs kd rest) fr (hp E) K
 rc:∀ i ∈ pre,¬ Dn l i->∀ j,js[i]? = some j->vJ Γ fr (hp E) (fun fr' _=>fr' j.dn=fr j.dn) j
theorem Dn.lt {l:Array Bool} {i:Nat} (h:Dn l i):i < l.size:=by
 rcases bL i l.size with e | e
 · exact e
 · unfold Dn at h; simp [Array.getElem?_eq_none e] at h
theorem yO {ops:Array Oper} {js:List J} {i:Nat} (h:eP ops js i=true):∃ j o d,js[i]? = some j/\ops[i]? = some o/\j.quiet=true/\j.gix=false/\j.d=some d:=by
 unfold eP at h
 split at h
 · rename_i j o h1 h2
   unfold qOf at h
   simp only [Bool.and_eq_true,Bool.not_eq_true'] at h
   obtain ⟨d,hd⟩:=Option.isSome_iff_exists.1 h.1.2
   exact ⟨j,o,d,h1,h2,h.1.1.1,h.1.1.2,hd⟩
 · cases h
theorem GA {js:List J} {i:Nat} (h:jZ js i=true):∃ d ei m,js[i]? = some ⟨some d,none,.e ei⟩/\jK ei=some m:=by
 unfold jZ at h
 have h:=(Bool.and_eq_true_iff.1 h).2
 split at h
 · rename_i j hj
   unfold aOf at h
   split at h
   · obtain ⟨m,hm⟩:=Option.isSome_iff_exists.1 h
     exact ⟨_,_,m,hj,hm⟩
   · cases h
 · cases h
theorem SI {ops:Array Oper} {js:List J} {i:Nat} (h:jZ js i=true):eP ops js i=false:=by
 obtain ⟨d,ei,m,hj,_⟩:=GA h
 unfold eP
 rw [hj]
 split
 · rename_i j o h1 h2; cases h1; rfl
 · rfl
theorem kV {js:List J} {i:Nat} {j:J} {d:Nat} (h:js[i]? = some j) (hd:j.d=some d):n8 js i=some d:=by unfold n8; rw [h]; exact hd
theorem AC {js:List J} {i:Nat} {j:J} (h:js[i]? = some j):tK js i=j.rds:=by unfold tK; rw [h]
theorem FL {j:J} {d:Nat} (h:j.d=some d):j.dn=d:=by unfold J.dn; rw [h]; rfl
theorem yK {Γ:dP} {H:Hp} {j:J} {d:Nat} (hd:j.d=some d) {f1 f2:Fr} {s:S} (hA:∀ i ∈ j.rds,f1 i=f2 i):vJ Γ f1 H (fun fr' _=>fr' d=s) j=vJ Γ f2 H (fun fr' _=>fr' d=s) j:=by
 refine O7 (fun f1 f2=>∀ i ∈ j.rds,f1 i=f2 i) (fun _ _ h=>h) (fun f1 f2 sl s _ h i hi=>?_) (fun f1 f2 s' H' h=>?_) hA
 · simp only [put]; split
   · rfl
   · exact h i hi
 · rw [hd,eZ,eZ]
section
variable {P:Program} {N:Nat} {nw:Bool} {X:Ctx} {Γ:dP} {ops:Array Oper} {js:List J} {π:List Nat} {K:Fr->Hp->Prop} {ov:Nat->Option S} {qs kd:List Nat} {f:Nat} {rest pre:List Nat} {l:Array Bool} {fr:Fr} {E:Es} {ro:RO} {a:Act} {w:World}
theorem later {pre r:List Nat} {i k:Nat} (h:π=pre ++ i :: r) (hk:k ∈ r):∃ p r',π=p ++ k :: r'/\i ∈ p/\∀ x ∈ pre,x ∈ p:=by
 obtain ⟨r1,r2,rfl⟩:=List.append_of_mem hk
 exact ⟨pre ++ i :: r1,r2,by rw [h]; simp,by simp,fun x hx=>by simp [hx]⟩
theorem aIE (ok:OrdOk P nw N ops js π) {i:Nat} {r:List Nat} (h:Inv X Γ ops js π K N ov qs kd f (i :: r) pre l fr E ro a w) (hq:eP ops js i=true) (hu:¬ Dn l i) :
 ∃ fr' ov' qs',Inv X Γ ops js π K N ov' qs' kd f r (pre ++ [i]) l fr' E ro a w:=by
 have ck:=ok.ck pre i r h.ord
 obtain ⟨j,o,d,hj,ho,hqu,hgx,hd⟩:=yO hq
 have hds:=kV hj hd
 have hvo:=h.vo
 simp only [gB,hj,hq,if_true,vO] at hvo
 rw [FL hd,hd] at hvo
 obtain ⟨s,hΦ,hself⟩:=YW (Φ:=fun s=>vO Γ (gB ops js (qs ++ [i]) kd r) (put fr (some d) s) (hp E) K) hd hqu hgx hvo
 have hrd:∀ x ∈ j.rds,fr x=put fr (some d) s x:=fun x hx=>by
  have:x ≠ d:=fun e=>ck.own hq x (by rw [AC hj]; exact hx) (by rw [hds,e])
  simp [put,this]
 refine ⟨put fr (some d) s,fun k=>if k=d then some .un else ov k,qs ++ [i],?_⟩
 refine ⟨by rw [h.ord]; simp,h.size,h.clo,fun k hk hkq=>?_,fun k hk=>h.ra k (by simp [hk]),h.fuel,fun x hx=>?_,fun k hk hkd=>?_,h.fra.weak fun k=>?_,h.rel,fun k hk hkq=>?_,h.hkd,hΦ,fun k hk hku jk hjk=>?_⟩
 · rcases List.mem_append.1 hk with hk | hk
   · exact h.pq k hk hkq
   · rw [List.mem_singleton.1 hk,hq] at hkq; cases hkq
 · by_cases hxd:x=d
   · subst hxd; exact ⟨i,hds,.inl ⟨by simp,hu⟩⟩
   · simp only [hxd,if_false] at hx
     obtain ⟨k,h1,h2 | h2⟩:=h.v1 x hx
     · exact ⟨k,h1,.inl ⟨by simp [h2.1],h2.2⟩⟩
     · rcases List.mem_cons.1 h2.1 with rfl | h3
       · exact absurd h2.2 hu
       · exact ⟨k,h1,.inr ⟨h3,h2.2⟩⟩
 · obtain ⟨d',ei,m,b,h1,hmk,h2,h3⟩:=h.v3 k (by simp [hk]) hkd
   obtain ⟨p,r',e,hip,_⟩:=later h.ord hk
   have hne:d' ≠ d:=fun e2=>by
    subst e2
    exact (ok.ck p k r' e).ds d' (kV h1 rfl) i hip hds
   exact ⟨d',ei,m,b,h1,hmk,by simp only [hne,if_false]; exact h2,h3⟩
 · by_cases hkd:k=d
   · right; subst hkd; unfold over; simp
   · left
     unfold over
     simp only [hkd,if_false]
     cases ov k with
     | none=>simp [put,hkd]
     | some x=>rfl
 · rcases List.mem_append.1 hk with hk | hk
   · exact List.mem_append_left _ (h.hqs k hk hkq)
   · exact List.mem_append_right _ hk
 · rcases List.mem_append.1 hk with hk | hk
   · have hkq:eP ops js k=true:=by
      cases hc:eP ops js k with
      | true=>rfl
      | false=>exact absurd (h.pq k hk hc) hku
     obtain ⟨j',o',dk,hj',_,_,_,hdk⟩:=yO hkq
     obtain rfl:j'=jk:=by rw [hj'] at hjk; exact bK hjk
     have hne:dk ≠ d:=fun e=>ck.ds d hds k hk (by rw [<-e]; exact kV hj' hdk)
     have h0:=h.rc k hk hku j' hj'
     rw [FL hdk] at h0 ⊢
     have e1:put fr (some d) s dk=fr dk:=by simp [put,hne]
     rw [e1,<-yK hdk (f1:=fr) fun x hx=>?_]
     · exact h0
     · have:x ≠ d:=fun e=>ck.q1 (.inl hq) k hk x (by rw [AC hj']; exact hx) (by rw [hds,e])
       simp [put,this]
   · obtain rfl:=List.mem_singleton.1 hk
     obtain rfl:j=jk:=by rw [hj] at hjk; exact bK hjk
     rw [FL hd,eZ,<-yK hd hrd]
     exact hself
theorem UW (ok:OrdOk P nw N ops js π) {i:Nat} {r:List Nat} (h:Inv X Γ ops js π K N ov qs kd f (i :: r) pre l fr E ro a w) (hu:Dn l i) :
 ∃ fr' E' ov' kd',Inv X Γ ops js π K N ov' qs kd' f r (pre ++ [i]) l fr' E' ro a w:=by
 have ck:=ok.ck pre i r h.ord
 have ha:=h.ra i (by simp) hu
 obtain ⟨d,ei,m,b,hj,hmk,hov,hea⟩:=h.v3 i (by simp) hu
 have hds:=kV hj rfl
 have hnq:=SI (ops:=ops) ha
 have hvo:=h.vo
 have hnf:mP ops js i r=false:=by
  cases hf:mP ops js i r with
  | false=>rfl
  | true=>
   obtain ⟨_,_,_,h2,_⟩:=yT hf
   rw [ha] at h2; cases h2
 simp only [gB,hj,hnq,hnf,if_false,Bool.false_eq_true,vO] at hvo
 have hvo2:vO Γ (tM js qs (kd ++ iW ops i) ++ gB ops js qs (kd ++ iW ops i) r) (put fr (some d) (m.s (hp E).length)) (hp E ++ [m.B]) K:=aIJ hmk hvo.2
 obtain ⟨hrc,hvo3⟩:=GE hvo2
 have hkd:∀ t ∈ kd ++ iW ops i,Dn l t:=fun t ht=>by
  rcases List.mem_append.1 ht with ht | ht
  · exact h.hkd t ht
  · exact C4 (p:=Dn l) h.clo hu t ht
 have hslot:=h.fra.slot d
 rw [uT hov] at hslot
 have hslot':a.tmps.getD d undef=m.v b:=hslot
 refine ⟨put fr (some d) (m.s (hp E).length),E ++ [(m.g b,m.B)],fun k=>if k=d then none else ov k,kd ++ iW ops i,?_⟩
 have hmono:=h.fra.mono (d9 [(m.g b,m.B)]) (Ext.refl ro)
 refine ⟨by rw [h.ord]; simp,h.size,h.clo,fun k hk hkq=>?_,fun k hk=>h.ra k (by simp [hk]),h.fuel,fun x hx=>?_,fun k hk hkd=>?_,⟨hmono.size,fun k=>?_,hmono.defers⟩,h.rel.admE (aIM hmk) hea,fun k hk hkq=>?_,hkd,by rw [jB]; exact hvo3,fun k hk hku jk hjk=>?_⟩
 · rcases List.mem_append.1 hk with hk | hk
   · exact h.pq k hk hkq
   · rw [List.mem_singleton.1 hk]; exact hu
 · by_cases hxd:x=d
   · simp [hxd] at hx
   · simp only [hxd,if_false] at hx
     obtain ⟨k,h1,h2 | h2⟩:=h.v1 x hx
     · exact ⟨k,h1,.inl ⟨by simp [h2.1],h2.2⟩⟩
     · rcases List.mem_cons.1 h2.1 with rfl | h3
       · rw [hds] at h1; exact absurd (bK h1).symm hxd
       · exact ⟨k,h1,.inr ⟨h3,h2.2⟩⟩
 · obtain ⟨p,r',e,hip,_⟩:=later h.ord hk
   have:=(ok.ck p k r' e).a1 (h.ra k (by simp [hk]) hkd) i hip
   rw [ha] at this; cases this
 · by_cases hkd:k=d
   · subst hkd
     rw [nV (by simp),eZ,hslot']
     exact m.rel (by simp [gm,eX])
   · have:=hmono.slot k
     unfold over at this ⊢
     simp only [hkd,if_false]
     cases hovk:ov k with
     | none=>rw [hovk] at this; simp only [put,hkd,if_false]; exact this
     | some x=>rw [hovk] at this; exact this
 · rcases List.mem_append.1 hk with hk | hk
   · exact h.hqs k hk hkq
   · rw [List.mem_singleton.1 hk,hnq] at hkq; cases hkq
 · rcases List.mem_append.1 hk with hk | hk
   · have hkq:eP ops js k=true:=by
      cases hc:eP ops js k with
      | true=>rfl
      | false=>exact absurd (h.pq k hk hc) hku
     rw [jB]
     exact hrc k (h.hqs k hk hkq) (fun hin=>hku (hkd k hin)) jk hjk
   · rw [List.mem_singleton.1 hk] at hku; exact absurd hu hku
theorem Inv.swap {i k:Nat} (h:Inv X Γ ops js π K N ov qs kd f [i,k] pre l fr E ro a w) (hf:mP ops js i [k]=true):Inv X Γ ops js (pre ++ [k,i]) K N ov qs kd f [k,i] pre l fr E ro a w:=by
 obtain ⟨_,e,h1,h2,h3,h4,h5⟩:=yT hf
 cases e
 have hm:∀ x,x ∈ [k,i]->x ∈ [i,k]:=fun x hx=>by simp at hx ⊢; exact hx.symm
 have hvo:=h.vo
 refine ⟨rfl,h.size,h.clo,h.pq,fun x hx=>h.ra x (hm x hx),h.fuel,fun s hs=>?_,fun x hx=>h.v3 x (hm x hx),h.fra,h.rel,h.hqs,h.hkd,?_,h.rc⟩
 · obtain ⟨x,e1,e2 | e2⟩:=h.v1 s hs
   · exact ⟨x,e1,.inl e2⟩
   · exact ⟨x,e1,.inr ⟨by have:=e2.1; simp at this ⊢; exact this.symm,e2.2⟩⟩
 · simp only [gB,h1,h3,hf,h5,if_true,if_false,Bool.false_eq_true] at hvo ⊢
   cases hi:js[i]? with
   | none=>rw [hi] at hvo; cases hk:js[k]? with
    | none=>exact hvo
    | some jk=>exact hvo
   | some ji=>
    cases hk:js[k]? with
    | none=>rw [hi,hk] at hvo; exact hvo
    | some jk=>
     rw [hi,hk] at hvo
     simp only [vO] at hvo ⊢
     have e:tM js qs (kd ++ iW ops k ++ iW ops i)=tM js qs (kd ++ iW ops i ++ iW ops k):=by
      unfold tM
      rw [RJ fun x=>?_]
      simp only [List.mem_append]
      constructor<;>(rintro ((h | h) | h)<;>simp [h])
     rw [e]
     exact ⟨hvo.2,hvo.1⟩
theorem II (ok:OrdOk P nw N ops js π) (h:Inv X Γ ops js π K N ov qs kd f rest pre l fr E ro a w) {k:Nat} {p r:List Nat} (e:π=p ++ k :: r) (hp:∀ x ∈ p,x ∈ pre\/¬ Dn l x) (hpre:k ∈ pre\/∃ r',rest=k :: r') (hu:¬ Dn l k)
 (hw:∀ t,Region.waitsFor .any ops k t=true->Dn l t):∀ s ∈ tK js k,ov s=none:=by
 have ck:=ok.ck p k r e
 intro s hs
 cases hov:ov s with
 | none=>rfl
 | some x=>
  exfalso
  obtain ⟨i,h1,h2⟩:=h.v1 s (by rw [hov]; simp)
  have hanc:∀ t ∈ iW ops k,t=k\/Dn l t:=C4 (p:=fun t=>t=k\/Dn l t) (fun i t hi hwt=>by
   rcases hi with rfl | hi
   · exact .inr (hw t hwt)
   · exact .inr (h.clo i t hi hwt)) (.inl rfl)
  have hiπ:i ∈ p\/i=k\/i ∈ r:=by
   have:i ∈ π:=by
    rw [h.ord]
    rcases h2 with h2 | h2
    · exact List.mem_append_left _ h2.1
    · exact List.mem_append_right _ h2.1
   rw [e] at this
   rcases List.mem_append.1 this with h | h
   · exact .inl h
   · exact .inr (List.mem_cons.1 h)
  have hik:eP ops js i=true\/jZ js i=true:=by
   rcases h2 with h2 | h2
   · cases hc:eP ops js i with
     | true=>exact .inl rfl
     | false=>exact absurd (h.pq i h2.1 hc) h2.2
   · exact .inr (h.ra i h2.1 h2.2)
  rcases hiπ with hi | hi | hi
  · rcases h2 with h2 | h2
    · have hq:eP ops js i=true:=by
       cases hc:eP ops js i with
       | true=>rfl
       | false=>exact absurd (h.pq i h2.1 hc) h2.2
      rcases hanc i (ck.rd i hi s hs h1 hq) with e1 | e1
      · subst e1; exact ck.new hi
      · exact h2.2 e1
    · rcases hp i hi with h3 | h3
      ·
       obtain ⟨q1,q2,eq⟩:=List.append_of_mem h2.1
       have:=(ok.ck (pre ++ q1) i q2 (by rw [h.ord,eq]; simp)).new
       exact this (List.mem_append_left _ h3)
      · exact h3 h2.2
  · subst hi
    rcases h2 with h2 | h2
    · have hq:eP ops js i=true:=by
       cases hc:eP ops js i with
       | true=>rfl
       | false=>exact absurd (h.pq i h2.1 hc) h2.2
      exact ck.own hq s hs h1
    · exact hu h2.2
  · obtain ⟨p',r',e',hkp,_⟩:=later e hi
    exact (ok.ck p' i r' e').q1 hik k hkp s hs h1
end
section
variable {P:Program} {N:Nat} {nw:Bool} {X:Ctx} {Γ:dP} {ops:Array Oper} {js:List J} {π:List Nat} {K:Fr->Hp->Prop} {ov:Nat->Option S} {qs kd:List Nat} {f:Nat} {rest pre:List Nat} {l:Array Bool} {fr:Fr} {E:Es} {ro:RO} {a:Act} {w:World}
theorem m3 {k:Nat} (h:k ∈ Region.ready .any ops l):¬ Dn l k/\∃ o,ops[k]? = some o/\(∀ t,Region.waitsFor .any ops k t=true->Dn l t):=by
 obtain ⟨h1,o,h2,h3⟩:=mem_ready.1 h
 refine ⟨fun hd=>?_,o,h2,fun t ht=>?_⟩
 · have:=getD_both h1
   unfold Dn at hd
   rw [hd] at this; cases this
 · obtain ⟨o',ho',e,he,hb,hon⟩:=Region.waitsFor_spec ht
   cases h2.symm.trans ho'
   rw [<-hon]; exact h3 e he hb
theorem w4 {k:Nat} (hclo:∀ i k,Dn l i->Region.waitsFor .any ops i k=true->Dn l k) (hw:∀ t,Region.waitsFor .any ops k t=true->Dn l t):∀ i t,Dn (l.setIfInBounds k true) i->Region.waitsFor .any ops i t=true->Dn (l.setIfInBounds k true) t:=fun i t hi ht=>by
 rcases gH hi with hi | rfl
 · exact gR (hclo i t hi ht)
 · exact gR (hw t ht)
theorem WO (ok:OrdOk P nw N ops js π) (h:Inv X Γ ops js π K N ov qs kd (f + 1) rest pre l fr E ro a w) {Q':Exit->Act->World->Prop} {k:Nat} (hk:k ∈ pre) (hr:k ∈ Region.ready .any ops l) :
 wpOp P ops Q' k (fun a' w'=>∃ ov',Inv X Γ ops js π K N ov' qs kd f rest pre (l.setIfInBounds k true) fr E ro a' w') a w:=by
 obtain ⟨hu,o,ho,hw⟩:=m3 hr
 have hkq:eP ops js k=true:=by
  cases hc:eP ops js k with
  | true=>rfl
  | false=>exact absurd (h.pq k hk hc) hu
 obtain ⟨p,r1,epre⟩:=List.append_of_mem hk
 have e:π=p ++ k :: (r1 ++ rest):=by rw [h.ord,epre]; simp
 have ck:=ok.ck p k _ e
 obtain ⟨j,o',d,hj,ho',hqu,hgx,hd⟩:=yO hkq
 obtain ⟨j',σ,hj',htr⟩:=ok.jt k o ho
 obtain rfl:j=j':=by rw [hj] at hj'; exact bK hj'
 have hfree:=II ok h e (fun x hx=>.inl (by rw [epre]; exact List.mem_append_left _ hx)) (.inl hk) hu hw
 rw [AC hj] at hfree
 obtain ⟨_,_,hdst,hN⟩:=m5 htr
 have h0:=h.rc k hk hu j hj
 rw [FL hd,yK hd (f2:=over ov fr) fun x hx=>(nV (hfree x hx)).symm] at h0
 have hq:=pA h.fra h.rel htr hqu h0
 have hod:o.dst=some d:=by rw [<-hdst,hd]
 have hin:k < l.size:=by rw [h.size]; exact ck.lt
 have fr_ok:∀ {fr1:Fr} {v:Value},fr1 d=fr d->FRel N (gm E) ro fr1 (a.put o.dst v)->Inv X Γ ops js π K N (fun x=>if x=d then none else ov x) qs kd f rest pre (l.setIfInBounds k true) fr E ro (a.put o.dst v) w:=fun {fr1 v} e1 hf1=>by
  have hput:=h.fra.put (d:=o.dst) hN (s:=.un) (v:=v) trivial
  refine ⟨h.ord,by rw [Array.size_setIfInBounds]; exact h.size,w4 h.clo hw,fun i hi hiq=>gR (h.pq i hi hiq),fun i hi hid=>?_,?_,fun x hx=>?_,fun i hi hid=>?_,⟨hput.size,fun x=>?_,hput.defers⟩,h.rel,h.hqs,fun t ht=>gR (h.hkd t ht),h.vo,fun i hi hiu jj hjj=>h.rc i hi (fun hd=>hiu (gR hd)) jj hjj⟩
  · rcases gH hid with h1 | rfl
    · exact h.ra i hi h1
    · obtain ⟨q1,q2,eq⟩:=List.append_of_mem hi
      have:=(ok.ck (pre ++ q1) i q2 (by rw [h.ord,eq]; simp)).new
      exact absurd (List.mem_append_left _ hk) this
  · have:=C2 (n:=ops.size) ck.lt h.size hu; have:=h.fuel; omega
  · by_cases hxd:x=d
    · simp [hxd] at hx
    · simp only [hxd,if_false] at hx
      obtain ⟨i,h1,h2 | h2⟩:=h.v1 x hx
      · refine ⟨i,h1,.inl ⟨h2.1,fun hid=>?_⟩⟩
        rcases gH hid with h3 | rfl
        · exact h2.2 h3
        · rw [kV hj hd] at h1; exact hxd (bK h1).symm
      · exact ⟨i,h1,.inr ⟨h2.1,gR h2.2⟩⟩
  · have hdi:Dn l i:=by
     rcases gH hid with h1 | rfl
     · exact h1
     · obtain ⟨q1,q2,eq⟩:=List.append_of_mem hi
       have:=(ok.ck (pre ++ q1) i q2 (by rw [h.ord,eq]; simp)).new
       exact absurd (List.mem_append_left _ hk) this
    obtain ⟨d',ei,m,b,h1,hmk,h2,h3⟩:=h.v3 i hi hdi
    have hne:d' ≠ d:=fun e2=>by
     subst e2
     obtain ⟨q1,q2,eq⟩:=List.append_of_mem hi
     exact (ok.ck (pre ++ q1) i q2 (by rw [h.ord,eq]; simp)).ds d' (kV h1 rfl) k (List.mem_append_left _ hk) (kV hj hd)
    exact ⟨d',ei,m,b,h1,hmk,by simp only [hne,if_false]; exact h2,h3⟩
  · by_cases hxd:x=d
    · subst hxd
      rw [nV (by simp),<-e1]
      exact hf1.slot x
    · have:=hput.slot x
      rw [hod] at this ⊢
      simp only [W.put,hxd,if_false] at this
      unfold over at this ⊢
      simp only [hxd,if_false]
      exact this
 unfold wpOp
 simp only [ho]
 split
 · rename_i hwt
   rw [if_pos hwt] at hq
   obtain ⟨fr1,e1,v,hf1,hrun⟩:=hq
   refine .inl ?_
   unfold Oper.wp
   rw [hrun w h.rel,Oper.upon_value]
   exact ⟨_,fr_ok e1 hf1⟩
 · rename_i hwt
   rw [if_neg hwt] at hq
   obtain ⟨fr1,e1,hf1⟩:=hq
   exact ⟨_,fr_ok e1 hf1⟩
theorem aHP (ok:OrdOk P nw N ops js π) (h:Inv X Γ ops js π K N ov qs kd (f + 1) rest pre l fr E ro a w) {Q':Exit->Act->World->Prop} {k:Nat} (hk:k ∈ rest) (ha:jZ js k=true) (hr:k ∈ Region.ready .any ops l) :
 wpOp P ops Q' k (fun a' w'=>∃ ov',Inv X Γ ops js π K N ov' qs kd f rest pre (l.setIfInBounds k true) fr E ro a' w') a w:=by
 obtain ⟨hu,o,ho,hw⟩:=m3 hr
 obtain ⟨d,ei,m,hj,hmk⟩:=GA ha
 obtain ⟨j',σ,hj',htr⟩:=ok.jt k o ho
 obtain rfl:⟨some d,none,.e ei⟩=j':=by rw [hj] at hj'; exact bK hj'
 obtain ⟨hi,hg,hdst,hN⟩:=m5 htr
 have hgn:o.guard=none:=by
  cases hgd:o.guard with
  | none=>rfl
  | some gw=>
   obtain ⟨k',want⟩:=gw
   rw [hgd] at hg
   simp only [xO] at hg
   split at hg<;>simp at hg
 obtain ⟨q1,q2,eq⟩:=List.append_of_mem hk
 have eπ:π=(pre ++ q1) ++ k :: q2:=by rw [h.ord,eq]; simp
 have ck:=ok.ck _ k q2 eπ
 have hod:o.dst=some d:=hdst.symm
 have hds:=kV hj rfl
 have hrun:=aBS hmk hi (a:=a) (w:=w)
 unfold wpOp
 simp only [ho]
 rw [if_pos (eF hgn _)]
 refine .inl ?_
 unfold Oper.wp
 rw [hrun,Oper.upon_value]
 refine ⟨fun x=>if x=d then some (m.S w.heap.size) else ov x,?_⟩
 have hput:=h.fra.put (d:=o.dst) hN (s:=m.S w.heap.size) (v:=m.v w.heap.size) rfl
 have hrel:Rel X E ro (w.alloc (.cells m.cs.toArray m.T)):=h.rel.grown (jH w _) (iM w _) rfl rfl rfl
 have only:∀ i ∈ rest,Dn l i->False:=fun i hi hid=>by
  have hai:=h.ra i hi hid
  have:i ≠ k:=fun e=>hu (e ▸ hid)
  rw [eq] at hi
  rcases List.mem_append.1 hi with hi | hi
  · have:=ck.a1 ha i (List.mem_append_right _ hi)
    rw [hai] at this; cases this
  · rcases List.mem_cons.1 hi with hi | hi
    · exact this hi
    · obtain ⟨p,r',e,hip,_⟩:=later eπ hi
      have:=(ok.ck p i r' e).a1 hai k hip
      rw [ha] at this; cases this
 refine ⟨h.ord,by rw [Array.size_setIfInBounds]; exact h.size,w4 h.clo hw,fun i hi hiq=>gR (h.pq i hi hiq),fun i hi hid=>?_,?_,fun x hx=>?_,fun i hi hid=>?_,⟨hput.size,fun x=>?_,hput.defers⟩,hrel,h.hqs,fun t ht=>gR (h.hkd t ht),h.vo,fun i hi hiu jj hjj=>h.rc i hi (fun hd=>hiu (gR hd)) jj hjj⟩
 · rcases gH hid with h1 | rfl
   · exact h.ra i hi h1
   · exact ha
 · have:=C2 (n:=ops.size) ck.lt h.size hu; have:=h.fuel; omega
 · by_cases hxd:x=d
   · subst hxd
     exact ⟨k,hds,.inr ⟨hk,rD (by rw [h.size]; exact ck.lt)⟩⟩
   · simp only [hxd,if_false] at hx
     obtain ⟨i,h1,h2 | h2⟩:=h.v1 x hx
     · refine ⟨i,h1,.inl ⟨h2.1,fun hid=>?_⟩⟩
       rcases gH hid with h3 | rfl
       · exact h2.2 h3
       · exact ck.new (List.mem_append_left _ h2.1)
     · exact ⟨i,h1,.inr ⟨h2.1,gR h2.2⟩⟩
 · rcases gH hid with h1 | rfl
   · exact (only i hi h1).elim
   · refine ⟨d,ei,m,w.heap.size,hj,hmk,by simp,heap_alloc_new w _,h.rel.sz,fun n g blk hn hl hob=>?_,fun off v hv=>?_⟩
     · have:=(h.rel.own n g blk hn).lt hl hob; omega
     · have:=h.rel.cell_lt hv; omega
 · have:=hput.slot x
   rw [hod] at this ⊢
   by_cases hxd:x=d
   · subst hxd
     rw [uT (s:=m.S w.heap.size) (by simp)]
     rw [eZ] at this
     exact this
   · simp only [W.put,hxd,if_false] at this
     unfold over at this ⊢
     simp only [hxd,if_false]
     exact this
theorem OQ (ok:OrdOk P nw N ops js π) (hm:MeetsIn P X Γ) {i:Nat} {r:List Nat} (h:Inv X Γ ops js π K N ov qs kd (f + 1) (i :: r) pre l fr E ro a w) {Q':Exit->Act->World->Prop} (hnq:eP ops js i=false) (hvo:∀ j,js[i]? = some j->vO Γ (.m j :: (tM js qs (kd ++ iW ops i) ++ gB ops js qs (kd ++ iW ops i) r)) fr (hp E) K) (hr:i ∈ Region.ready .any ops l) :
 wpOp P ops Q' i (fun a' w'=>∃ fr' E' ro' kd',Inv X Γ ops js π K N ov qs kd' f r (pre ++ [i]) (l.setIfInBounds i true) fr' E' ro' a' w') a w:=by
 obtain ⟨hu,o,ho,hw⟩:=m3 hr
 have ck:=ok.ck pre i r h.ord
 obtain ⟨j,σ,hj,htr⟩:=ok.jt i o ho
 have hfree:=II ok h h.ord (fun x hx=>.inl hx) (.inr ⟨r,rfl⟩) hu hw
 rw [AC hj] at hfree
 have hvo:=hvo j hj
 simp only [vO] at hvo
 have hdfree:∀ d,j.d=some d->ov d=none:=fun d hd=>by
  cases hov:ov d with
  | none=>rfl
  | some x=>
   exfalso
   obtain ⟨k,h1,h2 | h2⟩:=h.v1 d (by rw [hov]; simp)
   · exact ck.ds d (kV hj hd) k h2.1 h1
   · rcases List.mem_cons.1 h2.1 with rfl | h3
     · exact hu h2.2
     · obtain ⟨p,r',e,hip,_⟩:=later h.ord h3
       exact (ok.ck p k r' e).ds d h1 i hip (kV hj hd)
 obtain ⟨KK,hKK⟩:∃ KK:Fr->Hp->Prop,KK=fun fr' H'=>vO Γ (tM js qs (kd ++ iW ops i) ++ gB ops js qs (kd ++ iW ops i) r) fr' H' K:=⟨_,rfl⟩
 rw [<-hKK] at hvo
 let res:Fr->Fr:=fun f1 x=>match ov x with | some _=>fr x | none=>f1 x
 have hv1:vJ Γ (over ov fr) (hp E) (fun f1 H'=>KK (res f1) H'/\∀ x s,ov x=some s->f1 x=s) j:=by
  rw [O7 (K2:=KK) (f2:=fr) (fun f1 f2=>∀ x,(ov x=none->f1 x=f2 x)/\∀ s,ov x=some s->f1 x=s/\f2 x=fr x) (fun f1 f2 hR x hx=>(hR x).1 (hfree x hx)) (fun f1 f2 sl s hg hR x=>?_) (fun f1 f2 s H' hR=>?_) (fun x=>⟨fun hx=>nV hx,fun s hs=>⟨uT hs,rfl⟩⟩)]
  · exact hvo
  · have hsl:ov sl=none:=by
     obtain ⟨w',hg⟩:=hg
     exact hfree sl (by unfold J.rds; rw [hg]; simp)
    simp only [put]
    refine ⟨fun hx=>?_,fun s' hs'=>?_⟩
    · split
      · rfl
      · exact (hR x).1 hx
    · have:x ≠ sl:=fun e=>by rw [e,hsl] at hs'; cases hs'
      simp only [this,if_false]
      exact (hR x).2 s' hs'
  · have e1:res (put f1 j.d s)=put f2 j.d s:=by
     funext x
     simp only [res]
     cases hov:ov x with
     | none=>
      simp only
      cases hjd:j.d with
      | none=>exact (hR x).1 hov
      | some d=>
       simp only [put]; split
       · rfl
       · exact (hR x).1 hov
     | some s'=>
      simp only
      cases hjd:j.d with
      | none=>exact ((hR x).2 s' hov).2.symm
      | some d=>
       have:x ≠ d:=fun e=>by rw [e,hdfree d hjd] at hov; cases hov
       simp only [put,this,if_false]
       exact ((hR x).2 s' hov).2.symm
    have e2:∀ x s',ov x=some s'->put f1 j.d s x=s':=fun x s' hov=>by
     cases hjd:j.d with
     | none=>exact ((hR x).2 s' hov).1
     | some d=>
      have:x ≠ d:=fun e=>by rw [e,hdfree d hjd] at hov; cases hov
      simp only [put,this,if_false]
      exact ((hR x).2 s' hov).1
    simp only [e1]
    exact propext ⟨fun h=>h.1,fun h=>⟨h,e2⟩⟩
 have step:=B4 (Q:=Q') (next:=fun a' w'=>∃ fr' E' ro' kd',Inv X Γ ops js π K N ov qs kd' f r (pre ++ [i]) (l.setIfInBounds i true) fr' E' ro' a' w') h.fra h.rel.here (hm.here h.rel) htr hv1 (fun fr1 E' ro' a' w' hK1 hf1 hr1=>by
  obtain ⟨hK1,hov1⟩:=hK1
  rw [hKK] at hK1
  obtain ⟨hrc,hvo3⟩:=GE hK1
  have hover:over ov (res fr1)=fr1:=by
   funext x
   unfold over
   simp only [res]
   cases hov:ov x with
   | none=>rfl
   | some s=>exact (hov1 x s hov).symm
  have hkd:∀ t ∈ kd ++ iW ops i,Dn (l.setIfInBounds i true) t:=fun t ht=>by
   rcases List.mem_append.1 ht with ht | ht
   · exact gR (h.hkd t ht)
   · exact C4 (p:=Dn (l.setIfInBounds i true)) (w4 h.clo hw) (rD (by rw [h.size]; exact ck.lt)) t ht
  have hir:∀ k ∈ r,k ≠ i:=fun k hk e=>by
   obtain ⟨p,r',e',hip,_⟩:=later h.ord hk
   exact (ok.ck p k r' e').new (by rw [e]; exact hip)
  refine ⟨res fr1,E',ro',kd ++ iW ops i,⟨by rw [h.ord]; simp,by rw [Array.size_setIfInBounds]; exact h.size,w4 h.clo hw,fun k hk hkq=>?_,fun k hk hkd=>?_,?_,fun x hx=>?_,fun k hk hkd=>?_,by rw [hover]; exact hf1,h.rel.thru hr1,fun k hk hkq=>?_,hkd,hvo3,fun k hk hku jk hjk=>?_⟩⟩
  · rcases List.mem_append.1 hk with hk | hk
    · exact gR (h.pq k hk hkq)
    · rw [List.mem_singleton.1 hk]; exact rD (by rw [h.size]; exact ck.lt)
  · rcases gH hkd with h1 | h1
    · exact h.ra k (by simp [hk]) h1
    · exact absurd h1 (hir k hk)
  · have:=C2 (n:=ops.size) ck.lt h.size hu; have:=h.fuel; omega
  · obtain ⟨k,h1,h2 | h2⟩:=h.v1 x hx
    · refine ⟨k,h1,.inl ⟨by simp [h2.1],fun hkd=>?_⟩⟩
      rcases gH hkd with h3 | rfl
      · exact h2.2 h3
      · exact ck.new h2.1
    · rcases List.mem_cons.1 h2.1 with rfl | h3
      · exact absurd h2.2 hu
      · exact ⟨k,h1,.inr ⟨h3,gR h2.2⟩⟩
  · have hdk:Dn l k:=by
     rcases gH hkd with h1 | h1
     · exact h1
     · exact absurd h1 (hir k hk)
    obtain ⟨d',ei,m,b,h1,hmk,h2,h3⟩:=h.v3 k (by simp [hk]) hdk
    exact ⟨d',ei,m,b,h1,hmk,h2,h3.keep hr1⟩
  · rcases List.mem_append.1 hk with hk | hk
    · exact h.hqs k hk hkq
    · rw [List.mem_singleton.1 hk,hnq] at hkq; cases hkq
  · have hkp:k ∈ pre:=by
     rcases List.mem_append.1 hk with hk | hk
     · exact hk
     · rw [List.mem_singleton.1 hk] at hku; exact absurd (rD (by rw [h.size]; exact ck.lt)) hku
    have hkq:eP ops js k=true:=by
     cases hc:eP ops js k with
     | true=>rfl
     | false=>exact absurd (gR (h.pq k hkp hc)) hku
    exact hrc k (h.hqs k hkp hkq) (fun hin=>hku (hkd k hin)) jk hjk)
 unfold wpOp
 simp only [ho]
 split
 · rename_i hwt
   rw [if_pos hwt] at step
   exact .inl step
 · rename_i hwt
   rw [if_neg hwt] at step
   exact step
theorem vU (l:Array Bool):∀ q:List Nat,(∀ i ∈ q,Dn l i)\/∃ p i r,q=p ++ i :: r/\(∀ k ∈ p,Dn l k)/\¬ Dn l i
 | []=>.inl fun i hi=>by cases hi
 | x :: q=>by
  by_cases hx:Dn l x
  · rcases vU l q with h | ⟨p,i,r,h1,h2,h3⟩
    · exact .inl fun i hi=>by rcases List.mem_cons.1 hi with rfl | hi; exact hx; exact h i hi
    · exact .inr ⟨x :: p,i,r,by rw [h1]; rfl,fun k hk=>by rcases List.mem_cons.1 hk with rfl | hk; exact hx; exact h2 k hk,h3⟩
  · exact .inr ⟨[],x,q,rfl,fun k hk=>(by cases hk),hx⟩
theorem xE (ok:OrdOk P nw N ops js π) (hs:l.size=ops.size) (h:Region.ready .any ops l=[]):∀ i ∈ π,Dn l i:=by
 rcases vU l π with hd | ⟨p,i,r,e,h1,h2⟩
 · exact hd
 · exfalso
   have ck:=ok.ck p i r e
   have hlt:=ck.lt
   have ho:ops[i]? = some ops[i]:=Array.getElem?_eq_getElem hlt
   have:i ∈ Region.ready .any ops l:=mem_ready.2 ⟨getD_in (by rw [hs]; exact ck.lt) (by
    cases hd:l.getD i false with
    | false=>rfl
    | true=>exact absurd hd h2),_,ho,fun e he hb=>h1 _ (ck.wt _ ho e he hb)⟩
   rw [h] at this; cases this
theorem RS (hm:MeetsIn P X Γ) {Q':Exit->Act->World->Prop} (hQ:∀ fr E ro a w,K fr (hp E)->FRel N (gm E) ro fr a->Rel X E ro w->Q' .normal a w) :
 ∀ (f:Nat) (π:List Nat),OrdOk P nw N ops js π->(∀ p i k,π=p ++ [i,k]->mP ops js i [k]=true->OrdOk P nw N ops js (p ++ [k,i]))->∀ (rest pre:List Nat) (l:Array Bool) (fr:Fr) (E:Es) (ro:RO) (a:Act) (w:World) (ov:Nat->Option S) (qs kd:List Nat),Inv X Γ ops js π K N ov qs kd f rest pre l fr E ro a w->wpAny P .any ops Q' f l a w:=by
 have fin:∀ (f:Nat) (π:List Nat) (ok:OrdOk P nw N ops js π) (rest pre:List Nat) (l:Array Bool) (fr:Fr) (E:Es) (ro:RO) (a:Act) (w:World) (ov:Nat->Option S) (qs kd:List Nat),Inv X Γ ops js π K N ov qs kd f rest pre l fr E ro a w->(∀ i ∈ π,Dn l i)->Q' .normal a w:=by
  intro f π ok rest
  induction rest with
  | nil=>
   intro pre l fr E ro a w ov qs kd h hd
   have hov:∀ x,ov x=none:=fun x=>by
    cases hov:ov x with
    | none=>rfl
    | some s=>
     obtain ⟨i,_,h2 | h2⟩:=h.v1 x (by rw [hov]; simp)
     · exact absurd (hd i (by rw [h.ord]; simp [h2.1])) h2.2
     · cases h2.1
   have he:over ov fr=fr:=funext fun x=>nV (hov x)
   have hf:=h.fra
   rw [he] at hf
   exact hQ fr E ro a w h.vo hf h.rel
  | cons i r ih=>
   intro pre l fr E ro a w ov qs kd h hd
   obtain ⟨fr',E',ov',kd',h'⟩:=UW ok h (hd i (by rw [h.ord]; simp))
   exact ih _ _ _ _ _ _ _ _ _ _ h' hd
 intro f
 induction f with
 | zero=>
  intro π ok hG rest pre l fr E ro a w ov qs kd h
  have hd:∀ i ∈ π,Dn l i:=fun i hi=>RQ (Nat.le_zero.1 h.fuel) i (by
   obtain ⟨p,r,e⟩:=List.append_of_mem hi
   exact (ok.ck p i r e).lt)
  refine ⟨?_,fin _ _ ok _ _ _ _ _ _ _ _ _ _ _ h hd⟩
  cases hr:Region.ready .any ops l with
  | nil=>rfl
  | cons k ks=>
   obtain ⟨hu,o,ho,_⟩:=m3 (ops:=ops) (l:=l) (k:=k) (by rw [hr]; simp)
   exact absurd (hd k (ok.all k (Array.getElem?_eq_some_iff.1 ho).1)) hu
 | succ f ih=>
  intro π ok hG rest
  induction rest with
  | nil=>
   intro pre l fr E ro a w ov qs kd h
   refine ⟨fun hr=>fin _ _ ok _ _ _ _ _ _ _ _ _ _ _ h (xE ok h.size hr),fun k hk=>?_⟩
   obtain ⟨hu,o,ho,_⟩:=m3 hk
   have hkp:k ∈ pre:=by
    have:=ok.all k (Array.getElem?_eq_some_iff.1 ho).1
    rw [h.ord] at this; simpa using this
   exact wpOp_mono (fun a' w' ⟨ov',h'⟩=>ih π ok hG _ _ _ _ _ _ _ _ _ _ _ h') (WO ok h hkp hk)
  | cons i r ihr=>
   intro pre l fr E ro a w ov qs kd h
   by_cases hd:Dn l i
   · obtain ⟨fr',E',ov',kd',h'⟩:=UW ok h hd
     exact ihr _ _ _ _ _ _ _ _ _ _ h'
   · cases hq:eP ops js i with
     | true=>
      obtain ⟨fr',ov',qs',h'⟩:=aIE ok h hq hd
      exact ihr _ _ _ _ _ _ _ _ _ _ h'
     | false=>
      refine ⟨fun hr=>absurd (xE ok h.size hr i (by rw [h.ord]; simp)) hd,fun k hk=>?_⟩
      obtain ⟨hu,o,ho,hw⟩:=m3 hk
      have hkπ:=ok.all k (Array.getElem?_eq_some_iff.1 ho).1
      rw [h.ord] at hkπ
      rcases List.mem_append.1 hkπ with hkp | hkr
      · exact wpOp_mono (fun a' w' ⟨ov',h'⟩=>ih π ok hG _ _ _ _ _ _ _ _ _ _ _ h') (WO ok h hkp hk)
      · cases hak:jZ js k with
        | true=>exact wpOp_mono (fun a' w' ⟨ov',h'⟩=>ih π ok hG _ _ _ _ _ _ _ _ _ _ _ h') (aHP ok h hkr hak hk)
        | false=>
         have hvo:=h.vo
         cases hnf:mP ops js i r with
         | true=>
          obtain ⟨k',rfl,h1,h2,h3,h4,h5⟩:=yT hnf
          have hG2:∀ p i0 k0,pre ++ [k',i]=p ++ [i0,k0]->mP ops js i0 [k0]=true->OrdOk P nw N ops js (p ++ [k0,i0]):=fun p i0 k0 e _=>by
           obtain ⟨rfl,e2⟩:=List.append_inj' e rfl
           obtain ⟨rfl,rfl⟩:k'=i0/\i=k0:=by simpa using e2
           have:=h.ord; subst this; exact ok
          obtain ⟨ji,_,eji,_⟩:=ok.jt i _ (Array.getElem?_eq_getElem (ok.ck pre i [k'] h.ord).lt)
          obtain ⟨jk,_,ejk,_⟩:=ok.jt k' _ (Array.getElem?_eq_getElem (ok.ck (pre ++ [i]) k' [] (by rw [h.ord]; simp)).lt)
          have tl:∀ (x y:Nat) (jx jy:J),js[x]? = some jx->js[y]? = some jy->eP ops js x=false->eP ops js y=false->mP ops js x [y]=true->vO Γ (gB ops js qs kd [x,y]) fr (hp E) K->∀ j,js[x]? = some j->vO Γ (.m j :: (tM js qs (kd ++ iW ops x) ++ gB ops js qs (kd ++ iW ops x) [y])) fr (hp E) K:=by
           intro x y jx jy hx hy qx qy hxy hv j hj
           cases hj.symm.trans hx
           have ny:mP ops js y []=false:=rfl
           simp only [gB,hx,hy,qx,qy,hxy,ny,if_true,if_false,Bool.false_eq_true,List.append_nil] at hv ⊢
           simp only [vO] at hv ⊢
           unfold tM at hv ⊢
           simp only [GN,vO]
           exact hv.1
          rcases List.mem_cons.1 hkr with rfl | hkr'
          · exact wpOp_mono (fun a' w' ⟨fr',E',ro',kd',h'⟩=>ih π ok hG _ _ _ _ _ _ _ _ _ _ _ h') (OQ ok hm h hq (tl _ _ _ _ eji ejk h1 h3 hnf h.vo) hk)
          · rw [List.mem_singleton.1 hkr'] at hk
            have hs:=h.swap hnf
            have ok2:=hG pre i k' h.ord hnf
            rw [List.mem_singleton.1 hkr']
            exact wpOp_mono (fun a' w' ⟨fr',E',ro',kd',h'⟩=>ih _ ok2 hG2 _ _ _ _ _ _ _ _ _ _ _ h') (OQ ok2 hm hs h3 (tl _ _ _ _ ejk eji h3 h1 h5 hs.vo) hk)
         | false=>
         have hvo':∀ j,js[i]? = some j->vO Γ (.m j :: (tM js qs (kd ++ iW ops i) ++ gB ops js qs (kd ++ iW ops i) r)) fr (hp E) K:=fun j hj=>by
          simp only [gB,hj,hq,hnf,if_false,Bool.false_eq_true] at hvo
          exact hvo
         rcases List.mem_cons.1 hkr with rfl | hkr'
         · exact wpOp_mono (fun a' w' ⟨fr',E',ro',kd',h'⟩=>ih π ok hG _ _ _ _ _ _ _ _ _ _ _ h') (OQ ok hm h hq hvo' hk)
         · exfalso
           rcases (ok.ck pre i r h.ord).hd hq hnf k hkr' hak with h1 | ⟨k',h1,h2,h3⟩
           · exact hd (hw i h1)
           · have:=h.ra k' (by simp [h1]) (hw k' h3)
             rw [h2] at this; cases this
theorem EW (hm:MeetsIn P X Γ) {id:Nat} {hh:Nat->CH} (hmix:P.follows .mixedOrders=true) (hB:MK ops js=true)
 (hf:FRel N (gm E) ro fr a) (hr:Rel X E ro w) (hv:vO Γ (gB ops js [] [] (tD ops js)) fr (hp E) K) {Q:Exit->Act->World->Prop}
 (hQ:∀ fr E ro a w,K fr (hp E)->FRel N (gm E) ro fr a->Rel X E ro w->Q .normal a w) (hget:∀ (i:Nat) (o:Oper),ops.toList[i]? = some o->∃ (j:J),js[i]? = some j/\rG P nw N ops (hh i) o=some j):(Code.region id ops true).wp P Q a w:=by
 unfold MK at hB
 simp only [Bool.and_eq_true,decide_eq_true_eq] at hB
 obtain ⟨⟨⟨_,hl⟩,hC⟩,hF⟩:=hB
 have ok1:∀ π,wA ops js [] π=true->π.length=ops.size->OrdOk P nw N ops js π:=fun π hC hl=>by
  refine ⟨fun i o ho=>?_,fun p i r e=>?_,YM hC hl⟩
  · obtain ⟨j,h1,h2⟩:=hget i o (by simpa using ho)
    exact ⟨j,_,h1,h2⟩
  · have:=CE _ [] p i r hC e
    simpa using this
 have ok:=ok1 _ hC hl
 have hG:∀ p i k,tD ops js=p ++ [i,k]->mP ops js i [k]=true->OrdOk P nw N ops js (p ++ [k,i]):=fun p i k e hf=>by
  rw [A3 _ p i k e hf] at hF
  exact ok1 _ hF (by rw [<-hl,e]; simp)
 refine wp_region_any hmix (RS hm hQ _ _ ok hG (tD ops js) [] _ fr E ro a _ (fun _=>none) [] [] ?_)
 have hnd:∀ i,¬ Dn (Array.replicate ops.size false) i:=fun i h=>by unfold Dn at h; rw [getD_replicate_false] at h; cases h
 refine ⟨rfl,by simp,fun i k hi=>absurd hi (hnd i),fun i hi=>(by cases hi),fun i _ hi=>absurd hi (hnd i),?_,fun s hs=>absurd rfl hs,fun i _ hi=>absurd hi (hnd i),?_,hr.drew,fun i hi=>(by cases hi),fun t ht=>(by cases ht),hv,fun i hi=>(by cases hi)⟩
 · unfold QO
   exact Nat.le_trans (List.length_filter_le _ _) (by rw [List.length_range]; exact Nat.le_refl _)
 · have he:over (fun _=>none) fr=fr:=rfl
   rw [he]; exact hf
end
def Ex.to:Ex->Exit
 | .n=>.normal
 | .e id=>.exit id
 | .r=>.ret
inductive RV where
 | mv (o:O)
 | ld (i:LI)
def RR (P:Program):ResultVar->Option RV
 | .tmp t=>some (.mv (.t t))
 | .cell c t=>match mR P t,iK P t with
  | some true,some n=>some (.ld (.ldn n (.t c)))
  | some false,some _=>some (.ld (.ld1 (.t c)))
  | _,_=>none
def p6 (P:Program):List ResultVar->Option (List RV)
 | []=>some []
 | r :: l=>match RR P r,p6 P l with
  | some i,some l=>some (i :: l)
  | _,_=>none
def v8 (fr:Fr) (H:Hp):List RV->(List A->Prop)->Prop
 | [],K=>K []
 | .mv o :: r,K=>match ev (fst fr) o with
  | .va a=>cP fr o.sl/\v8 fr H r fun l=>K (a :: l)
  | _=>False
 | .ld i :: r,K=>cP fr i.sl/\vL (fst fr) H i fun s=>match s with
  | .va a=>v8 fr H r fun l=>K (a :: l)
  | _=>False
def DW:List A->S
 | [a]=>.va a
 | l=>.tu l
def eO (k0:Nat) (rs:List RV) (K:S->Hp->Prop):Ex->Fr->Hp->Prop
 | .e _,_,_=>False
 | _,fr,H=>v8 fr H rs fun l=>Fin k0 K (DW l).nf H
def xD (az:List S):Fr:=fun i=>az.getD i .un
section
variable {P:Program} {N:Nat} {nw:Bool} {X:Ctx} {Γ:dP}
theorem qM {ops:Array Oper} {h:Nat->CH}:∀ (n:Nat) {l:List Oper} {k:Nat} {js:List J},kQ P nw N ops h k l=some js->
 kQ P nw N ops h k (l.take n)=some (js.take n)/\kQ P nw N ops h (k + n) (l.drop n)=some (js.drop n)
 | 0,l,k,js,hj=>⟨rfl,by simpa using hj⟩
 | n + 1,[],k,js,hj=>by simp only [kQ,aH] at hj; subst hj; exact ⟨rfl,rfl⟩
 | n + 1,o :: l,k,js,hj=>by
  obtain ⟨j,js',rfl,h1,h2⟩:=mX hj
  obtain ⟨h3,h4⟩:=qM n h2
  refine ⟨?_,?_⟩
  · simp only [List.take_succ_cons,kQ,h1,h3]
  · simp only [List.drop_succ_cons]; rw [<-h4]; congr 1; omega
theorem sJ:∀ (js:List J),∀ j ∈ js.take (gL js),j.quiet=true
 | [],j,h=>by simp at h
 | k :: r,j,h=>by
  simp only [gL] at h
  split at h
  · rename_i hk
    simp only [List.take_succ_cons,List.mem_cons] at h
    rcases h with rfl | h
    · exact hk
    · exact sJ r j h
  · simp at h
theorem ER (hm:MeetsIn P X Γ) {id:Nat} {ops:Array Oper} {draw:Bool} {h:Nat->CH} {js:List J} (hj:kQ P nw N ops h 0 ops.toList=some js)
 (hd:draw=true->(P.follows .mixedOrders && (if js.all J.quietC then Region.lexB .any ops else Region.lexTailB .any ops (gL js)))=true)
 {fr:Fr} {E:Es} {ro:RO} {a:Act} {w:World} {K:Fr->Hp->Prop} (hf:FRel N (gm E) ro fr a) (hr:Rel X E ro w) (hv:vR Γ js fr (hp E) K) {Q:Exit->Act->World->Prop}
 (hQ:∀ fr E ro a w,K fr (hp E)->FRel N (gm E) ro fr a->Rel X E ro w->Q .normal a w):(Code.region id ops draw).wp P Q a w:=by
 cases draw with
 | false=>exact wp_region_list (rO hm hQ _ _ _ hj _ _ _ _ _ hf hr hv)
 | true=>
  have hd:=hd rfl
  simp only [Bool.and_eq_true] at hd
  obtain ⟨hmix,hB⟩:=hd
  split at hB
  · rename_i hl
    refine wp_region_quiet (C:=Rel X E ro) hmix hB hr.drew ?_
    exact qU (X:=X) hm w ops.toList 0 js hj (fun j hj'=>List.all_eq_true.1 hl j hj') fr E ro a K hf hr hv fun fr' a' hf' hK w' hr'=>hQ _ _ _ _ _ hK hf' hr'
  · rename_i hl
    have hops:ops=ops.toList.toArray:=by simp
    rw [hops] at hB ⊢
    refine wp_region_still_tail (gL js) hmix hB ?_
    obtain ⟨h1,h2⟩:=qM (gL js) hj
    rw [Nat.zero_add] at h2
    rw [hops] at h1 h2
    refine sK (Y:=X) _ 0 _ (js.drop (gL js)) h1 (sJ js) fr E ro a K hf hr.drew (by rw [List.take_append_drop]; exact hv) fun fr' a' hf' hK=>?_
    exact rO (X:=X) hm hQ _ _ _ h2 _ _ _ _ _ hf' hr.drew hK
theorem DJ {ops:Array Oper} {n:Nat}:∀ (m:Nat) (acc:List Nat),(∀ x ∈ acc,x < n)->m<=n->∀ x ∈ AO ops n m acc,x < n
 | 0,acc,h,_,x,hx=>h x hx
 | m + 1,acc,h,hm,x,hx=>by
  simp only [AO] at hx
  refine DJ m _ ?_ (by omega) x hx
  split
  · intro y hy
    rcases List.mem_cons.1 hy with rfl | hy
    · omega
    · exact h y hy
  · exact h
theorem D7 {ops:Array Oper} {n:Nat}:∀ (is:List Nat) (l:Array Bool),HeadInv .any ops n l->w5 ops is l=true->(∀ i ∈ is,i < n)->
 HeadInv .any ops n (AF is l)/\(∀ k,l.getD k false=true->(AF is l).getD k false=true)/\∀ i ∈ is,(AF is l).getD i false=true
 | [],l,inv,_,_=>⟨inv,fun _ h=>h,fun _ h=>by cases h⟩
 | i :: is,l,inv,hB,hlt=>by
  simp only [w5,Bool.and_eq_true] at hB
  obtain ⟨⟨hr,_⟩,hB'⟩:=hB
  have hr':i ∈ Region.ready .any ops l:=by simpa using hr
  obtain ⟨h1,h2,h3⟩:=D7 is _ (inv.set hr' (hlt i (by simp))) hB' fun k hk=>hlt k (by simp [hk])
  have hset:(l.setIfInBounds i true).getD i false=true:=by
   obtain ⟨_,o,ho,_⟩:=mem_ready.1 hr'
   have:i < l.size:=by rw [inv.size]; exact (Array.getElem?_eq_some_iff.1 ho).1
   simp [this]
  refine ⟨h1,fun k hk=>h2 k (getD_set_true hk),fun k hk=>?_⟩
  rcases List.mem_cons.1 hk with rfl | hk
  · exact h2 _ hset
  · exact h3 k hk
theorem DB {ops:Array Oper} {h:Nat->CH}:∀ {l:List Oper} {k:Nat} {js:List J},kQ P nw N ops h k l=some js->∀ (i:Nat) (o:Oper),l[i]? = some o->∃ j,js[i]? = some j/\rG P nw N ops (h (k + i)) o=some j
 | [],_,_,_,_,_,h1=>by cases h1
 | o' :: l,k,js,hj,i,o,ho=>by
  obtain ⟨j,js',rfl,h1,h2⟩:=mX hj
  cases i with
  | zero=>cases ho; exact ⟨j,rfl,h1⟩
  | succ i=>
   obtain ⟨j',h3,h4⟩:=DB h2 i o (by simpa using ho)
   exact ⟨j',by simpa using h3,by rw [<-h4]; congr 2; omega⟩
theorem oB {ops:Array Oper} {h:Nat->CH} {js:List J} (hj:kQ P nw N ops h 0 ops.toList=some js):∀ (is:List Nat),(∀ i ∈ is,i < ops.size)->OC P nw N ops is (fV js is)
 | [],_=>.nil
 | i :: is,hlt=>by
  have hi:=hlt i (by simp)
  obtain ⟨j,h1,h2⟩:=DB hj i ops[i] (by simp [hi])
  have hpk:fV js (i :: is)=j :: fV js is:=by
   unfold fV
   rw [List.filterMap_cons,h1]
  rw [hpk]
  exact .cons ⟨ops[i],_,Array.getElem?_eq_getElem hi,h2⟩ (oB hj is fun k hk=>hlt k (by simp [hk]))
theorem xW:∀ (js:List J),∀ j ∈ js.take (dQ js),j.quietC=true
 | [],j,h=>by simp at h
 | k :: r,j,h=>by
  simp only [dQ] at h
  split at h
  · rename_i hk
    simp only [List.take_succ_cons,List.mem_cons] at h
    rcases h with rfl | h
    · exact hk
    · exact xW r j h
  · simp at h
theorem BZ (hm:MeetsIn P X Γ) {id:Nat} {ops:Array Oper} {h:Nat->CH} {js:List J} (hj:kQ P nw N ops h 0 ops.toList=some js) (hmix:P.follows .mixedOrders=true) (hB:FC P ops (dQ js)=true)
 {fr:Fr} {E:Es} {ro:RO} {a:Act} {w:World} {K:Fr->Hp->Prop} (hf:FRel N (gm E) ro fr a) (hr:Rel X E ro w) (hv:vR Γ (AU ops js) fr (hp E) K) {Q:Exit->Act->World->Prop}
 (hQ:∀ fr E ro a w,K fr (hp E)->FRel N (gm E) ro fr a->Rel X E ro w->Q .normal a w):(Code.region id ops true).wp P Q a w:=by
 unfold FC at hB
 simp only [Bool.and_eq_true,decide_eq_true_eq] at hB
 obtain ⟨⟨⟨⟨⟨⟨⟨hsel,hn⟩,hs⟩,hc⟩,htk⟩,hlex⟩,hpu⟩,hlen⟩:=hB
 have hlt:∀ i ∈ nD ops (dQ js),i < dQ js:=DJ _ _ (fun x hx=>by cases hx) (Nat.le_refl _)
 have hltr:∀ i ∈ qA ops (dQ js),i < dQ js:=fun i hi=>by unfold qA at hi; rw [List.mem_filter] at hi; exact List.mem_range.1 hi.1
 have inv0:HeadInv .any ops (dQ js) (Array.replicate ops.size false):=
  ⟨by simp,fun j oj _ hl=>(by rw [getD_replicate_false] at hl; cases hl),fun t _ ht=>getD_in (by simpa using ht) (getD_replicate_false _ _)⟩
 obtain ⟨inv,_,hls⟩:=D7 _ _ inv0 htk hlt
 refine Code.wp_mono (Q:=fun e a w=>e=.normal/\Q .normal a w) (fun e a w h=>by obtain ⟨rfl,h⟩:=h; exact h) (wp_region_any hmix ?_)
 have hf0:ops.size=(nD ops (dQ js)).length + ((qA ops (dQ js)).length + (ops.size - dQ js)):=hlen.symm
 have key:=xL (P:=P) (N:=N) (nw:=nw) (Γ:=Γ) (ops:=ops) (E:=E) (ro:=ro) (w:={ w with drawn:=w.drawn + 1 }) (Q':=fun e a w=>e=.normal/\Q .normal a w) (fun c a w h=>by cases h.1) hsel (Y:=X) (f:=(qA ops (dQ js)).length + (ops.size - dQ js))
  (nD ops (dQ js)) _ (fV js (qA ops (dQ js)) ++ js.drop (dQ js)) _ (oB hj _ fun i hi=>by have:=hlt i hi; omega) (fun i hi o ho=>by
    have:=List.all_eq_true.1 hpu i hi
    rw [ho] at this; exact this) htk fr a K hf hr.drew hv fun fr' a' hf' hv'=>?_
 · rw [<-hf0] at key; exact key
 · refine xX (C:=Rel X E ro) (n:=dQ js) (L:=fun l' a'=>Region.seqB .any ops (ops.size - dQ js) (dQ js) l'=true/\∀ w',Rel X E ro w'->wpList P ops (fun e a w=>e=.normal/\Q .normal a w) (ops.toList.drop (dQ js)) a' w') (fun l' a' w' hw' hL=>?_) _ _ _ _ hr.drew
    (I6 hsel hs hc hn _ _ _ inv hls hlex (qZ (X:=X) hm _ _ (js.drop (dQ js)) (oB hj _ fun i hi=>by have:=hltr i hi; omega) (fun j hj'=>?_) fr' a' K hf' hr hv' fun fr2 a2 hf2 hv2=>?_))
   · have h1:=wpAny_of_seq (md:=.any) (Q':=fun e a w=>e=.normal/\Q .normal a w) (ops.toList.drop (dQ js)) (dQ js) l' a' w' (fun j=>by simp [List.getElem?_drop]) (by rw [List.length_drop,Array.length_toList]; exact hL.1) (hL.2 w' hw')
     rwa [List.length_drop,Array.length_toList] at h1
   · unfold fV at hj'
     obtain ⟨i,hi,hji⟩:=List.mem_filterMap.1 hj'
     have hin:=hltr i hi
     exact xW js j (bW (i:=i) (by rw [List.getElem?_take,if_pos hin]; exact hji))
   · obtain ⟨_,h2⟩:=qM (dQ js) hj
     exact fun w' hw'=>rO (X:=X) hm (fun fr E ro a w hK hf hr=>⟨rfl,hQ fr E ro a w hK hf hr⟩) _ _ _ h2 _ _ _ _ _ hf2 hw' hv2
theorem xM {α:Type} (l:List α):∀ n,fV l (List.range n)=l.take n
 | 0=>rfl
 | n + 1=>by
  have ih:=xM l n
  unfold fV at ih ⊢
  rw [List.range_succ,List.filterMap_append,ih,List.take_add_one]
  cases h:l[n]?<;>simp [h]
theorem QT {ops:Array Oper} {i j:Nat} {oj:Oper} (hj:ops[j]? = some oj) (h:Region.waitsFor .any ops j i=false):∀ e ∈ oj.after,Region.binds .any e=true->e.on ≠ i:=by
 intro e he hb heq
 unfold Region.waitsFor at h
 simp only [hj] at h
 have:=Array.any_eq_false'.1 h e he
 simp [hb,heq] at this
theorem T7 {op:Op} {o:Oper} (ho:o.op=op) (h:MX P op=true) {ev:Operand->Value} {w w1:World} {r:Next} (hr:(execOp ev o).run P w=.ok r w1) :
 (∃ v,r=.value v)/\(∀ k,k < w.heap.size->w1.heap[k]? = w.heap[k]?)/\w.heap.size<=w1.heap.size/\w1.os=w.os/\w1.tape=w.tape/\w1.output=w.output:=by
 unfold MX at h
 split at h
 case h_2=>cases h
 rename_i t len parts
 split at h
 case h_2=>cases h
 rename_i e ht
 split at h
 case h_2=>cases h
 rename_i i hi
 obtain ⟨z,hz⟩:=Option.isSome_iff_exists.1 h
 simp only [execOp,ho,Instr.buildSlice] at hr
 simp [run_underlying ht,sizeOf,typeInfo,hi,zeroValue,hz] at hr
 split at hr
 · cases hr
 · split at hr
   all_goals
    generalize Instr.fill _ _ _=x at hr
    cases x with
    | none=>simp at hr
    | some cells=>
     simp [newRow] at hr
     obtain ⟨rfl,rfl⟩:=hr
     refine ⟨⟨_,rfl⟩,fun k hk=>?_,?_,rfl,rfl,rfl⟩
     · show (w.heap.push _)[k]? = _
       rw [Array.getElem?_push,if_neg (Nat.ne_of_lt hk)]
     · show _<=(w.heap.push _).size
       rw [Array.size_push]; exact Nat.le_succ _
theorem pQ {ops:Array Oper} {E:Es} {ro:RO} {L:Act->Prop} {w0:World}:∀ (is:List Nat) (js rest:List J),OC P nw N ops is js->(∀ j ∈ js,j.quiet=true)->∀ (fr:Fr) (a:Act) (K:Fr->Hp->Prop),FRel N (gm E) ro fr a->Rel X E ro w0->
 vR Γ (js ++ rest) fr (hp E) K->(∀ fr' a',FRel N (gm E) ro fr' a'->vR Γ rest fr' (hp E) K->L a')->U5 P ops (Rel X E ro) L is a
 | [],js,rest,ht,_,fr,a,K,hf,hr,hv,hL=>by
  obtain rfl:=All2.nil_inv ht
  exact hL _ _ hf hv
 | i :: is,js,rest,ht,hq,fr,a,K,hf,hr,hv,hL=>by
  obtain ⟨j,js',rfl,⟨o,σ,ho,h1⟩,h2⟩:=All2.cons_inv ht
  simp only [List.cons_append,vR] at hv
  have hs:=pA hf hr h1 (hq j (by simp)) hv
  simp only [U5,sOp,ho]
  split
  · rename_i hw
    rw [if_pos hw] at hs
    obtain ⟨fr',hK,v,hf',hrun⟩:=hs
    exact ⟨v,hrun,pQ is js' rest h2 (fun y hy=>hq y (by simp [hy])) fr' _ K hf' hr hK hL⟩
  · rename_i hw
    rw [if_neg hw] at hs
    obtain ⟨fr',hK,hs⟩:=hs
    exact pQ is js' rest h2 (fun y hy=>hq y (by simp [hy])) fr' _ K hs hr hK hL
theorem zI (hm:MeetsIn P X Γ) {id:Nat} {ops:Array Oper} {h:Nat->CH} {js:List J} (hj:kQ P nw N ops h 0 ops.toList=some js) (hmix:P.follows .mixedOrders=true) (hB:AI P ops (gL js)=true)
 {fr:Fr} {E:Es} {ro:RO} {a:Act} {w:World} {K:Fr->Hp->Prop} (hf:FRel N (gm E) ro fr a) (hr:Rel X E ro w) (hv:vR Γ js fr (hp E) K) {Q:Exit->Act->World->Prop}
 (hQ:∀ fr E ro a w,K fr (hp E)->FRel N (gm E) ro fr a->Rel X E ro w->Q .normal a w):(Code.region id ops true).wp P Q a w:=by
 obtain ⟨n,hnl⟩:∃ n,n=gL js:=⟨_,rfl⟩
 rw [<-hnl] at hB
 unfold AI at hB
 simp only [Bool.and_eq_true,decide_eq_true_eq] at hB
 obtain ⟨⟨⟨⟨⟨⟨hsel,hn⟩,hc0⟩,hc⟩,hs⟩,hlex⟩,hon⟩:=hB
 split at hon
 case h_2=>cases hon
 rename_i on hon0
 simp only [Bool.and_eq_true] at hon
 obtain ⟨⟨hgd,hgr⟩,hall⟩:=hon
 have hgd':on.guard=none:=by simpa using hgd
 have hat:∀ j,j < n->Region.waitsFor .any ops j n=false/\(Region.waitsFor .any ops n j=true\/∀ oj,ops[j]? = some oj->on.apart ops oj=true):=fun j hjn=>by
  have:=List.all_eq_true.1 hall j (List.mem_range.2 hjn)
  simp only [Bool.and_eq_true,Bool.not_eq_true',Bool.or_eq_true] at this
  refine ⟨this.1,this.2.imp (fun h=>h) fun h oj hoj=>?_⟩
  rw [hoj] at h; exact h
 have inv0:HeadInv .any ops n (Array.replicate ops.size false):=
  ⟨by simp,fun j oj _ hl=>(by rw [getD_replicate_false] at hl; cases hl),fun t _ ht=>getD_in (by simpa using ht) (getD_replicate_false _ _)⟩
 refine Code.wp_mono (Q:=fun e a w=>e=.normal/\Q .normal a w) (fun e a w h=>by obtain ⟨rfl,h⟩:=h; exact h) (wp_region_any hmix ?_)
 obtain ⟨g,hg⟩:∃ g,ops.size=n + (g + 1):=⟨ops.size - n - 1,by omega⟩
 obtain ⟨_,h2⟩:=qM n hj
 rw [Nat.zero_add] at h2
 have hdr:ops.toList.drop n=on :: ops.toList.drop (n + 1):=by
  rw [List.drop_eq_getElem_cons (by simp; omega)]
  congr 1
  have:=Array.getElem?_eq_some_iff.1 hon0
  obtain ⟨_,h⟩:=this
  simpa using h
 have hlen2:(ops.toList.drop n).length=g + 1:=by simp; omega
 have hlen3:(ops.toList.drop (n + 1)).length=g:=by simp; omega
 obtain ⟨jn,jr,hjd,hj1,hj2⟩:∃ jn jr,js.drop n=jn :: jr/\rG P nw N ops (h n) on=some jn/\kQ P nw N ops h (n + 1) (ops.toList.drop (n + 1))=some jr:=by
  rw [hdr] at h2
  exact mX h2
 let Lq:Act->Prop:=fun a'=>∃ fr',FRel N (gm E) ro fr' a'/\vR Γ (js.drop n) fr' (hp E) K
 have hheads:qF P ops (Rel X E ro) n (fun l' a'=>Region.seqB .any ops (ops.size - n) n l'=true/\Lq a') n (Array.replicate ops.size false) a:=by
  have:=EP (P:=P) (C:=Rel X E ro) (Lq:=Lq) hsel (by omega:n < ops.size) (List.range n) (Array.replicate ops.size false) a hlex
   (pQ (nw:=nw) (X:=X) (Γ:=Γ) (List.range n) (js.take n) (js.drop n) ?_ (by rw [hnl]; exact sJ js) fr a K hf hr.drew (by rw [List.take_append_drop]; exact hv) fun fr' a' hf' hv'=>⟨fr',hf',hv'⟩)
  · rwa [List.length_range] at this
  · have h3:=oB hj (List.range n) fun i hi=>by have:=List.mem_range.1 hi; omega
    have h4:fV js (List.range n)=js.take n:=xM js n
    rw [h4] at h3; exact h3
 have hwp:∀ a' w',Rel X E ro w'->∀ fr',FRel N (gm E) ro fr' a'->vR Γ (js.drop n) fr' (hp E) K->on.wp P a' w' (wpList P ops (fun e a w=>e=.normal/\Q .normal a w) (ops.toList.drop (n + 1))) (fun e a w=>e=.normal/\Q .normal a w):=fun a' w' hw' fr' hf' hv'=>by
  rw [hjd] at hv'
  have:=B4 (Q:=fun e a w=>e=.normal/\Q .normal a w) (next:=wpList P ops (fun e a w=>e=.normal/\Q .normal a w) (ops.toList.drop (n + 1))) hf' hw' hm hj1 hv' fun fr2 E2 ro2 a2 w2 hK2 hf2 hr2=>
   rO (X:=X) hm (fun fr E ro a w hK hf hr=>⟨rfl,hQ fr E ro a w hK hf hr⟩) _ _ _ hj2 _ _ _ _ _ hf2 hr2 hK2
  rwa [if_pos (eF hgd' _)] at this
 have key:=Q6 (P:=P) (C:=Rel X E ro) (g:=g) (L:=fun l' a'=>Region.seqB .any ops (ops.size - n) n l'=true/\Lq a') (Q':=fun e a w=>e=.normal/\Q .normal a w) (fun c a w h=>by cases h.1) (Region.noSelect_spec hsel) hon0 hgd'
  (fun j oj hoj hjn hno=>(hat j hjn).2.elim (fun hw=>by
    obtain ⟨o',ho',e,he,hb,hon'⟩:=Region.waitsFor_spec hw
    cases hon0.symm.trans ho'
    exact absurd hon' (hno e he hb)) fun h=>h oj hoj)
  (fun j oj hoj hjn=>QT hoj (hat j hjn).1) hs hc0 hc hn
  (fun a' w' r w1 hw' hrun=>by
    obtain ⟨h1,h2,h3,h4,h5,h6⟩:=T7 rfl hgr hrun
    exact ⟨h1,hw'.grown h2 h3 h4 h5 h6⟩)
  (fun l' a' w' hw' ⟨hseq,fr',hf',hv'⟩=>by
    have h1:=wpAny_of_seq (md:=.any) (P:=P) (ops:=ops) (Q':=fun e a w=>e=.normal/\Q .normal a w) (ops.toList.drop n) n l' a' w' (fun j=>by simp [List.getElem?_drop]) (by rw [hlen2,<-(by omega:ops.size - n=g + 1)]; exact hseq)
     (by rw [hdr]; simp only [wpList]; rw [if_pos (eF hgd' _)]; exact .inl (hwp a' w' hw' fr' hf' hv'))
    rwa [hlen2] at h1)
  (fun l' a' w' hw' ⟨hseq,fr',hf',hv'⟩=>by
    have hsz:ops.size - n=g + 1:=by omega
    rw [hsz] at hseq
    simp only [Region.seqB,Bool.and_eq_true] at hseq
    refine Oper.wp_mono (fun a2 w2 h=>?_) (hwp a' w' hw' fr' hf' hv')
    have h1:=wpAny_of_seq (md:=.any) (P:=P) (ops:=ops) (Q':=fun e a w=>e=.normal/\Q .normal a w) (ops.toList.drop (n + 1)) (n + 1) (l'.setIfInBounds n true) a2 w2 (fun j=>by simp [List.getElem?_drop]) (by rw [hlen3]; exact hseq.2) h
    rwa [hlen3] at h1)
  n _ a { w with drawn:=w.drawn + 1 } hr.drew inv0 hheads
 rw [<-hg] at key
 exact key
theorem sU (hm:MeetsIn P X Γ) {h:Hint} {k0:Nat} (hk0:X.g0.length=k0):∀ (c:Code) (pc:PC),tr P nw N h c=some pc->∀ (fr:Fr) (E:Es) (ro:RO) (a:Act) (w:World) (K:Ex->Fr->Hp->Prop),FRel N (gm E) ro fr a->Rel X E ro w->vc Γ k0 pc fr (hp E) K->
 ∀ (Q:Exit->Act->World->Prop),(∀ ex fr' E' ro' a' w',K ex fr' (hp E')->FRel N (gm E') ro' fr' a'->Rel X E' ro' w'->Q ex.to a' w')->c.wp P Q a w:=by
 intro c
 induction c with
 | skip=>intro pc hpc fr E ro a w K hf hr hv Q hQ; simp only [tr,aH] at hpc; subst hpc; exact wp_skip (hQ .n _ _ _ _ _ hv hf hr)
 | exit id=>intro pc hpc fr E ro a w K hf hr hv Q hQ; simp only [tr,aH] at hpc; subst hpc; exact wp_exit (hQ (.e id) _ _ _ _ _ hv hf hr)
 | ret=>intro pc hpc fr E ro a w K hf hr hv Q hQ; simp only [tr,aH] at hpc; subst hpc; exact wp_ret (hQ .r _ _ _ _ _ hv hf hr)
 | seq x y ihx ihy=>
  intro pc hpc fr E ro a w K hf hr hv Q hQ
  simp only [tr] at hpc
  split at hpc
  · rename_i px py hx hy
    simp only [aH] at hpc
    subst hpc
    simp only [vc] at hv
    refine wp_seq (ihx px hx fr E ro a w _ hf hr hv _ ?_)
    intro ex fr' E' ro' a' w' hK hf' hr'
    cases ex with
    | n=>exact ihy py hy fr' E' ro' a' w' K hf' hr' hK Q hQ
    | e id=>exact hQ (.e id) _ _ _ _ _ hK hf' hr'
    | r=>exact hQ .r _ _ _ _ _ hK hf' hr'
  · cases hpc
 | cond o x y ihx ihy=>
  intro pc hpc fr E ro a w K hf hr hv Q hQ
  simp only [tr] at hpc
  split at hpc
  · rename_i px py hx hy
    simp only [aH] at hpc
    subst hpc
    simp only [vc] at hv
    split at hv
    · rename_i b hb
      obtain ⟨hg,h1,h2⟩:=hv
      have he:a.eval o=.bool b:=by
       have:=aV hf.res o
       rw [<-aW (dZ hg),hb] at this
       exact this
      exact wp_cond_split he (fun hb=>ihx px hx fr E ro a w K hf hr (h1 hb) Q hQ) (fun hb=>ihy py hy fr E ro a w K hf hr (h2 hb) Q hQ)
    · exact hv.elim
  · cases hpc
 | block id x ihx=>
  intro pc hpc fr E ro a w K hf hr hv Q hQ
  simp only [tr] at hpc
  split at hpc
  · rename_i px hx
    simp only [aH] at hpc
    subst hpc
    simp only [vc] at hv
    refine wp_block (ihx px hx fr E ro a w _ hf hr hv _ ?_)
    intro ex fr' E' ro' a' w' hK hf' hr'
    cases ex with
    | n=>exact hQ .n _ _ _ _ _ hK hf' hr'
    | e j=>
     simp only [Ex.to,Exit.inBlock]
     simp only at hK
     split at hK
     · rename_i hj; rw [if_pos hj]; exact hQ .n _ _ _ _ _ hK hf' hr'
     · rename_i hj; rw [if_neg hj]; exact hQ (.e j) _ _ _ _ _ hK hf' hr'
    | r=>exact hQ .r _ _ _ _ _ hK hf' hr'
  · cases hpc
 | loop x ihx=>
  intro pc hpc fr E ro a w K hf hr hv Q hQ
  simp only [tr] at hpc
  split at hpc
  · rename_i px hx
    simp only [aH] at hpc
    subst hpc
    simp only [vc] at hv
    obtain ⟨Inv,h0,hround⟩:=hv
    obtain ⟨fr1,E1,ro1,⟨m,hI⟩,hf1,hr1⟩:=tI hk0 h0 rfl hf hr
    refine wp_loop_ghost (fun m a w=>∃ fr E ro,Inv m fr (hp E)/\FRel N (gm E) ro fr a/\Rel X E ro w) m ⟨_,_,_,hI,hf1,hr1⟩ ?_
    rintro n a w ⟨fr2,E2,ro2,hI2,hf2,hr2⟩
    refine ihx px hx fr2 E2 ro2 a w _ hf2 hr2 (hround n fr2 _ hI2) _ ?_
    intro ex fr' E' ro' a' w' hK hf' hr'
    cases ex with
    | n=>
     obtain ⟨fr3,E3,ro3,⟨m',hlt,hI3⟩,hf3,hr3⟩:=tI hk0 hK rfl hf' hr'
     exact ⟨m',hlt,_,_,_,hI3,hf3,hr3⟩
    | e id=>exact hQ (.e id) _ _ _ _ _ hK hf' hr'
    | r=>exact hQ .r _ _ _ _ _ hK hf' hr'
  · cases hpc
 | region id ops draw=>
  intro pc hpc fr E ro a w K hf hr hv Q hQ
  simp only [tr] at hpc
  split at hpc
  · rename_i js hj
    have fin:∀ (js':List J),(∀ {fr1:Fr} {E1:Es} {ro1:RO},FRel N (gm E1) ro1 fr1 a->Rel X E1 ro1 w->vR Γ js' fr1 (hp E1) (K .n)->(Code.region id ops draw).wp P Q a w)->pc=(if h.gh id then .gh (.reg js') else .reg js')->(Code.region id ops draw).wp P Q a w:=fun js' hs hp'=>by
     subst hp'
     split at hv
     · simp only [vc] at hv
       obtain ⟨fr1,E1,ro1,hv1,hf1,hr1⟩:=tI hk0 hv rfl hf hr
       exact hs hf1 hr1 hv1
     · simp only [vc] at hv
       exact hs hf hr hv
    by_cases hdr:draw=true
    · rw [if_pos hdr] at hpc
      by_cases hB:(P.follows .mixedOrders && (if js.all J.quietC then Region.lexB .any ops else Region.lexTailB .any ops (gL js)))=true
      · rw [if_pos hB] at hpc
        exact fin js (fun hf1 hr1 hv1=>ER hm hj (fun _=>hB) hf1 hr1 hv1 fun fr E ro a w hK hf hr=>hQ .n _ _ _ _ _ hK hf hr) (bK hpc).symm
      · rw [if_neg hB] at hpc
        by_cases hB2:(P.follows .mixedOrders && FC P ops (dQ js))=true
        · rw [if_pos hB2] at hpc
          rw [Bool.and_eq_true] at hB2
          subst hdr
          exact fin (AU ops js) (fun hf1 hr1 hv1=>BZ hm hj hB2.1 hB2.2 hf1 hr1 hv1 fun fr E ro a w hK hf hr=>hQ .n _ _ _ _ _ hK hf hr) (bK hpc).symm
        · rw [if_neg hB2] at hpc
          by_cases hB3:(P.follows .mixedOrders && AI P ops (gL js))=true
          · rw [if_pos hB3] at hpc
            rw [Bool.and_eq_true] at hB3
            subst hdr
            exact fin js (fun hf1 hr1 hv1=>zI hm hj hB3.1 hB3.2 hf1 hr1 hv1 fun fr E ro a w hK hf hr=>hQ .n _ _ _ _ _ hK hf hr) (bK hpc).symm
          · rw [if_neg hB3] at hpc
            by_cases hB4:(P.follows .mixedOrders && MK ops js)=true
            · rw [if_pos hB4] at hpc
              rw [Bool.and_eq_true] at hB4
              subst hdr
              obtain rfl:=(bK hpc).symm
              have key:∀ {fr1:Fr} {E1:Es} {ro1:RO},FRel N (gm E1) ro1 fr1 a->Rel X E1 ro1 w->vO Γ (gB ops js [] [] (tD ops js)) fr1 (hp E1) (K .n)->(Code.region id ops true).wp P Q a w:=fun hf1 hr1 hv1=>
               EW hm (hh:=h.σ id) hB4.1 hB4.2 hf1 hr1 hv1 (fun fr E ro a w hK hf hr=>hQ .n _ _ _ _ _ hK hf hr) (fun i o ho=>by have:=DB hj i o ho; simpa using this)
              split at hv
              · simp only [vc] at hv
                obtain ⟨fr1,E1,ro1,hv1,hf1,hr1⟩:=tI hk0 hv rfl hf hr
                exact key hf1 hr1 hv1
              · simp only [vc] at hv
                exact key hf hr hv
            · rw [if_neg hB4] at hpc; cases hpc
    · rw [if_neg hdr] at hpc
      exact fin js (fun hf1 hr1 hv1=>ER hm hj (fun h=>absurd h hdr) hf1 hr1 hv1 fun fr E ro a w hK hf hr=>hQ .n _ _ _ _ _ hK hf hr) (bK hpc).symm
  · cases hpc
 | rangeFunc f ps x y=>intro pc hpc; simp [tr] at hpc
 | scope x=>intro pc hpc; simp [tr] at hpc
 | label l=>intro pc hpc; simp [tr] at hpc
 | goto l=>intro pc hpc; simp [tr] at hpc
 | refuse s=>intro pc hpc fr E ro a w K hf hr hv Q hQ; simp only [tr,aH] at hpc; subst hpc; exact hv.elim
def I1 (tmps:Array Value) (r:ResultVar):Sem Value:=
 match r with
 | .tmp t=>pure (tmps.getD t undef)
 | .cell c t=>do loadVar t (<-asAddr (tmps.getD c undef))
theorem xI (fn:Func) (tmps:Array Value):results fn tmps=(do let vs <-fn.results.mapM (I1 tmps); pure (if h:vs.size=1 then vs[0] else .tuple vs)):=rfl
theorem uJ {fr:Fr} {a:Act} {E:Es} {ro:RO} {w:World} (hf:FRel N (gm E) ro fr a) (hr:Rel X E ro w):∀ {rvs:List ResultVar} {rs:List RV} {K:List A->Prop},p6 P rvs=some rs->v8 fr (hp E) rs K->
 ∃ l vs,K l/\(rvs.mapM (I1 a.tmps)).run P w=.ok vs w/\All2 (A.rel (gm E) ro) l vs
 | [],rs,K,h1,h2=>by
  simp only [p6,aH] at h1
  subst h1
  exact ⟨[],[],h2,by simp,.nil⟩
 | rv :: rvs,rs,K,h1,h2=>by
  simp only [p6] at h1
  split at h1
  · rename_i i rs' hi hrs
    simp only [aH] at h1
    subst h1
    have fin:∀ {y:A} {v:Value},(I1 a.tmps rv).run P w=.ok v w->y.rel (gm E) ro v->v8 fr (hp E) rs' (fun l=>K (y :: l))->∃ l vs,K l/\((rv :: rvs).mapM (I1 a.tmps)).run P w=.ok vs w/\All2 (A.rel (gm E) ro) l vs:=by
     intro y v hv hy hr'
     obtain ⟨l,vs,k1,k2,k3⟩:=uJ hf hr hrs hr'
     exact ⟨_,v :: vs,k1,by simp only [List.mapM_cons,Sem.run_bind,hv,Result.andThen_ok,k2]; simp,.cons hy k3⟩
    cases rv with
    | tmp t=>
     simp only [RR,aH] at hi
     subst hi
     simp only [v8] at h2
     split at h2
     · rename_i y hy
       obtain ⟨hg,h2⟩:=h2
       have h3:=aV hf.res (.tmp t)
       simp only [aJ] at h3
       rw [<-aW (fr:=fst fr) (dZ hg),hy] at h3
       exact fin (v:=a.tmps.getD t undef) (by simp [I1]) h3 h2
     · exact h2.elim
    | cell c t=>
     have hld:∀ {v:Value},(execOp a.eval { dst:=none,op:=.load t (.tmp c),type:=t,pos:="",after:=#[],guard:=none }).run P w=.ok (.value v) w->(I1 a.tmps (.cell c t)).run P w=.ok v w:=by
      intro v hv
      simp only [execOp,Instr.loadAt,Act.eval] at hv
      simp only [I1]
      cases hp:a.tmps.getD c undef with
      | pointer p=>
       cases p with
       | none=>rw [hp] at hv; simp [Instr.sureAddr] at hv
       | some ad=>
        rw [hp] at hv
        simp only [Instr.sureAddr,asAddr] at hv ⊢
        simp only [pure_bind,Sem.run_bind] at hv ⊢
        cases hl:(loadVar t ad).run P w with
        | ok x w'=>rw [hl] at hv; simpa using hv
        | halt x w'=>rw [hl] at hv; simp at hv
      | _=>rw [hp] at hv; simp [Instr.sureAddr] at hv
     have hcase:∃ li,i=.ld li/\cW P (.load t (.tmp c))=some li:=by
      simp only [RR] at hi
      simp only [cW]
      split at hi<;>simp only [aH,reduceCtorEq] at hi<;>subst hi<;>simp_all [aJ]
     obtain ⟨li,rfl,hli⟩:=hcase
     obtain ⟨hg,h2⟩:=h2
     rw [oL (dZ hg)] at h2
     obtain ⟨s,hK,v,hv,hrun⟩:=w9 (P:=P) (o:={ dst:=none,op:=.load t (.tmp c),type:=t,pos:="",after:=#[],guard:=none }) hf.res hr hli h2
     cases s with
     | va y=>exact fin (hld (hrun X w hr)) hv hK
     | _=>exact hK.elim
  · cases h1
theorem T6 {f:FuncId} {fn:Func} {c:Code} {pc:PC} {rs:List RV} {h:Hint} (hf:P.funcs[f]? = some fn) (hb:fn.body=some c) (hnm:(fn.name == "runtime.NumGoroutine")=false) (hN:fn.ntmps=N) (hpc:tr P nw N h c=some pc) (hrs:p6 P fn.results.toList=some rs)
 (hm:gP P Γ) {s:Spec} (hlen:∀ az H K,s az H K->az.length<=N) (hs:∀ az H K,s az H K->vc Γ H.length pc (xD az) H (eO H.length rs K)):Meets P f s:=by
 refine ⟨by simp [nP,hf,hb,hnm],?_⟩
 intro az vs E ro w K hl hrel hr hsp hG
 have hlN:=hlen az (hp E) K hsp
 refine calls_of_wp hf hb ?_
 have hfr:FRel N (gm E) ro (xD az) { tmps:=vs.toArray ++ Array.replicate (fn.ntmps - vs.toArray.size) undef,defers:=[] }:=by
  refine ⟨by simp [hN]; omega,fun i=>?_,rfl⟩
  unfold xD
  rw [List.getD_eq_getElem?_getD]
  cases hi:az[i]? with
  | none=>trivial
  | some x=>
   have hlt:i < vs.length:=by rw [<-hl]; exact (bC.1 hi).1
   have hv:vs[i]? = some vs[i]:=bB hlt
   have:=hrel i x _ hi hv
   simp only [Option.getD_some]
   have he:(vs.toArray ++ Array.replicate (fn.ntmps - vs.toArray.size) undef).getD i undef=vs[i]:=by
    rw [Array.getD_eq_getD_getElem?,Array.getElem?_append_left (by simpa using hlt)]
    simp [hlt]
   simp only [he]
   exact this
 have hk0:(Ctx.mk w (eG E) ro (gm E)).g0.length=(hp E).length:=by simp [gm,hp]
 refine sU (X:=⟨w,eG E,ro,gm E⟩) ⟨hG,hG.nb hr,hm⟩ hk0 c pc hpc _ _ _ _ _ _ hfr hr (hs az (hp E) K hsp) _ ?_
 have fin:∀ fr' E' ro' a' w',v8 fr' (hp E') rs (fun l=>Fin (hp E).length K (DW l).nf (hp E'))->FRel N (gm E') ro' fr' a'->Rel ⟨w,eG E,ro,gm E⟩ E' ro' w'->
  a'.defers=[]/\∃ v,(results fn a'.tmps).run P w'=.ok v w'/\∃ r v' E'' ro'',Ending.returned v=.returned v'/\S.rel (gm E'') ro'' r v'/\K r (hp E'')/\Rel ⟨w,eG E,ro,gm E⟩ E'' ro'' w':=by
  intro fr' E' ro' a' w' h1 h4 h5
  obtain ⟨l,us,h3,hrun,hus⟩:=uJ h4 h5 hrs h1
  refine ⟨h4.defers,(if h:us.toArray.size=1 then us.toArray[0] else .tuple us.toArray),?_,?_⟩
  · simp only [xI,Array.mapM_eq_mapM_toList,Sem.run_bind,Sem.run_map,hrun,Result.andThen_ok,Sem.run_pure]
  · have hrel:(DW l).rel (gm E') ro' (if h:us.toArray.size=1 then us.toArray[0] else .tuple us.toArray):=by
     match l,us,hus with
     | [],us,hus=>have:=hus.nil_inv; subst this; exact ⟨[],rfl,.nil⟩
     | [y],us,hus=>
      obtain ⟨u,m',rfl,hy,hm'⟩:=hus.cons_inv
      have:=hm'.nil_inv
      subst this
      exact hy
     | y :: z :: r,us,hus=>
      have:¬ us.toArray.size=1:=by have:=hus.1; simp at this ⊢; omega
      rw [dif_neg this]
      exact ⟨us,rfl,hus⟩
    obtain ⟨r',E'',ro'',hK,hr',hR⟩:=EF hk0 h3 rfl (S.rel_nf hrel) h5
    exact ⟨r',_,E'',ro'',rfl,hr',hK,hR⟩
 intro ex fr' E' ro' a' w' hK h4 h5
 cases ex with
 | n=>exact fin fr' E' ro' a' w' hK h4 h5
 | r=>exact fin fr' E' ro' a' w' hK h4 h5
 | e id=>exact hK.elim
end
def aY (P:Program) (nw:Bool) (h:Hint) (fn:Func):Option (PC × List RV):=
 if fn.name == "runtime.NumGoroutine" then none else
 match fn.body with
 | some c=>match tr P nw fn.ntmps h c,p6 P fn.results.toList with
  | some pc,some rs=>some (pc,rs)
  | _,_=>none
 | none=>none
theorem aG {P:Program} {nw:Bool} {Γ:dP} {f:FuncId} {fn:Func} {pc:PC} {rs:List RV} {h:Hint} (hf:P.funcs[f]? = some fn) (hpc:aY P nw h fn=some (pc,rs)) (n:Nat) (hn:n<=fn.ntmps)
 (hm:gP P Γ) {s:Spec} (hlen:∀ az H K,s az H K->az.length=n) (hs:∀ az H K,s az H K->vc Γ H.length pc (xD az) H (eO H.length rs K)):Meets P f s:=by
 unfold aY at hpc
 split at hpc
 · cases hpc
 · rename_i hnm
   split at hpc
   · rename_i c hc
     split at hpc
     · rename_i pc' rs' h1 h2
       simp only [aH,Prod.mk.injEq] at hpc
       obtain ⟨rfl,rfl⟩:=hpc
       exact T6 hf hc (by simpa using hnm) rfl h1 h2 hm (fun az H K hh=>by rw [hlen az H K hh]; exact hn) hs
     · cases hpc
   · cases hpc
def PC.hgh:PC->Bool
 | .gh _=>true
 | .seq x _=>x.hgh
 | _=>false
def PC.ungh:PC->PC
 | .gh x=>x
 | .seq x y=>.seq x.ungh y
 | x=>x
theorem aU {Γ:dP} {k0:Nat}:∀ {pc:PC} {fr:Fr} {H:Hp} {K:Ex->Fr->Hp->Prop},pc.hgh=true->Gh k0 (fun fr' H'=>vc Γ k0 pc.ungh fr' H' K) fr H->vc Γ k0 pc fr H K
 | .gh x,fr,H,K,_,h=>h
 | .seq x y,fr,H,K,hg,h=>aU (pc:=x) (K:=fun e fr' H'=>match e with | .n=>vc Γ k0 y fr' H' K | e=>K e fr' H') hg h
structure Tag {α:Type} (a:α):Type where
def vcn (Γ:dP) (k0:Nat) (x:PC) (fr:Fr) (H:Hp) (K:Ex->Fr->Hp->Prop) (_:Tag (Γ,x,fr,K)):Prop:=vc Γ k0 x fr H K
end Go.W
