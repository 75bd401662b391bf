/- Lemmas and walks for the proof. -/
import Derived.Test.YtbcnggkldclemaaGreatPa
import Derived.Deep.Quiet
import Derived.Deep.LoopGhost
import Derived.Test.YtbcnggkldclemaaGreatProg
import Derived.Shelf.Strings.Search1
import Derived.Shelf.Small.Strs
namespace Go.W
def blks (E:Es):List Nat:=E.filterMap fun e=>if e.2.live then e.1.ob else none
theorem mem_blks {E:Es} {b:Nat}:b ∈ blks E ↔ ∃ (n:Nat) (g:Gb) (blk:B),E[n]? = some (g,blk)/\g.ob=some b/\B.live blk=true:=by
  unfold blks
  rw [List.mem_filterMap]
  constructor
  · rintro ⟨⟨g,blk⟩,hm,he⟩
    simp only at he
    split at he
    · rename_i hl
      obtain ⟨n,hn⟩:=List.mem_iff_getElem?.1 hm
      exact ⟨n,g,blk,hn,he,hl⟩
    · cases he
  · rintro ⟨n,g,blk,hn,hb,hl⟩
    exact ⟨(g,blk),List.mem_of_getElem? hn,by simp [hl,hb]⟩
def Meets (P:Program) (f:FuncId) (s:Spec):Prop:=
  enters P f=true/\∀ (az:List S) (vs:List Value) (E:Es) (ro:RO) (w:World) (K:S->Hp->Prop),az.length=vs.length->(∀ (i:Nat) (x:S) (v:Value),az[i]? = some x->vs[i]? = some v->x.rel (gm E) ro v)->
    Rel ⟨w,blks E,ro,gm E⟩ E ro w->s az (hp E) K->
    Calls P f vs.toArray w (fun e w'=>∃ r v E' ro',e=.returned v/\S.rel (gm E') ro' r v/\K r (hp E')/\Rel ⟨w,blks E,ro,gm E⟩ E' ro' w')
def MeetsAll (P:Program) (Γ:Env):Prop:=∀ f s,(f,s) ∈ Γ->Meets P f s.sp/\∀ p,s.fn=some p->Meets P f p.sp
theorem sp_mem {f:FuncId} {az:List S} {H:Hp} {K:S->Hp->Prop}:∀ {Γ:Env},sp Γ f az H K->∃ s,(f,s) ∈ Γ/\s.sp az H K
  | [],h=>h.elim
  | (g,s) :: r,h=>by
    simp only [sp] at h
    split at h
    · rename_i hg; subst hg; exact ⟨s,by simp,h⟩
    · obtain ⟨s',h1,h2⟩:=sp_mem h; exact ⟨s',by simp [h1],h2⟩
theorem fnOf_mem {f:FuncId} {p:Fun}:∀ {Γ:Env},fnOf Γ f=some p->∃ s,(f,s) ∈ Γ/\s.fn=some p
  | [],h=>by simp [fnOf] at h
  | (g,s) :: r,h=>by
    simp only [fnOf] at h
    split at h
    · rename_i hg; subst hg; exact ⟨s,by simp,h⟩
    · obtain ⟨s',h1,h2⟩:=fnOf_mem h; exact ⟨s',by simp [h1],h2⟩
theorem meetsAll_nil (P:Program):MeetsAll P []:=fun f s h=>by simp at h
theorem meetsAll_s {P:Program} {f:FuncId} {s:Spec} {Γ:Env} (h:Meets P f s) (hr:MeetsAll P Γ):MeetsAll P ((f,.s s) :: Γ):=by
  intro g t hm
  rcases List.mem_cons.1 hm with he | hm
  · simp only [Prod.mk.injEq] at he; obtain ⟨rfl,rfl⟩:=he; exact ⟨h,fun p hp=>by simp [Entry.s] at hp⟩
  · exact hr g t hm
theorem meetsAll_f {P:Program} {f:FuncId} {p:Fun} {Γ:Env} (h:Meets P f p.sp) (hr:MeetsAll P Γ):MeetsAll P ((f,.f p) :: Γ):=by
  intro g t hm
  rcases List.mem_cons.1 hm with he | hm
  · simp only [Prod.mk.injEq] at he; obtain ⟨rfl,rfl⟩:=he; exact ⟨h,fun q hq=>by simp only [Entry.f,Option.some.injEq] at hq; subst hq; exact h⟩
  · exact hr g t hm
def res (fr:Fr):Fr:=fun i=>match fr i with | .cn g a=>bif g then .va a else .un | s=>s
section
variable {P:Program} {o:Oper} {N:Nat} {fr:Fr} {a:Act} {E:Es} {γ:List Gb} {ro:RO} {X:Ctx} {w:World} {nw:Bool} {Γ:Env} {ops:Array Oper}
theorem FRel.res (h:FRel N γ ro fr a):FRel N γ ro (res fr) a:=by
  refine ⟨h.size,fun i=>?_,h.defers⟩
  have:=h.slot i
  unfold W.res
  split
  · rename_i g y he
    rw [he] at this
    cases g
    · trivial
    · exact this.1 rfl
  · exact this
theorem gds_get:∀ {l:List Nat},gds fr l->∀ j ∈ l,(fr j).gd
  | [],_,j,hj=>by simp at hj
  | i :: r,h,j,hj=>by
    rcases List.mem_cons.1 hj with rfl | hj
    · exact h.1
    · exact gds_get h.2 j hj
theorem fst_res {l:List Nat} (h:gds fr l):∀ j ∈ l,fst fr j=res fr j:=by
  intro j hj
  have:=gds_get h j hj
  unfold W.fst W.res S.st
  cases hfr:fr j with
  | cn g y=>rw [hfr] at this; simp only [S.gd] at this; subst this; rfl
  | va y=>rfl
  | tu l=>rfl
  | un=>rfl
theorem gv_spec (hf:FRel N γ ro fr a) {sl:Nat} {want g:Bool} (hg:gv fr sl want=some g) {k:Nat} (hk:(ops[k]?).bind (·.dst)=some sl):(yielded ops a.tmps k == some want)=g/\(g=true->a.tmps.getD sl undef=.bool want)/\
    (g=false->∀ b,fr sl=bS b->a.tmps.getD sl undef=.bool (!want)):=by
  have hs:=hf.slot sl
  have key:∀ b:Bool,a.tmps.getD sl undef=.bool b->a.tmps[sl]? = some (.bool b):=by
    intro b hb
    rw [Array.getD_eq_getD_getElem?] at hb
    cases h:a.tmps[sl]? with
    | none=>rw [h] at hb; simp [undef] at hb
    | some v=>rw [h] at hb; simp at hb; rw [hb]
  have hfalse:∀ x:A,fr sl=.cn false x->(yielded ops a.tmps k == some want)=false/\(false=true->a.tmps.getD sl undef=.bool want)/\(false=false->∀ b,fr sl=bS b->a.tmps.getD sl undef=.bool (!want)):=by
    intro x he
    rw [he] at hs
    have hu:a.tmps.getD sl undef=undef:=hs.2 rfl
    have:∀ b:Bool,a.tmps[sl]? ≠ some (.bool b):=by
      intro b hb
      rw [Array.getD_eq_getD_getElem?,hb] at hu
      simp [undef] at hu
    refine ⟨?_,by simp,fun h b' hb'=>by rw [he] at hb'; cases hb'⟩
    unfold yielded
    rw [hk]
    simp only [Option.bind_some]
    cases h:a.tmps[sl]? with
    | none=>rfl
    | some v=>
      cases v with
      | bool b=>exact absurd h (this b)
      | _=>rfl
  unfold gv at hg
  split at hg<;>simp only [Option.some.injEq,reduceCtorEq] at hg
  · rename_i b he
    rw [he] at hs
    have hs':a.tmps.getD sl undef=.bool b:=hs
    unfold yielded
    rw [hk]
    simp only [Option.bind_some]
    rw [key b hs']
    subst hg
    refine ⟨by cases b<;>cases want<;>rfl,fun h=>?_,fun h b' hb'=>?_⟩
    · rw [hs']; simp at h; rw [h]
    · rw [hs']; cases b<;>cases want<;>simp_all
  · rename_i g0 b he
    cases g0 with
    | true=>
      rw [he] at hs
      have hs':a.tmps.getD sl undef=.bool b:=hs.1 rfl
      unfold yielded
      rw [hk]
      simp only [Option.bind_some]
      rw [key b hs']; subst hg
      refine ⟨by cases b<;>cases want<;>rfl,fun h=>?_,fun h b' hb'=>?_⟩
      · rw [hs']; simp at h; rw [h]
      · rw [he] at hb'; cases hb'
    | false=>
      subst hg
      rw [Bool.false_and]
      exact hfalse _ he
  · rename_i x _ he
    subst hg
    exact hfalse _ he
theorem setslot (hf:FRel N γ ro fr a) {sl:Nat} {s:S} (h:s.rel γ ro (a.tmps.getD sl undef)):FRel N γ ro (put fr (some sl) s) a:=by
  refine ⟨hf.size,fun i=>?_,hf.defers⟩
  simp only [W.put]
  split
  · rename_i hi; subst hi; exact h
  · exact hf.slot i
theorem rfn_rel (hf:FRel N γ ro fr a) {sl:Nat} {want:Bool} (h:a.tmps.getD sl undef=.bool want):FRel N γ ro (rfn fr sl want) a:=setslot hf h
theorem rff_rel (hf:FRel N γ ro fr a) {sl:Nat} {want:Bool} (h:∀ b,fr sl=bS b->a.tmps.getD sl undef=.bool (!want)):FRel N γ ro (rff fr sl want) a:=by
  unfold rff
  split
  · rename_i b he; exact setslot hf (h b he)
  · exact hf
theorem trJ_spec {σ:CH} {j:J} (h:trJ P nw N ops σ o=some j):trI P nw σ o.op=some j.i/\trG ops o.guard=some j.g/\j.d=o.dst/\∀ k,o.dst=some k->k < N:=by
  unfold trJ at h
  split at h
  · rename_i i g hi hg
    split at h
    · rename_i d hd
      split at h
      · rename_i hlt; simp only [Option.some.injEq] at h; subst h; exact ⟨hi,hg,rfl,fun k hk=>by rw [hd] at hk; simp only [Option.some.injEq] at hk; rw [<-hk]; exact hlt⟩
      · cases h
    · rename_i hd
      simp only [Option.some.injEq] at h; subst h; exact ⟨hi,hg,rfl,fun k hk=>by rw [hd] at hk; cases hk⟩
  · cases h
theorem trI_q {σ:CH} {op:Op} {i:QI} (h:trI P nw σ op=some (.q i)):trQ P nw op=some i:=by
  unfold trI at h
  split at h
  · rename_i h1; simp only [Option.some.injEq,I.q.injEq] at h; rw [<-h]; exact h1
  · repeat' (split at h)
    all_goals first | (simp at h; done) | (cases σ<;>simp at h; done)
theorem trI_l {σ:CH} {op:Op} {i:LI} (h:trI P nw σ op=some (.l i)):trL P op=some i:=by
  unfold trI at h
  split at h
  · simp at h
  · split at h
    · rename_i h1; simp only [Option.some.injEq,I.l.injEq] at h; rw [<-h]; exact h1
    · repeat' (split at h)
      all_goals first | (simp at h; done) | (cases σ<;>simp at h; done)
theorem trI_ix {σ:CH} {op:Op} {x y:O} (h:trI P nw σ op=some (.ix x y)):trX P op=some (x,y):=by
  unfold trI at h
  split at h
  · simp at h
  · split at h
    · simp at h
    · split at h
      · rename_i h1; simp only [Option.some.injEq,I.ix.injEq] at h; obtain ⟨rfl,rfl⟩:=h; exact h1
      · repeat' (split at h)
        all_goals first | (simp at h; done) | (cases σ<;>simp at h; done)
theorem trI_e {σ:CH} {op:Op} {i:EI} (h:trI P nw σ op=some (.e i)):∃ i0,trE P op=some i0/\(i=i0\/i=i0.ext):=by
  unfold trI at h
  split at h
  · simp at h
  · split at h
    · simp at h
    · split at h
      · simp at h
      · split at h
        · rename_i i0 h1
          simp only [Option.some.injEq,I.e.injEq] at h
          refine ⟨i0,h1,?_⟩
          rw [<-h]
          cases σ with
          | own l=>exact .inl rfl
          | q=>exact .inr rfl
        · repeat' (split at h)
          all_goals first | (simp at h; done) | (cases σ<;>simp at h; done)
theorem trI_pick {σ:CH} {op:Op} {c x y:O} (h:trI P nw σ op=some (.pick c x y)):∃ c' x' y',op=.pick c' x' y'/\c=trO c'/\x=trO x'/\y=trO y':=by
  unfold trI at h
  repeat' (split at h)
  all_goals first
    | (simp only [Option.some.injEq,I.pick.injEq] at h; exact ⟨_,_,_,rfl,h.1.symm,h.2.1.symm,h.2.2.symm⟩)
    | (simp at h; done)
    | (cases σ<;>simp at h; done)
theorem trI_cl {σ:CH} {σ':List Nat} {op:Op} {f:FuncId} {xs:List O} (h:trI P nw σ op=some (.cl f xs σ')):∃ c:Call,op=.call c/\c.callee=.value (.func f)/\xs=c.args.toList.map trO:=by
  unfold trI at h
  split at h
  · simp at h
  · split at h
    · simp at h
    · split at h
      · simp at h
      · split at h
        · simp at h
        · split at h
          · simp at h
          · rename_i c _ _ _ _
            split at h
            · rename_i g hcal
              cases σ with
              | own l=>
                simp only [Option.some.injEq,I.cl.injEq] at h
                obtain ⟨rfl,rfl,rfl⟩:=h
                exact ⟨c,rfl,hcal,rfl⟩
              | q=>simp at h
            · cases σ<;>simp at h
            · cases h
          · cases h
theorem trI_ca {σ:CH} {σ':List Nat} {op:Op} {x:O} {xs:List O} (h:trI P nw σ op=some (.ca x xs σ')):∃ (c:Call) (t:Nat),op=.call c/\c.callee=.value (.tmp t)/\x=.t t/\xs=c.args.toList.map trO:=by
  unfold trI at h
  split at h
  · simp at h
  · split at h
    · simp at h
    · split at h
      · simp at h
      · split at h
        · simp at h
        · split at h
          · simp at h
          · rename_i c _ _ _ _
            split at h
            · cases σ<;>simp at h
            · rename_i t hcal
              cases σ with
              | own l=>
                simp only [Option.some.injEq,I.ca.injEq] at h
                obtain ⟨rfl,rfl,rfl⟩:=h
                exact ⟨c,t,rfl,hcal,rfl,rfl⟩
              | q=>simp at h
            · cases h
          · cases h
theorem trI_cq {σ:CH} {op:Op} {f:FuncId} {xs:List O} (h:trI P nw σ op=some (.cq f xs)):∃ c:Call,op=.call c/\c.callee=.value (.func f)/\xs=c.args.toList.map trO:=by
  unfold trI at h
  split at h
  · simp at h
  · split at h
    · simp at h
    · split at h
      · simp at h
      · split at h
        · simp at h
        · split at h
          · simp at h
          · rename_i c _ _ _ _
            split at h
            · rename_i g hcal
              cases σ with
              | own l=>simp at h
              | q=>
                simp only [Option.some.injEq,I.cq.injEq] at h
                obtain ⟨rfl,rfl⟩:=h
                exact ⟨c,rfl,hcal,rfl⟩
            · cases σ<;>simp at h
            · cases h
          · cases h
theorem wanted_none (h:o.guard=none) (y:Nat->Option Bool):Region.wanted o y=true:=by simp [Region.wanted,h]
theorem mrg_rel {b:Bool} {x y:A} {u v:Value} (hx:b=true->x.rel γ ro u) (hy:b=false->y.rel γ ro v):(mrg b x y).rel γ ro (if b then u else v):=by
  cases b with
  | true=>
    have:=hx rfl
    unfold mrg
    split
    · exact this
    · exact this
  | false=>
    have:=hy rfl
    unfold mrg
    split
    · exact this
    · exact this
def QJ (P:Program) (N:Nat) (o:Oper) (a:Act) (E:Es) (ro:RO) (X:Ctx) (K:Fr->Hp->Prop):Prop:=
  ∃ fr',K fr' (hp E)/\∃ v,FRel N (gm E) ro fr' (a.put o.dst v)/\∀ w,Rel X E ro w->(execOp a.eval o).run P w=.ok (.value v) w
theorem QOk.qj {s:S} (h:QOk P o E ro a s) (hf:FRel N (gm E) ro fr a) (hN:∀ k,o.dst=some k->k < N) {K:Fr->Hp->Prop} (hK:K (put fr o.dst s) (hp E)):QJ P N o a E ro X K:=by
  obtain ⟨v,h1,h2⟩:=h
  exact ⟨_,hK,v,hf.put hN h1,fun w hr=>h2 X w hr⟩
theorem qj0 (hf:FRel N (gm E) ro fr a) (hr0:Rel X E ro w) {σ:CH} {i:I} (hi:trI P nw σ o.op=some i) (hN:∀ k,o.dst=some k->k < N) (hq:(J.mk o.dst none i).quiet=true) {K:Fr->Hp->Prop} (hv:vJ0 Γ fr (hp E) K o.dst i):QJ P N o a E ro X K:=by
  cases i with
  | q q=>
    simp only [vJ0] at hv
    split at hv
    · rename_i s hs
      obtain ⟨h1,h2,hK⟩:=hv
      obtain ⟨e1,e2⟩:=q_congr (H:=hp E) (i:=q) (fr:=fst fr) (fr2:=W.res fr) (fst_res h1)
      rw [e1] at hs
      rw [e2] at h2
      exact (q_sound hf.res hr0 (trI_q hi) hs h2).qj hf hN hK
    · exact hv.elim
  | ix x y=>
    simp only [vJ0] at hv
    split at hv
    · rename_i s k n hx hy
      obtain ⟨⟨hg,h0,h1⟩,hK⟩:=hv
      have hfr:=fst_res hg
      have hx':ev (W.res fr) x=tS s:=by rw [<-ev_congr (fr:=fst fr) (fun j hj=>hfr j (by simp [hj]))]; exact hx
      have hy':ev (W.res fr) y=iS k n:=by rw [<-ev_congr (fr:=fst fr) (fun j hj=>hfr j (by simp [hj]))]; exact hy
      obtain ⟨c,hc,hq⟩:=x_sound hf.res (trI_ix hi) hx' hy' ⟨h0,h1⟩
      exact hq.qj hf hN (hK c hc)
    · exact hv.elim
  | l i=>
    obtain ⟨hg,hv⟩:=hv
    rw [l_congr (fst_res hg)] at hv
    obtain ⟨s,hK,hq⟩:=l_sound hf.res hr0 (trI_l hi) hv
    exact hq.qj hf hN hK
  | pick c x y=>
    simp only [vJ0] at hv
    split at hv
    · rename_i b ax ay hc hx hy
      obtain ⟨hgc,hgx,hgy,hK⟩:=hv
      obtain ⟨c',x',y',ho,rfl,rfl,rfl⟩:=trI_pick hi
      have hc2:a.eval c'=.bool b:=by
        have:=ev_rel hf.res c'
        rw [<-ev_congr (fr:=fst fr) (fst_res hgc),hc] at this
        exact this
      have hq:QOk P o E ro a (.va (mrg b ax ay)):=by
        refine ⟨if b then a.eval x' else a.eval y',mrg_rel (fun hb=>?_) (fun hb=>?_),fun X w _=>by simp [execOp,ho,hc2,asBool]⟩
        · have:=ev_rel hf.res x'
          rw [<-ev_congr (fr:=fst fr) (fst_res (hgx hb)),hx] at this
          exact this
        · have:=ev_rel hf.res y'
          rw [<-ev_congr (fr:=fst fr) (fst_res (hgy hb)),hy] at this
          exact this
      exact hq.qj hf hN hK
    · exact hv.elim
  | e i=>simp [J.quiet] at hq
  | cl f xs σ=>simp [J.quiet] at hq
  | ca f xs σ=>simp [J.quiet] at hq
  | cq f xs=>simp [J.quiet] at hq
theorem cnd_rel {g:Bool} {s:S} {v:Value} (h:g=true->s.rel γ ro v) (h2:g=false->v=undef):(s.cnd g).rel γ ro v:=by
  cases s with
  | va y=>exact ⟨h,h2⟩
  | _=>trivial
theorem dum_rel:dum.rel γ ro undef:=⟨fun h=>(by cases h),fun _=>rfl⟩
theorem jq_sound (hf:FRel N (gm E) ro fr a) (hr0:Rel X E ro w) {σ:CH} {j:J} (hj:trJ P nw N ops σ o=some j) (hq:j.quiet=true) {K:Fr->Hp->Prop} (hv:vJ Γ fr (hp E) K j) :
    if Region.wanted o (yielded ops a.tmps)=true then QJ P N o a E ro X K else ∃ fr',K fr' (hp E)/\FRel N (gm E) ro fr' (a.put o.dst undef):=by
  obtain ⟨hi,hg,hd,hN⟩:=trJ_spec hj
  obtain ⟨d,jg,i⟩:=j
  simp only at hi hg hd
  subst hd
  unfold vJ at hv
  cases hgd:o.guard with
  | none=>
    rw [hgd] at hg
    simp only [trG,Option.some.injEq] at hg
    subst hg
    simp only at hv
    rw [if_pos (wanted_none hgd _)]
    exact qj0 hf hr0 hi hN hq hv
  | some gw=>
    obtain ⟨k,want⟩:=gw
    rw [hgd] at hg
    simp only [trG] at hg
    split at hg
    · rename_i sl hsl
      simp only [Option.some.injEq] at hg
      subst hg
      simp only at hv
      split at hv
      · exact hv.elim
      · rename_i g hgv
        obtain ⟨hwant,hgt,hgf⟩:=gv_spec hf hgv hsl
        have hw:Region.wanted o (yielded ops a.tmps)=g:=by simp only [Region.wanted,hgd]; exact hwant
        rw [hw]
        have dm:∀ {fr2:Fr},FRel N (gm E) ro fr2 a->K (put fr2 o.dst dum) (hp E)->∃ fr',K fr' (hp E)/\FRel N (gm E) ro fr' (a.put o.dst undef):=fun h hK=>⟨_,hK,h.put hN dum_rel⟩
        cases i with
        | q q=>
          simp only [vJg] at hv
          split at hv
          · rename_i s hs
            obtain ⟨h1,hK⟩:=hv
            cases g with
            | true=>
              rw [if_pos rfl]
              obtain ⟨hg1,h2⟩:=h1 rfl
              obtain ⟨e1,e2⟩:=q_congr (H:=hp E) (i:=q) (fr:=fst fr) (fr2:=W.res fr) (fst_res hg1)
              rw [e1] at hs
              rw [e2] at h2
              obtain ⟨v,k1,k2⟩:=q_sound hf.res hr0 (trI_q hi) hs h2
              exact ⟨_,hK,v,hf.put hN (cnd_rel (fun _=>k1) (fun h=>by cases h)),fun w hr=>k2 X w hr⟩
            | false=>
              rw [if_neg (by simp)]
              exact ⟨_,hK,hf.put hN (cnd_rel (fun h=>by cases h) (fun _=>rfl))⟩
          · obtain ⟨rfl,hK⟩:=hv
            rw [if_neg (by simp)]
            exact dm hf hK
        | ix x y=>
          simp only [vJg] at hv
          split at hv
          · rename_i s k n hx hy
            obtain ⟨h1,hK⟩:=hv
            cases g with
            | true=>
              rw [if_pos rfl]
              obtain ⟨hg1,h2,h3⟩:=h1 rfl
              have hfr:=fst_res hg1
              have hx':ev (W.res fr) x=tS s:=by rw [<-ev_congr (fr:=fst fr) (fun j hj=>hfr j (by simp [hj]))]; exact hx
              have hy':ev (W.res fr) y=iS k n:=by rw [<-ev_congr (fr:=fst fr) (fun j hj=>hfr j (by simp [hj]))]; exact hy
              obtain ⟨c,hc,v,k1,k2⟩:=x_sound hf.res (trI_ix hi) hx' hy' ⟨h2,h3⟩
              exact ⟨_,hK c fun _=>hc,v,hf.put hN ⟨fun _=>k1,fun h=>by cases h⟩,fun w hr=>k2 X w hr⟩
            | false=>
              rw [if_neg (by simp)]
              exact ⟨_,hK 0 (fun h=>by cases h),hf.put hN (s:=.cn false _) ⟨fun h=>(by cases h),fun _=>rfl⟩⟩
          · obtain ⟨rfl,hK⟩:=hv
            rw [if_neg (by simp)]
            exact dm hf hK
        | l i=>
          simp only [vJg] at hv
          split at hv
          · rename_i s hs
            obtain ⟨h1,hK⟩:=hv
            cases g with
            | true=>
              rw [if_pos rfl]
              have h3:=lq_vL hs
              rw [l_congr (fst_res (h1 rfl))] at h3
              obtain ⟨s',rfl,v,k1,k2⟩:=l_sound hf.res hr0 (trI_l hi) h3
              exact ⟨_,hK,v,hf.put hN (cnd_rel (fun _=>k1) (fun h=>by cases h)),fun w hr=>k2 X w hr⟩
            | false=>
              rw [if_neg (by simp)]
              exact ⟨_,hK,hf.put hN (cnd_rel (fun h=>by cases h) (fun _=>rfl))⟩
          obtain ⟨h1,h2⟩:=hv
          cases g with
          | true=>
            rw [if_pos rfl]
            obtain ⟨hg1,h3⟩:=h1 rfl
            have hf2:=rfn_rel hf (hgt rfl)
            rw [l_congr (fst_res hg1)] at h3
            obtain ⟨s,hK,hq⟩:=l_sound hf2.res hr0 (trI_l hi) h3
            exact hq.qj hf2 hN hK
          | false=>
            rw [if_neg (by simp)]
            exact dm (rff_rel hf (hgf rfl)) (h2 rfl)
        | pick c x y=>
          simp only [vJg] at hv
          split at hv
          · rename_i b ax ay hc hx hy
            obtain ⟨h1,hK⟩:=hv
            cases g with
            | true=>
              rw [if_pos rfl]
              obtain ⟨hgc,hgx,hgy⟩:=h1 rfl
              have h0:vJ0 Γ fr (hp E) (fun fr' H=>∃ s,fr'=put fr o.dst s/\s=.va (mrg b ax ay)/\True) o.dst (.pick c x y):=by
                simp only [vJ0,hc,hx,hy]
                exact ⟨hgc,hgx,hgy,_,rfl,rfl,trivial⟩
              obtain ⟨fr',⟨s,rfl,rfl,_⟩,v,k1,k2⟩:=qj0 hf hr0 hi hN rfl h0
              refine ⟨_,hK,v,⟨k1.size,fun i=>?_,k1.defers⟩,k2⟩
              have:=k1.slot i
              cases hd:o.dst with
              | none=>rw [hd] at this; simpa [W.put] using this
              | some d=>
                rw [hd] at this
                simp only [W.put] at this ⊢
                split
                · rename_i he; rw [if_pos he] at this; exact ⟨fun _=>this,fun h=>by cases h⟩
                · rename_i he; rw [if_neg he] at this; exact this
            | false=>
              rw [if_neg (by simp)]
              exact ⟨_,hK,hf.put hN ⟨fun h=>(by cases h),fun _=>rfl⟩⟩
          · obtain ⟨rfl,hK⟩:=hv
            rw [if_neg (by simp)]
            exact dm hf hK
        | e i=>simp [J.quiet] at hq
        | cl f xs σ=>simp [J.quiet] at hq
        | ca f xs σ=>simp [J.quiet] at hq
        | cq f xs=>simp [J.quiet] at hq
    · cases hg
end
end Go.W
namespace Go.W
def mergeE:List Nat->Es->Es->Es
  | [],E,E'=>E ++ E'
  | n :: σ,E,E'=>mergeE σ (E.set n (E'.headD (g00,.dead))) E'.tail
theorem hp_merge:∀ (σ:List Nat) (E E':Es),hp (mergeE σ E E')=mergeH σ (hp E) (hp E')
  | [],E,E'=>by simp [mergeE,mergeH,hp]
  | n :: σ,E,E'=>by
    simp only [mergeE,mergeH]
    rw [hp_merge σ]
    congr 1
    · cases E'<;>simp [hp,List.map_set]
    · cases E'<;>simp [hp]
theorem mergeE_old:∀ (σ:List Nat) (E E':Es) {n:Nat},n ∉ σ->n < E.length->(mergeE σ E E')[n]? = E[n]?
  | [],E,E',n,h,hl=>by simp only [mergeE]; rw [List.getElem?_append_left hl]
  | k :: σ,E,E',n,h,hl=>by
    simp only [List.mem_cons,not_or] at h
    simp only [mergeE]
    rw [mergeE_old σ _ _ h.2 (by rw [List.length_set]; exact hl),List.getElem?_set,if_neg (fun e=>h.1 e.symm)]
theorem mergeE_new:∀ (σ:List Nat) (E E':Es),σ.Nodup->(∀ n ∈ σ,n < E.length)->σ.length<=E'.length->∀ (j:Nat) (e:Gb × B),E'[j]? = some e->∃ n,back σ E.length j=some n/\(mergeE σ E E')[n]? = some e
  | [],E,E',_,_,_,j,e,hj=>⟨E.length + j,by simp [back],by simp only [mergeE]; rw [List.getElem?_append_right (by omega)]; simpa using hj⟩
  | k :: σ,E,[],_,_,hl,j,e,hj=>by simp at hl
  | k :: σ,E,e0 :: E',hd,hlt,hl,j,e,hj=>by
    simp only [List.nodup_cons] at hd
    simp only [mergeE,List.headD_cons,List.tail_cons]
    cases j with
    | zero=>
      simp only [List.getElem?_cons_zero,Option.some.injEq] at hj
      subst hj
      have hk:=hlt k (by simp)
      exact ⟨k,by simp [back],by rw [mergeE_old σ _ _ hd.1 (by rw [List.length_set]; exact hk),List.getElem?_set,if_pos rfl,if_pos hk]⟩
    | succ j=>
      obtain ⟨n,h1,h2⟩:=mergeE_new σ (E.set k e0) E' hd.2 (fun n hn=>by rw [List.length_set]; exact hlt n (by simp [hn])) (by simpa using hl) j e (by simpa using hj)
      refine ⟨n,?_,h2⟩
      rw [List.length_set] at h1
      rw [<-h1]
      simp [back]
theorem mergeE_get:∀ (σ:List Nat) (E E':Es) (n:Nat) (e:Gb × B),(mergeE σ E E')[n]? = some e->
    (n ∉ σ/\n < E.length/\E[n]? = some e)\/(∃ j,E'[j]? = some e/\some n=back σ E.length j)\/e=(g00,.dead)
  | [],H,H',n,e,h=>by
    simp only [mergeE,List.getElem?_append] at h
    split at h
    · exact .inl ⟨by simp,by assumption,h⟩
    · exact .inr (.inl ⟨_,h,by simp [back]; omega⟩)
  | k :: σ,H,H',n,e,h=>by
    simp only [mergeE] at h
    have ih:=mergeE_get σ _ _ n e h
    rw [List.length_set] at ih
    rcases ih with ⟨h1,h2,h3⟩ | ⟨j,h1,h2⟩ | h1
    · rw [List.getElem?_set] at h3
      split at h3
      · rename_i hk
        subst hk
        have h4:H'.headD (g00,.dead)=e:=by
          have h3':some (H'.headD (g00,.dead))=some e:=by simpa [h2] using h3
          exact Option.some.inj h3'
        cases H' with
        | nil=>exact .inr (.inr h4.symm)
        | cons y r=>exact .inr (.inl ⟨0,by simpa using h4,rfl⟩)
      · rename_i hk
        exact .inl ⟨by simp; exact ⟨fun e=>hk e.symm,h1⟩,h2,h3⟩
    · refine .inr (.inl ⟨j + 1,?_,?_⟩)
      · cases H' with
        | nil=>simp at h1
        | cons y r=>simpa using h1
      · rw [h2]; simp [back]
    · exact .inr (.inr h1)
section
variable {P:Program} {o:Oper} {N:Nat} {fr:Fr} {a:Act} {E:Es} {γ:List Gb} {ro:RO} {X:Ctx} {w:World} {nw:Bool} {Γ:Env} {ops:Array Oper}
theorem Rel.here (h:Rel X E ro w):Rel ⟨w,blks E,ro,gm E⟩ E ro w:=
  ⟨h.own,h.inj,h.apart,h.rd,Ext.refl _,fun _ _ _ h=>.inl h,fun n b g blk hn en hl=>.inr (mem_blks.2 ⟨n,g,blk,hn,en,hl⟩),GExt.refl _,Nat.le_refl _,fun _ _ _=>rfl,rfl,rfl,rfl⟩
theorem Rel.back (h:Rel X E ro w) {σ:List Nat} (hnd:σ.Nodup) (hlt:∀ n ∈ σ,n < E.length) {El E':Es} (hEl:El=mapB (B.ren (loc σ)) (pickE E σ)) {ro':RO} {w':World}
    (k:Rel ⟨w,blks El,ro,gm El⟩ E' ro' w'):Rel X (mergeE σ E (mapB (B.ren (W.back σ E.length)) E')) ro' w'/\GExt (gm E) (gm (mergeE σ E (mapB (B.ren (W.back σ E.length)) E')))/\
      ∀ (n m:Nat) (g:Gb),W.back σ E.length n=some m->(gm E')[n]? = some g->(gm (mergeE σ E (mapB (B.ren (W.back σ E.length)) E')))[m]? = some g:=by
  have hEll:El.length=σ.length:=by rw [hEl]; simp [mapB,pickE]
  have hel:∀ (j n:Nat),σ[j]? = some n->∃ g blk,E[n]? = some (g,blk)/\El[j]? = some (g,blk.ren (loc σ)):=by
    intro j n hj
    have hn:=hlt n (List.mem_of_getElem? hj)
    refine ⟨(E[n]).1,(E[n]).2,by rw [List.getElem?_eq_getElem hn],?_⟩
    rw [hEl]
    simp [mapB,pickE,hj,List.getElem?_eq_getElem hn]
  have hbl:∀ b,b ∈ blks El->∃ (n:Nat) (g:Gb) (blk:B),n ∈ σ/\E[n]? = some (g,blk)/\g.ob=some b/\B.live blk=true:=by
    intro b hb
    obtain ⟨j,g,blk,hj,hgb,hl⟩:=mem_blks.1 hb
    have hjl:j < σ.length:=by rw [<-hEll]; exact (List.getElem?_eq_some_iff.1 hj).1
    obtain ⟨g',blk',h1,h2⟩:=hel j _ (List.getElem?_eq_getElem hjl)
    rw [h2] at hj
    simp only [Option.some.injEq,Prod.mk.injEq] at hj
    obtain ⟨rfl,rfl⟩:=hj
    exact ⟨_,_,blk',List.getElem_mem hjl,h1,hgb,by rw [B.live_ren] at hl; exact hl⟩
  have hlen':σ.length<=E'.length:=by
    rcases Nat.lt_or_ge E'.length σ.length with hc | hc
    · have hg:=(hel _ _ (List.getElem?_eq_getElem hc))
      obtain ⟨g,blk,_,h2⟩:=hg
      obtain ⟨g',h3,_⟩:=k.gx _ g (gm_get h2)
      have:=(List.getElem?_eq_some_iff.1 h3).1
      rw [gm_len] at this
      omega
    · exact hc
  have hlenb:σ.length<=(mapB (B.ren (W.back σ E.length)) E').length:=by simpa [mapB] using hlen'
  have fwd:∀ (n m:Nat) (g:Gb),W.back σ E.length n=some m->(gm E')[n]? = some g->(gm (mergeE σ E (mapB (B.ren (W.back σ E.length)) E')))[m]? = some g:=by
    intro n m g h1 h2
    obtain ⟨blk,h3⟩:=gm_inv h2
    obtain ⟨n',h4,h5⟩:=mergeE_new σ E (mapB (B.ren (W.back σ E.length)) E') hnd hlt hlenb n (g,blk.ren (W.back σ E.length)) (by simp [mapB,h3])
    rw [h1] at h4
    simp only [Option.some.injEq] at h4
    subst h4
    exact gm_get h5
  have gx2:GExt (gm E) (gm (mergeE σ E (mapB (B.ren (W.back σ E.length)) E'))):=by
    intro n g hn
    obtain ⟨blk,hE⟩:=gm_inv hn
    by_cases hs:n ∈ σ
    · obtain ⟨j,hj⟩:=List.mem_iff_getElem?.1 hs
      obtain ⟨g1,b1,h1,h2⟩:=hel j n hj
      rw [hE] at h1
      simp only [Option.some.injEq,Prod.mk.injEq] at h1
      obtain ⟨rfl,rfl⟩:=h1
      obtain ⟨g',h3,h4⟩:=k.gx j g (gm_get h2)
      exact ⟨g',fwd j n g' (by simp [W.back,hj]) h3,h4⟩
    · exact ⟨g,by simp only [gm,List.getElem?_map]; rw [mergeE_old σ _ _ hs (List.getElem?_eq_some_iff.1 hE).1,hE]; rfl,g.le_refl⟩
  have hlb:∀ (n b:Nat) (g:Gb) (blk:B),n ∈ σ->E[n]? = some (g,blk)->g.ob=some b->B.live blk=true->b ∈ blks El:=by
    intro n b g blk hn hE hb hl
    obtain ⟨j,hj⟩:=List.mem_iff_getElem?.1 hn
    obtain ⟨g1,b1,h1,h2⟩:=hel j n hj
    rw [hE] at h1
    simp only [Option.some.injEq,Prod.mk.injEq] at h1
    obtain ⟨rfl,rfl⟩:=h1
    exact mem_blks.2 ⟨j,g,_,h2,hb,by rw [B.live_ren]; exact hl⟩
  have hold:∀ (n b:Nat) (g:Gb) (blk:B),n ∉ σ->E[n]? = some (g,blk)->g.ob=some b->B.live blk=true->b < w.heap.size/\b ∉ blks El:=by
    intro n b g blk hn hE hgb hl
    refine ⟨(h.own n _ blk hE).lt hl hgb,fun hb=>?_⟩
    obtain ⟨m,gm',bk,hm,hEm,hgm,hlm⟩:=hbl b hb
    have:=h.inj n m g gm' blk bk b hE hEm hgb hgm hl hlm
    subst this
    exact hn hm
  have hget:∀ (n:Nat) (g:Gb) (blk:B),(mergeE σ E (mapB (B.ren (W.back σ E.length)) E'))[n]? = some (g,blk)->blk.live=true->
      (n ∉ σ/\E[n]? = some (g,blk))\/(∃ (j:Nat) (bk:B),E'[j]? = some (g,bk)/\bk.live=true/\blk=bk.ren (W.back σ E.length)/\some n=W.back σ E.length j):=by
    intro n g blk hn hl
    rcases mergeE_get _ _ _ _ _ hn with ⟨h1,_,h2⟩ | ⟨j,h1,h2⟩ | h1
    · exact .inl ⟨h1,h2⟩
    · simp only [mapB,List.getElem?_map] at h1
      cases hj:E'[j]? with
      | none=>rw [hj] at h1; cases h1
      | some y=>
        rw [hj] at h1
        simp only [Option.map_some,Option.some.injEq,Prod.mk.injEq] at h1
        obtain ⟨h1a,h1b⟩:=h1
        subst h1b
        exact .inr ⟨j,y.2,by rw [hj,<-h1a],by rw [B.live_ren] at hl; exact hl,rfl,h2⟩
    · simp only [Prod.mk.injEq] at h1; rw [h1.2] at hl; cases hl
  have hext:Ext ro ro':=k.ro0
  refine ⟨⟨fun n g blk hn=>?_,fun n m gn gm' bn bm b hn hm en em ln lm=>?_,fun b off c hc n g blk hn en=>?_,k.rd,h.ro0.trans hext,fun b off c hc=>?_,fun n b g blk hn en hl=>?_,h.gx.trans gx2,Nat.le_trans h.sz k.sz,fun b hb hp=>?_,k.os.trans h.os,k.tape.trans h.tape,k.output.trans h.output⟩,gx2,fwd⟩
  · by_cases hl:blk.live=true
    · rcases hget n g blk hn hl with ⟨h1,h2⟩ | ⟨j,bk,h1,h2,rfl,h4⟩
      · refine (h.own n g blk h2).same gx2 hext fun b hb=>?_
        obtain ⟨h3,h4⟩:=hold n b g blk h1 h2 hb hl
        exact k.keep b h3 h4
      · exact B.On_ren fwd (k.own j g bk h1)
    · cases blk<;>simp [B.live] at hl; trivial
  · rcases hget n _ bn hn ln with ⟨h1,h2⟩ | ⟨j,bk,h1,h2,h3,h4⟩<;>rcases hget m _ bm hm lm with ⟨k1,k2⟩ | ⟨j',bk',k1,k2,k3,k4⟩
    · exact h.inj n m gn gm' bn bm b h2 k2 en em ln lm
    · obtain ⟨q1,q2⟩:=hold n b gn bn h1 h2 en ln
      rcases k.par j' b gm' bk' k1 em k2 with q | q
      · simp only at q; omega
      · exact absurd q q2
    · obtain ⟨q1,q2⟩:=hold m b gm' bm k1 k2 em lm
      rcases k.par j b gn bk h1 en h2 with q | q
      · simp only at q; omega
      · exact absurd q q2
    · have:=k.inj j j' gn gm' bk bk' b h1 k1 en em h2 k2
      subst this
      rw [<-k4] at h4
      exact Option.some.inj h4
  · by_cases hl:blk.live=true
    · rcases hget n _ blk hn hl with ⟨h1,h2⟩ | ⟨j,bk,h1,h2,h3,h4⟩
      · obtain ⟨q1,q2⟩:=hold n b g blk h1 h2 en hl
        rcases k.rob b off c hc with q | q | q
        · have:=h.apart b off c q n g blk h2 en; rw [hl] at this; cases this
        · simp only at q; omega
        · exact absurd q q2
      · have:=k.apart b off c hc j g bk h1 en; rw [h2] at this; cases this
    · simpa using hl
  · rcases k.rob b off c hc with q | q | q
    · exact h.rob b off c q
    · simp only at q; have:=h.sz; exact .inr (.inl (by omega))
    · obtain ⟨n,g,blk,hn,hE,hgb,hl⟩:=hbl b q
      exact .inr (h.par n b g blk hE hgb hl)
  · rcases hget n _ blk hn hl with ⟨h1,h2⟩ | ⟨j,bk,h1,h2,h3,h4⟩
    · exact h.par n b g blk h2 en hl
    · rcases k.par j b g bk h1 en h2 with q | q
      · simp only at q; have:=h.sz; exact .inl (by omega)
      · obtain ⟨n',g',blk',hn',hE,hgb,hl'⟩:=hbl b q
        exact h.par n' b g' blk' hE hgb hl'
  · rw [k.keep b (by have:=h.sz; simp only; omega) (fun hb'=>?_)]
    · exact h.keep b hb hp
    · obtain ⟨n,g,blk,hn,hE,hgb,hl⟩:=hbl b hb'
      rcases h.par n b g blk hE hgb hl with q | q
      · omega
      · exact hp q
theorem run_enter {f:FuncId} (he:enters P f=true) (args:Array Value) (w:World):(callFunc f args).run P w=.ok (.enter f args) w:=by
  unfold enters at he
  cases hf:P.funcs[f]? with
  | none=>simp [hf] at he
  | some fn=>
    simp only [hf,Bool.and_eq_true,Bool.not_eq_true'] at he
    cases hb:fn.body with
    | none=>simp [hb] at he
    | some c=>
      have hn:=he.2
      simp only [callFunc,Sem.run_bind,run_program,Result.andThen_ok,hf,hn,hb]
      simp
theorem call_core (hr:Rel X E ro w) (hm:MeetsAll P Γ) {f:FuncId} {az:List S} {vs:List Value} (hl:az.length=vs.length) (hrel:∀ (i:Nat) (x:S) (v:Value),az[i]? = some x->vs[i]? = some v->x.rel (gm E) ro v)
    (hrun:enters P f=true->(execOp a.eval o).run P w=.ok (.enter f vs.toArray) w) {σ:List Nat} {R:S->Hp->Prop} (hv:callP Γ (hp E) f az σ R):EDoes P o a w X E ro R:=by
  intro next Q hK
  obtain ⟨⟨hnd,hlt⟩,hsp⟩:=hv
  obtain ⟨s,hmem,hs⟩:=sp_mem hsp
  rw [hp_len] at hlt
  have gxl:∀ (n m:Nat) (g:Gb),loc σ n=some m->(gm E)[n]? = some g->(gm (mapB (B.ren (loc σ)) (pickE E σ)))[m]? = some g:=fun n m g h1 h2=>by rw [gm_mapB]; exact loc_gm n m g h1 h2
  have hloc:Rel ⟨w,blks (mapB (B.ren (loc σ)) (pickE E σ)),ro,gm (mapB (B.ren (loc σ)) (pickE E σ))⟩ (mapB (B.ren (loc σ)) (pickE E σ)) ro w:=by
    have h0:Rel ⟨w,blks E,ro,[]⟩ E ro w:=⟨hr.own,hr.inj,hr.apart,hr.rd,Ext.refl _,fun _ _ _ h=>.inl h,fun n b g blk hn en hl=>.inr (mem_blks.2 ⟨n,g,blk,hn,en,hl⟩),fun n g hn=>by simp at hn,Nat.le_refl _,fun _ _ _=>rfl,rfl,rfl,rfl⟩
    exact (h0.sel hnd hlt (fun n g hn=>by simp at hn)).here
  obtain ⟨hent,hmeets⟩:=(hm f s hmem).1
  have hcall:=hmeets (az.map fun s=>s.nf.ren (loc σ)) vs (mapB (B.ren (loc σ)) (pickE E σ)) ro w _ (by simpa using hl) (fun i x v hx hv=>by
    rw [List.getElem?_map] at hx
    cases hi:az[i]? with
    | none=>rw [hi] at hx; cases hx
    | some y=>
      rw [hi] at hx
      simp only [Option.map_some,Option.some.injEq] at hx
      subst hx
      exact S.rel_ren gxl (S.rel_nf (hrel i y v hi hv))) hloc (by rw [hp_mapB,hp_pick]; exact hs)
  unfold Oper.wp
  rw [hrun hent,Oper.upon_enter]
  refine hcall.mono ?_
  rintro e w' ⟨r,v,E',ro',rfl,hrv,hR,hrel'⟩
  obtain ⟨q1,q2,q3⟩:=hr.back hnd hlt rfl hrel'
  refine hK _ v _ ro' w' ?_ (S.rel_ren q3 hrv) q2 hrel'.ro0 q1
  rw [hp_merge,hp_mapB]
  rw [hp_len] at hR
  exact hR
theorem gds_sls:∀ {xs:List O},gds fr (O.sls xs)->∀ x ∈ xs,gds fr x.sl
  | [],_,x,hx=>by simp at hx
  | y :: r,h,x,hx=>by
    simp only [O.sls] at h
    have hsplit:∀ {l1 l2:List Nat},gds fr (l1 ++ l2)->gds fr l1/\gds fr l2:=by
      intro l1
      induction l1 with
      | nil=>intro l2 h; exact ⟨trivial,h⟩
      | cons i r ih=>intro l2 h; exact ⟨⟨h.1,(ih h.2).1⟩,(ih h.2).2⟩
    rcases List.mem_cons.1 hx with rfl | hx
    · exact (hsplit h).1
    · exact gds_sls (hsplit h).2 x hx
theorem gds_app:∀ {l1 l2:List Nat},gds fr (l1 ++ l2)->gds fr l1/\gds fr l2
  | [],l2,h=>⟨trivial,h⟩
  | i :: r,l2,h=>by obtain ⟨h1,h2⟩:=gds_app (l1:=r) h.2; exact ⟨⟨h.1,h1⟩,h2⟩
theorem arg_rel (hf:FRel N γ ro fr a) {xs:List Operand} (hg:gds fr (O.sls (xs.map trO))):∀ (i:Nat) (x:S) (v:Value),((xs.map trO).map fun o=>ev (fst fr) o)[i]? = some x->(xs.map a.eval)[i]? = some v->x.rel γ ro v:=by
  intro i x v hx hv
  rw [List.map_map,List.getElem?_map] at hx
  rw [List.getElem?_map] at hv
  cases hi:xs[i]? with
  | none=>rw [hi] at hx; cases hx
  | some y=>
    rw [hi] at hx hv
    simp only [Option.map_some,Function.comp,Option.some.injEq] at hx hv
    subst hx; subst hv
    have hgy:=gds_sls hg (trO y) (List.mem_map.2 ⟨y,List.mem_of_getElem? hi,rfl⟩)
    rw [ev_congr (fst_res hgy)]
    exact ev_rel hf.res y
theorem cl_sound (hf:FRel N (gm E) ro fr a) (hr:Rel X E ro w) (hm:MeetsAll P Γ) {f:FuncId} {c:Call} (ho:o.op=.call c) (hc:c.callee=.value (.func f)) {σ:List Nat} {R:S->Hp->Prop}
    (hv:vI Γ fr (hp E) R (.cl f (c.args.toList.map trO) σ)):EDoes P o a w X E ro R:=by
  obtain ⟨hg,hv⟩:=hv
  refine call_core (vs:=c.args.toList.map a.eval) hr hm (by simp) (arg_rel hf hg) (fun hent=>?_) hv
  have he':=run_enter hent (c.args.map a.eval) w
  have harr:c.args.map a.eval=(c.args.toList.map a.eval).toArray:=by rw [<-Array.toList_map,Array.toArray_toList]
  rw [harr] at he'
  simp [execOp,ho,resolve,hc,Act.eval,Deferred.ofValue,invoke,harr,he']
theorem capA_rel {γ:List Gb} {ro:RO} {x:Bool × List C} {v:Value} (h:capR γ ro x v):(capA x).rel γ ro v:=by
  obtain ⟨b,cs⟩:=x
  cases b with
  | false=>
    match cs,h with
    | [c],h=>exact C.rel_of0 h
  | true=>
    obtain ⟨vs,h1,h2⟩:=h
    exact ⟨vs,h1,h2.imp fun _ _=>C.rel_of0⟩
theorem ca_sound (hf:FRel N (gm E) ro fr a) (hr:Rel X E ro w) (hm:MeetsAll P Γ) {t:Nat} {c:Call} (ho:o.op=.call c) (hc:c.callee=.value (.tmp t)) {σ:List Nat} {R:S->Hp->Prop}
    (hv:vI Γ fr (hp E) R (.ca (.t t) (c.args.toList.map trO) σ)):EDoes P o a w X E ro R:=by
  obtain ⟨hg,hv⟩:=hv
  obtain ⟨hg1,hg2⟩:=gds_app hg
  split at hv
  · rename_i f ns hx
    have h1:(C.fn f ns).rel (gm E) ro (a.eval (.tmp t)):=by
      have:=ev_rel hf.res (.tmp t)
      simp only [trO] at this
      rw [<-ev_congr (fr:=fst fr) (fst_res hg1),hx] at this
      exact this
    obtain ⟨bs,h2,h3⟩:=h1
    refine call_core (vs:=c.args.toList.map a.eval ++ bs) hr hm (by simp [h3.1]) (fun i x v hxx hvv=>?_) (fun hent=>?_) hv
    · rw [List.getElem?_append] at hxx hvv
      simp only [List.length_map] at hxx hvv
      split at hxx
      · rename_i hlt
        rw [if_pos hlt] at hvv
        exact arg_rel hf hg2 i x v hxx hvv
      · rename_i hlt
        rw [if_neg hlt] at hvv
        rw [List.getElem?_map] at hxx
        cases hn:ns[i - c.args.toList.length]? with
        | none=>rw [hn] at hxx; cases hxx
        | some n=>
          rw [hn] at hxx
          simp only [Option.map_some,Option.some.injEq] at hxx
          subst hxx
          exact capA_rel (h3.2 _ n v hn hvv)
    · have harr:c.args.map a.eval ++ bs.toArray=(c.args.toList.map a.eval ++ bs).toArray:=by
        apply Array.ext'; simp
      have he':=run_enter hent (c.args.map a.eval ++ bs.toArray) w
      simp only [Act.eval] at h2
      rw [<-harr]
      simp [execOp,ho,resolve,hc,Act.eval,h2,Deferred.ofValue,invoke] at he' ⊢
      exact he'
  · exact hv.elim
end
end Go.W
namespace Go.W
section
variable {P:Program} {o:Oper} {N:Nat} {fr:Fr} {a:Act} {E:Es} {ro:RO} {X:Ctx} {w:World} {R:S->Hp->Prop}
theorem Rel.more (h:Rel X E ro w) {b:Nat} {vs:List Value} (hb:X.w0.heap.size<=b\/b ∈ X.pb) (hn:∀ (n:Nat) (g:Gb) (blk:B),E[n]? = some (g,blk)->g.ob=some b->blk.live=false)
    (hcell:∀ off v,vs[off]? = some v->w.cell? ⟨b,off,none⟩=some v) (hro:∀ off v,ro b off=some v->vs[off]? = some v) :
    ∃ ro',Ext ro ro'/\(∀ off v,vs[off]? = some v->ro' b off=some v)/\Rel X E ro' w:=by
  let ro':RO:=fun b' off=>if b'=b then vs[off]? else ro b' off
  have hext:Ext ro ro':=by
    intro b' off c hc
    simp only [ro']
    by_cases e:b'=b
    · subst e; rw [if_pos rfl]; exact hro off c hc
    · rw [if_neg e]; exact hc
  refine ⟨ro',hext,fun off v hv=>by simp only [ro',if_true]; exact hv,⟨fun n g blk hn'=>?_,h.inj,fun b' off c hc n g blk hn' e=>?_,fun b' off c hc=>?_,h.ro0.trans hext,fun b' off c hc=>?_,h.par,h.gx,h.sz,h.keep,h.os,h.tape,h.output⟩⟩
  · exact (h.own n g blk hn').same (GExt.refl _) hext fun _ _=>rfl
  · simp only [ro'] at hc
    split at hc
    · rename_i e2; subst e2; exact hn n g blk hn' e
    · exact h.apart b' off c hc n g blk hn' e
  · simp only [ro'] at hc
    split at hc
    · rename_i e2; subst e2; exact hcell off c hc
    · exact h.rd b' off c hc
  · simp only [ro'] at hc
    split at hc
    · rename_i e2; subst e2; exact .inr hb
    · exact h.rob b' off c hc
theorem Rel.move (h:Rel X E ro w) {w':World} {ob:Option Nat} (hsz:w.heap.size<=w'.heap.size) (h1:w'.os=w.os) (h2:w'.tape=w.tape) (h3:w'.output=w.output)
    (hk:∀ k,k < w.heap.size->some k ≠ ob->w'.heap[k]? = w.heap[k]?) (hl:∀ b,ob=some b->∀ (n:Nat) (g:Gb) (blk:B),E[n]? = some (g,blk)->g.ob=some b->blk.live=false)
    (hrd:∀ b,ob=some b->∀ off v,ro b off=some v->w'.cell? ⟨b,off,none⟩=some v) (hp:∀ b,ob=some b->X.w0.heap.size<=b\/b ∈ X.pb):Rel X E ro w':=by
  refine ⟨fun n g blk hn=>?_,h.inj,h.apart,fun b off c hc=>?_,h.ro0,h.rob,h.par,h.gx,Nat.le_trans h.sz hsz,fun b hb hpb=>?_,h1.trans h.os,h2.trans h.tape,h3.trans h.output⟩
  · by_cases hlv:blk.live=true
    · refine (h.own n g blk hn).same (GExt.refl _) (Ext.refl _) fun k hk'=>hk k ((h.own n g blk hn).lt hlv hk') fun e=>?_
      have:=hl k e.symm n g blk hn hk'
      rw [hlv] at this; cases this
    · cases blk<;>simp [B.live] at hlv; trivial
  · by_cases e:some b=ob
    · exact hrd b e.symm off c hc
    · have:=h.rd b off c hc
      rw [<-this]
      simp only [World.cell?,hk b (h.cell_lt hc) e]
  · rw [hk b (by have:=h.sz; omega) fun e=>by rcases hp b e.symm with h4 | h4; omega; exact hpb h4]
    exact h.keep b hb hpb
theorem fz_of {ro ro':RO} {ob:Option Nat} {cap sz:Nat} {xs:List (List C)} {vs:List Value} (hxl:∀ x ∈ xs,x.length=sz) (hsh:∀ c ∈ xs.flatten,c.shut=true) (hrel:All2 (C.fv ro) xs.flatten vs) (hext:Ext ro ro')
    (hcap:xs.length<=cap) (hob:xs ≠ []->ob.isSome=true) (hro:∀ b,ob=some b->∀ off v,vs[off]? = some v->ro' b off=some v):FzR ro' xs (.slice (obA ob 0) xs.length cap):=by
  have hob2:roA (ob.map fun b=>(b,0)) 0=obA ob 0:=by cases ob<;>simp [roA,obA]
  rw [<-hob2]
  refine .mk xs sz _ _ (fun _=>rfl) cap (fun k=>vs.getD k undef) hxl hcap (fun h=>by have:=hob h; cases hg:ob<;>simp [hg] at this ⊢) (fun k c hk=>?_) (fun k v hk=>?_) (fun k ys hk=>?_) hsh
  · obtain ⟨v,hv,_⟩:=hrel.get hk
    have hs:=hob (fun e=>by subst e; simp at hk)
    cases hgo:ob with
    | none=>rw [hgo] at hs; simp at hs
    | some b=>simp [hv,hro b hgo k v hv]
  · obtain ⟨u,hu,hr⟩:=hrel.get hk
    have hr':u=v:=hr
    simp [hu,hr']
  · obtain ⟨u,hu,hr⟩:=hrel.get hk
    have hr':FzR ro ys u:=hr
    simp only [List.getD_eq_getElem?_getD,hu,Option.getD_some]
    exact hr'.mono hext
theorem nf_shut {c:C} (h:c.shut=true):c.nf.shut=true:=by
  unfold C.nf
  split
  · rfl
  · exact h
theorem nf_fv {ro:RO} {c:C} {v:Value} (hs:c.shut=true) (h:c.fv ro v):c.nf.fv ro v:=
  (C.rel_shut (γ:=[]) (nf_shut hs)).1 (C.rel_nf ((C.rel_shut hs).2 h))
theorem apz_own (hf:FRel N (gm E) ro fr a) (hr:Rel X E ro w) {t t2 e:TypeId} {x y:Operand} (ho:o.op=.call { callee:=.builtin .append,args:=#[x,y],argTypes:=#[t,t2] })
    {ys:List (List C)} {sz bytes:Nat} (s:Src P a ro w t t2 o.type e y ys sz bytes)
    (hv:vZ fr (hp E) e sz bytes (trO x) ys R):EDoes P o a w X E ro R:=by
  intro next Q hK
  have h1:=ev_rel hf x
  have hshf:∀ c ∈ ys.flatten,c.shut=true:=fun c hc=>by
    obtain ⟨r,h1,h2⟩:=List.mem_flatten.1 hc
    exact (s.hsh r h1 c h2).1
  unfold vZ at hv
  split at hv
  case h_2=>exact hv.elim
  rename_i n len hx
  rw [hx] at h1
  split at hv
  case h_2=>exact hv.elim
  rename_i xs T1 sz1 hH
  obtain ⟨⟨hxl,rfl,rfl,hpos⟩,hb,hR⟩:=hv
  obtain ⟨g,hE⟩:=hp_inv hH
  obtain ⟨hrow,hglen,hxs1,hxsh,hown,hrel,_⟩:=hr.own n _ _ hE
  obtain ⟨g',k1,k2,k3,k4,k5⟩:=h1
  have:g'=g:=by have:=gm_get hE; rw [k1] at this; exact (Option.some.inj this)
  subst this
  have h1':=k5 (by omega)
  have hm:ys ≠ []:=List.length_pos_iff.1 hpos
  rw [hxl] at hown
  obtain ⟨ob',cap',w',hrun,hown',hszw,e1,e2,e3,hc,hcap⟩:=s.told hm g'.ob len g'.cap g'.vs hown hb
  unfold Oper.wp
  have hrun2:(execOp a.eval o).run P w=.ok (.value (.slice (obA ob' 0) (len + ys.length) cap')) w':=by
    simp only [execOp,ho,resolve]
    simp [h1',invoke,builtin,hrun]
  rw [hrun2,Oper.upon_value]
  obtain ⟨ro1,hx1,_,_,hout,hr1⟩:=hr.pubR2 hE
  generalize hE1:mapB (B.pub n xs) (E.set n (g',.dead))=E1 at hout hr1
  have hhp:hp E1=pubH n xs (hp E):=by rw [<-hE1,hp_mapB,hp_set]; rfl
  have hgm:gm E1=gm E:=by rw [<-hE1,gm_mapB,gm_kill hE]
  have hpar:∀ b,g'.ob=some b->X.w0.heap.size<=b\/b ∈ X.pb:=fun b hb=>hr.par n b g' _ hE hb rfl
  have hcells:∀ b,ob'=some b->∀ off v,(g'.vs ++ s.news)[off]? = some v->w'.cell? ⟨b,off,none⟩=some v:=by
    intro b hb off v hv
    rw [hb] at hown'
    have:=World.ownsRow.cells (h:=hown') (g:=b) rfl off v hv
    rwa [addr_add0,Nat.zero_add] at this
  have hr2:Rel X E1 ro1 w':=by
    refine hr1.move (ob:=g'.ob) hszw e1 e2 e3 (fun k hk hne=>?_) (fun b hb=>(hout b hb).2) (fun b hb off v hv=>?_) hpar
    · rcases hc with ⟨_,h⟩ | ⟨_,h⟩
      · exact h k hne
      · exact h k hk
    · rcases hc with ⟨h,_⟩ | ⟨_,h⟩
      · have h4:=(hout b hb).1 off v hv
        exact hcells b (h.trans hb) off v (by rw [List.getElem?_append_left (List.getElem?_eq_some_iff.1 h4).1]; exact h4)
      · have:=hr1.rd b off v hv
        rw [<-this]
        simp only [World.cell?,h b (hr1.cell_lt hv)]
  cases hob:ob' with
  | none=>
    exfalso
    rw [hob] at hown'
    rcases hown'.2 with ⟨_,h0⟩ | ⟨b,cap0,cur,hv,_⟩
    · omega
    · simp [obA] at hv
  | some b'=>
    obtain ⟨ro2,hx2,hro2,hr3⟩:=hr2.more (b:=b') (vs:=g'.vs ++ s.news) (by
        rcases hc with ⟨h,_⟩ | ⟨h,_⟩
        · exact hpar b' (by rw [<-h,hob])
        · rw [hob] at h; cases h; exact .inl hr.sz) (fun j gj blk hj ej=>by
        rcases hc with ⟨h,_⟩ | ⟨h,_⟩
        · exact (hout b' (by rw [<-h,hob])).2 j gj blk hj ej
        · rw [hob] at h; cases h
          by_cases hl:blk.live=true
          · have:=(hr1.own j gj blk hj).lt hl ej; omega
          · simpa using hl) (hcells b' hob) (fun off v hv=>by
        rcases hc with ⟨h,_⟩ | ⟨h,_⟩
        · have h4:=(hout b' (by rw [<-h,hob])).1 off v hv
          rw [List.getElem?_append_left (List.getElem?_eq_some_iff.1 h4).1]; exact h4
        · rw [hob] at h; cases h
          have:=hr1.cell_lt hv; omega)
    have hnl:(ys.map (List.map C.nf)).length=ys.length:=by rw [List.length_map]
    have hfz:FzR ro2 (xs ++ ys.map (List.map C.nf)) (.slice (obA ob' 0) (xs ++ ys.map (List.map C.nf)).length cap'):=by
      refine fz_of (ro:=ro) (sz:=sz1) (vs:=g'.vs ++ s.news) (fun r hr'=>?_) (fun c hc=>?_) ?_ (hx1.trans hx2) ?_ (fun _=>by rw [hob]; rfl) (fun b hb off v hv=>?_)
      · rcases List.mem_append.1 hr' with hr' | hr'
        · exact hxs1 r hr'
        · obtain ⟨q,hq,rfl⟩:=List.mem_map.1 hr'
          rw [List.length_map]; exact s.hz q hq
      · rw [List.flatten_append] at hc
        rcases List.mem_append.1 hc with hc | hc
        · exact hxsh c hc
        · rw [<-List.map_flatten] at hc
          obtain ⟨d,hd,rfl⟩:=List.mem_map.1 hc
          exact nf_shut (hshf d hd)
      · rw [List.flatten_append,<-List.map_flatten]
        exact hrel.app ⟨by rw [List.length_map]; exact s.hrel.1,fun k c v hc hv=>by
          rw [List.getElem?_map] at hc
          cases hd:ys.flatten[k]? with
          | none=>rw [hd] at hc; cases hc
          | some d=>
            rw [hd] at hc
            obtain rfl:=Option.some.inj hc
            exact nf_fv (hshf d (List.mem_of_getElem? hd)) (s.hrel.2 k d v hd hv)⟩
      · rw [List.length_append,hxl,hnl]; exact hcap
      · rw [hob] at hb; cases hb; exact hro2 off v hv
    rw [<-hob]
    refine hK (.va (.c1 (.fz (xs ++ ys.map (List.map C.nf))))) _ E1 ro2 _ (by rw [hhp]; exact hR) ?_ (by rw [hgm]; exact GExt.refl _) (hx1.trans hx2) hr3
    show FzR ro2 (xs ++ ys.map (List.map C.nf)) (.slice (obA ob' 0) (len + ys.length) cap')
    rw [show len + ys.length=(xs ++ ys.map (List.map C.nf)).length by rw [List.length_append,hxl,hnl]]
    exact hfz
theorem e_apz (hf:FRel N (gm E) ro fr a) (hr:Rel X E ro w) {t e:TypeId} {x y:Operand} {i:TypeInfo} {z:Value} (ho:o.op=.call { callee:=.builtin .append,args:=#[x,y],argTypes:=#[t,t] })
    (ht:P.underlying t=some (.slice e)) (hi:P.info? e=some i) (hz:i.zero=some z) (hzs:z.cells.size=i.size) (hsz:0 < i.size) (hby:0 < i.bytes)
    (hv:vE fr (hp E) R (.apz e i.size i.bytes (trO x) (trO y))):EDoes P o a w X E ro R:=by
  have h2:=ev_rel hf y
  simp only [vE] at hv
  split at hv
  · rename_i m k hy
    rw [hy] at h2
    split at hv
    case h_2=>exact hv.elim
    rename_i ys T2 sz2 hH
    obtain ⟨⟨hk,rfl,hsh⟩,hv⟩:=hv
    obtain ⟨g,hE⟩:=hp_inv hH
    obtain ⟨hrow,hglen,hys1,hysh,hown,hrel,_⟩:=hr.own m _ _ hE
    obtain ⟨g',k1,k2,k3,k4,k5⟩:=h2
    have:g'=g:=by have:=gm_get hE; rw [k1] at this; exact (Option.some.inj this)
    subst this
    have h2':=k5 (by omega)
    subst hk
    refine apz_own hf hr ho (Src.slice ht hi hz hzs hsz hby (obA g'.ob 0) g'.cap g'.vs h2' hown.1 hys1 hsh hrel (fun ad had=>?_) (fun hn=>?_)) hv
    · cases hob:g'.ob with
      | none=>rw [hob] at had; simp [obA] at had
      | some b=>
        rw [hob] at had hown
        simp only [obA,Option.map_some,Option.some.injEq] at had
        subst had
        exact World.ownsRow.cells (h:=hown) (g:=b) rfl
    · rcases hown.2 with ⟨hv,h0⟩ | ⟨b,cap0,cur,hv,_⟩
      · exact List.eq_nil_of_length_eq_zero h0
      · rw [hn] at hv; simp at hv
  · exact hv.elim
theorem trE_ap {op:Op} {T:TypeId} {sz b:Nat} {x0 y0:O} (hi:trE P op=some (.ap T sz b x0 y0)):∃ (x y:Operand) (t:TypeId) (i:TypeInfo) (z:Value),op=.call { callee:=.builtin .append,args:=#[x,y],argTypes:=#[t,t] }/\P.underlying t=some (.slice T)/\P.info? T=some i/\i.zero=some z/\z.cells.size=i.size/\0 < i.size/\0 < i.bytes/\sz=i.size/\b=i.bytes/\x0=trO x/\y0=trO y:=by
  cases op<;>simp only [trE,reduceCtorEq,Option.some.injEq] at hi
  case store t x y=>split at hi<;>simp at hi
  case alloc t=>split at hi<;>simp at hi
  case makeMap t r=>
    split at hi
    · cases hi
    · split at hi<;>simp at hi
  case makeSlice t x y=>
    split at hi<;>try (cases hi; done)
    split at hi<;>try (cases hi; done)
    split at hi<;>try (cases hi; done)
    split at hi<;>simp at hi
  case mapUpdate t m k v=>split at hi<;>simp at hi
  case buildSlice t len parts=>
    split at hi<;>try (cases hi; done)
    split at hi<;>try (cases hi; done)
    split at hi<;>try (cases hi; done)
    split at hi<;>simp at hi
  case call c=>
    obtain ⟨cl,args,ats⟩:=c
    simp only at hi
    split at hi
    · rename_i x y t t' ha hat
      obtain rfl:args=#[x,y]:=by rw [<-Array.toArray_toList (xs:=args),ha]
      obtain rfl:ats=#[t,t']:=by rw [<-Array.toArray_toList (xs:=ats),hat]
      split at hi<;>try (cases hi; done)
      rename_i e ht
      split at hi<;>try (cases hi; done)
      rename_i inf hinf
      split at hi<;>try (cases hi; done)
      rename_i z hz
      split at hi
      · rename_i hc
        simp only [Option.some.injEq,EI.ap.injEq] at hi
        obtain ⟨c1,c2,rfl,c4⟩:=hc
        obtain ⟨rfl,rfl,rfl,rfl,rfl⟩:=hi
        exact ⟨x,y,t,inf,z,rfl,ht,hinf,hz,c1,c2,c4,rfl,rfl,rfl,rfl⟩
      · split at hi<;>try (cases hi; done)
        split at hi<;>simp at hi
    · split at hi<;>try (cases hi; done)
      split at hi<;>try (cases hi; done)
      split at hi<;>simp at hi
    · cases hi
theorem e_sound_y (hf:FRel N (gm E) ro fr a) (hr:Rel X E ro w) {i:EI} (hi:trE P o.op=some i) (hv:vE fr (hp E) R i.ext):EDoes P o a w X E ro R:=by
  by_cases hap:∃ T sz b x y,i=.ap T sz b x y
  · obtain ⟨T,sz,b,x0,y0,rfl⟩:=hap
    obtain ⟨x,y,t,inf,z,ho,ht,hinf,hz,c1,c2,c3,rfl,rfl,rfl,rfl⟩:=trE_ap hi
    exact e_apz hf hr ho ht hinf hz c1 c2 c3 hv
  · exact e_sound_x hf hr hi hv (fun T sz b x y e=>hap ⟨T,sz,b,x,y,e⟩) fun j hj hvj=>e_sound hf hr hj hvj
end
end Go.W
namespace Go.W
def C.pv:C->Value
  | .vl v=>v
  | _=>undef
def A.fval:A->Value
  | .c1 c=>c.pv
  | .gs cs=>.agg (cs.map C.pv).toArray
theorem flat_rel {γ:List Gb} {ro:RO} {x:A} (h:x.flat) {v:Value}:x.rel γ ro v ↔ v=x.fval:=by
  cases x with
  | c1 c=>
    cases c with
    | vl u=>exact Iff.rfl
    | _=>exact h.elim
  | gs cs=>
    constructor
    · rintro ⟨vs,rfl,h2⟩
      simp only [A.fval]
      congr 2
      apply List.ext_getElem?
      intro i
      rw [List.getElem?_map]
      cases hi:cs[i]? with
      | none=>
        have:vs[i]? = none:=by rw [List.getElem?_eq_none_iff] at hi ⊢; rw [<-h2.1]; exact hi
        rw [this]; rfl
      | some c=>
        obtain ⟨u,hu,hr⟩:=h2.get hi
        obtain ⟨p,rfl⟩:=h c (List.mem_of_getElem? hi)
        rw [hu]
        exact congrArg some hr
    · rintro rfl
      refine ⟨_,rfl,by simp,fun i c v h1 h2=>?_⟩
      rw [List.getElem?_map,h1] at h2
      obtain ⟨p,rfl⟩:=h c (List.mem_of_getElem? h1)
      simp only [Option.map_some,Option.some.injEq,C.pv] at h2
      exact h2.symm
section
variable {P:Program} {o:Oper} {N:Nat} {fr:Fr} {a:Act} {E:Es} {γ:List Gb} {ro:RO} {X:Ctx} {w:World} {nw:Bool} {Γ:Env} {ops:Array Oper}
noncomputable def roB (E:Es) (ro:RO):RO:=fun b off=>
  open Classical in
  if h:∃ v,ro b off=some v\/∃ (n:Nat) (g:Gb) (xs:List (List C)) (T sz:Nat),E[n]? = some (g,.row xs T sz)/\g.ob=some b/\g.vs[off]? = some v then some (Classical.choose h) else none
theorem roB_spec (h:Rel X E ro w):Ext ro (roB E ro)/\(∀ (n:Nat) (g:Gb) (xs:List (List C)) (T sz:Nat),E[n]? = some (g,.row xs T sz)->∀ b,g.ob=some b->∀ off v,g.vs[off]? = some v->roB E ro b off=some v)/\
    ∀ b off v,roB E ro b off=some v->w.cell? ⟨b,off,none⟩=some v:=by
  have key:∀ b off (v v':Value),(ro b off=some v\/∃ (n:Nat) (g:Gb) (xs:List (List C)) (T sz:Nat),E[n]? = some (g,.row xs T sz)/\g.ob=some b/\g.vs[off]? = some v)->
      (ro b off=some v'\/∃ (n:Nat) (g:Gb) (xs:List (List C)) (T sz:Nat),E[n]? = some (g,.row xs T sz)/\g.ob=some b/\g.vs[off]? = some v')->v=v':=by
    intro b off v v' h1 h2
    rcases h1 with h1 | ⟨n,g,xs,T,sz,h1,h1b,h1'⟩<;>rcases h2 with h2 | ⟨m,g2,ys,T',sz',h2,h2b,h2'⟩
    · rw [h1] at h2; exact Option.some.inj h2
    · have:=h.apart b off v h1 m _ _ h2 h2b; simp [B.live] at this
    · have:=h.apart b off v' h2 n _ _ h1 h1b; simp [B.live] at this
    · have:=h.inj n m _ _ _ _ b h1 h2 h1b h2b rfl rfl
      subst this
      rw [h1] at h2
      simp only [Option.some.injEq,Prod.mk.injEq] at h2
      rw [<-h2.1,h1'] at h2'
      exact Option.some.inj h2'
  have put:∀ b off v,(ro b off=some v\/∃ (n:Nat) (g:Gb) (xs:List (List C)) (T sz:Nat),E[n]? = some (g,.row xs T sz)/\g.ob=some b/\g.vs[off]? = some v)->roB E ro b off=some v:=by
    intro b off v hc
    unfold roB
    rw [dif_pos ⟨v,hc⟩]
    exact congrArg some (key b off _ _ (Classical.choose_spec (p:=fun v=>ro b off=some v\/∃ (n:Nat) (g:Gb) (xs:List (List C)) (T sz:Nat),E[n]? = some (g,.row xs T sz)/\g.ob=some b/\g.vs[off]? = some v) ⟨v,hc⟩) hc)
  refine ⟨fun b off v hc=>put b off v (.inl hc),fun n g xs T sz hn b hb off v hv=>put b off v (.inr ⟨n,g,xs,T,sz,hn,hb,hv⟩),fun b off v hc=>?_⟩
  unfold roB at hc
  split at hc
  · rename_i hex
    simp only [Option.some.injEq] at hc
    have hs:=Classical.choose_spec hex
    rw [hc] at hs
    rcases hs with hs | ⟨n,g,xs,T,sz,hn,hb,hv⟩
    · exact h.rd b off v hs
    · obtain ⟨_,_,_,_,hown,_,_⟩:=h.own n _ _ hn
      rw [hb] at hown
      have:=World.ownsRow.cells (h:=hown) (g:=b) rfl off v hv
      rwa [addr_add0,Nat.zero_add] at this
  · cases hc
theorem C.rel0_bor (h:Rel X E ro w) {c:C} {v:Value} (hc:c.rel0 (gm E) ro v):(c.bor0 (hp E)).rel0 [] (roB E ro) v:=by
  obtain ⟨h1,h2,_⟩:=roB_spec h
  cases c with
  | no=>trivial
  | vl u=>exact hc
  | pt n off=>trivial
  | qt n l sz i j=>trivial
  | dp n l=>trivial
  | sl n l=>
    simp only [C.bor0]
    split
    · rename_i xs T sz hH
      split
      · rename_i hl
        obtain ⟨g,hE⟩:=hp_inv hH
        obtain ⟨_,hgl,_⟩:=h.own n g _ hE
        obtain ⟨g',k1,k2,k3,k4,k5⟩:=hc
        have:g'=g:=by have:=gm_get hE; rw [k1] at this; exact (Option.some.inj this)
        subst this
        have:=k5 (by omega)
        subst this
        show FzR _ xs _
        rw [hl]
        exact row_fz h hE h1 (h2 n g' xs T sz hE)
      · trivial
    · trivial
  | fz xs=>exact FzR.mono h1 hc
  | fp r j=>obtain ⟨b,off,k1,k2⟩:=hc; exact ⟨b,off,k1,fun k c hk=>by obtain ⟨u,p,q⟩:=k2 k c hk; exact ⟨u,h1 _ _ _ p,C.fv_mono h1 q⟩⟩
  | mp n=>trivial
  | fn f cs=>exact hc.elim
theorem C.rel_bor (h:Rel X E ro w) {c:C} {v:Value} (hc:c.rel (gm E) ro v):(c.bor (hp E)).rel [] (roB E ro) v:=by
  obtain ⟨h1,h2,_⟩:=roB_spec h
  cases c with
  | no=>trivial
  | vl u=>exact hc
  | pt n off=>trivial
  | qt n l sz i j=>trivial
  | dp n l=>trivial
  | sl n l=>
    simp only [C.bor]
    split
    · rename_i xs T sz hH
      split
      · rename_i hl
        obtain ⟨g,hE⟩:=hp_inv hH
        obtain ⟨_,hgl,_⟩:=h.own n g _ hE
        obtain ⟨g',k1,k2,k3,k4,k5⟩:=hc
        have:g'=g:=by have:=gm_get hE; rw [k1] at this; exact (Option.some.inj this)
        subst this
        have:=k5 (by omega)
        subst this
        show FzR _ xs _
        rw [hl]
        exact row_fz h hE h1 (h2 n g' xs T sz hE)
      · trivial
    · trivial
  | fz xs=>exact FzR.mono h1 hc
  | fp r j=>obtain ⟨b,off,k1,k2⟩:=hc; exact ⟨b,off,k1,fun k c hk=>by obtain ⟨u,p,q⟩:=k2 k c hk; exact ⟨u,h1 _ _ _ p,C.fv_mono h1 q⟩⟩
  | mp n=>trivial
  | fn f cs=>
    obtain ⟨vs,k1,k2⟩:=hc
    exact ⟨vs,k1,k2.map (f:=fun x=>(x.1,x.2.map (C.bor0 (hp E)))) fun _ _=>capR_map fun _ _=>C.rel0_bor h⟩
theorem S.rel_bor (h:Rel X E ro w) {s:S} {v:Value} (hs:s.rel (gm E) ro v):(s.bor (hp E)).rel [] (roB E ro) v:=by
  cases s with
  | va a=>
    cases a with
    | c1 c=>exact C.rel_bor h hs
    | gs cs=>obtain ⟨vs,h1,h2⟩:=hs; exact ⟨vs,h1,h2.map (f:=C.bor (hp E)) fun _ _=>C.rel_bor h⟩
  | tu l=>trivial
  | cn g a=>trivial
  | un=>trivial
theorem Rel.grown (h:Rel X E ro w) {w':World} (hk:∀ k,k < w.heap.size->w'.heap[k]? = w.heap[k]?) (hsz:w.heap.size<=w'.heap.size) (h1:w'.os=w.os) (h2:w'.tape=w.tape) (h3:w'.output=w.output):Rel X E ro w':=by
  refine ⟨fun n g blk hn=>?_,h.inj,h.apart,fun b off c hc=>?_,h.ro0,h.rob,h.par,h.gx,Nat.le_trans h.sz hsz,fun b hb hp=>?_,h1.trans h.os,h2.trans h.tape,h3.trans h.output⟩
  · by_cases hl:blk.live=true
    · exact (h.own n g blk hn).same (GExt.refl _) (Ext.refl _) fun k hk'=>hk k ((h.own n g blk hn).lt hl hk')
    · cases blk<;>simp [B.live] at hl; trivial
  · have:=h.rd b off c hc
    rw [<-this]
    simp only [World.cell?,hk b (h.cell_lt hc)]
  · rw [hk b (by have:=h.sz; omega)]; exact h.keep b hb hp
theorem cq_call (hf:FRel N (gm E) ro fr a) (hm:MeetsAll P Γ) {f:FuncId} {c:Call} (ho:o.op=.call c) (hc:c.callee=.value (.func f)) {p:Fun} (hp':fnOf Γ f=some p) (hg:gds fr (O.sls (c.args.toList.map trO)))
    (hr:Rel X E ro w) (hpre:p.pre ((c.args.toList.map trO).map fun o=>((ev (fst fr) o).bor (hp E)).nf)) :
    (execOp a.eval o).run P w=.ok (.enter f (c.args.map a.eval)) w/\Calls P f (c.args.map a.eval) w (fun e w'=>e=.returned (p.val ((c.args.toList.map trO).map fun o=>((ev (fst fr) o).bor (hp E)).nf)).fval/\Rel X E ro w'):=by
  obtain ⟨s,hmem,hfn⟩:=fnOf_mem hp'
  obtain ⟨hent,hmeets⟩:=(hm f s hmem).2 p hfn
  have hrun:(execOp a.eval o).run P w=.ok (.enter f (c.args.map a.eval)) w:=by
    have he':=run_enter hent (c.args.map a.eval) w
    simp [execOp,ho,resolve,hc,Act.eval,Deferred.ofValue,invoke,he']
  refine ⟨hrun,?_⟩
  have harr:c.args.map a.eval=(c.args.toList.map a.eval).toArray:=by rw [<-Array.toList_map,Array.toArray_toList]
  rw [harr]
  obtain ⟨_,_,hrd⟩:=roB_spec hr
  have hloc:Rel ⟨w,blks [],roB E ro,gm []⟩ [] (roB E ro) w:=⟨fun n g blk hn=>by simp at hn,fun n m gn gm bn bm b hn=>by simp at hn,fun b off v hc n g blk hn=>by simp at hn,hrd,Ext.refl _,fun _ _ _ h=>.inl h,
    fun n b g blk hn=>by simp at hn,GExt.refl _,Nat.le_refl _,fun _ _ _=>rfl,rfl,rfl,rfl⟩
  refine (hmeets _ (c.args.toList.map a.eval) [] (roB E ro) w (fun r _=>r=.va (p.val ((c.args.toList.map trO).map fun o=>((ev (fst fr) o).bor (hp E)).nf))) (by simp) ?_ hloc ⟨⟨hpre,rfl⟩,rfl⟩).mono ?_
  · intro i x v hx hv
    rw [List.map_map,List.getElem?_map] at hx
    cases hi:c.args.toList[i]? with
    | none=>rw [hi] at hx; cases hx
    | some z=>
      rw [hi] at hx
      simp only [Option.map_some,Function.comp,Option.some.injEq] at hx
      subst hx
      have:=arg_rel hf hg i (ev (fst fr) (trO z)) v (by rw [List.map_map,List.getElem?_map,hi]; rfl) hv
      exact S.rel_nf (S.rel_bor hr this)
  · rintro e w' ⟨r,v,E',ro',rfl,hrv,rfl,hrel⟩
    have hv:=(flat_rel (p.flat _ hpre)).1 hrv
    subst hv
    exact ⟨rfl,hr.grown (fun k hk=>hrel.keep k hk (by simp [blks])) hrel.sz hrel.os hrel.tape hrel.output⟩
theorem je_sound (hf:FRel N (gm E) ro fr a) (hr:Rel X E ro w) (hm:MeetsAll P Γ) {σ:CH} {i:I} (hi:trI P nw σ o.op=some i) (hq:(J.mk none none i).quietC=false) {R:S->Hp->Prop}
    (hv:vI Γ fr (hp E) R i):EDoes P o a w X E ro R:=by
  cases i with
  | q q=>simp [J.quietC] at hq
  | ix x y=>simp [J.quietC] at hq
  | l i=>simp [J.quietC] at hq
  | pick c x y=>simp [J.quietC] at hq
  | cq f xs=>simp [J.quietC] at hq
  | e i=>
    obtain ⟨hg,hv⟩:=hv
    rw [e_congr (fst_res hg)] at hv
    obtain ⟨i0,h0,rfl | rfl⟩:=trI_e hi
    · exact e_sound hf.res hr h0 hv
    · exact e_sound_y hf.res hr h0 hv
  | cl f xs σ'=>
    obtain ⟨c,ho,hc,rfl⟩:=trI_cl hi
    exact cl_sound hf hr hm ho hc hv
  | ca x xs σ'=>
    obtain ⟨c,t,ho,hc,rfl,rfl⟩:=trI_ca hi
    exact ca_sound hf hr hm ho hc hv
theorem jqc_sound (hf:FRel N (gm E) ro fr a) (hm:MeetsAll P Γ) (hr0:Rel X E ro w) {σ:CH} {j:J} (hj:trJ P nw N ops σ o=some j) (hq:j.quietC=true) {K:Fr->Hp->Prop} (hv:vJ Γ fr (hp E) K j) :
    ∃ fr',K fr' (hp E)/\(if Region.wanted o (yielded ops a.tmps)=true then ∃ v,FRel N (gm E) ro fr' (a.put o.dst v)/\∀ w,Rel X E ro w->o.quietAt P a (Rel X E ro) w v else FRel N (gm E) ro fr' (a.put o.dst undef)):=by
  by_cases hq':j.quiet=true
  · have h:=jq_sound hf hr0 hj hq' hv
    split at h
    · rename_i hw
      obtain ⟨fr',hK,v,h1,h2⟩:=h
      refine ⟨fr',hK,?_⟩
      rw [if_pos hw]
      refine ⟨v,h1,fun w hr=>?_⟩
      unfold Oper.quietAt
      rw [h2 w hr]
      exact ⟨rfl,rfl⟩
    · rename_i hw
      obtain ⟨fr',hK,h1⟩:=h
      refine ⟨fr',hK,?_⟩
      rw [if_neg hw]
      exact h1
  · obtain ⟨hi,hg,hd,hN⟩:=trJ_spec hj
    obtain ⟨d,jg,i⟩:=j
    simp only at hi hg hd
    subst hd
    cases i with
    | q q=>exact absurd rfl hq'
    | ix x y=>exact absurd rfl hq'
    | l i=>exact absurd rfl hq'
    | pick c x y=>exact absurd rfl hq'
    | e i=>simp [J.quietC] at hq
    | cl f xs σ=>simp [J.quietC] at hq
    | ca f xs σ=>simp [J.quietC] at hq
    | cq f xs=>
      obtain ⟨c,ho,hc,rfl⟩:=trI_cq hi
      have key:∀ {g:Prop} {K:A->Prop},cqP Γ fr (hp E) f (c.args.toList.map trO) g K->∃ y,K y/\(g->y.flat/\∀ w,Rel X E ro w->o.quietAt P a (Rel X E ro) w y.fval):=by
        intro g K hv
        unfold cqP at hv
        split at hv
        · exact hv.elim
        · rename_i p hp'
          obtain ⟨hg,hK⟩:=hv
          refine ⟨_,hK,fun hgt=>?_⟩
          obtain ⟨hgd,hpre⟩:=hg hgt
          refine ⟨p.flat _ hpre,fun w hr=>?_⟩
          obtain ⟨k1,k2⟩:=cq_call hf hm ho hc hp' hgd hr hpre
          unfold Oper.quietAt
          rw [k1]
          exact ⟨rfl,k2⟩
      unfold vJ at hv
      cases hgd:o.guard with
      | none=>
        rw [hgd] at hg
        simp only [trG,Option.some.injEq] at hg
        subst hg
        simp only [vJ0] at hv
        obtain ⟨y,hK,hy⟩:=key hv
        refine ⟨_,hK,?_⟩
        rw [if_pos (wanted_none hgd _)]
        exact ⟨y.fval,hf.put hN ((flat_rel (hy trivial).1).2 rfl),(hy trivial).2⟩
      | some gw=>
        obtain ⟨k,want⟩:=gw
        rw [hgd] at hg
        simp only [trG] at hg
        split at hg
        · rename_i sl hsl
          simp only [Option.some.injEq] at hg
          subst hg
          simp only at hv
          split at hv
          · exact hv.elim
          · rename_i g hgv
            have hwant:Region.wanted o (yielded ops a.tmps)=g:=by
              simp only [Region.wanted,hgd]
              exact (gv_spec hf hgv hsl).1
            simp only [vJg] at hv
            obtain ⟨y,hK,hy⟩:=key hv
            refine ⟨_,hK,?_⟩
            rw [hwant]
            cases g with
            | true=>rw [if_pos rfl]; exact ⟨y.fval,hf.put hN (s:=.cn true y) ⟨fun _=>(flat_rel (hy rfl).1).2 rfl,fun h=>(by cases h)⟩,(hy rfl).2⟩
            | false=>rw [if_neg (by simp)]; exact hf.put hN (s:=.cn false y) ⟨fun h=>(by cases h),fun _=>rfl⟩
        · cases hg
theorem j_sound (hf:FRel N (gm E) ro fr a) (hr:Rel X E ro w) (hm:MeetsAll P Γ) {σ:CH} {j:J} (hj:trJ P nw N ops σ o=some j) {K:Fr->Hp->Prop} (hv:vJ Γ fr (hp E) K j)
    {next:Act->World->Prop} {Q:Exit->Act->World->Prop} (hK:∀ fr' E' ro' a' w',K fr' (hp E')->FRel N (gm E') ro' fr' a'->Rel X E' ro' w'->next a' w') :
    if Region.wanted o (yielded ops a.tmps)=true then o.wp P a w next Q else next (a.put o.dst undef) w:=by
  by_cases hq:j.quietC=true
  · obtain ⟨fr',hK',h⟩:=jqc_sound hf hm hr hj hq hv
    split
    · rename_i hw
      simp only [hw,if_true] at h
      obtain ⟨v,hf',hrun⟩:=h
      refine Oper.wp_of_quiet (C:=Rel X E ro) (K:=fun a'=>FRel N (gm E) ro fr' a') hr ?_ ⟨v,hrun,hf'⟩
      exact fun a' w' hr' hf''=>hK _ _ _ _ _ hK' hf'' hr'
    · rename_i hw
      rw [if_neg hw] at h
      exact hK _ _ _ _ _ hK' h hr
  · obtain ⟨hi,hg,hd,hN⟩:=trJ_spec hj
    obtain ⟨d,jg,i⟩:=j
    simp only at hi hg hd
    subst hd
    have hni:(J.mk none none i).quietC=false:=by cases i<;>first | rfl | exact absurd rfl hq
    have key:∀ {fr2:Fr} {R:S->Hp->Prop},FRel N (gm E) ro fr2 a->vI Γ fr2 (hp E) R i->(∀ s H',R s H'->K (W.put fr2 o.dst s) H')->o.wp P a w next Q:=by
      intro fr2 R hf2 hv hR
      exact je_sound hf2 hr hm hi hni hv next Q fun s v E' ro' w' h1 h2 g1 g2 h3=>hK _ _ _ _ _ (hR _ _ h1) ((hf2.mono g1 g2).put hN h2) h3
    unfold vJ at hv
    cases hgd:o.guard with
    | none=>
      rw [hgd] at hg
      simp only [trG,Option.some.injEq] at hg
      subst hg
      rw [if_pos (wanted_none hgd _)]
      cases i with
      | q q=>exact absurd rfl hq
      | ix x y=>exact absurd rfl hq
      | l i=>exact absurd rfl hq
      | pick c x y=>exact absurd rfl hq
      | cq f xs=>exact absurd rfl hq
      | e i=>exact key hf hv fun _ _ h=>h
      | cl f xs σ=>exact key hf hv fun _ _ h=>h
      | ca f xs σ=>exact key hf hv fun _ _ h=>h
    | some gw=>
      obtain ⟨k,want⟩:=gw
      rw [hgd] at hg
      simp only [trG] at hg
      split at hg
      · rename_i sl hsl
        simp only [Option.some.injEq] at hg
        subst hg
        simp only at hv
        split at hv
        · exact hv.elim
        · rename_i g hgv
          obtain ⟨hwant,hgt,hgf⟩:=gv_spec hf hgv hsl
          have hw:Region.wanted o (yielded ops a.tmps)=g:=by simp only [Region.wanted,hgd]; exact hwant
          rw [hw]
          have h2:(g=true->vI Γ (rfn fr sl want) (hp E) (fun s H'=>K (W.put (rfn fr sl want) o.dst s) H') i)/\(g=false->K (W.put (rff fr sl want) o.dst dum) (hp E)):=by
            cases i with
            | q q=>exact absurd rfl hq
            | ix x y=>exact absurd rfl hq
            | l i=>exact absurd rfl hq
            | pick c x y=>exact absurd rfl hq
            | cq f xs=>exact absurd rfl hq
            | e i=>exact hv
            | cl f xs σ=>exact hv
            | ca f xs σ=>exact hv
          cases g with
          | true=>rw [if_pos rfl]; exact key (rfn_rel hf (hgt rfl)) (h2.1 rfl) fun _ _ h=>h
          | false=>rw [if_neg (by simp)]; exact hK _ _ _ _ _ (h2.2 rfl) ((rff_rel hf (hgf rfl)).put hN dum_rel) hr
      · cases hg
theorem trR_cons {h:Nat->CH} {k:Nat} {o:Oper} {r:List Oper} {js:List J} (hj:trR P nw N ops h k (o :: r)=some js):∃ j js',js=j :: js'/\trJ P nw N ops (h k) o=some j/\trR P nw N ops h (k + 1) r=some js':=by
  simp only [trR] at hj
  split at hj
  · rename_i j js' h1 h2; simp only [Option.some.injEq] at hj; exact ⟨j,js',hj.symm,h1,h2⟩
  · cases hj
theorem r_sound (hm:MeetsAll P Γ) {h:Nat->CH} {Q:Exit->Act->World->Prop} {K:Fr->Hp->Prop} (hQ:∀ fr E ro a w,K fr (hp E)->FRel N (gm E) ro fr a->Rel X E ro w->Q .normal a w) :
    ∀ (l:List Oper) (k:Nat) (js:List J),trR P nw N ops h k l=some js->∀ (fr:Fr) (E:Es) (ro:RO) (a:Act) (w:World),FRel N (gm E) ro fr a->Rel X E ro w->vR Γ js fr (hp E) K->wpList P ops Q l a w
  | [],k,js,hj,fr,E,ro,a,w,hf,hr,hv=>by
    simp only [trR,Option.some.injEq] at hj
    subst hj
    exact hQ _ _ _ _ _ hv hf hr
  | o :: l,k,js,hj,fr,E,ro,a,w,hf,hr,hv=>by
    obtain ⟨j,js',rfl,h1,h2⟩:=trR_cons hj
    have:=j_sound (Q:=Q) (next:=wpList P ops Q l) hf hr hm h1 hv fun fr' E' ro' a' w' hK hf' hr'=>r_sound hm hQ l (k + 1) js' h2 fr' E' ro' a' w' hf' hr' hK
    simp only [wpList]
    split
    · rename_i hw; rw [if_pos hw] at this; exact .inl this
    · rename_i hw; rw [if_neg hw] at this; exact this
theorem head_sound {h:Nat->CH} {L:Act->Prop} {w:World} {Y:Ctx}:∀ (l:List Oper) (k:Nat) (js rest:List J),trR P nw N ops h k l=some js->(∀ j ∈ js,j.quiet=true)->∀ (fr:Fr) (E:Es) (ro:RO) (a:Act) (K:Fr->Hp->Prop),FRel N (gm E) ro fr a->Rel Y E ro w->
    vR Γ (js ++ rest) fr (hp E) K->(∀ fr' a',FRel N (gm E) ro fr' a'->vR Γ rest fr' (hp E) K->L a')->wpStill P ops w L l a
  | [],k,js,rest,hj,hq,fr,E,ro,a,K,hf,hr,hv,hL=>by
    simp only [trR,Option.some.injEq] at hj
    subst hj
    exact hL _ _ hf hv
  | o :: l,k,js,rest,hj,hq,fr,E,ro,a,K,hf,hr,hv,hL=>by
    obtain ⟨j,js',rfl,h1,h2⟩:=trR_cons hj
    simp only [List.cons_append,vR] at hv
    have hs:=jq_sound hf hr h1 (hq j (by simp)) hv
    simp only [wpStill]
    split
    · rename_i hw
      rw [if_pos hw] at hs
      obtain ⟨fr',hK,v,hf',hrun⟩:=hs
      unfold Oper.still
      rw [hrun w hr,Oper.stillUpon_value]
      exact head_sound l (k + 1) js' rest h2 (fun y hy=>hq y (by simp [hy])) fr' E ro _ K hf' hr hK hL
    · rename_i hw
      rw [if_neg hw] at hs
      obtain ⟨fr',hK,hs⟩:=hs
      exact head_sound l (k + 1) js' rest h2 (fun y hy=>hq y (by simp [hy])) fr' E ro _ K hs hr hK hL
theorem quiet_sound (hm:MeetsAll P Γ) (w0:World) {h:Nat->CH} {L:Act->Prop}:∀ (l:List Oper) (k:Nat) (js:List J),trR P nw N ops h k l=some js->(∀ j ∈ js,j.quietC=true)->∀ (fr:Fr) (E:Es) (ro:RO) (a:Act) (K:Fr->Hp->Prop),FRel N (gm E) ro fr a->Rel X E ro w0->
    vR Γ js fr (hp E) K->(∀ fr' a',FRel N (gm E) ro fr' a'->K fr' (hp E)->L a')->wpQuiet P ops (Rel X E ro) L l a
  | [],k,js,hj,hq,fr,E,ro,a,K,hf,hr0,hv,hL=>by
    simp only [trR,Option.some.injEq] at hj
    subst hj
    exact hL _ _ hf hv
  | o :: l,k,js,hj,hq,fr,E,ro,a,K,hf,hr0,hv,hL=>by
    obtain ⟨j,js',rfl,h1,h2⟩:=trR_cons hj
    obtain ⟨fr',hK,hs⟩:=jqc_sound hf hm hr0 h1 (hq j (by simp)) hv
    simp only [wpQuiet]
    split
    · rename_i hw
      simp only [hw,if_true] at hs
      obtain ⟨v,hf',hrun⟩:=hs
      exact ⟨v,hrun,quiet_sound hm w0 l (k + 1) js' h2 (fun y hy=>hq y (by simp [hy])) fr' E ro _ K hf' hr0 hK hL⟩
    · rename_i hw
      rw [if_neg hw] at hs
      exact quiet_sound hm w0 l (k + 1) js' h2 (fun y hy=>hq y (by simp [hy])) fr' E ro _ K hs hr0 hK hL
end
section
variable {P:Program} {N:Nat} {nw:Bool} {X:Ctx} {Γ:Env} {ops:Array Oper} {o:Oper} {fr:Fr} {a:Act} {E:Es} {ro:RO} {w:World}
theorem jp_sound (hf:FRel N (gm E) ro fr a) (hr0:Rel X E ro w) {σ:CH} {j:J} (hj:trJ P nw N ops σ o=some j) (hpu:pureOp P o=true) {K:Fr->Hp->Prop} (hv:vJ Γ fr (hp E) K j) :
    ∃ fr' v,K fr' (hp E)/\FRel N (gm E) ro fr' (a.put o.dst v)/\∀ w,(execOp a.eval o).run P w=.ok (.value v) w:=by
  obtain ⟨hi,hg,hd,hN⟩:=trJ_spec hj
  unfold pureOp at hpu
  rw [Bool.and_eq_true] at hpu
  obtain ⟨hgn,hop⟩:=hpu
  have hgn':o.guard=none:=by simpa using hgn
  rw [hgn'] at hg
  simp only [trG,Option.some.injEq] at hg
  have run:j.quiet=true->∃ fr',K fr' (hp E)/\∃ v,FRel N (gm E) ro fr' (a.put o.dst v)/\∀ w,Rel X E ro w->(execOp a.eval o).run P w=.ok (.value v) w:=fun hq=>by
    have h:=jq_sound hf hr0 hj hq hv
    rwa [if_pos (wanted_none hgn' _)] at h
  have bin:∀ (op:BinOp) (t:TypeId) (x y:Operand) (t':TypeId) (k0:IntKind),o.op=.binOp op t x y t'->P.underlying t=some (.int k0)->(op=.add\/op=.sub)->
      ∃ fr' v,K fr' (hp E)/\FRel N (gm E) ro fr' (a.put o.dst v)/\∀ w,(execOp a.eval o).run P w=.ok (.value v) w:=fun op t x y t' k0 ho ht hops=>by
    have hji:j.i=.q (.bin op nw (trO x) (trO y)):=by
      rw [ho] at hi
      simpa [trI,trQ,ht] using hi.symm
    obtain ⟨fr',hK,v,hf',hrun⟩:=run (by unfold J.quiet; rw [hji])
    refine ⟨fr',v,hK,hf',?_⟩
    unfold vJ at hv
    rw [<-hg] at hv
    simp only [hji,vJ0,qv] at hv
    have hw:=hrun w hr0
    have step:∀ (f:∀ (w:World),∃ v',(∀ w,(execOp a.eval o).run P w=.ok (.value v') w)),∀ w,(execOp a.eval o).run P w=.ok (.value v) w:=fun f=>by
      obtain ⟨v',h'⟩:=f w
      rw [h' w] at hw
      simp only [Result.ok.injEq,Next.value.injEq,and_true] at hw
      subst hw
      exact h'
    split at hv
    case h_2=>exact hv.elim
    rename_i s hs
    obtain ⟨hgd,hc,_⟩:=hv
    have e1:ev (fst fr) (trO x)=ev (res fr) (trO x):=ev_congr fun i hi=>fst_res hgd i (by simp [QI.sl,hi])
    have e2:ev (fst fr) (trO y)=ev (res fr) (trO y):=ev_congr fun i hi=>fst_res hgd i (by simp [QI.sl,hi])
    simp only [qc] at hc
    rw [e1,e2] at hs hc
    have r1:=ev_rel hf.res x; have r2:=ev_rel hf.res y
    split at hs
    · rename_i k m k' n hx hy
      rw [hx] at r1; rw [hy] at r2
      rw [hx,hy] at hc
      have r1':a.eval x=.int k m:=r1
      have r2':a.eval y=.int k' n:=r2
      obtain ⟨v',_,hr⟩:=run_binI (P:=P) (t:=t) hs hc
      exact step fun _=>⟨v',fun w=>by simp only [execOp,ho,r1',r2']; simp [hr,eqGuard]⟩
    · rename_i m n hx hy
      rw [hx] at r1; rw [hy] at r2
      rw [hx,hy] at hc
      have r1':a.eval x=.string m:=r1
      have r2':a.eval y=.string n:=r2
      obtain ⟨v',_,hr⟩:=run_binS (P:=P) (t:=t) hs hc
      exact step fun _=>⟨v',fun w=>by simp only [execOp,ho,r1',r2']; simp [hr,eqGuard]⟩
    · cases hs
  split at hop
  · rename_i x ho
    have hji:j.i=.q (.mv (trO x)):=by rw [ho] at hi; simpa [trI,trQ] using hi.symm
    obtain ⟨fr',hK,v,hf',hrun⟩:=run (by unfold J.quiet; rw [hji])
    have hw:=hrun w hr0
    simp [execOp,ho] at hw
    subst hw
    exact ⟨fr',_,hK,hf',fun w=>by simp [execOp,ho]⟩
  · rename_i x ho
    have hji:j.i=.q (.mv (trO x)):=by rw [ho] at hi; simpa [trI,trQ] using hi.symm
    obtain ⟨fr',hK,v,hf',hrun⟩:=run (by unfold J.quiet; rw [hji])
    have hw:=hrun w hr0
    simp [execOp,ho] at hw
    subst hw
    exact ⟨fr',_,hK,hf',fun w=>by simp [execOp,ho]⟩
  · rename_i t x y t' ho
    split at hop
    · rename_i k0 ht; exact bin .add t x y t' k0 ho ht (.inl rfl)
    · cases hop
  · rename_i t x y t' ho
    split at hop
    · rename_i k0 ht; exact bin .sub t x y t' k0 ho ht (.inr rfl)
    · cases hop
  · cases hop
theorem late_wait {n:Nat} {ls:List Nat} {l:Array Bool} (hs:sinkL ops n ls=true) (hc:Region.chainB .any ops n=true) (hn:n < ops.size) (inv:HeadInv .any ops n l) (hls:∀ i ∈ ls,l.getD i false=true) :
    ∀ (d i:Nat),n - i<=d->i < n->l.getD i true=false->∀ t,n<=t->t ∉ Region.ready .any ops l:=by
  intro d
  induction d with
  | zero=>intro i h1 h2; omega
  | succ d ih=>
    intro i hd hi hun t ht hr
    have hni:l.getD i false=false:=getD_both hun
    have hil:ls.contains i=false:=by
      cases hq:ls.contains i with
      | false=>rfl
      | true=>have:=hls i (by simpa using hq); rw [hni] at this; cases this
    obtain ⟨_,ot,hot,hall⟩:=mem_ready.1 hr
    have htlt:t < ops.size:=(Array.getElem?_eq_some_iff.1 hot).1
    rcases Nat.lt_or_ge n t with hnt | hnt
    · have h1:=List.all_eq_true.1 hc t (List.mem_range.2 htlt)
      simp only [Bool.or_eq_true,decide_eq_true_eq] at h1
      have h2:Region.waitsFor .any ops t (t - 1)=true:=by
        rcases h1 with h | h
        · omega
        · exact h
      obtain ⟨o',ho',e,he,hb,hon⟩:=Region.waitsFor_spec h2
      cases hot.symm.trans ho'
      have:=hall e he hb
      rw [hon,getD_both (inv.tail (t - 1) (by omega) (by omega))] at this
      cases this
    · obtain rfl:t=n:=by omega
      have h1:=List.all_eq_true.1 hs i (List.mem_range.2 hi)
      rw [hil,Bool.false_or] at h1
      obtain ⟨j,hj,hj2⟩:=List.any_eq_true.1 h1
      simp only [Bool.and_eq_true,decide_eq_true_eq] at hj2
      obtain ⟨⟨hij,hjl⟩,hw⟩:=hj2
      obtain ⟨oj,hoj,e,he,hb,hon⟩:=Region.waitsFor_spec hw
      have hjle:j<=t:=by have:=List.mem_range.1 hj; omega
      rcases Nat.lt_or_ge j t with hjt | hjt
      · cases hlj:l.getD j false with
        | true=>have:=inv.closed j oj hoj hlj e he hb; rw [hon,hni] at this; cases this
        | false=>exact ih j (by omega) hjt (getD_in (by rw [inv.size]; omega) hlj) t (Nat.le_refl _) hr
      · obtain rfl:j=t:=by omega
        cases hoj.symm.trans hot
        have:=hall e he hb
        rw [hon,hni] at this; cases this
def headAny (P:Program) (ops:Array Oper) (C:World->Prop) (n:Nat) (L:Array Bool->Act->Prop):Nat->Array Bool->Act->Prop
  | 0,l,a=>L l a
  | f + 1,l,a=>Region.ready .any ops l ≠ []/\∀ i ∈ Region.ready .any ops l,i < n/\qOp P ops C i (headAny P ops C n L f (l.setIfInBounds i true)) a
theorem any_of_head {n g:Nat} {C:World->Prop} {L:Array Bool->Act->Prop} {Q':Exit->Act->World->Prop} (hL:∀ l a w,C w->L l a->wpAny P .any ops Q' g l a w) :
    ∀ (f:Nat) (l:Array Bool) (a:Act) (w:World),C w->headAny P ops C n L f l a->wpAny P .any ops Q' (f + g) l a w
  | 0,l,a,w,hw,h=>by rw [Nat.zero_add]; exact hL _ _ _ hw h
  | f + 1,l,a,w,hw,h=>by
    rw [show f + 1 + g=(f + g) + 1 by omega]
    exact ⟨fun h0=>absurd h0 h.1,fun i hi=>wpOp_of_qOp hw (fun a' w' hw' h'=>any_of_head hL f _ a' w' hw' h') (h.2 i hi).2⟩
theorem late_first {n i:Nat} {ls:List Nat} {oi:Oper} {v:Value} {C:World->Prop} {L:Array Bool->Act->Prop} (hi:ops[i]? = some oi) (hsel:∀ (j:Nat) (o:Oper) cs b,ops[j]? = some o->o.op ≠ .select cs b)
    (hs:sinkL ops n ls=true) (hc:Region.chainB .any ops n=true) (hn:n < ops.size) (hin:i < n) (hL:∀ l a,L l a->∀ j ∈ Region.ready .any ops l,n<=j) :
    ∀ (f:Nat) (l:Array Bool) (a:Act),HeadInv .any ops n l->(∀ k ∈ ls,l.getD k false=true)->
      (∀ j oj,ops[j]? = some oj->j ≠ i->l.getD j true=false->(∀ e ∈ oj.after,Region.binds .any e=true->e.on ≠ i)->oi.apart ops oj=true)->
      i ∈ Region.ready .any ops l->YieldsIn P ops C oi v a->headAny P ops C n L f (l.setIfInBounds i true) (a.put oi.dst v)->headAny P ops C n L (f + 1) l a:=by
  intro f
  induction f with
  | zero=>
    intro l a inv hls _ hr hy H
    have hun:=(mem_ready.1 hr).1
    refine ⟨fun h=>(by rw [h] at hr; cases hr),fun j hj=>?_⟩
    have hjn:j < n:=Nat.lt_of_not_le fun h=>late_wait hs hc hn inv hls _ i (Nat.le_refl _) hin hun j h hj
    by_cases hji:j=i
    · subst hji; exact ⟨hjn,hy.qOp hi H⟩
    · have:=hL _ _ H j (ready_mono hj hji); omega
  | succ f ih=>
    intro l a inv hls hfree hr hy H
    have hun:=(mem_ready.1 hr).1
    refine ⟨fun h=>(by rw [h] at hr; cases hr),fun j hj=>?_⟩
    have hjn:j < n:=Nat.lt_of_not_le fun h=>late_wait hs hc hn inv hls _ i (Nat.le_refl _) hin hun j h hj
    by_cases hji:j=i
    · subst hji; exact ⟨hjn,hy.qOp hi H⟩
    · obtain ⟨hjun,oj,hoj,hall⟩:=mem_ready.1 hj
      have hno:∀ e ∈ oj.after,Region.binds .any e=true->e.on ≠ i:=fun e he hb heq=>by
        have:=hall e he hb
        rw [heq,getD_both hun] at this; cases this
      have hnext:=qOp_put hoj (hfree j oj hoj hji hjun hno) (fun cs b=>hsel i oi cs b hi) (fun cs b=>hsel j oj cs b hoj) hy (H.2 j (ready_mono hj hji)).2
      refine ⟨hjn,qOp_mono (fun a' h3=>ih (l.setIfInBounds j true) a' (inv.set hj hjn) (fun k hk=>getD_set_true (hls k hk)) (fun k ok hk hki hku hkn=>hfree k ok hk hki ?_ hkn) (ready_mono hr (Ne.symm hji)) h3.1 ?_) hnext⟩
      · by_cases hjk:j=k
        · subst hjk; exact hjun
        · rwa [getD_set_ne true hjk] at hku
      · rw [Array.setIfInBounds_comm _ _ hji]; exact h3.2
theorem late_lex {n:Nat} {ls:List Nat} {C:World->Prop} {Lq:Act->Prop} (hsel:Region.noSelect ops=true) (hs:sinkL ops n ls=true) (hc:Region.chainB .any ops n=true) (hn:n < ops.size) :
    ∀ (is:List Nat) (l:Array Bool) (a:Act),HeadInv .any ops n l->(∀ k ∈ ls,l.getD k false=true)->lexL ops n is l=true->wpQuiet P ops C Lq (picks ops.toList is) a->
      headAny P ops C n (fun l' a'=>Region.seqB .any ops (ops.size - n) n l'=true/\Lq a') is.length l a
  | [],l,a,_,_,hB,h=>⟨hB,h⟩
  | k :: is,l,a,inv,hls,hB,h=>by
    simp only [lexL,Bool.and_eq_true,decide_eq_true_eq] at hB
    obtain ⟨⟨⟨hkn,hr⟩,hfr⟩,hB'⟩:=hB
    have hr':k ∈ Region.ready .any ops l:=by simpa using hr
    have h0:ops[k]? = some ops[k]:=Array.getElem?_eq_getElem (by omega)
    have hpk:picks ops.toList (k :: is)=ops[k] :: picks ops.toList is:=by
      unfold picks
      rw [List.filterMap_cons]
      simp [show k < ops.size by omega]
    rw [hpk] at h
    have hst:qOp P ops C k (wpQuiet P ops C Lq (picks ops.toList is)) a:=by unfold qOp; simp only [h0]; exact h
    obtain ⟨v,hy,hK⟩:=yieldsIn_of_qOp h0 hst
    exact late_first h0 (Region.noSelect_spec hsel) hs hc hn hkn (fun l' a' hL=>seqB_ready hL.1) is.length l a inv hls (Region.free_spec h0 hfr) hr' hy
      (late_lex hsel hs hc hn is _ _ (inv.set hr' hkn) (fun k hk=>getD_set_true (hls k hk)) hB' hK)
def TrAt (P:Program) (nw:Bool) (N:Nat) (ops:Array Oper) (is:List Nat) (js:List J):Prop:=All2 (fun i j=>∃ o σ,ops[i]? = some o/\trJ P nw N ops σ o=some j) is js
theorem heads_sound (hm:MeetsAll P Γ) {L:Act->Prop} {w0:World}:∀ (is:List Nat) (js rest:List J),TrAt P nw N ops is js->(∀ j ∈ js,j.quietC=true)->∀ (fr:Fr) (a:Act) (K:Fr->Hp->Prop),FRel N (gm E) ro fr a->Rel X E ro w0->
    vR Γ (js ++ rest) fr (hp E) K->(∀ fr' a',FRel N (gm E) ro fr' a'->vR Γ rest fr' (hp E) K->L a')->wpQuiet P ops (Rel X E ro) L (picks ops.toList is) a
  | [],js,rest,ht,_,fr,a,K,hf,hr,hv,hL=>by
    obtain rfl:=All2.nil_inv ht
    exact hL _ _ hf hv
  | i :: is,js,rest,ht,hq,fr,a,K,hf,hr,hv,hL=>by
    obtain ⟨j,js',rfl,⟨o,σ,ho,h1⟩,h2⟩:=All2.cons_inv ht
    have hpk:picks ops.toList (i :: is)=o :: picks ops.toList is:=by
      unfold picks
      rw [List.filterMap_cons]
      simp [ho]
    rw [hpk]
    simp only [List.cons_append,vR] at hv
    obtain ⟨fr',hK,hs⟩:=jqc_sound hf hm hr h1 (hq j (by simp)) hv
    simp only [wpQuiet]
    split
    · rename_i hw
      simp only [hw,if_true] at hs
      obtain ⟨v,hf',hrun⟩:=hs
      exact ⟨v,hrun,heads_sound hm is js' rest h2 (fun y hy=>hq y (by simp [hy])) fr' _ K hf' hr hK hL⟩
    · rename_i hw
      rw [if_neg hw] at hs
      exact heads_sound hm is js' rest h2 (fun y hy=>hq y (by simp [hy])) fr' _ K hs hr hK hL
theorem lates_sound {Q':Exit->Act->World->Prop} (hnp:∀ c a w,¬ Q' (.panic c) a w) (hsel:Region.noSelect ops=true) {Y:Ctx} {f:Nat}:∀ (is:List Nat) (js rest:List J) (l:Array Bool),TrAt P nw N ops is js->(∀ i ∈ is,∀ o,ops[i]? = some o->pureOp P o=true)->
    takeB ops is l=true->∀ (fr:Fr) (a:Act) (K:Fr->Hp->Prop),FRel N (gm E) ro fr a->Rel Y E ro w->vR Γ (js ++ rest) fr (hp E) K->
    (∀ fr' a',FRel N (gm E) ro fr' a'->vR Γ rest fr' (hp E) K->wpAny P .any ops Q' f (marks is l) a' w)->wpAny P .any ops Q' (is.length + f) l a w
  | [],js,rest,l,ht,_,_,fr,a,K,hf,hr,hv,hL=>by
    obtain rfl:=All2.nil_inv ht
    rw [List.length_nil,Nat.zero_add]
    exact hL _ _ hf hv
  | i :: is,js,rest,l,ht,hpu,hB,fr,a,K,hf,hr,hv,hL=>by
    obtain ⟨j,js',rfl,⟨o,σ,ho,h1⟩,h2⟩:=All2.cons_inv ht
    simp only [takeB,Bool.and_eq_true] at hB
    obtain ⟨⟨hrd,hfr⟩,hB'⟩:=hB
    simp only [List.cons_append,vR] at hv
    obtain ⟨fr',v,hK,hf',hrun⟩:=jp_sound hf hr h1 (hpu i (by simp) o ho) hv
    have hgn:o.guard=none:=by
      have:=hpu i (by simp) o ho
      unfold pureOp at this
      rw [Bool.and_eq_true] at this
      simpa using this.1
    rw [List.length_cons,show is.length + 1 + f=(is.length + f) + 1 by omega]
    exact wpAny_take ho hsel hfr hrd (fun c a w h=>absurd h (hnp _ _ _)) (.inl ⟨wanted_none hgn _,hrun⟩)
      (lates_sound hnp hsel is js' rest _ h2 (fun k hk=>hpu k (by simp [hk])) hB' fr' _ K hf' hr hK hL)
end
end Go.W
namespace Go.W
section
variable {P:Program} {ops:Array Oper} {C:World->Prop}
def sOp (P:Program) (ops:Array Oper) (C:World->Prop) (i:Nat) (K:Act->Prop) (a:Act):Prop:=
  match ops[i]? with
  | none=>K a
  | some o=>if Region.wanted o (yielded ops a.tmps) then ∃ v,(∀ w,C w->(execOp a.eval o).run P w=.ok (.value v) w)/\K (a.put o.dst v) else K (a.put o.dst undef)
def SYields (P:Program) (ops:Array Oper) (C:World->Prop) (o:Oper) (v:Value) (a:Act):Prop:=
  (Region.wanted o (yielded ops a.tmps)=true/\∀ w,C w->(execOp a.eval o).run P w=.ok (.value v) w)\/
  (Region.wanted o (yielded ops a.tmps)=false/\v=undef)
theorem SYields.sOp {i:Nat} {o:Oper} {v:Value} {a:Act} (hi:ops[i]? = some o) (hy:SYields P ops C o v a) {K:Act->Prop} (h:K (a.put o.dst v)):sOp P ops C i K a:=by
  unfold W.sOp
  simp only [hi]
  rcases hy with ⟨hw,hv⟩ | ⟨hw,rfl⟩
  · simp only [hw,if_true]; exact ⟨v,hv,h⟩
  · simp only [hw,Bool.false_eq_true,if_false]; exact h
theorem sYields_of {i:Nat} {o:Oper} {a:Act} {K:Act->Prop} (hi:ops[i]? = some o) (h:sOp P ops C i K a):∃ v,SYields P ops C o v a/\K (a.put o.dst v):=by
  unfold sOp at h
  simp only [hi] at h
  by_cases hw:Region.wanted o (yielded ops a.tmps)=true
  · simp only [hw,if_true] at h
    obtain ⟨v,h1,h2⟩:=h
    exact ⟨v,.inl ⟨hw,h1⟩,h2⟩
  · simp only [hw] at h
    exact ⟨undef,.inr ⟨by simpa using hw,rfl⟩,h⟩
theorem SYields.of_same {o:Oper} {v:Value} {a a':Act} (hy:SYields P ops C o v a) (he:execOp a'.eval o=execOp a.eval o)
    (hw:Region.wanted o (yielded ops a'.tmps)=Region.wanted o (yielded ops a.tmps)):SYields P ops C o v a':=by
  unfold SYields at *
  rw [he,hw]
  exact hy
theorem sOp_mono {i:Nat} {a:Act} {K K':Act->Prop} (h:∀ a,K a->K' a) (hh:sOp P ops C i K a):sOp P ops C i K' a:=by
  unfold sOp at *
  split
  · exact h _ (by simpa [*] using hh)
  · rename_i o ho
    simp only [ho] at hh
    split
    · rename_i hw; simp only [hw,if_true] at hh; obtain ⟨v,h1,h2⟩:=hh; exact ⟨v,h1,h _ h2⟩
    · rename_i hw; simp only [hw] at hh; exact h _ hh
theorem wpOp_of_sOp {i:Nat} {a:Act} {K:Act->Prop} {K':Act->World->Prop} {Q':Exit->Act->World->Prop} {w:World} (hC:C w) (h:∀ a,K a->K' a w) (hh:sOp P ops C i K a):wpOp P ops Q' i K' a w:=by
  unfold sOp at hh
  unfold wpOp
  split
  · rename_i ho; simp only [ho] at hh; exact h _ hh
  · rename_i o ho
    simp only [ho] at hh
    split
    · rename_i hw
      simp only [hw,if_true] at hh
      obtain ⟨v,h1,h2⟩:=hh
      refine .inl ?_
      unfold Oper.wp
      rw [h1 w hC]
      exact h _ h2
    · rename_i hw; simp only [hw] at hh; exact h _ hh
theorem sOp_put {j:Nat} {oi oj:Oper} {v:Value} (hj:ops[j]? = some oj) (hap:oi.apart ops oj=true)
    (hsi:∀ cs b,oi.op ≠ .select cs b) (hsj:∀ cs b,oj.op ≠ .select cs b) {K:Act->Prop} {a:Act}
    (hy:SYields P ops C oi v a) (h:sOp P ops C j K (a.put oi.dst v)) :
    sOp P ops C j (fun a'=>SYields P ops C oi v a'/\K (a'.put oi.dst v)) a:=by
  obtain ⟨h1,h2,h3⟩:=Oper.apart_spec hap
  have keep:∀ (a:Act),SYields P ops C oi v a->∀ u,SYields P ops C oi v (a.put oj.dst u):=fun a hy u=>
    hy.of_same (execOp_put oi hsi a oj.dst u h3) (wanted_put oi a oj.dst u h3)
  unfold sOp at *
  simp only [hj] at *
  rw [wanted_put oj a oi.dst v h1] at h
  split
  · rename_i hw
    simp only [hw,if_true] at h
    obtain ⟨u,hu,hn⟩:=h
    refine ⟨u,fun w hw'=>?_,keep a hy u,by rw [<-Act.put_comm a v u h2]; exact hn⟩
    have:=hu w hw'
    rwa [execOp_put oj hsj a oi.dst v h1] at this
  · rename_i hw
    simp only [hw] at h
    exact ⟨keep a hy _,by rw [<-Act.put_comm a v undef h2]; exact h⟩
theorem sOp_over {j:Nat} {oi oj:Oper} {v:Value} (hj:ops[j]? = some oj) (hap:oi.apart ops oj=true) (hsj:∀ cs b,oj.op ≠ .select cs b) {K:Act->Prop} {a:Act}
    (h:sOp P ops C j K a):sOp P ops C j (fun a'=>∃ a0,a'=a0.put oi.dst v/\K a0/\∃ u,a0=a.put oj.dst u) (a.put oi.dst v):=by
  obtain ⟨h1,h2,h3⟩:=Oper.apart_spec hap
  unfold sOp at *
  simp only [hj] at *
  rw [wanted_put oj a oi.dst v h1]
  split
  · rename_i hw
    simp only [hw,if_true] at h
    obtain ⟨u,hu,hn⟩:=h
    refine ⟨u,fun w hw'=>?_,_,Act.put_comm a v u h2,hn,u,rfl⟩
    rw [execOp_put oj hsj a oi.dst v h1]
    exact hu w hw'
  · rename_i hw
    simp only [hw] at h
    exact ⟨_,Act.put_comm a v undef h2,h,undef,rfl⟩
def headS (P:Program) (ops:Array Oper) (C:World->Prop) (n:Nat) (L:Array Bool->Act->Prop):Nat->Array Bool->Act->Prop
  | 0,l,a=>L l a
  | f + 1,l,a=>(∃ i ∈ Region.ready .any ops l,i < n)/\∀ i ∈ Region.ready .any ops l,i < n->sOp P ops C i (headS P ops C n L f (l.setIfInBounds i true)) a
theorem headS_first {n i:Nat} {oi:Oper} {v:Value} {L:Array Bool->Act->Prop} (hi:ops[i]? = some oi) (hsel:∀ (j:Nat) (o:Oper) cs b,ops[j]? = some o->o.op ≠ .select cs b)
    (hin:i < n) (hL:∀ l a,L l a->∀ j ∈ Region.ready .any ops l,n<=j) :
    ∀ (f:Nat) (l:Array Bool) (a:Act),
      (∀ j oj,ops[j]? = some oj->j ≠ i->l.getD j true=false->(∀ e ∈ oj.after,Region.binds .any e=true->e.on ≠ i)->oi.apart ops oj=true)->
      i ∈ Region.ready .any ops l->SYields P ops C oi v a->headS P ops C n L f (l.setIfInBounds i true) (a.put oi.dst v)->headS P ops C n L (f + 1) l a:=by
  intro f
  induction f with
  | zero=>
    intro l a _ hr hy H
    refine ⟨⟨i,hr,hin⟩,fun j hj hjn=>?_⟩
    by_cases hji:j=i
    · subst hji; exact hy.sOp hi H
    · have:=hL _ _ H j (ready_mono hj hji); omega
  | succ f ih=>
    intro l a hfree hr hy H
    have hun:=(mem_ready.1 hr).1
    refine ⟨⟨i,hr,hin⟩,fun j hj hjn=>?_⟩
    by_cases hji:j=i
    · subst hji; exact hy.sOp hi H
    · obtain ⟨hjun,oj,hoj,hall⟩:=mem_ready.1 hj
      have hno:∀ e ∈ oj.after,Region.binds .any e=true->e.on ≠ i:=fun e he hb heq=>by
        have:=hall e he hb
        rw [heq,getD_both hun] at this; cases this
      have hnext:=sOp_put hoj (hfree j oj hoj hji hjun hno) (fun cs b=>hsel i oi cs b hi) (fun cs b=>hsel j oj cs b hoj) hy (H.2 j (ready_mono hj hji) hjn)
      refine sOp_mono (fun a' h3=>ih (l.setIfInBounds j true) a' (fun k ok hk hki hku hkn=>hfree k ok hk hki ?_ hkn) (ready_mono hr (Ne.symm hji)) h3.1 ?_) hnext
      · by_cases hjk:j=k
        · subst hjk; exact hjun
        · rwa [getD_set_ne true hjk] at hku
      · rw [Array.setIfInBounds_comm _ _ hji]; exact h3.2
def wpS (P:Program) (ops:Array Oper) (C:World->Prop) (L:Act->Prop):List Nat->Act->Prop
  | [],a=>L a
  | i :: is,a=>sOp P ops C i (wpS P ops C L is) a
theorem headS_lex {n:Nat} {Lq:Act->Prop} (hsel:Region.noSelect ops=true) (hn:n < ops.size) :
    ∀ (is:List Nat) (l:Array Bool) (a:Act),lexL ops n is l=true->wpS P ops C Lq is a->
      headS P ops C n (fun l' a'=>Region.seqB .any ops (ops.size - n) n l'=true/\Lq a') is.length l a
  | [],l,a,hB,h=>⟨hB,h⟩
  | k :: is,l,a,hB,h=>by
    simp only [lexL,Bool.and_eq_true,decide_eq_true_eq] at hB
    obtain ⟨⟨⟨hkn,hr⟩,hfr⟩,hB'⟩:=hB
    have hr':k ∈ Region.ready .any ops l:=by simpa using hr
    have h0:ops[k]? = some ops[k]:=Array.getElem?_eq_getElem (by omega)
    obtain ⟨v,hy,hK⟩:=sYields_of h0 h
    exact headS_first h0 (Region.noSelect_spec hsel) hkn (fun l' a' hL=>seqB_ready hL.1) is.length l a (Region.free_spec h0 hfr) hr' hy
      (headS_lex hsel hn is _ _ hB' hK)
theorem headS_end {n:Nat} {on:Oper} {L:Array Bool->Act->Prop} (hsel:∀ (j:Nat) (o:Oper) cs b,ops[j]? = some o->o.op ≠ .select cs b) (hon:ops[n]? = some on)
    (hap:∀ j oj,ops[j]? = some oj->j < n->(∀ e ∈ on.after,Region.binds .any e=true->e.on ≠ j)->on.apart ops oj=true) :
    ∀ (f:Nat) (l:Array Bool) (a:Act),n ∈ Region.ready .any ops l->headS P ops C n L f l a->∃ l' a',L l' a'/\execOp a'.eval on=execOp a.eval on
  | 0,l,a,_,h=>⟨l,a,h,rfl⟩
  | f + 1,l,a,hr,⟨⟨i,hi,hin⟩,h⟩=>by
    obtain ⟨hun,oi,hoi,_⟩:=mem_ready.1 hi
    obtain ⟨_,on',hon',hall⟩:=mem_ready.1 hr
    cases hon.symm.trans hon'
    have hno:∀ e ∈ on.after,Region.binds .any e=true->e.on ≠ i:=fun e he hb heq=>by
      have:=hall e he hb
      rw [heq,getD_both hun] at this; cases this
    obtain ⟨_,_,h3⟩:=Oper.apart_spec (hap i oi hoi hin hno)
    obtain ⟨v,_,hK⟩:=sYields_of hoi (h i hi hin)
    obtain ⟨l',a',h4,h5⟩:=headS_end hsel hon hap f _ _ (ready_mono hr (by omega)) hK
    exact ⟨l',a',h4,h5.trans (execOp_put on (fun cs b=>hsel n on cs b hon) a oi.dst v h3)⟩
theorem early2 {n g:Nat} {on:Oper} {L:Array Bool->Act->Prop} {Q':Exit->Act->World->Prop} {v:Value} {w1:World} {S0:Sem Next} (hsel:∀ (j:Nat) (o:Oper) cs b,ops[j]? = some o->o.op ≠ .select cs b) (hon:ops[n]? = some on)
    (hap:∀ j oj,ops[j]? = some oj->j < n->(∀ e ∈ on.after,Region.binds .any e=true->e.on ≠ j)->on.apart ops oj=true)
    (hnw:∀ j oj,ops[j]? = some oj->j < n->∀ e ∈ oj.after,Region.binds .any e=true->e.on ≠ n)
    (hs:sinkL ops (n + 1) []=true) (hc:Region.chainB .any ops (n + 1)=true) (hn:n + 1 < ops.size) (hC1:C w1)
    (hL1:∀ l a,L l a->execOp a.eval on=S0->wpAny P .any ops Q' g (l.setIfInBounds n true) (a.put on.dst v) w1) :
    ∀ (f:Nat) (l:Array Bool) (a:Act),HeadInv .any ops (n + 1) (l.setIfInBounds n true)->n ∈ Region.ready .any ops l->headS P ops C n L f l a->execOp a.eval on=S0->wpAny P .any ops Q' (f + g) (l.setIfInBounds n true) (a.put on.dst v) w1
  | 0,l,a,_,_,h,he=>by rw [Nat.zero_add]; exact hL1 l a h he
  | f + 1,l,a,inv,hr,⟨⟨i,hi,hin⟩,h⟩,he=>by
    rw [show f + 1 + g=(f + g) + 1 by omega]
    have hi':=ready_mono (i:=n) hi (by omega)
    refine ⟨fun h0=>(by rw [h0] at hi'; cases hi'),fun j hj=>?_⟩
    obtain ⟨hjun,oj,hoj,hall⟩:=mem_ready.1 hj
    rcases Nat.lt_trichotomy j n with hjn | hjn | hjn
    · have hjun':l.getD j true=false:=by rwa [getD_set_ne true (by omega)] at hjun
      have hjl:j ∈ Region.ready .any ops l:=mem_ready.2 ⟨hjun',oj,hoj,fun e he' hb=>by
        have:=hall e he' hb
        rwa [getD_set_ne false (Ne.symm (hnw j oj hoj hjn e he' hb))] at this⟩
      obtain ⟨_,on',hon',halln⟩:=mem_ready.1 hr
      cases hon.symm.trans hon'
      have hno:∀ e ∈ on.after,Region.binds .any e=true->e.on ≠ j:=fun e he' hb heq=>by
        have:=halln e he' hb
        rw [heq,getD_both hjun'] at this; cases this
      have hap':=hap j oj hoj hjn hno
      obtain ⟨_,_,h3⟩:=Oper.apart_spec hap'
      refine wpOp_of_sOp hC1 ?_ (sOp_over hoj hap' (fun cs b=>hsel j oj cs b hoj) (h j hjl hjn))
      rintro a' ⟨a0,rfl,h4,u,rfl⟩
      have hcm:(l.setIfInBounds n true).setIfInBounds j true=(l.setIfInBounds j true).setIfInBounds n true:=Array.setIfInBounds_comm _ _ (by omega)
      rw [hcm]
      refine early2 hsel hon hap hnw hs hc hn hC1 hL1 f _ _ ?_ (ready_mono hr (by omega)) h4 ((execOp_put on (fun cs b=>hsel n on cs b hon) a oj.dst u h3).trans he)
      rw [<-hcm]
      exact inv.set hj (by omega)
    · subst hjn
      exfalso
      rcases Nat.lt_or_ge j l.size with h' | h'<;>simp [h'] at hjun
    · exact absurd hj (late_wait hs hc hn inv (fun k hk=>by cases hk) _ i (Nat.le_refl _) (by omega) (mem_ready.1 hi').1 j hjn)
theorem early1 {n g:Nat} {on:Oper} {L:Array Bool->Act->Prop} {Q':Exit->Act->World->Prop} (hQ:∀ c a w,¬ Q' (.panic c) a w) (hsel:∀ (j:Nat) (o:Oper) cs b,ops[j]? = some o->o.op ≠ .select cs b) (hon:ops[n]? = some on) (hgd:on.guard=none)
    (hap:∀ j oj,ops[j]? = some oj->j < n->(∀ e ∈ on.after,Region.binds .any e=true->e.on ≠ j)->on.apart ops oj=true)
    (hnw:∀ j oj,ops[j]? = some oj->j < n->∀ e ∈ oj.after,Region.binds .any e=true->e.on ≠ n)
    (hs:sinkL ops (n + 1) []=true) (hc0:Region.chainB .any ops n=true) (hc:Region.chainB .any ops (n + 1)=true) (hn:n + 1 < ops.size)
    (hgrow:∀ (a:Act) w r w1,C w->(execOp a.eval on).run P w=.ok r w1->(∃ v,r=.value v)/\C w1)
    (hL0:∀ l a w,C w->L l a->wpAny P .any ops Q' (g + 1) l a w)
    (hL2:∀ l a w,C w->L l a->on.wp P a w (fun a' w'=>wpAny P .any ops Q' g (l.setIfInBounds n true) a' w') Q') :
    ∀ (f:Nat) (l:Array Bool) (a:Act) (w:World),C w->HeadInv .any ops n l->headS P ops C n L f l a->wpAny P .any ops Q' (f + (g + 1)) l a w
  | 0,l,a,w,hw,_,h=>by rw [Nat.zero_add]; exact hL0 l a w hw h
  | f + 1,l,a,w,hw,inv,hH=>by
    obtain ⟨⟨i,hi,hin⟩,h⟩:=id hH
    rw [show f + 1 + (g + 1)=(f + (g + 1)) + 1 by omega]
    refine ⟨fun h0=>(by rw [h0] at hi; cases hi),fun j hj=>?_⟩
    obtain ⟨hjun,oj,hoj,hall⟩:=mem_ready.1 hj
    rcases Nat.lt_trichotomy j n with hjn | hjn | hjn
    · exact wpOp_of_sOp hw (fun a' h'=>early1 hQ hsel hon hgd hap hnw hs hc0 hc hn hgrow hL0 hL2 f _ a' w hw (inv.set hj hjn) h') (h j hj hjn)
    · subst hjn
      cases hon.symm.trans hoj
      unfold wpOp
      simp only [hoj]
      rw [if_pos (wanted_none hgd _)]
      refine .inl ?_
      obtain ⟨l',a',h4,h5⟩:=headS_end hsel hon hap (f + 1) l a hj hH
      have h6:=hL2 l' a' w hw h4
      unfold Oper.wp at h6 ⊢
      rw [h5] at h6
      cases hrun:(execOp a.eval on).run P w with
      | ok r w1=>
        obtain ⟨⟨v,rfl⟩,hw1⟩:=hgrow a w r w1 hw hrun
        have inv2:HeadInv .any ops (j + 1) (l.setIfInBounds j true):=HeadInv.set ⟨inv.size,inv.closed,fun t ht=>inv.tail t (by omega)⟩ hj (by omega)
        have:=early2 (g:=g) (v:=v) (w1:=w1) (S0:=execOp a.eval on) hsel hon hap hnw hs hc hn hw1 (fun l2 a2 h7 h8=>by
          have h9:=hL2 l2 a2 w hw h7
          unfold Oper.wp at h9
          rw [h8,hrun] at h9
          exact h9) (f + 1) l a inv2 hj hH rfl
        rw [show f + 1 + g=f + (g + 1) by omega] at this
        exact this
      | halt x w1=>
        rw [hrun] at h6
        cases x<;>simp only [Oper.upon] at h6 ⊢
        case panic u=>exact absurd h6 (hQ _ _ _)
    · exfalso
      have h1:=List.all_eq_true.1 hc0 j (List.mem_range.2 (Array.getElem?_eq_some_iff.1 hoj).1)
      simp only [Bool.or_eq_true,decide_eq_true_eq] at h1
      have h2:Region.waitsFor .any ops j (j - 1)=true:=by
        rcases h1 with h | h
        · omega
        · exact h
      obtain ⟨o',ho',e,he,hb,hon'⟩:=Region.waitsFor_spec h2
      cases hoj.symm.trans ho'
      have:=hall e he hb
      rw [hon',getD_both (inv.tail (j - 1) (by omega) (by have:=(Array.getElem?_eq_some_iff.1 hoj).1; omega))] at this
      cases this
end
end Go.W
namespace Go.W
theorem FRel.weak {N:Nat} {γ:List Gb} {ro:RO} {fr fr2:Fr} {a:Act} (h:FRel N γ ro fr a) (hw:∀ i,fr2 i=fr i\/fr2 i=.un):FRel N γ ro fr2 a:=
  ⟨h.size,fun i=>by rcases hw i with e | e<;>rw [e]; exact h.slot i; trivial,h.defers⟩
theorem gds_agree {f1 f2:Fr}:∀ {l:List Nat},(∀ i ∈ l,f1 i=f2 i)->gds f1 l=gds f2 l
  | [],_=>rfl
  | i :: r,h=>by
    simp only [gds]
    rw [h i (by simp),gds_agree (l:=r) fun k hk=>h k (by simp [hk])]
theorem fst_agree {f1 f2:Fr} {l:List Nat} (h:∀ i ∈ l,f1 i=f2 i):∀ i ∈ l,fst f1 i=fst f2 i:=fun i hi=>by
  unfold fst; rw [h i hi]
theorem lq_congr {f1 f2:Fr} {H:Hp} {i:LI} (h:∀ j ∈ i.sl,f1 j=f2 j):lq f1 H i=lq f2 H i:=by
  cases i with
  | ia sz x y=>rfl
  | lk kd z ok x k=>rfl
  | lm x=>rfl
  | ld1 x=>simp only [lq,ev_congr (o:=x) (fun j hj=>h j hj)]
  | ldn n x=>simp only [lq,ev_congr (o:=x) (fun j hj=>h j hj)]
section
variable {Γ:Env} {H:Hp} {j:J} {K1 K2:Fr->Hp->Prop}
theorem vI_agree {i:I} {f1 f2:Fr} {R1 R2:S->Hp->Prop} (h:∀ k ∈ i.sl,f1 k=f2 k) (hR:R1=R2):vI Γ f1 H R1 i=vI Γ f2 H R2 i:=by
  subst hR
  cases i with
  | e i=>
    simp only [vI]
    rw [show gds f1 i.sl=gds f2 i.sl from gds_agree h,e_congr (fst_agree h)]
  | cl f xs σ=>
    simp only [vI]
    have e:(xs.map fun o=>ev (fst f1) o)=xs.map fun o=>ev (fst f2) o:=by
      refine List.map_congr_left fun o ho=>ev_congr fun k hk=>fst_agree h k ?_
      simp only [I.sl]
      clear h
      induction xs with
      | nil=>cases ho
      | cons x r ih=>
        simp only [O.sls,List.mem_append]
        rcases List.mem_cons.1 ho with rfl | ho
        · exact .inl hk
        · exact .inr (ih ho)
    rw [show gds f1 (O.sls xs)=gds f2 (O.sls xs) from gds_agree h,e]
  | ca x xs σ=>
    simp only [vI]
    have e:(xs.map fun o=>ev (fst f1) o)=xs.map fun o=>ev (fst f2) o:=by
      refine List.map_congr_left fun o ho=>ev_congr fun k hk=>fst_agree h k ?_
      simp only [I.sl,List.mem_append]
      clear h
      induction xs with
      | nil=>cases ho
      | cons x r ih=>
        simp only [O.sls,List.mem_append]
        rcases List.mem_cons.1 ho with rfl | ho
        · exact .inr (.inl hk)
        · rcases ih ho with h | h
          · exact .inl h
          · exact .inr (.inr h)
    have ex:ev (fst f1) x=ev (fst f2) x:=ev_congr fun k hk=>fst_agree h k (by simp only [I.sl,List.mem_append]; exact .inl hk)
    rw [gds_agree (l:=x.sl ++ O.sls xs) h,e,ex]
  | _=>rfl
theorem sls_mem {o:O}:∀ {xs:List O},o ∈ xs->∀ k ∈ o.sl,k ∈ O.sls xs
  | [],ho,_,_=>by cases ho
  | x :: r,ho,k,hk=>by
    simp only [O.sls,List.mem_append]
    rcases List.mem_cons.1 ho with rfl | ho
    · exact .inl hk
    · exact .inr (sls_mem ho k hk)
theorem cqP_agree {f:FuncId} {xs:List O} {g:Prop} {f1 f2:Fr} {R1 R2:A->Prop} (h:∀ k ∈ O.sls xs,f1 k=f2 k) (hR:R1=R2):cqP Γ f1 H f xs g R1=cqP Γ f2 H f xs g R2:=by
  subst hR
  have e:(xs.map fun o=>((ev (fst f1) o).bor H).nf)=xs.map fun o=>((ev (fst f2) o).bor H).nf:=
    List.map_congr_left fun o ho=>by rw [ev_congr fun k hk=>fst_agree h k (sls_mem ho k hk)]
  unfold cqP
  rw [e,gds_agree h]
theorem vJ_rel (R:Fr->Fr->Prop) (hA:∀ f1 f2,R f1 f2->∀ i ∈ j.rds,f1 i=f2 i)
    (hP:∀ f1 f2 sl s,(∃ w,j.g=some (sl,w))->R f1 f2->R (put f1 (some sl) s) (put f2 (some sl) s))
    (hK:∀ f1 f2 s H',R f1 f2->K1 (put f1 j.d s) H'=K2 (put f2 j.d s) H') {f1 f2:Fr} (h:R f1 f2):vJ Γ f1 H K1 j=vJ Γ f2 H K2 j:=by
  obtain ⟨d,g,i⟩:=j
  simp only [J.rds] at hA
  simp only at hP hK
  have hs:∀ {f1 f2:Fr},R f1 f2->∀ k ∈ i.sl,f1 k=f2 k:=fun hR k hk=>hA _ _ hR k (List.mem_append_right _ hk)
  have hI:∀ {f1 f2:Fr},R f1 f2->vI Γ f1 H (fun s H'=>K1 (put f1 d s) H') i=vI Γ f2 H (fun s H'=>K2 (put f2 d s) H') i:=fun {f1 f2} hR=>
    vI_agree (hs hR) (funext fun s=>funext fun H'=>hK f1 f2 s H' hR)
  have hsl:=hs h
  have hfs:=fst_agree hsl
  have hgd:=gds_agree hsl
  unfold vJ
  cases g with
  | none=>
    simp only
    cases i with
    | q i=>
      obtain ⟨e1,e2⟩:=q_congr (H:=H) (i:=i) hfs
      simp only [vJ0,e1,e2]
      rw [show gds f1 i.sl=gds f2 i.sl from hgd]
      split
      · rw [hK _ _ _ _ h]
      · rfl
    | ix x y=>
      have ex:ev (fst f1) x=ev (fst f2) x:=ev_congr fun k hk=>hfs k (List.mem_append_left _ hk)
      have ey:ev (fst f1) y=ev (fst f2) y:=ev_congr fun k hk=>hfs k (List.mem_append_right _ hk)
      simp only [vJ0,ex,ey]
      rw [show gds f1 (x.sl ++ y.sl)=gds f2 (x.sl ++ y.sl) from hgd]
      split
      · simp only [hK _ _ _ _ h]
      · rfl
    | l i=>
      simp only [vJ0]
      rw [show gds f1 i.sl=gds f2 i.sl from hgd,l_congr hfs]
      simp only [hK _ _ _ _ h]
    | pick c x y=>
      have ec:ev (fst f1) c=ev (fst f2) c:=ev_congr fun k hk=>hfs k (List.mem_append_left _ hk)
      have ex:ev (fst f1) x=ev (fst f2) x:=ev_congr fun k hk=>hfs k (List.mem_append_right _ (List.mem_append_left _ hk))
      have ey:ev (fst f1) y=ev (fst f2) y:=ev_congr fun k hk=>hfs k (List.mem_append_right _ (List.mem_append_right _ hk))
      simp only [vJ0,ec,ex,ey]
      rw [gds_agree (l:=c.sl) fun k hk=>hsl k (List.mem_append_left _ hk),gds_agree (l:=x.sl) fun k hk=>hsl k (List.mem_append_right _ (List.mem_append_left _ hk)),gds_agree (l:=y.sl) fun k hk=>hsl k (List.mem_append_right _ (List.mem_append_right _ hk))]
      split
      · rw [hK _ _ _ _ h]
      · rfl
    | cq f xs=>exact cqP_agree hsl (funext fun a=>hK _ _ _ _ h)
    | e i=>exact hI h
    | cl f xs σ=>exact hI h
    | ca x xs σ=>exact hI h
  | some gw=>
    obtain ⟨sl,want⟩:=gw
    simp only
    have hg0:f1 sl=f2 sl:=hA _ _ h sl (by simp)
    have hgv:gv f1 sl want=gv f2 sl want:=by unfold gv; rw [hg0]
    have hn:R (rfn f1 sl want) (rfn f2 sl want):=hP _ _ _ _ ⟨_,rfl⟩ h
    have hf:R (rff f1 sl want) (rff f2 sl want):=by
      unfold rff
      rw [hg0]
      split
      · exact hP _ _ _ _ ⟨_,rfl⟩ h
      · exact h
    rw [hgv]
    split
    · rfl
    · rename_i b hb
      have hIf:((b=true->vI Γ (rfn f1 sl want) H (fun s H'=>K1 (put (rfn f1 sl want) d s) H') i)/\(b=false->K1 (put (rff f1 sl want) d dum) H))=((b=true->vI Γ (rfn f2 sl want) H (fun s H'=>K2 (put (rfn f2 sl want) d s) H') i)/\(b=false->K2 (put (rff f2 sl want) d dum) H)):=by
        rw [hI hn,hK _ _ _ _ hf]
      cases i with
      | q i=>
        obtain ⟨e1,e2⟩:=q_congr (H:=H) (i:=i) hfs
        simp only [vJg,e1,e2]
        rw [show gds f1 i.sl=gds f2 i.sl from hgd]
        split<;>rw [hK _ _ _ _ h]
      | ix x y=>
        have ex:ev (fst f1) x=ev (fst f2) x:=ev_congr fun k hk=>hfs k (List.mem_append_left _ hk)
        have ey:ev (fst f1) y=ev (fst f2) y:=ev_congr fun k hk=>hfs k (List.mem_append_right _ hk)
        simp only [vJg,ex,ey]
        rw [show gds f1 (x.sl ++ y.sl)=gds f2 (x.sl ++ y.sl) from hgd]
        split<;>simp only [hK _ _ _ _ h]
      | l i=>
        simp only [vJg]
        rw [lq_congr hfs,show gds f1 i.sl=gds f2 i.sl from hgd]
        split
        · rw [hK _ _ _ _ h]
        · have e1:gds (rfn f1 sl want) i.sl=gds (rfn f2 sl want) i.sl:=gds_agree (hs hn)
          rw [e1,l_congr (fst_agree (hs hn)),hK _ _ _ _ hf]
          simp only [hK _ _ _ _ hn]
      | pick c x y=>
        have ec:ev (fst f1) c=ev (fst f2) c:=ev_congr fun k hk=>hfs k (List.mem_append_left _ hk)
        have ex:ev (fst f1) x=ev (fst f2) x:=ev_congr fun k hk=>hfs k (List.mem_append_right _ (List.mem_append_left _ hk))
        have ey:ev (fst f1) y=ev (fst f2) y:=ev_congr fun k hk=>hfs k (List.mem_append_right _ (List.mem_append_right _ hk))
        simp only [vJg,ec,ex,ey]
        rw [gds_agree (l:=c.sl) fun k hk=>hsl k (List.mem_append_left _ hk),gds_agree (l:=x.sl) fun k hk=>hsl k (List.mem_append_right _ (List.mem_append_left _ hk)),gds_agree (l:=y.sl) fun k hk=>hsl k (List.mem_append_right _ (List.mem_append_right _ hk))]
        split<;>rw [hK _ _ _ _ h]
      | cq f xs=>exact cqP_agree hsl (funext fun a=>hK _ _ _ _ h)
      | e i=>exact hIf
      | cl f xs σ=>exact hIf
      | ca x xs σ=>exact hIf
end
theorem vL_pick {fr:Fr} {H:Hp} {i:LI} {Φ:S->Prop} (h:vL fr H i Φ):∃ s,Φ s/\vL fr H i (fun s'=>s'=s):=by
  cases i with
  | ia sz x y=>
    simp only [vL] at h ⊢
    split at h
    · exact ⟨_,h.2,h.1,rfl⟩
    · rename_i xs _ k hx hy
      obtain ⟨⟨h1,h2⟩,h3⟩:=h
      have hk:xs[k.toNat]? = some xs[k.toNat]:=List.getElem?_eq_getElem (by omega)
      exact ⟨_,h3 _ hk,⟨h1,h2⟩,fun r hr=>by rw [hk] at hr; rw [Option.some.inj hr]⟩
    · exact h.elim
  | lk kd z ok x k=>
    simp only [vL] at h ⊢
    split at h
    · split at h
      · exact ⟨_,h.2,h.1,rfl⟩
      · exact h.elim
    · exact h.elim
  | lm x=>
    simp only [vL] at h ⊢
    split at h
    · split at h
      · exact ⟨_,h,rfl⟩
      · exact h.elim
    · exact h.elim
  | ld1 x=>
    simp only [vL] at h ⊢
    split at h
    · split at h
      · split at h
        · exact ⟨_,h,rfl⟩
        · exact h.elim
      · exact h.elim
    · split at h
      · rename_i xs T sz' hH
        obtain ⟨h1,h3⟩:=h
        have hk:=List.getElem?_eq_getElem h1.2.2
        have:=h3 _ hk
        split at this
        · rename_i c hc
          refine ⟨_,this,h1,fun r hr=>?_⟩
          rw [hk] at hr
          rw [<-Option.some.inj hr,hc]
        · exact this.elim
      · rename_i xs T sz' hH
        obtain ⟨h1,h3⟩:=h
        have hk:=List.getElem?_eq_getElem h1.2.2
        have:=h3 _ hk
        split at this
        · rename_i c hc
          refine ⟨_,this,h1,fun r hr=>?_⟩
          rw [hk] at hr
          rw [<-Option.some.inj hr,hc]
        · exact this.elim
      · exact h.elim
    · split at h
      · exact ⟨_,h,rfl⟩
      · exact h.elim
    · exact h.elim
  | ldn n x=>
    simp only [vL] at h ⊢
    split at h
    · split at h
      · exact ⟨_,h.2,h.1,rfl⟩
      · exact h.elim
    · split at h
      · obtain ⟨h1,h3⟩:=h
        have hk:=List.getElem?_eq_getElem h1.2.2
        obtain ⟨h4,h5⟩:=h3 _ hk
        refine ⟨_,h5,h1,fun r hr=>?_⟩
        rw [hk] at hr
        rw [<-Option.some.inj hr]
        exact ⟨h4,rfl⟩
      · obtain ⟨h1,h3⟩:=h
        have hk:=List.getElem?_eq_getElem h1.2.2
        obtain ⟨h4,h5⟩:=h3 _ hk
        refine ⟨_,h5,h1,fun r hr=>?_⟩
        rw [hk] at hr
        rw [<-Option.some.inj hr]
        exact ⟨h4,rfl⟩
      · exact h.elim
    · exact ⟨_,h.2,h.1,rfl⟩
    · exact h.elim
theorem put_self (fr:Fr) (d:Nat) (s:S):put fr (some d) s d=s:=by simp [put]
theorem vJ_pick {Γ:Env} {fr:Fr} {H:Hp} {j:J} {d:Nat} (hd:j.d=some d) (hq:j.quiet=true) (hx:j.gix=false) {Φ:S->Prop} (h:vJ Γ fr H (fun fr' _=>Φ (fr' d)) j):∃ s,Φ s/\vJ Γ fr H (fun fr' _=>fr' d=s) j:=by
  obtain ⟨d',g,i⟩:=j
  simp only at hd
  subst hd
  unfold vJ at h ⊢
  cases g with
  | none=>
    simp only at h ⊢
    cases i with
    | q i=>
      simp only [vJ0] at h ⊢
      split at h
      · rename_i s hs
        obtain ⟨h1,h2,h3⟩:=h
        rw [put_self] at h3
        exact ⟨s,h3,h1,h2,put_self _ _ _⟩
      · exact h.elim
    | ix x y=>
      simp only [vJ0] at h ⊢
      split at h
      · rename_i s _ k hx hy
        obtain ⟨⟨h0,h1,h2⟩,h3⟩:=h
        have hk:(bl s)[k.toNat]? = some (bl s)[k.toNat]:=List.getElem?_eq_getElem (by omega)
        have:=h3 _ hk
        rw [put_self] at this
        exact ⟨_,this,⟨h0,h1,h2⟩,fun c hc=>by rw [hk] at hc; rw [<-Option.some.inj hc,put_self]⟩
      · exact h.elim
    | l i=>
      simp only [vJ0,put_self] at h ⊢
      obtain ⟨s,h1,h2⟩:=vL_pick h.2
      exact ⟨s,h1,h.1,h2⟩
    | pick c x y=>
      simp only [vJ0,put_self] at h ⊢
      split at h
      · obtain ⟨h1,h2,h3,h4⟩:=h
        exact ⟨_,h4,h1,h2,h3,rfl⟩
      · exact h.elim
    | e i=>simp [J.quiet] at hq
    | cl f xs σ=>simp [J.quiet] at hq
    | ca f xs σ=>simp [J.quiet] at hq
    | cq f xs=>simp [J.quiet] at hq
  | some gw=>
    obtain ⟨sl,want⟩:=gw
    simp only at h ⊢
    split at h
    · exact h.elim
    · rename_i b hb
      cases i with
      | q i=>
        simp only [vJg,put_self] at h ⊢
        split at h
        · exact ⟨_,h.2,h.1,rfl⟩
        · exact ⟨_,h.2,h.1,rfl⟩
      | ix x y=>simp [J.gix] at hx
      | l i=>
        simp only [vJg,put_self] at h ⊢
        split at h
        · exact ⟨_,h.2,h.1,rfl⟩
        · obtain ⟨h1,h2⟩:=h
          cases b with
          | true=>
            obtain ⟨h3,h4⟩:=h1 rfl
            obtain ⟨s,h5,h6⟩:=vL_pick h4
            exact ⟨s,h5,fun _=>⟨h3,h6⟩,fun h=>by cases h⟩
          | false=>exact ⟨_,h2 rfl,fun h=>(by cases h),fun _=>rfl⟩
      | pick c x y=>
        simp only [vJg,put_self] at h ⊢
        split at h
        · exact ⟨_,h.2,h.1,rfl⟩
        · exact ⟨_,h.2,h.1,rfl⟩
      | e i=>simp [J.quiet] at hq
      | cl f xs σ=>simp [J.quiet] at hq
      | ca f xs σ=>simp [J.quiet] at hq
      | cq f xs=>simp [J.quiet] at hq
end Go.W
namespace Go.W
section
variable {X:Ctx} {E E':Es} {ro ro':RO} {w w':World}
theorem Rel.thru (h:Rel X E ro w) (k:Rel ⟨w,blks E,ro,gm E⟩ E' ro' w'):Rel X E' ro' w':=by
  have hin:∀ b,b ∈ blks E->X.w0.heap.size<=b\/b ∈ X.pb:=fun b hb=>by
    obtain ⟨n,g,blk,h1,h2,h3⟩:=mem_blks.1 hb
    exact h.par n b g blk h1 h2 h3
  refine ⟨k.own,k.inj,k.apart,k.rd,h.ro0.trans k.ro0,fun b off v hv=>?_,fun n b g blk h1 h2 h3=>?_,h.gx.trans k.gx,Nat.le_trans h.sz k.sz,fun b hb hp=>?_,k.os.trans h.os,k.tape.trans h.tape,k.output.trans h.output⟩
  · rcases k.rob b off v hv with e | e | e
    · exact h.rob b off v e
    · exact .inr (.inl (Nat.le_trans h.sz e))
    · exact .inr (hin b e)
  · rcases k.par n b g blk h1 h2 h3 with e | e
    · exact .inl (Nat.le_trans h.sz e)
    · exact hin b e
  · have hlt:b < w.heap.size:=Nat.lt_of_lt_of_le hb h.sz
    refine (k.keep b hlt fun hbk=>?_).trans (h.keep b hb hp)
    rcases hin b hbk with e | e
    · omega
    · exact hp e
structure Ea (X:Ctx) (E:Es) (ro:RO) (w:World) (z:Value) (T:TypeId) (b:Nat):Prop where
  hb:w.heap[b]? = some (.cells z.cells T (0,0))
  lo:X.w0.heap.size<=b
  liv:∀ (n:Nat) (g:Gb) (blk:B),E[n]? = some (g,blk)->blk.live=true->g.ob ≠ some b
  ro:∀ off v,ro b off ≠ some v
theorem Ea.lt {z:Value} {T:TypeId} {b:Nat} (h:Ea X E ro w z T b):b < w.heap.size:=by
  rcases Nat.lt_or_ge b w.heap.size with e | e
  · exact e
  · have:=h.hb; rw [Array.getElem?_eq_none e] at this; cases this
theorem Ea.keep {z:Value} {T:TypeId} {b:Nat} (h:Ea X E ro w z T b) (k:Rel ⟨w,blks E,ro,gm E⟩ E' ro' w'):Ea X E' ro' w' z T b:=by
  have hlt:=h.lt
  have hbk:b ∉ blks E:=fun hb=>by
    obtain ⟨n,g,blk,h1,h2,h3⟩:=mem_blks.1 hb
    exact h.liv n g blk h1 h3 h2
  refine ⟨(k.keep b hlt hbk).trans h.hb,h.lo,fun n g blk h1 h2 h3=>?_,fun off v hv=>?_⟩
  · rcases k.par n b g blk h1 h3 h2 with e | e
    · exact absurd hlt (Nat.not_lt.2 e)
    · exact hbk e
  · rcases k.rob b off v hv with e | e | e
    · exact h.ro off v e
    · exact absurd hlt (Nat.not_lt.2 e)
    · exact hbk e
theorem Rel.admE (h:Rel X E ro w) {z:Value} {T:TypeId} {b:Nat} (e:Ea X E ro w z T b) :
    Rel X (E ++ [(⟨some b,false,0,0,T,z.cells.toList⟩,.cells (z.cells.toList.map C.vl) T)]) ro w:=by
  have hext:GExt (gm E) (gm (E ++ [(⟨some b,false,0,0,T,z.cells.toList⟩,.cells (z.cells.toList.map C.vl) T)])):=gext_app _
  have hget:∀ (n:Nat) (y:Gb × B),(E ++ [(⟨some b,false,0,0,T,z.cells.toList⟩,B.cells (z.cells.toList.map C.vl) T)])[n]? = some y->(n=E.length/\y=(⟨some b,false,0,0,T,z.cells.toList⟩,.cells (z.cells.toList.map C.vl) T))\/(n < E.length/\E[n]? = some y):=by
    intro n y hy
    rw [List.getElem?_append] at hy
    split at hy
    · exact .inr ⟨by assumption,hy⟩
    · rename_i hge
      have:n - E.length=0:=by
        rcases Nat.eq_zero_or_pos (n - E.length) with h0 | h0
        · exact h0
        · rw [List.getElem?_eq_none (by simp; omega)] at hy; cases hy
      rw [this] at hy
      exact .inl ⟨by omega,by simpa using hy.symm⟩
  refine ⟨fun n g' bk hy=>?_,fun n m gn gm bn bm k hy hz en em ln lm=>?_,fun k off c hc n gn bk hy en=>?_,h.rd,h.ro0,h.rob,fun n k gn bk hy en ln=>?_,h.gx.trans hext,h.sz,h.keep,h.os,h.tape,h.output⟩
  · rcases hget n _ hy with ⟨rfl,he⟩ | ⟨hlt,hy'⟩
    · simp only [Prod.mk.injEq] at he
      obtain ⟨rfl,rfl⟩:=he
      exact ⟨rfl,b,rfl,by rw [e.hb],all2_vl _⟩
    · by_cases hlv:bk.live=true
      · exact (h.own n g' bk hy').same hext (Ext.refl _) fun k hk=>rfl
      · cases bk<;>simp [B.live] at hlv; trivial
  · rcases hget n _ hy with ⟨rfl,he⟩ | ⟨hlt,hy'⟩<;>rcases hget m _ hz with ⟨rfl,he2⟩ | ⟨hlt2,hz'⟩
    · rfl
    · simp only [Prod.mk.injEq] at he; obtain ⟨rfl,rfl⟩:=he
      simp only [Option.some.injEq] at en
      subst en
      exact absurd em (e.liv m gm bm hz' lm)
    · simp only [Prod.mk.injEq] at he2; obtain ⟨rfl,rfl⟩:=he2
      simp only [Option.some.injEq] at em
      subst em
      exact absurd en (e.liv n gn bn hy' ln)
    · exact h.inj n m gn gm bn bm k hy' hz' en em ln lm
  · rcases hget n _ hy with ⟨rfl,he⟩ | ⟨hlt,hy'⟩
    · simp only [Prod.mk.injEq] at he; obtain ⟨rfl,rfl⟩:=he
      simp only [Option.some.injEq] at en
      subst en
      exact absurd hc (e.ro off c)
    · exact h.apart k off c hc n gn bk hy' en
  · rcases hget n _ hy with ⟨rfl,he⟩ | ⟨hlt,hy'⟩
    · simp only [Prod.mk.injEq] at he; obtain ⟨rfl,rfl⟩:=he
      simp only [Option.some.injEq] at en
      subst en
      exact .inl e.lo
    · exact h.par n k gn bk hy' en ln
end
def Dn (l:Array Bool) (i:Nat):Prop:=l.getD i false=true
theorem ancGo_all {ops:Array Oper} {p:Nat->Prop} (hcl:∀ i k,p i->Region.waitsFor .any ops i k=true->p k):∀ (ks s:List Nat),(∀ t ∈ s,p t)->∀ t ∈ ancGo ops ks s,p t
  | [],s,h=>h
  | k :: r,s,h=>by
    refine ancGo_all hcl r _ fun t ht=>?_
    split at ht
    · rename_i hany
      obtain ⟨u,hu,hw⟩:=List.any_eq_true.1 hany
      rcases List.mem_cons.1 ht with rfl | ht
      · exact hcl u t (h u hu) hw
      · exact h t ht
    · exact h t ht
theorem anc_all {ops:Array Oper} {p:Nat->Prop} (hcl:∀ i k,p i->Region.waitsFor .any ops i k=true->p k) {i:Nat} (hi:p i):∀ t ∈ anc ops i,p t:=
  ancGo_all hcl _ _ fun t ht=>by rw [List.mem_singleton.1 ht]; exact hi
structure Ck (ops:Array Oper) (js:List J) (pre:List Nat) (i:Nat) (r:List Nat):Prop where
  lt:i < ops.size
  new:i ∉ pre
  wt:∀ o,ops[i]? = some o->∀ e ∈ o.after,Region.binds .any e=true->e.on ∈ pre
  q1:(isQ ops js i=true\/isA js i=true)->∀ k ∈ pre,∀ s ∈ rdl js k,dsl js i ≠ some s
  rd:∀ k ∈ pre,∀ s ∈ rdl js i,dsl js k=some s->isQ ops js k=true->k ∈ anc ops i
  ds:∀ d,dsl js i=some d->∀ k ∈ pre,dsl js k ≠ some d
  own:isQ ops js i=true->∀ s ∈ rdl js i,dsl js i ≠ some s
  hd:isQ ops js i=false->∀ j ∈ r,isA js j=false->Region.waitsFor .any ops j i=true\/∃ k ∈ r,isA js k=false/\Region.waitsFor .any ops j k=true
  a1:isA js i=true->∀ k ∈ pre,isA js k=false
theorem ck_of {ops:Array Oper} {js:List J} {pre:List Nat} {i:Nat} {r:List Nat} (h:chk1 ops js pre i r=true):Ck ops js pre i r:=by
  unfold chk1 at h
  simp only [Bool.and_eq_true,decide_eq_true_eq] at h
  obtain ⟨⟨⟨⟨⟨⟨⟨⟨h1,h2⟩,h3⟩,h4⟩,h5⟩,h6⟩,h7⟩,h8⟩,h9⟩:=h
  refine ⟨h1,by simpa using h2,fun o ho e he hb=>?_,fun hq k hk s hs heq=>?_,fun k hk s hs heq hq=>?_,fun d hd k hk heq=>?_,fun hq s hs heq=>?_,fun hq j hj ha=>?_,fun ha k hk=>?_⟩
  · rw [ho] at h3
    have:=Array.all_eq_true_iff_forall_mem.1 h3 e he
    simpa [hb] using this
  · have hq':(isQ ops js i || isA js i)=true:=by rw [Bool.or_eq_true]; exact hq
    rw [hq'] at h4
    have h':∀ k ∈ pre,∀ s ∈ rdl js k,¬ dsl js i=some s:=by simpa using h4
    exact h' k hk s hs heq
  · have:=List.all_eq_true.1 h5 k hk
    have h':((rdl js i).any fun s=>dsl js k == some s)=true:=List.any_eq_true.2 ⟨s,hs,by simp [heq]⟩
    rw [h',hq] at this
    simpa using this
  · rw [hd] at h6
    have:=List.all_eq_true.1 h6 k hk
    simp [heq] at this
  · rw [hq] at h7
    have h':((rdl js i).any fun s=>dsl js i == some s)=true:=List.any_eq_true.2 ⟨s,hs,by simp [heq]⟩
    rw [h'] at h7; cases h7
  · rw [hq,Bool.false_or] at h8
    have:=List.all_eq_true.1 h8 j hj
    rw [ha,Bool.false_or,Bool.or_eq_true] at this
    rcases this with h | h
    · exact .inl h
    · obtain ⟨k,hk,h⟩:=List.any_eq_true.1 h
      simp only [Bool.and_eq_true,Bool.not_eq_true'] at h
      exact .inr ⟨k,hk,h.1,h.2⟩
  · rw [ha] at h9
    have h':∀ k ∈ pre,isA js k=false:=by simpa using h9
    exact h' k hk
theorem ordC_at {ops:Array Oper} {js:List J}:∀ (l pre p:List Nat) (i:Nat) (r:List Nat),ordC ops js pre l=true->l=p ++ i :: r->Ck ops js (pre ++ p) i r
  | [],_,p,i,r,_,h=>by cases p<;>cases h
  | x :: l,pre,[],i,r,hB,h=>by
    simp only [ordC,Bool.and_eq_true] at hB
    obtain ⟨rfl,rfl⟩:x=i/\l=r:=by simpa using h
    rw [List.append_nil]; exact ck_of hB.1
  | x :: l,pre,y :: p,i,r,hB,h=>by
    simp only [ordC,Bool.and_eq_true] at hB
    obtain ⟨rfl,rfl⟩:x=y/\l=p ++ i :: r:=by simpa using h
    have:=ordC_at _ (pre ++ [x]) p i r hB.2 rfl
    simpa using this
theorem nodup_le:∀ (n:Nat) (l:List Nat),l.Nodup->(∀ k ∈ l,k < n)->l.length<=n
  | 0,l,_,h=>by
    cases l with
    | nil=>exact Nat.le_refl _
    | cons x l=>exact absurd (h x (by simp)) (by omega)
  | n + 1,l,hn,h=>by
    by_cases hm:n ∈ l
    · have h1:=nodup_le n (l.erase n) (hn.erase n) fun k hk=>by
        obtain ⟨h2,h3⟩:=(hn.mem_erase_iff).1 hk
        have:=h k h3
        omega
      have h2:=List.length_erase_of_mem hm
      omega
    · have:=nodup_le n l hn fun k hk=>by
        have h3:=h k hk
        have:k ≠ n:=fun e=>hm (e ▸ hk)
        omega
      omega
theorem ord_all {ops:Array Oper} {js:List J} {π:List Nat} (hC:ordC ops js [] π=true) (hl:π.length=ops.size):∀ i,i < ops.size->i ∈ π:=by
  have hck:∀ (p:List Nat) (i:Nat) (r:List Nat),π=p ++ i :: r->i < ops.size/\i ∉ p:=fun p i r e=>by
    have:=ordC_at π [] p i r hC e
    exact ⟨this.lt,by simpa using this.new⟩
  have hnd:π.Nodup:=by
    have key:∀ (q p:List Nat),π=p ++ q->p.Nodup->(p ++ q).Nodup:=fun q=>by
      induction q with
      | nil=>intro p _ hp; simpa using hp
      | cons x q ih=>
        intro p e hp
        have h1:=(hck p x q e).2
        have:=ih (p ++ [x]) (by rw [e]; simp) (by
          rw [List.nodup_append]
          exact ⟨hp,List.nodup_cons.2 ⟨by simp,List.nodup_nil⟩,fun a ha b hb=>by rw [List.mem_singleton.1 hb]; rintro rfl; exact h1 ha⟩)
        simpa using this
    have:=key π [] rfl List.nodup_nil
    simpa using this
  have hlt:∀ i ∈ π,i < ops.size:=fun i hi=>by
    obtain ⟨p,r,e⟩:=List.append_of_mem hi
    exact (hck p i r e).1
  intro i hi
  refine Classical.byContradiction fun hn=>?_
  have:=nodup_le ops.size (i :: π) (List.nodup_cons.2 ⟨hn,hnd⟩) fun k hk=>by
    rcases List.mem_cons.1 hk with rfl | hk
    · exact hi
    · exact hlt k hk
  rw [List.length_cons,hl] at this
  omega
def cnt (n:Nat) (l:Array Bool):Nat:=((List.range n).filter fun i=>!l.getD i false).length
theorem filt_lt {p q:Nat->Bool} (h:∀ i,q i=true->p i=true) {k:Nat} (hp:p k=true) (hq:q k=false):∀ (l:List Nat),k ∈ l->(l.filter q).length < (l.filter p).length
  | [],hk=>by cases hk
  | x :: l,hk=>by
    have hle:(l.filter q).length<=(l.filter p).length:=by
      clear hk
      induction l with
      | nil=>exact Nat.le_refl _
      | cons y l ih=>
        simp only [List.filter_cons]
        cases hy:q y with
        | true=>rw [h y hy]; simpa using ih
        | false=>cases p y<;>simp<;>omega
    simp only [List.filter_cons]
    rcases List.mem_cons.1 hk with rfl | hk
    · rw [hp,hq]; simp; omega
    · have:=filt_lt h hp hq l hk
      cases hx:q x with
      | true=>rw [h x hx]; simpa using this
      | false=>cases p x<;>simp<;>omega
theorem dn_set {l:Array Bool} {k i:Nat} (h:Dn l i):Dn (l.setIfInBounds k true) i:=getD_set_true h
theorem dn_self {l:Array Bool} {k:Nat} (h:k < l.size):Dn (l.setIfInBounds k true) k:=by simp [Dn,h]
theorem dn_of_set {l:Array Bool} {k i:Nat} (h:Dn (l.setIfInBounds k true) i):Dn l i\/i=k:=by
  by_cases e:k=i
  · exact .inr e.symm
  · unfold Dn at h; rw [getD_set_ne false e] at h; exact .inl h
theorem cnt_set {n:Nat} {l:Array Bool} {k:Nat} (hk:k < n) (hs:l.size=n) (hu:¬ Dn l k):cnt n (l.setIfInBounds k true) < cnt n l:=by
  refine filt_lt (fun i hi=>?_) (k:=k) (by simpa [Dn] using hu) ?_ _ (List.mem_range.2 hk)
  · cases hd:l.getD i false with
    | false=>rfl
    | true=>have:=dn_set (k:=k) (show Dn l i from hd); unfold Dn at this; rw [this] at hi; cases hi
  · have:=dn_self (l:=l) (k:=k) (by omega); unfold Dn at this; rw [this]; rfl
theorem cnt_zero {n:Nat} {l:Array Bool} (h:cnt n l=0):∀ i,i < n->Dn l i:=fun i hi=>by
  have:(List.range n).filter (fun i=>!l.getD i false)=[]:=List.eq_nil_of_length_eq_zero h
  have:=List.filter_eq_nil_iff.1 this i (List.mem_range.2 hi)
  simpa [Dn] using this
def over (ov:Nat->Option S) (fr:Fr):Fr:=fun i=>match ov i with
  | some s=>s
  | none=>fr i
theorem over_none {ov:Nat->Option S} {fr:Fr} {i:Nat} (h:ov i=none):over ov fr i=fr i:=by unfold over; rw [h]
theorem over_some {ov:Nat->Option S} {fr:Fr} {i:Nat} {s:S} (h:ov i=some s):over ov fr i=s:=by unfold over; rw [h]
theorem rcs_spec {Γ:Env} {js:List J} {kd:List Nat} {fr:Fr} {H:Hp} {K:Fr->Hp->Prop} {r:List OJ}:∀ {qs:List Nat},vO Γ (rcs js qs kd ++ r) fr H K->
    (∀ k ∈ qs,k ∉ kd->∀ j,js[k]? = some j->vJ Γ fr H (fun fr' _=>fr' j.dn=fr j.dn) j)/\vO Γ r fr H K
  | [],h=>⟨fun k hk=>(by cases hk),h⟩
  | q :: qs,h=>by
    unfold rcs at h
    rw [List.filterMap_cons] at h
    cases hc:kd.contains q with
    | true=>
      rw [hc] at h
      obtain ⟨h1,h2⟩:=rcs_spec (qs:=qs) h
      refine ⟨fun k hk hn=>?_,h2⟩
      rcases List.mem_cons.1 hk with rfl | hk
      · exact absurd (by simpa using hc) hn
      · exact h1 k hk hn
    | false=>
      rw [hc] at h
      cases hj:js[q]? with
      | none=>
        rw [hj] at h
        obtain ⟨h1,h2⟩:=rcs_spec (qs:=qs) h
        refine ⟨fun k hk hn j hjj=>?_,h2⟩
        rcases List.mem_cons.1 hk with rfl | hk
        · rw [hj] at hjj; cases hjj
        · exact h1 k hk hn j hjj
      | some j0=>
        rw [hj] at h
        obtain ⟨h0,h⟩:=h
        obtain ⟨h1,h2⟩:=rcs_spec (qs:=qs) h
        refine ⟨fun k hk hn j hjj=>?_,h2⟩
        rcases List.mem_cons.1 hk with rfl | hk
        · rw [hj] at hjj; cases hjj; exact h0
        · exact h1 k hk hn j hjj
end Go.W
namespace Go.W
abbrev ptrS (b:Nat):S:=.va (.c1 (.vl (.pointer (some ⟨b,0,none⟩))))
theorem trI_al {P:Program} {nw:Bool} {σ:CH} {op:Op} {z:Value} {T:TypeId} (h:trI P nw σ op=some (.e (.al z T))):op=.alloc T/\∃ inf,P.info? T=some inf/\inf.zero=some z:=by
  have hi:trE P op=some (.al z T):=by
    obtain ⟨i0,h0,h1 | h1⟩:=trI_e h
    · rw [h1]; exact h0
    · cases i0<;>simp only [EI.ext,reduceCtorEq,EI.al.injEq] at h1
      obtain ⟨rfl,rfl⟩:=h1
      exact h0
  cases ho:op<;>rw [ho] at hi<;>simp only [trE,reduceCtorEq,Option.some.injEq] at hi
  case alloc t=>
    split at hi<;>simp only [Option.some.injEq,reduceCtorEq] at hi
    rename_i z' hz
    simp only [EI.al.injEq] at hi
    obtain ⟨rfl,rfl⟩:=hi
    cases hinf:P.info? t with
    | none=>simp [hinf] at hz
    | some inf=>simp only [hinf,Option.map_some,Option.some.injEq] at hz; exact ⟨rfl,inf,rfl,hz⟩
  case store t x y=>split at hi<;>simp at hi
  case makeMap t r=>
    split at hi
    · cases hi
    · split at hi<;>simp at hi
  case makeSlice t x y=>
    split at hi<;>try (cases hi; done)
    split at hi<;>try (cases hi; done)
    split at hi<;>try (cases hi; done)
    split at hi<;>simp at hi
  case mapUpdate t m k v=>split at hi<;>simp at hi
  case buildSlice t len parts=>
    split at hi<;>try (cases hi; done)
    split at hi<;>try (cases hi; done)
    split at hi<;>try (cases hi; done)
    split at hi<;>simp at hi
  case call c=>
    obtain ⟨cl,args,ats⟩:=c
    simp only at hi
    split at hi
    · split at hi<;>try (cases hi; done)
      split at hi<;>try (cases hi; done)
      split at hi<;>try (cases hi; done)
      split at hi
      · simp at hi
      · split at hi<;>try (cases hi; done)
        split at hi<;>simp at hi
    · split at hi<;>try (cases hi; done)
      split at hi<;>try (cases hi; done)
      split at hi<;>simp at hi
    · cases hi
structure OrdOk (P:Program) (nw:Bool) (N:Nat) (ops:Array Oper) (js:List J) (π:List Nat):Prop where
  jt:∀ (i:Nat) (o:Oper),ops[i]? = some o->∃ (j:J) (σ:CH),js[i]? = some j/\trJ P nw N ops σ o=some j
  ck:∀ p i r,π=p ++ i :: r->Ck ops js p i r
  all:∀ i,i < ops.size->i ∈ π
structure Inv (X:Ctx) (Γ:Env) (ops:Array Oper) (js:List J) (π:List Nat) (K:Fr->Hp->Prop) (N:Nat) (ov:Nat->Option S) (qs kd:List Nat) (f:Nat) (rest pre:List Nat) (l:Array Bool) (fr:Fr) (E:Es) (ro:RO) (a:Act) (w:World):Prop where
  ord:π=pre ++ rest
  size:l.size=ops.size
  clo:∀ i k,Dn l i->Region.waitsFor .any ops i k=true->Dn l k
  pq:∀ i ∈ pre,isQ ops js i=false->Dn l i
  ra:∀ i ∈ rest,Dn l i->isA js i=true
  fuel:cnt ops.size l<=f
  v1:∀ s,ov s ≠ none->∃ i,dsl js i=some s/\((i ∈ pre/\¬ Dn l i)\/(i ∈ rest/\Dn l i))
  v3:∀ i ∈ rest,Dn l i->∃ d z T b,js[i]? = some ⟨some d,none,.e (.al z T)⟩/\ov d=some (ptrS b)/\Ea X E ro w z T b
  fra:FRel N (gm E) ro (over ov fr) a
  rel:Rel X E ro w
  hqs:∀ i ∈ pre,isQ ops js i=true->i ∈ qs
  hkd:∀ t ∈ kd,Dn l t
  vo:vO Γ (ordJs ops js qs kd rest) fr (hp E) K
  rc:∀ i ∈ pre,¬ Dn l i->∀ j,js[i]? = some j->vJ Γ fr (hp E) (fun fr' _=>fr' j.dn=fr j.dn) j
theorem Dn.lt {l:Array Bool} {i:Nat} (h:Dn l i):i < l.size:=by
  rcases Nat.lt_or_ge i l.size with e | e
  · exact e
  · unfold Dn at h; simp [Array.getElem?_eq_none e] at h
theorem isQ_spec {ops:Array Oper} {js:List J} {i:Nat} (h:isQ ops js i=true):∃ j o d,js[i]? = some j/\ops[i]? = some o/\j.quiet=true/\j.gix=false/\j.d=some d:=by
  unfold isQ at h
  split at h
  · rename_i j o h1 h2
    unfold qOf at h
    simp only [Bool.and_eq_true,Bool.not_eq_true'] at h
    obtain ⟨d,hd⟩:=Option.isSome_iff_exists.1 h.1.2
    exact ⟨j,o,d,h1,h2,h.1.1.1,h.1.1.2,hd⟩
  · cases h
theorem isA_spec {js:List J} {i:Nat} (h:isA js i=true):∃ d z T,js[i]? = some ⟨some d,none,.e (.al z T)⟩:=by
  unfold isA at h
  split at h
  · rename_i j hj
    unfold aOf at h
    split at h
    · exact ⟨_,_,_,hj⟩
    · cases h
  · cases h
theorem isA_notQ {ops:Array Oper} {js:List J} {i:Nat} (h:isA js i=true):isQ ops js i=false:=by
  obtain ⟨d,z,T,hj⟩:=isA_spec h
  unfold isQ
  rw [hj]
  split
  · rename_i j o h1 h2; cases h1; rfl
  · rfl
theorem dsl_of {js:List J} {i:Nat} {j:J} {d:Nat} (h:js[i]? = some j) (hd:j.d=some d):dsl js i=some d:=by unfold dsl; rw [h]; exact hd
theorem rdl_of {js:List J} {i:Nat} {j:J} (h:js[i]? = some j):rdl js i=j.rds:=by unfold rdl; rw [h]
theorem dn_of {j:J} {d:Nat} (h:j.d=some d):j.dn=d:=by unfold J.dn; rw [h]; rfl
theorem rc_congr {Γ:Env} {H:Hp} {j:J} {d:Nat} (hd:j.d=some d) {f1 f2:Fr} {s:S} (hA:∀ i ∈ j.rds,f1 i=f2 i):vJ Γ f1 H (fun fr' _=>fr' d=s) j=vJ Γ f2 H (fun fr' _=>fr' d=s) j:=by
  refine vJ_rel (fun f1 f2=>∀ i ∈ j.rds,f1 i=f2 i) (fun _ _ h=>h) (fun f1 f2 sl s _ h i hi=>?_) (fun f1 f2 s' H' h=>?_) hA
  · simp only [put]; split
    · rfl
    · exact h i hi
  · rw [hd,put_self,put_self]
section
variable {P:Program} {N:Nat} {nw:Bool} {X:Ctx} {Γ:Env} {ops:Array Oper} {js:List J} {π:List Nat} {K:Fr->Hp->Prop} {ov:Nat->Option S} {qs kd:List Nat} {f:Nat} {rest pre:List Nat} {l:Array Bool} {fr:Fr} {E:Es} {ro:RO} {a:Act} {w:World}
theorem later {pre r:List Nat} {i k:Nat} (h:π=pre ++ i :: r) (hk:k ∈ r):∃ p r',π=p ++ k :: r'/\i ∈ p/\∀ x ∈ pre,x ∈ p:=by
  obtain ⟨r1,r2,rfl⟩:=List.append_of_mem hk
  exact ⟨pre ++ i :: r1,r2,by rw [h]; simp,by simp,fun x hx=>by simp [hx]⟩
theorem adv_q (ok:OrdOk P nw N ops js π) {i:Nat} {r:List Nat} (h:Inv X Γ ops js π K N ov qs kd f (i :: r) pre l fr E ro a w) (hq:isQ ops js i=true) (hu:¬ Dn l i) :
    ∃ fr' ov' qs',Inv X Γ ops js π K N ov' qs' kd f r (pre ++ [i]) l fr' E ro a w:=by
  have ck:=ok.ck pre i r h.ord
  obtain ⟨j,o,d,hj,ho,hqu,hgx,hd⟩:=isQ_spec hq
  have hds:=dsl_of hj hd
  have hvo:=h.vo
  simp only [ordJs,hj,hq,if_true,vO] at hvo
  rw [dn_of hd,hd] at hvo
  obtain ⟨s,hΦ,hself⟩:=vJ_pick (Φ:=fun s=>vO Γ (ordJs ops js (qs ++ [i]) kd r) (put fr (some d) s) (hp E) K) hd hqu hgx hvo
  have hrd:∀ x ∈ j.rds,fr x=put fr (some d) s x:=fun x hx=>by
    have:x ≠ d:=fun e=>ck.own hq x (by rw [rdl_of hj]; exact hx) (by rw [hds,e])
    simp [put,this]
  refine ⟨put fr (some d) s,fun k=>if k=d then some .un else ov k,qs ++ [i],?_⟩
  refine ⟨by rw [h.ord]; simp,h.size,h.clo,fun k hk hkq=>?_,fun k hk=>h.ra k (by simp [hk]),h.fuel,fun x hx=>?_,fun k hk hkd=>?_,h.fra.weak fun k=>?_,h.rel,fun k hk hkq=>?_,h.hkd,hΦ,fun k hk hku jk hjk=>?_⟩
  · rcases List.mem_append.1 hk with hk | hk
    · exact h.pq k hk hkq
    · rw [List.mem_singleton.1 hk,hq] at hkq; cases hkq
  · by_cases hxd:x=d
    · subst hxd; exact ⟨i,hds,.inl ⟨by simp,hu⟩⟩
    · simp only [hxd,if_false] at hx
      obtain ⟨k,h1,h2 | h2⟩:=h.v1 x hx
      · exact ⟨k,h1,.inl ⟨by simp [h2.1],h2.2⟩⟩
      · rcases List.mem_cons.1 h2.1 with rfl | h3
        · exact absurd h2.2 hu
        · exact ⟨k,h1,.inr ⟨h3,h2.2⟩⟩
  · obtain ⟨d',z,T,b,h1,h2,h3⟩:=h.v3 k (by simp [hk]) hkd
    obtain ⟨p,r',e,hip,_⟩:=later h.ord hk
    have hne:d' ≠ d:=fun e2=>by
      subst e2
      exact (ok.ck p k r' e).ds d' (dsl_of h1 rfl) i hip hds
    exact ⟨d',z,T,b,h1,by simp only [hne,if_false]; exact h2,h3⟩
  · by_cases hkd:k=d
    · right; subst hkd; unfold over; simp
    · left
      unfold over
      simp only [hkd,if_false]
      cases ov k with
      | none=>simp [put,hkd]
      | some x=>rfl
  · rcases List.mem_append.1 hk with hk | hk
    · exact List.mem_append_left _ (h.hqs k hk hkq)
    · exact List.mem_append_right _ hk
  · rcases List.mem_append.1 hk with hk | hk
    · have hkq:isQ ops js k=true:=by
        cases hc:isQ ops js k with
        | true=>rfl
        | false=>exact absurd (h.pq k hk hc) hku
      obtain ⟨j',o',dk,hj',_,_,_,hdk⟩:=isQ_spec hkq
      obtain rfl:j'=jk:=by rw [hj'] at hjk; exact Option.some.inj hjk
      have hne:dk ≠ d:=fun e=>ck.ds d hds k hk (by rw [<-e]; exact dsl_of hj' hdk)
      have h0:=h.rc k hk hku j' hj'
      rw [dn_of hdk] at h0 ⊢
      have e1:put fr (some d) s dk=fr dk:=by simp [put,hne]
      rw [e1,<-rc_congr hdk (f1:=fr) fun x hx=>?_]
      · exact h0
      · have:x ≠ d:=fun e=>ck.q1 (.inl hq) k hk x (by rw [rdl_of hj']; exact hx) (by rw [hds,e])
        simp [put,this]
    · obtain rfl:=List.mem_singleton.1 hk
      obtain rfl:j=jk:=by rw [hj] at hjk; exact Option.some.inj hjk
      rw [dn_of hd,put_self,<-rc_congr hd hrd]
      exact hself
theorem adv_a (ok:OrdOk P nw N ops js π) {i:Nat} {r:List Nat} (h:Inv X Γ ops js π K N ov qs kd f (i :: r) pre l fr E ro a w) (hu:Dn l i) :
    ∃ fr' E' ov' kd',Inv X Γ ops js π K N ov' qs kd' f r (pre ++ [i]) l fr' E' ro a w:=by
  have ck:=ok.ck pre i r h.ord
  have ha:=h.ra i (by simp) hu
  obtain ⟨d,z,T,b,hj,hov,hea⟩:=h.v3 i (by simp) hu
  have hds:=dsl_of hj rfl
  have hnq:=isA_notQ (ops:=ops) ha
  have hvo:=h.vo
  simp only [ordJs,hj,hnq,if_false,Bool.false_eq_true,vO] at hvo
  have hvo2:vO Γ (rcs js qs (kd ++ anc ops i) ++ ordJs ops js qs (kd ++ anc ops i) r) (put fr (some d) (.va (.c1 (.pt (hp E).length 0)))) (hp E ++ [.cells (z.cells.toList.map C.vl) T]) K:=hvo.2
  obtain ⟨hrc,hvo3⟩:=rcs_spec hvo2
  have hkd:∀ t ∈ kd ++ anc ops i,Dn l t:=fun t ht=>by
    rcases List.mem_append.1 ht with ht | ht
    · exact h.hkd t ht
    · exact anc_all (p:=Dn l) h.clo hu t ht
  have hslot:=h.fra.slot d
  rw [over_some hov] at hslot
  have hslot':a.tmps.getD d undef=.pointer (some ⟨b,0,none⟩):=hslot
  refine ⟨put fr (some d) (.va (.c1 (.pt (hp E).length 0))),E ++ [(⟨some b,false,0,0,T,z.cells.toList⟩,.cells (z.cells.toList.map C.vl) T)],fun k=>if k=d then none else ov k,kd ++ anc ops i,?_⟩
  have hmono:=h.fra.mono (gext_app [(⟨some b,false,0,0,T,z.cells.toList⟩,B.cells (z.cells.toList.map C.vl) T)]) (Ext.refl ro)
  refine ⟨by rw [h.ord]; simp,h.size,h.clo,fun k hk hkq=>?_,fun k hk=>h.ra k (by simp [hk]),h.fuel,fun x hx=>?_,fun k hk hkd=>?_,⟨hmono.size,fun k=>?_,hmono.defers⟩,h.rel.admE hea,fun k hk hkq=>?_,hkd,by rw [hp_app]; exact hvo3,fun k hk hku jk hjk=>?_⟩
  · rcases List.mem_append.1 hk with hk | hk
    · exact h.pq k hk hkq
    · rw [List.mem_singleton.1 hk]; exact hu
  · by_cases hxd:x=d
    · simp [hxd] at hx
    · simp only [hxd,if_false] at hx
      obtain ⟨k,h1,h2 | h2⟩:=h.v1 x hx
      · exact ⟨k,h1,.inl ⟨by simp [h2.1],h2.2⟩⟩
      · rcases List.mem_cons.1 h2.1 with rfl | h3
        · rw [hds] at h1; exact absurd (Option.some.inj h1).symm hxd
        · exact ⟨k,h1,.inr ⟨h3,h2.2⟩⟩
  · obtain ⟨p,r',e,hip,_⟩:=later h.ord hk
    have:=(ok.ck p k r' e).a1 (h.ra k (by simp [hk]) hkd) i hip
    rw [ha] at this; cases this
  · by_cases hkd:k=d
    · subst hkd
      rw [over_none (by simp),put_self,hslot']
      exact ⟨⟨some b,false,0,0,T,z.cells.toList⟩,b,by simp [gm,hp_len],rfl,rfl,rfl⟩
    · have:=hmono.slot k
      unfold over at this ⊢
      simp only [hkd,if_false]
      cases hovk:ov k with
      | none=>rw [hovk] at this; simp only [put,hkd,if_false]; exact this
      | some x=>rw [hovk] at this; exact this
  · rcases List.mem_append.1 hk with hk | hk
    · exact h.hqs k hk hkq
    · rw [List.mem_singleton.1 hk,hnq] at hkq; cases hkq
  · rcases List.mem_append.1 hk with hk | hk
    · have hkq:isQ ops js k=true:=by
        cases hc:isQ ops js k with
        | true=>rfl
        | false=>exact absurd (h.pq k hk hc) hku
      rw [hp_app]
      exact hrc k (h.hqs k hk hkq) (fun hin=>hku (hkd k hin)) jk hjk
    · rw [List.mem_singleton.1 hk] at hku; exact absurd hu hku
theorem rds_free (ok:OrdOk P nw N ops js π) (h:Inv X Γ ops js π K N ov qs kd f rest pre l fr E ro a w) {k:Nat} {p r:List Nat} (e:π=p ++ k :: r) (hp:∀ x ∈ p,x ∈ pre\/¬ Dn l x) (hpre:k ∈ pre\/∃ r',rest=k :: r') (hu:¬ Dn l k)
    (hw:∀ t,Region.waitsFor .any ops k t=true->Dn l t):∀ s ∈ rdl js k,ov s=none:=by
  have ck:=ok.ck p k r e
  intro s hs
  cases hov:ov s with
  | none=>rfl
  | some x=>
    exfalso
    obtain ⟨i,h1,h2⟩:=h.v1 s (by rw [hov]; simp)
    have hanc:∀ t ∈ anc ops k,t=k\/Dn l t:=anc_all (p:=fun t=>t=k\/Dn l t) (fun i t hi hwt=>by
      rcases hi with rfl | hi
      · exact .inr (hw t hwt)
      · exact .inr (h.clo i t hi hwt)) (.inl rfl)
    have hiπ:i ∈ p\/i=k\/i ∈ r:=by
      have:i ∈ π:=by
        rw [h.ord]
        rcases h2 with h2 | h2
        · exact List.mem_append_left _ h2.1
        · exact List.mem_append_right _ h2.1
      rw [e] at this
      rcases List.mem_append.1 this with h | h
      · exact .inl h
      · exact .inr (List.mem_cons.1 h)
    have hik:isQ ops js i=true\/isA js i=true:=by
      rcases h2 with h2 | h2
      · cases hc:isQ ops js i with
        | true=>exact .inl rfl
        | false=>exact absurd (h.pq i h2.1 hc) h2.2
      · exact .inr (h.ra i h2.1 h2.2)
    rcases hiπ with hi | hi | hi
    · rcases h2 with h2 | h2
      · have hq:isQ ops js i=true:=by
          cases hc:isQ ops js i with
          | true=>rfl
          | false=>exact absurd (h.pq i h2.1 hc) h2.2
        rcases hanc i (ck.rd i hi s hs h1 hq) with e1 | e1
        · subst e1; exact ck.new hi
        · exact h2.2 e1
      · rcases hp i hi with h3 | h3
        ·
          obtain ⟨q1,q2,eq⟩:=List.append_of_mem h2.1
          have:=(ok.ck (pre ++ q1) i q2 (by rw [h.ord,eq]; simp)).new
          exact this (List.mem_append_left _ h3)
        · exact h3 h2.2
    · subst hi
      rcases h2 with h2 | h2
      · have hq:isQ ops js i=true:=by
          cases hc:isQ ops js i with
          | true=>rfl
          | false=>exact absurd (h.pq i h2.1 hc) h2.2
        exact ck.own hq s hs h1
      · exact hu h2.2
    · obtain ⟨p',r',e',hkp,_⟩:=later e hi
      exact (ok.ck p' i r' e').q1 hik k hkp s hs h1
end
end Go.W
namespace Go.W
section
variable {P:Program} {N:Nat} {nw:Bool} {X:Ctx} {Γ:Env} {ops:Array Oper} {js:List J} {π:List Nat} {K:Fr->Hp->Prop} {ov:Nat->Option S} {qs kd:List Nat} {f:Nat} {rest pre:List Nat} {l:Array Bool} {fr:Fr} {E:Es} {ro:RO} {a:Act} {w:World}
theorem ready_of {k:Nat} (h:k ∈ Region.ready .any ops l):¬ Dn l k/\∃ o,ops[k]? = some o/\(∀ t,Region.waitsFor .any ops k t=true->Dn l t):=by
  obtain ⟨h1,o,h2,h3⟩:=mem_ready.1 h
  refine ⟨fun hd=>?_,o,h2,fun t ht=>?_⟩
  · have:=getD_both h1
    unfold Dn at hd
    rw [hd] at this; cases this
  · obtain ⟨o',ho',e,he,hb,hon⟩:=Region.waitsFor_spec ht
    cases h2.symm.trans ho'
    rw [<-hon]; exact h3 e he hb
theorem clo_set {k:Nat} (hclo:∀ i k,Dn l i->Region.waitsFor .any ops i k=true->Dn l k) (hw:∀ t,Region.waitsFor .any ops k t=true->Dn l t):∀ i t,Dn (l.setIfInBounds k true) i->Region.waitsFor .any ops i t=true->Dn (l.setIfInBounds k true) t:=fun i t hi ht=>by
  rcases dn_of_set hi with hi | rfl
  · exact dn_set (hclo i t hi ht)
  · exact dn_set (hw t ht)
theorem run_q (ok:OrdOk P nw N ops js π) (h:Inv X Γ ops js π K N ov qs kd (f + 1) rest pre l fr E ro a w) {Q':Exit->Act->World->Prop} {k:Nat} (hk:k ∈ pre) (hr:k ∈ Region.ready .any ops l) :
    wpOp P ops Q' k (fun a' w'=>∃ ov',Inv X Γ ops js π K N ov' qs kd f rest pre (l.setIfInBounds k true) fr E ro a' w') a w:=by
  obtain ⟨hu,o,ho,hw⟩:=ready_of hr
  have hkq:isQ ops js k=true:=by
    cases hc:isQ ops js k with
    | true=>rfl
    | false=>exact absurd (h.pq k hk hc) hu
  obtain ⟨p,r1,epre⟩:=List.append_of_mem hk
  have e:π=p ++ k :: (r1 ++ rest):=by rw [h.ord,epre]; simp
  have ck:=ok.ck p k _ e
  obtain ⟨j,o',d,hj,ho',hqu,hgx,hd⟩:=isQ_spec hkq
  obtain ⟨j',σ,hj',htr⟩:=ok.jt k o ho
  obtain rfl:j=j':=by rw [hj] at hj'; exact Option.some.inj hj'
  have hfree:=rds_free ok h e (fun x hx=>.inl (by rw [epre]; exact List.mem_append_left _ hx)) (.inl hk) hu hw
  rw [rdl_of hj] at hfree
  obtain ⟨_,_,hdst,hN⟩:=trJ_spec htr
  have h0:=h.rc k hk hu j hj
  rw [dn_of hd,rc_congr hd (f2:=over ov fr) fun x hx=>(over_none (hfree x hx)).symm] at h0
  have hq:=jq_sound h.fra h.rel htr hqu h0
  have hod:o.dst=some d:=by rw [<-hdst,hd]
  have hin:k < l.size:=by rw [h.size]; exact ck.lt
  have fr_ok:∀ {fr1:Fr} {v:Value},fr1 d=fr d->FRel N (gm E) ro fr1 (a.put o.dst v)->Inv X Γ ops js π K N (fun x=>if x=d then none else ov x) qs kd f rest pre (l.setIfInBounds k true) fr E ro (a.put o.dst v) w:=fun {fr1 v} e1 hf1=>by
    have hput:=h.fra.put (d:=o.dst) hN (s:=.un) (v:=v) trivial
    refine ⟨h.ord,by rw [Array.size_setIfInBounds]; exact h.size,clo_set h.clo hw,fun i hi hiq=>dn_set (h.pq i hi hiq),fun i hi hid=>?_,?_,fun x hx=>?_,fun i hi hid=>?_,⟨hput.size,fun x=>?_,hput.defers⟩,h.rel,h.hqs,fun t ht=>dn_set (h.hkd t ht),h.vo,fun i hi hiu jj hjj=>h.rc i hi (fun hd=>hiu (dn_set hd)) jj hjj⟩
    · rcases dn_of_set hid with h1 | rfl
      · exact h.ra i hi h1
      · obtain ⟨q1,q2,eq⟩:=List.append_of_mem hi
        have:=(ok.ck (pre ++ q1) i q2 (by rw [h.ord,eq]; simp)).new
        exact absurd (List.mem_append_left _ hk) this
    · have:=cnt_set (n:=ops.size) ck.lt h.size hu; have:=h.fuel; omega
    · by_cases hxd:x=d
      · simp [hxd] at hx
      · simp only [hxd,if_false] at hx
        obtain ⟨i,h1,h2 | h2⟩:=h.v1 x hx
        · refine ⟨i,h1,.inl ⟨h2.1,fun hid=>?_⟩⟩
          rcases dn_of_set hid with h3 | rfl
          · exact h2.2 h3
          · rw [dsl_of hj hd] at h1; exact hxd (Option.some.inj h1).symm
        · exact ⟨i,h1,.inr ⟨h2.1,dn_set h2.2⟩⟩
    · have hdi:Dn l i:=by
        rcases dn_of_set hid with h1 | rfl
        · exact h1
        · obtain ⟨q1,q2,eq⟩:=List.append_of_mem hi
          have:=(ok.ck (pre ++ q1) i q2 (by rw [h.ord,eq]; simp)).new
          exact absurd (List.mem_append_left _ hk) this
      obtain ⟨d',z,T,b,h1,h2,h3⟩:=h.v3 i hi hdi
      have hne:d' ≠ d:=fun e2=>by
        subst e2
        obtain ⟨q1,q2,eq⟩:=List.append_of_mem hi
        exact (ok.ck (pre ++ q1) i q2 (by rw [h.ord,eq]; simp)).ds d' (dsl_of h1 rfl) k (List.mem_append_left _ hk) (dsl_of hj hd)
      exact ⟨d',z,T,b,h1,by simp only [hne,if_false]; exact h2,h3⟩
    · by_cases hxd:x=d
      · subst hxd
        rw [over_none (by simp),<-e1]
        exact hf1.slot x
      · have:=hput.slot x
        rw [hod] at this ⊢
        simp only [W.put,hxd,if_false] at this
        unfold over at this ⊢
        simp only [hxd,if_false]
        exact this
  unfold wpOp
  simp only [ho]
  split
  · rename_i hwt
    rw [if_pos hwt] at hq
    obtain ⟨fr1,e1,v,hf1,hrun⟩:=hq
    refine .inl ?_
    unfold Oper.wp
    rw [hrun w h.rel,Oper.upon_value]
    exact ⟨_,fr_ok e1 hf1⟩
  · rename_i hwt
    rw [if_neg hwt] at hq
    obtain ⟨fr1,e1,hf1⟩:=hq
    exact ⟨_,fr_ok e1 hf1⟩
theorem run_a (ok:OrdOk P nw N ops js π) (h:Inv X Γ ops js π K N ov qs kd (f + 1) rest pre l fr E ro a w) {Q':Exit->Act->World->Prop} {k:Nat} (hk:k ∈ rest) (ha:isA js k=true) (hr:k ∈ Region.ready .any ops l) :
    wpOp P ops Q' k (fun a' w'=>∃ ov',Inv X Γ ops js π K N ov' qs kd f rest pre (l.setIfInBounds k true) fr E ro a' w') a w:=by
  obtain ⟨hu,o,ho,hw⟩:=ready_of hr
  obtain ⟨d,z,T,hj⟩:=isA_spec ha
  obtain ⟨j',σ,hj',htr⟩:=ok.jt k o ho
  obtain rfl:⟨some d,none,.e (.al z T)⟩=j':=by rw [hj] at hj'; exact Option.some.inj hj'
  obtain ⟨hi,hg,hdst,hN⟩:=trJ_spec htr
  obtain ⟨hop,inf,hinf,hz⟩:=trI_al hi
  have hgn:o.guard=none:=by
    cases hgd:o.guard with
    | none=>rfl
    | some gw=>
      obtain ⟨k',want⟩:=gw
      rw [hgd] at hg
      simp only [trG] at hg
      split at hg<;>simp at hg
  obtain ⟨q1,q2,eq⟩:=List.append_of_mem hk
  have eπ:π=(pre ++ q1) ++ k :: q2:=by rw [h.ord,eq]; simp
  have ck:=ok.ck _ k q2 eπ
  have hod:o.dst=some d:=hdst.symm
  have hds:=dsl_of hj rfl
  have hrun:(execOp a.eval o).run P w=.ok (.value (.pointer (some ⟨w.heap.size,0,none⟩))) (w.alloc (.cells z.cells T)):=by
    simp [execOp,hop,Instr.alloc,zeroValue,typeInfo,hinf,hz,newVar,newRow]
  unfold wpOp
  simp only [ho]
  rw [if_pos (wanted_none hgn _)]
  refine .inl ?_
  unfold Oper.wp
  rw [hrun,Oper.upon_value]
  refine ⟨fun x=>if x=d then some (ptrS w.heap.size) else ov x,?_⟩
  have hput:=h.fra.put (d:=o.dst) hN (s:=ptrS w.heap.size) (v:=.pointer (some ⟨w.heap.size,0,none⟩)) rfl
  have hrel:Rel X E ro (w.alloc (.cells z.cells T)):=h.rel.grown (alloc_old w _) (alloc_size w _) rfl rfl rfl
  have only:∀ i ∈ rest,Dn l i->False:=fun i hi hid=>by
    have hai:=h.ra i hi hid
    have:i ≠ k:=fun e=>hu (e ▸ hid)
    rw [eq] at hi
    rcases List.mem_append.1 hi with hi | hi
    · have:=ck.a1 ha i (List.mem_append_right _ hi)
      rw [hai] at this; cases this
    · rcases List.mem_cons.1 hi with hi | hi
      · exact this hi
      · obtain ⟨p,r',e,hip,_⟩:=later eπ hi
        have:=(ok.ck p i r' e).a1 hai k hip
        rw [ha] at this; cases this
  refine ⟨h.ord,by rw [Array.size_setIfInBounds]; exact h.size,clo_set h.clo hw,fun i hi hiq=>dn_set (h.pq i hi hiq),fun i hi hid=>?_,?_,fun x hx=>?_,fun i hi hid=>?_,⟨hput.size,fun x=>?_,hput.defers⟩,hrel,h.hqs,fun t ht=>dn_set (h.hkd t ht),h.vo,fun i hi hiu jj hjj=>h.rc i hi (fun hd=>hiu (dn_set hd)) jj hjj⟩
  · rcases dn_of_set hid with h1 | rfl
    · exact h.ra i hi h1
    · exact ha
  · have:=cnt_set (n:=ops.size) ck.lt h.size hu; have:=h.fuel; omega
  · by_cases hxd:x=d
    · subst hxd
      exact ⟨k,hds,.inr ⟨hk,dn_self (by rw [h.size]; exact ck.lt)⟩⟩
    · simp only [hxd,if_false] at hx
      obtain ⟨i,h1,h2 | h2⟩:=h.v1 x hx
      · refine ⟨i,h1,.inl ⟨h2.1,fun hid=>?_⟩⟩
        rcases dn_of_set hid with h3 | rfl
        · exact h2.2 h3
        · exact ck.new (List.mem_append_left _ h2.1)
      · exact ⟨i,h1,.inr ⟨h2.1,dn_set h2.2⟩⟩
  · rcases dn_of_set hid with h1 | rfl
    · exact (only i hi h1).elim
    · refine ⟨d,z,T,w.heap.size,hj,by simp,heap_alloc_new w _,h.rel.sz,fun n g blk hn hl hob=>?_,fun off v hv=>?_⟩
      · have:=(h.rel.own n g blk hn).lt hl hob; omega
      · have:=h.rel.cell_lt hv; omega
  · have:=hput.slot x
    rw [hod] at this ⊢
    by_cases hxd:x=d
    · subst hxd
      rw [over_some (s:=ptrS w.heap.size) (by simp)]
      rw [put_self] at this
      exact this
    · simp only [W.put,hxd,if_false] at this
      unfold over at this ⊢
      simp only [hxd,if_false]
      exact this
theorem run_m (ok:OrdOk P nw N ops js π) (hm:MeetsAll P Γ) {i:Nat} {r:List Nat} (h:Inv X Γ ops js π K N ov qs kd (f + 1) (i :: r) pre l fr E ro a w) {Q':Exit->Act->World->Prop} (hnq:isQ ops js i=false) (hr:i ∈ Region.ready .any ops l) :
    wpOp P ops Q' i (fun a' w'=>∃ fr' E' ro' kd',Inv X Γ ops js π K N ov qs kd' f r (pre ++ [i]) (l.setIfInBounds i true) fr' E' ro' a' w') a w:=by
  obtain ⟨hu,o,ho,hw⟩:=ready_of hr
  have ck:=ok.ck pre i r h.ord
  obtain ⟨j,σ,hj,htr⟩:=ok.jt i o ho
  have hfree:=rds_free ok h h.ord (fun x hx=>.inl hx) (.inr ⟨r,rfl⟩) hu hw
  rw [rdl_of hj] at hfree
  have hvo:=h.vo
  simp only [ordJs,hj,hnq,if_false,Bool.false_eq_true,vO] at hvo
  have hdfree:∀ d,j.d=some d->ov d=none:=fun d hd=>by
    cases hov:ov d with
    | none=>rfl
    | some x=>
      exfalso
      obtain ⟨k,h1,h2 | h2⟩:=h.v1 d (by rw [hov]; simp)
      · exact ck.ds d (dsl_of hj hd) k h2.1 h1
      · rcases List.mem_cons.1 h2.1 with rfl | h3
        · exact hu h2.2
        · obtain ⟨p,r',e,hip,_⟩:=later h.ord h3
          exact (ok.ck p k r' e).ds d h1 i hip (dsl_of hj hd)
  obtain ⟨KK,hKK⟩:∃ KK:Fr->Hp->Prop,KK=fun fr' H'=>vO Γ (rcs js qs (kd ++ anc ops i) ++ ordJs ops js qs (kd ++ anc ops i) r) fr' H' K:=⟨_,rfl⟩
  rw [<-hKK] at hvo
  let res:Fr->Fr:=fun f1 x=>match ov x with | some _=>fr x | none=>f1 x
  have hv1:vJ Γ (over ov fr) (hp E) (fun f1 H'=>KK (res f1) H'/\∀ x s,ov x=some s->f1 x=s) j:=by
    rw [vJ_rel (K2:=KK) (f2:=fr) (fun f1 f2=>∀ x,(ov x=none->f1 x=f2 x)/\∀ s,ov x=some s->f1 x=s/\f2 x=fr x) (fun f1 f2 hR x hx=>(hR x).1 (hfree x hx)) (fun f1 f2 sl s hg hR x=>?_) (fun f1 f2 s H' hR=>?_) (fun x=>⟨fun hx=>over_none hx,fun s hs=>⟨over_some hs,rfl⟩⟩)]
    · exact hvo
    · have hsl:ov sl=none:=by
        obtain ⟨w',hg⟩:=hg
        exact hfree sl (by unfold J.rds; rw [hg]; simp)
      simp only [put]
      refine ⟨fun hx=>?_,fun s' hs'=>?_⟩
      · split
        · rfl
        · exact (hR x).1 hx
      · have:x ≠ sl:=fun e=>by rw [e,hsl] at hs'; cases hs'
        simp only [this,if_false]
        exact (hR x).2 s' hs'
    · have e1:res (put f1 j.d s)=put f2 j.d s:=by
        funext x
        simp only [res]
        cases hov:ov x with
        | none=>
          simp only
          cases hjd:j.d with
          | none=>exact (hR x).1 hov
          | some d=>
            simp only [put]; split
            · rfl
            · exact (hR x).1 hov
        | some s'=>
          simp only
          cases hjd:j.d with
          | none=>exact ((hR x).2 s' hov).2.symm
          | some d=>
            have:x ≠ d:=fun e=>by rw [e,hdfree d hjd] at hov; cases hov
            simp only [put,this,if_false]
            exact ((hR x).2 s' hov).2.symm
      have e2:∀ x s',ov x=some s'->put f1 j.d s x=s':=fun x s' hov=>by
        cases hjd:j.d with
        | none=>exact ((hR x).2 s' hov).1
        | some d=>
          have:x ≠ d:=fun e=>by rw [e,hdfree d hjd] at hov; cases hov
          simp only [put,this,if_false]
          exact ((hR x).2 s' hov).1
      simp only [e1]
      exact propext ⟨fun h=>h.1,fun h=>⟨h,e2⟩⟩
  have step:=j_sound (Q:=Q') (next:=fun a' w'=>∃ fr' E' ro' kd',Inv X Γ ops js π K N ov qs kd' f r (pre ++ [i]) (l.setIfInBounds i true) fr' E' ro' a' w') h.fra h.rel.here hm htr hv1 (fun fr1 E' ro' a' w' hK1 hf1 hr1=>by
    obtain ⟨hK1,hov1⟩:=hK1
    rw [hKK] at hK1
    obtain ⟨hrc,hvo3⟩:=rcs_spec hK1
    have hover:over ov (res fr1)=fr1:=by
      funext x
      unfold over
      simp only [res]
      cases hov:ov x with
      | none=>rfl
      | some s=>exact (hov1 x s hov).symm
    have hkd:∀ t ∈ kd ++ anc ops i,Dn (l.setIfInBounds i true) t:=fun t ht=>by
      rcases List.mem_append.1 ht with ht | ht
      · exact dn_set (h.hkd t ht)
      · exact anc_all (p:=Dn (l.setIfInBounds i true)) (clo_set h.clo hw) (dn_self (by rw [h.size]; exact ck.lt)) t ht
    have hir:∀ k ∈ r,k ≠ i:=fun k hk e=>by
      obtain ⟨p,r',e',hip,_⟩:=later h.ord hk
      exact (ok.ck p k r' e').new (by rw [e]; exact hip)
    refine ⟨res fr1,E',ro',kd ++ anc ops i,⟨by rw [h.ord]; simp,by rw [Array.size_setIfInBounds]; exact h.size,clo_set h.clo hw,fun k hk hkq=>?_,fun k hk hkd=>?_,?_,fun x hx=>?_,fun k hk hkd=>?_,by rw [hover]; exact hf1,h.rel.thru hr1,fun k hk hkq=>?_,hkd,hvo3,fun k hk hku jk hjk=>?_⟩⟩
    · rcases List.mem_append.1 hk with hk | hk
      · exact dn_set (h.pq k hk hkq)
      · rw [List.mem_singleton.1 hk]; exact dn_self (by rw [h.size]; exact ck.lt)
    · rcases dn_of_set hkd with h1 | h1
      · exact h.ra k (by simp [hk]) h1
      · exact absurd h1 (hir k hk)
    · have:=cnt_set (n:=ops.size) ck.lt h.size hu; have:=h.fuel; omega
    · obtain ⟨k,h1,h2 | h2⟩:=h.v1 x hx
      · refine ⟨k,h1,.inl ⟨by simp [h2.1],fun hkd=>?_⟩⟩
        rcases dn_of_set hkd with h3 | rfl
        · exact h2.2 h3
        · exact ck.new h2.1
      · rcases List.mem_cons.1 h2.1 with rfl | h3
        · exact absurd h2.2 hu
        · exact ⟨k,h1,.inr ⟨h3,dn_set h2.2⟩⟩
    · have hdk:Dn l k:=by
        rcases dn_of_set hkd with h1 | h1
        · exact h1
        · exact absurd h1 (hir k hk)
      obtain ⟨d',z,T,b,h1,h2,h3⟩:=h.v3 k (by simp [hk]) hdk
      exact ⟨d',z,T,b,h1,h2,h3.keep hr1⟩
    · rcases List.mem_append.1 hk with hk | hk
      · exact h.hqs k hk hkq
      · rw [List.mem_singleton.1 hk,hnq] at hkq; cases hkq
    · have hkp:k ∈ pre:=by
        rcases List.mem_append.1 hk with hk | hk
        · exact hk
        · rw [List.mem_singleton.1 hk] at hku; exact absurd (dn_self (by rw [h.size]; exact ck.lt)) hku
      have hkq:isQ ops js k=true:=by
        cases hc:isQ ops js k with
        | true=>rfl
        | false=>exact absurd (dn_set (h.pq k hkp hc)) hku
      exact hrc k (h.hqs k hkp hkq) (fun hin=>hku (hkd k hin)) jk hjk)
  unfold wpOp
  simp only [ho]
  split
  · rename_i hwt
    rw [if_pos hwt] at step
    exact .inl step
  · rename_i hwt
    rw [if_neg hwt] at step
    exact step
theorem first_undone (l:Array Bool):∀ q:List Nat,(∀ i ∈ q,Dn l i)\/∃ p i r,q=p ++ i :: r/\(∀ k ∈ p,Dn l k)/\¬ Dn l i
  | []=>.inl fun i hi=>by cases hi
  | x :: q=>by
    by_cases hx:Dn l x
    · rcases first_undone l q with h | ⟨p,i,r,h1,h2,h3⟩
      · exact .inl fun i hi=>by rcases List.mem_cons.1 hi with rfl | hi; exact hx; exact h i hi
      · exact .inr ⟨x :: p,i,r,by rw [h1]; rfl,fun k hk=>by rcases List.mem_cons.1 hk with rfl | hk; exact hx; exact h2 k hk,h3⟩
    · exact .inr ⟨[],x,q,rfl,fun k hk=>(by cases hk),hx⟩
theorem all_of_none (ok:OrdOk P nw N ops js π) (hs:l.size=ops.size) (h:Region.ready .any ops l=[]):∀ i ∈ π,Dn l i:=by
  rcases first_undone l π with hd | ⟨p,i,r,e,h1,h2⟩
  · exact hd
  · exfalso
    have ck:=ok.ck p i r e
    have hlt:=ck.lt
    have ho:ops[i]? = some ops[i]:=Array.getElem?_eq_getElem hlt
    have:i ∈ Region.ready .any ops l:=mem_ready.2 ⟨getD_in (by rw [hs]; exact ck.lt) (by
      cases hd:l.getD i false with
      | false=>rfl
      | true=>exact absurd hd h2),_,ho,fun e he hb=>h1 _ (ck.wt _ ho e he hb)⟩
    rw [h] at this; cases this
theorem ord_main (ok:OrdOk P nw N ops js π) (hm:MeetsAll P Γ) {Q':Exit->Act->World->Prop} (hQ:∀ fr E ro a w,K fr (hp E)->FRel N (gm E) ro fr a->Rel X E ro w->Q' .normal a w) :
    ∀ (f:Nat) (rest pre:List Nat) (l:Array Bool) (fr:Fr) (E:Es) (ro:RO) (a:Act) (w:World) (ov:Nat->Option S) (qs kd:List Nat),Inv X Γ ops js π K N ov qs kd f rest pre l fr E ro a w->wpAny P .any ops Q' f l a w:=by
  have fin:∀ (f:Nat) (rest pre:List Nat) (l:Array Bool) (fr:Fr) (E:Es) (ro:RO) (a:Act) (w:World) (ov:Nat->Option S) (qs kd:List Nat),Inv X Γ ops js π K N ov qs kd f rest pre l fr E ro a w->(∀ i ∈ π,Dn l i)->Q' .normal a w:=by
    intro f rest
    induction rest with
    | nil=>
      intro pre l fr E ro a w ov qs kd h hd
      have hov:∀ x,ov x=none:=fun x=>by
        cases hov:ov x with
        | none=>rfl
        | some s=>
          obtain ⟨i,_,h2 | h2⟩:=h.v1 x (by rw [hov]; simp)
          · exact absurd (hd i (by rw [h.ord]; simp [h2.1])) h2.2
          · cases h2.1
      have he:over ov fr=fr:=funext fun x=>over_none (hov x)
      have hf:=h.fra
      rw [he] at hf
      exact hQ fr E ro a w h.vo hf h.rel
    | cons i r ih=>
      intro pre l fr E ro a w ov qs kd h hd
      obtain ⟨fr',E',ov',kd',h'⟩:=adv_a ok h (hd i (by rw [h.ord]; simp))
      exact ih _ _ _ _ _ _ _ _ _ _ h' hd
  intro f
  induction f with
  | zero=>
    intro rest pre l fr E ro a w ov qs kd h
    have hd:∀ i ∈ π,Dn l i:=fun i hi=>cnt_zero (Nat.le_zero.1 h.fuel) i (by
      obtain ⟨p,r,e⟩:=List.append_of_mem hi
      exact (ok.ck p i r e).lt)
    refine ⟨?_,fin _ _ _ _ _ _ _ _ _ _ _ _ h hd⟩
    cases hr:Region.ready .any ops l with
    | nil=>rfl
    | cons k ks=>
      obtain ⟨hu,o,ho,_⟩:=ready_of (ops:=ops) (l:=l) (k:=k) (by rw [hr]; simp)
      exact absurd (hd k (ok.all k (Array.getElem?_eq_some_iff.1 ho).1)) hu
  | succ f ih=>
    intro rest
    induction rest with
    | nil=>
      intro pre l fr E ro a w ov qs kd h
      refine ⟨fun hr=>fin _ _ _ _ _ _ _ _ _ _ _ _ h (all_of_none ok h.size hr),fun k hk=>?_⟩
      obtain ⟨hu,o,ho,_⟩:=ready_of hk
      have hkp:k ∈ pre:=by
        have:=ok.all k (Array.getElem?_eq_some_iff.1 ho).1
        rw [h.ord] at this; simpa using this
      exact wpOp_mono (fun a' w' ⟨ov',h'⟩=>ih _ _ _ _ _ _ _ _ _ _ _ h') (run_q ok h hkp hk)
    | cons i r ihr=>
      intro pre l fr E ro a w ov qs kd h
      by_cases hd:Dn l i
      · obtain ⟨fr',E',ov',kd',h'⟩:=adv_a ok h hd
        exact ihr _ _ _ _ _ _ _ _ _ _ h'
      · cases hq:isQ ops js i with
        | true=>
          obtain ⟨fr',ov',qs',h'⟩:=adv_q ok h hq hd
          exact ihr _ _ _ _ _ _ _ _ _ _ h'
        | false=>
          refine ⟨fun hr=>absurd (all_of_none ok h.size hr i (by rw [h.ord]; simp)) hd,fun k hk=>?_⟩
          obtain ⟨hu,o,ho,hw⟩:=ready_of hk
          have hkπ:=ok.all k (Array.getElem?_eq_some_iff.1 ho).1
          rw [h.ord] at hkπ
          rcases List.mem_append.1 hkπ with hkp | hkr
          · exact wpOp_mono (fun a' w' ⟨ov',h'⟩=>ih _ _ _ _ _ _ _ _ _ _ _ h') (run_q ok h hkp hk)
          · cases hak:isA js k with
            | true=>exact wpOp_mono (fun a' w' ⟨ov',h'⟩=>ih _ _ _ _ _ _ _ _ _ _ _ h') (run_a ok h hkr hak hk)
            | false=>
              rcases List.mem_cons.1 hkr with rfl | hkr'
              · exact wpOp_mono (fun a' w' ⟨fr',E',ro',kd',h'⟩=>ih _ _ _ _ _ _ _ _ _ _ _ h') (run_m ok hm h hq hk)
              · exfalso
                rcases (ok.ck pre i r h.ord).hd hq k hkr' hak with h1 | ⟨k',h1,h2,h3⟩
                · exact hd (hw i h1)
                · have:=h.ra k' (by simp [h1]) (hw k' h3)
                  rw [h2] at this; cases this
theorem reg_ord_sound (hm:MeetsAll P Γ) {id:Nat} {hh:Nat->CH} (hmix:P.follows .mixedOrders=true) (hB:ordB ops js=true)
    (hf:FRel N (gm E) ro fr a) (hr:Rel X E ro w) (hv:vO Γ (ordJs ops js [] [] (ordL ops js)) fr (hp E) K) {Q:Exit->Act->World->Prop}
    (hQ:∀ fr E ro a w,K fr (hp E)->FRel N (gm E) ro fr a->Rel X E ro w->Q .normal a w) (hget:∀ (i:Nat) (o:Oper),ops.toList[i]? = some o->∃ (j:J),js[i]? = some j/\trJ P nw N ops (hh i) o=some j):(Code.region id ops true).wp P Q a w:=by
  unfold ordB at hB
  simp only [Bool.and_eq_true,decide_eq_true_eq] at hB
  obtain ⟨⟨_,hl⟩,hC⟩:=hB
  have ok:OrdOk P nw N ops js (ordL ops js):=by
    refine ⟨fun i o ho=>?_,fun p i r e=>?_,ord_all hC hl⟩
    · obtain ⟨j,h1,h2⟩:=hget i o (by simpa using ho)
      exact ⟨j,_,h1,h2⟩
    · have:=ordC_at _ [] p i r hC e
      simpa using this
  refine wp_region_any hmix (ord_main ok hm hQ _ (ordL ops js) [] _ fr E ro a _ (fun _=>none) [] [] ?_)
  have hnd:∀ i,¬ Dn (Array.replicate ops.size false) i:=fun i h=>by unfold Dn at h; rw [getD_replicate_false] at h; cases h
  refine ⟨rfl,by simp,fun i k hi=>absurd hi (hnd i),fun i hi=>(by cases hi),fun i _ hi=>absurd hi (hnd i),?_,fun s hs=>absurd rfl hs,fun i _ hi=>absurd hi (hnd i),?_,hr.drew,fun i hi=>(by cases hi),fun t ht=>(by cases ht),hv,fun i hi=>(by cases hi)⟩
  · unfold cnt
    exact Nat.le_trans (List.length_filter_le _ _) (by rw [List.length_range]; exact Nat.le_refl _)
  · have he:over (fun _=>none) fr=fr:=rfl
    rw [he]; exact hf
end
end Go.W
namespace Go.W
def Ex.to:Ex->Exit
  | .n=>.normal
  | .e id=>.exit id
  | .r=>.ret
inductive RV where
  | mv (o:O)
  | ld (i:LI)
def trRV (P:Program):ResultVar->Option RV
  | .tmp t=>some (.mv (.t t))
  | .cell c t=>match aggT P t,szT P t with
    | some true,some n=>some (.ld (.ldn n (.t c)))
    | some false,some _=>some (.ld (.ld1 (.t c)))
    | _,_=>none
def trRVs (P:Program):List ResultVar->Option (List RV)
  | []=>some []
  | r :: l=>match trRV P r,trRVs P l with
    | some i,some l=>some (i :: l)
    | _,_=>none
def vRs (fr:Fr) (H:Hp):List RV->(List A->Prop)->Prop
  | [],K=>K []
  | .mv o :: r,K=>match ev (fst fr) o with
    | .va a=>gds fr o.sl/\vRs fr H r fun l=>K (a :: l)
    | _=>False
  | .ld i :: r,K=>gds fr i.sl/\vL (fst fr) H i fun s=>match s with
    | .va a=>vRs fr H r fun l=>K (a :: l)
    | _=>False
def tup:List A->S
  | [a]=>.va a
  | l=>.tu l
def retK (k0:Nat) (rs:List RV) (K:S->Hp->Prop):Ex->Fr->Hp->Prop
  | .e _,_,_=>False
  | _,fr,H=>vRs fr H rs fun l=>Fin k0 K (tup l).nf H
def fr0 (az:List S):Fr:=fun i=>az.getD i .un
section
variable {P:Program} {N:Nat} {nw:Bool} {X:Ctx} {Γ:Env}
theorem trR_split {ops:Array Oper} {h:Nat->CH}:∀ (n:Nat) {l:List Oper} {k:Nat} {js:List J},trR P nw N ops h k l=some js->
    trR P nw N ops h k (l.take n)=some (js.take n)/\trR P nw N ops h (k + n) (l.drop n)=some (js.drop n)
  | 0,l,k,js,hj=>⟨rfl,by simpa using hj⟩
  | n + 1,[],k,js,hj=>by simp only [trR,Option.some.injEq] at hj; subst hj; exact ⟨rfl,rfl⟩
  | n + 1,o :: l,k,js,hj=>by
    obtain ⟨j,js',rfl,h1,h2⟩:=trR_cons hj
    obtain ⟨h3,h4⟩:=trR_split n h2
    refine ⟨?_,?_⟩
    · simp only [List.take_succ_cons,trR,h1,h3]
    · simp only [List.drop_succ_cons]; rw [<-h4]; congr 1; omega
theorem head_quiet:∀ (js:List J),∀ j ∈ js.take (headLen js),j.quiet=true
  | [],j,h=>by simp at h
  | k :: r,j,h=>by
    simp only [headLen] at h
    split at h
    · rename_i hk
      simp only [List.take_succ_cons,List.mem_cons] at h
      rcases h with rfl | h
      · exact hk
      · exact head_quiet r j h
    · simp at h
theorem reg_sound (hm:MeetsAll P Γ) {id:Nat} {ops:Array Oper} {draw:Bool} {h:Nat->CH} {js:List J} (hj:trR P nw N ops h 0 ops.toList=some js)
    (hd:draw=true->(P.follows .mixedOrders && (if js.all J.quietC then Region.lexB .any ops else Region.lexTailB .any ops (headLen js)))=true)
    {fr:Fr} {E:Es} {ro:RO} {a:Act} {w:World} {K:Fr->Hp->Prop} (hf:FRel N (gm E) ro fr a) (hr:Rel X E ro w) (hv:vR Γ js fr (hp E) K) {Q:Exit->Act->World->Prop}
    (hQ:∀ fr E ro a w,K fr (hp E)->FRel N (gm E) ro fr a->Rel X E ro w->Q .normal a w):(Code.region id ops draw).wp P Q a w:=by
  cases draw with
  | false=>exact wp_region_list (r_sound hm hQ _ _ _ hj _ _ _ _ _ hf hr hv)
  | true=>
    have hd:=hd rfl
    simp only [Bool.and_eq_true] at hd
    obtain ⟨hmix,hB⟩:=hd
    split at hB
    · rename_i hl
      refine wp_region_quiet (C:=Rel X E ro) hmix hB hr.drew ?_
      exact quiet_sound (X:=X) hm w ops.toList 0 js hj (fun j hj'=>List.all_eq_true.1 hl j hj') fr E ro a K hf hr hv fun fr' a' hf' hK w' hr'=>hQ _ _ _ _ _ hK hf' hr'
    · rename_i hl
      have hops:ops=ops.toList.toArray:=by simp
      rw [hops] at hB ⊢
      refine wp_region_still_tail (headLen js) hmix hB ?_
      obtain ⟨h1,h2⟩:=trR_split (headLen js) hj
      rw [Nat.zero_add] at h2
      rw [hops] at h1 h2
      refine head_sound (Y:=X) _ 0 _ (js.drop (headLen js)) h1 (head_quiet js) fr E ro a K hf hr.drew (by rw [List.take_append_drop]; exact hv) fun fr' a' hf' hK=>?_
      exact r_sound (X:=X) hm hQ _ _ _ h2 _ _ _ _ _ hf' hr.drew hK
theorem lateGo_lt {ops:Array Oper} {n:Nat}:∀ (m:Nat) (acc:List Nat),(∀ x ∈ acc,x < n)->m<=n->∀ x ∈ lateGo ops n m acc,x < n
  | 0,acc,h,_,x,hx=>h x hx
  | m + 1,acc,h,hm,x,hx=>by
    simp only [lateGo] at hx
    refine lateGo_lt m _ ?_ (by omega) x hx
    split
    · intro y hy
      rcases List.mem_cons.1 hy with rfl | hy
      · omega
      · exact h y hy
    · exact h
theorem marks_inv {ops:Array Oper} {n:Nat}:∀ (is:List Nat) (l:Array Bool),HeadInv .any ops n l->takeB ops is l=true->(∀ i ∈ is,i < n)->
    HeadInv .any ops n (marks is l)/\(∀ k,l.getD k false=true->(marks is l).getD k false=true)/\∀ i ∈ is,(marks is l).getD i false=true
  | [],l,inv,_,_=>⟨inv,fun _ h=>h,fun _ h=>by cases h⟩
  | i :: is,l,inv,hB,hlt=>by
    simp only [takeB,Bool.and_eq_true] at hB
    obtain ⟨⟨hr,_⟩,hB'⟩:=hB
    have hr':i ∈ Region.ready .any ops l:=by simpa using hr
    obtain ⟨h1,h2,h3⟩:=marks_inv is _ (inv.set hr' (hlt i (by simp))) hB' fun k hk=>hlt k (by simp [hk])
    have hset:(l.setIfInBounds i true).getD i false=true:=by
      obtain ⟨_,o,ho,_⟩:=mem_ready.1 hr'
      have:i < l.size:=by rw [inv.size]; exact (Array.getElem?_eq_some_iff.1 ho).1
      simp [this]
    refine ⟨h1,fun k hk=>h2 k (getD_set_true hk),fun k hk=>?_⟩
    rcases List.mem_cons.1 hk with rfl | hk
    · exact h2 _ hset
    · exact h3 k hk
theorem trR_get {ops:Array Oper} {h:Nat->CH}:∀ {l:List Oper} {k:Nat} {js:List J},trR P nw N ops h k l=some js->∀ (i:Nat) (o:Oper),l[i]? = some o->∃ j,js[i]? = some j/\trJ P nw N ops (h (k + i)) o=some j
  | [],_,_,_,_,_,h1=>by cases h1
  | o' :: l,k,js,hj,i,o,ho=>by
    obtain ⟨j,js',rfl,h1,h2⟩:=trR_cons hj
    cases i with
    | zero=>cases ho; exact ⟨j,rfl,h1⟩
    | succ i=>
      obtain ⟨j',h3,h4⟩:=trR_get h2 i o (by simpa using ho)
      exact ⟨j',by simpa using h3,by rw [<-h4]; congr 2; omega⟩
theorem trAt_picks {ops:Array Oper} {h:Nat->CH} {js:List J} (hj:trR P nw N ops h 0 ops.toList=some js):∀ (is:List Nat),(∀ i ∈ is,i < ops.size)->TrAt P nw N ops is (picks js is)
  | [],_=>.nil
  | i :: is,hlt=>by
    have hi:=hlt i (by simp)
    obtain ⟨j,h1,h2⟩:=trR_get hj i ops[i] (by simp [hi])
    have hpk:picks js (i :: is)=j :: picks js is:=by
      unfold picks
      rw [List.filterMap_cons,h1]
    rw [hpk]
    exact .cons ⟨ops[i],_,Array.getElem?_eq_getElem hi,h2⟩ (trAt_picks hj is fun k hk=>hlt k (by simp [hk]))
theorem headC_quiet:∀ (js:List J),∀ j ∈ js.take (headC js),j.quietC=true
  | [],j,h=>by simp at h
  | k :: r,j,h=>by
    simp only [headC] at h
    split at h
    · rename_i hk
      simp only [List.take_succ_cons,List.mem_cons] at h
      rcases h with rfl | h
      · exact hk
      · exact headC_quiet r j h
    · simp at h
theorem reg_late_sound (hm:MeetsAll P Γ) {id:Nat} {ops:Array Oper} {h:Nat->CH} {js:List J} (hj:trR P nw N ops h 0 ops.toList=some js) (hmix:P.follows .mixedOrders=true) (hB:lateB P ops (headC js)=true)
    {fr:Fr} {E:Es} {ro:RO} {a:Act} {w:World} {K:Fr->Hp->Prop} (hf:FRel N (gm E) ro fr a) (hr:Rel X E ro w) (hv:vR Γ (lateJs ops js) fr (hp E) K) {Q:Exit->Act->World->Prop}
    (hQ:∀ fr E ro a w,K fr (hp E)->FRel N (gm E) ro fr a->Rel X E ro w->Q .normal a w):(Code.region id ops true).wp P Q a w:=by
  unfold lateB at hB
  simp only [Bool.and_eq_true,decide_eq_true_eq] at hB
  obtain ⟨⟨⟨⟨⟨⟨⟨hsel,hn⟩,hs⟩,hc⟩,htk⟩,hlex⟩,hpu⟩,hlen⟩:=hB
  have hlt:∀ i ∈ lateL ops (headC js),i < headC js:=lateGo_lt _ _ (fun x hx=>by cases hx) (Nat.le_refl _)
  have hltr:∀ i ∈ restL ops (headC js),i < headC js:=fun i hi=>by unfold restL at hi; rw [List.mem_filter] at hi; exact List.mem_range.1 hi.1
  have inv0:HeadInv .any ops (headC js) (Array.replicate ops.size false):=
    ⟨by simp,fun j oj _ hl=>(by rw [getD_replicate_false] at hl; cases hl),fun t _ ht=>getD_in (by simpa using ht) (getD_replicate_false _ _)⟩
  obtain ⟨inv,_,hls⟩:=marks_inv _ _ inv0 htk hlt
  refine Code.wp_mono (Q:=fun e a w=>e=.normal/\Q .normal a w) (fun e a w h=>by obtain ⟨rfl,h⟩:=h; exact h) (wp_region_any hmix ?_)
  have hf0:ops.size=(lateL ops (headC js)).length + ((restL ops (headC js)).length + (ops.size - headC js)):=hlen.symm
  have key:=lates_sound (P:=P) (N:=N) (nw:=nw) (Γ:=Γ) (ops:=ops) (E:=E) (ro:=ro) (w:={ w with drawn:=w.drawn + 1 }) (Q':=fun e a w=>e=.normal/\Q .normal a w) (fun c a w h=>by cases h.1) hsel (Y:=X) (f:=(restL ops (headC js)).length + (ops.size - headC js))
    (lateL ops (headC js)) _ (picks js (restL ops (headC js)) ++ js.drop (headC js)) _ (trAt_picks hj _ fun i hi=>by have:=hlt i hi; omega) (fun i hi o ho=>by
      have:=List.all_eq_true.1 hpu i hi
      rw [ho] at this; exact this) htk fr a K hf hr.drew hv fun fr' a' hf' hv'=>?_
  · rw [<-hf0] at key; exact key
  · refine any_of_head (C:=Rel X E ro) (n:=headC js) (L:=fun l' a'=>Region.seqB .any ops (ops.size - headC js) (headC js) l'=true/\∀ w',Rel X E ro w'->wpList P ops (fun e a w=>e=.normal/\Q .normal a w) (ops.toList.drop (headC js)) a' w') (fun l' a' w' hw' hL=>?_) _ _ _ _ hr.drew
      (late_lex hsel hs hc hn _ _ _ inv hls hlex (heads_sound (X:=X) hm _ _ (js.drop (headC js)) (trAt_picks hj _ fun i hi=>by have:=hltr i hi; omega) (fun j hj'=>?_) fr' a' K hf' hr hv' fun fr2 a2 hf2 hv2=>?_))
    · have h1:=wpAny_of_seq (md:=.any) (Q':=fun e a w=>e=.normal/\Q .normal a w) (ops.toList.drop (headC js)) (headC js) l' a' w' (fun j=>by simp [List.getElem?_drop]) (by rw [List.length_drop,Array.length_toList]; exact hL.1) (hL.2 w' hw')
      rwa [List.length_drop,Array.length_toList] at h1
    · unfold picks at hj'
      obtain ⟨i,hi,hji⟩:=List.mem_filterMap.1 hj'
      have hin:=hltr i hi
      exact headC_quiet js j (List.mem_of_getElem? (i:=i) (by rw [List.getElem?_take,if_pos hin]; exact hji))
    · obtain ⟨_,h2⟩:=trR_split (headC js) hj
      exact fun w' hw'=>r_sound (X:=X) hm (fun fr E ro a w hK hf hr=>⟨rfl,hQ fr E ro a w hK hf hr⟩) _ _ _ h2 _ _ _ _ _ hf2 hw' hv2
theorem picks_range {α:Type} (l:List α):∀ n,picks l (List.range n)=l.take n
  | 0=>rfl
  | n + 1=>by
    have ih:=picks_range l n
    unfold picks at ih ⊢
    rw [List.range_succ,List.filterMap_append,ih,List.take_add_one]
    cases h:l[n]?<;>simp [h]
theorem waits_not {ops:Array Oper} {i j:Nat} {oj:Oper} (hj:ops[j]? = some oj) (h:Region.waitsFor .any ops j i=false):∀ e ∈ oj.after,Region.binds .any e=true->e.on ≠ i:=by
  intro e he hb heq
  unfold Region.waitsFor at h
  simp only [hj] at h
  have:=Array.any_eq_false'.1 h e he
  simp [hb,heq] at this
theorem grow_run {op:Op} {o:Oper} (ho:o.op=op) (h:growB P op=true) {ev:Operand->Value} {w w1:World} {r:Next} (hr:(execOp ev o).run P w=.ok r w1) :
    (∃ v,r=.value v)/\(∀ k,k < w.heap.size->w1.heap[k]? = w.heap[k]?)/\w.heap.size<=w1.heap.size/\w1.os=w.os/\w1.tape=w.tape/\w1.output=w.output:=by
  unfold growB at h
  split at h
  case h_2=>cases h
  rename_i t len parts
  split at h
  case h_2=>cases h
  rename_i e ht
  split at h
  case h_2=>cases h
  rename_i i hi
  obtain ⟨z,hz⟩:=Option.isSome_iff_exists.1 h
  simp only [execOp,ho,Instr.buildSlice] at hr
  simp [run_underlying ht,sizeOf,typeInfo,hi,zeroValue,hz] at hr
  split at hr
  · cases hr
  · split at hr
    all_goals
      generalize Instr.fill _ _ _=x at hr
      cases x with
      | none=>simp at hr
      | some cells=>
        simp [newRow] at hr
        obtain ⟨rfl,rfl⟩:=hr
        refine ⟨⟨_,rfl⟩,fun k hk=>?_,?_,rfl,rfl,rfl⟩
        · show (w.heap.push _)[k]? = _
          rw [Array.getElem?_push,if_neg (Nat.ne_of_lt hk)]
        · show _<=(w.heap.push _).size
          rw [Array.size_push]; exact Nat.le_succ _
theorem headsS_sound {ops:Array Oper} {E:Es} {ro:RO} {L:Act->Prop} {w0:World}:∀ (is:List Nat) (js rest:List J),TrAt P nw N ops is js->(∀ j ∈ js,j.quiet=true)->∀ (fr:Fr) (a:Act) (K:Fr->Hp->Prop),FRel N (gm E) ro fr a->Rel X E ro w0->
    vR Γ (js ++ rest) fr (hp E) K->(∀ fr' a',FRel N (gm E) ro fr' a'->vR Γ rest fr' (hp E) K->L a')->wpS P ops (Rel X E ro) L is a
  | [],js,rest,ht,_,fr,a,K,hf,hr,hv,hL=>by
    obtain rfl:=All2.nil_inv ht
    exact hL _ _ hf hv
  | i :: is,js,rest,ht,hq,fr,a,K,hf,hr,hv,hL=>by
    obtain ⟨j,js',rfl,⟨o,σ,ho,h1⟩,h2⟩:=All2.cons_inv ht
    simp only [List.cons_append,vR] at hv
    have hs:=jq_sound hf hr h1 (hq j (by simp)) hv
    simp only [wpS,sOp,ho]
    split
    · rename_i hw
      rw [if_pos hw] at hs
      obtain ⟨fr',hK,v,hf',hrun⟩:=hs
      exact ⟨v,hrun,headsS_sound is js' rest h2 (fun y hy=>hq y (by simp [hy])) fr' _ K hf' hr hK hL⟩
    · rename_i hw
      rw [if_neg hw] at hs
      obtain ⟨fr',hK,hs⟩:=hs
      exact headsS_sound is js' rest h2 (fun y hy=>hq y (by simp [hy])) fr' _ K hs hr hK hL
theorem reg_early_sound (hm:MeetsAll P Γ) {id:Nat} {ops:Array Oper} {h:Nat->CH} {js:List J} (hj:trR P nw N ops h 0 ops.toList=some js) (hmix:P.follows .mixedOrders=true) (hB:earlyB P ops (headLen js)=true)
    {fr:Fr} {E:Es} {ro:RO} {a:Act} {w:World} {K:Fr->Hp->Prop} (hf:FRel N (gm E) ro fr a) (hr:Rel X E ro w) (hv:vR Γ js fr (hp E) K) {Q:Exit->Act->World->Prop}
    (hQ:∀ fr E ro a w,K fr (hp E)->FRel N (gm E) ro fr a->Rel X E ro w->Q .normal a w):(Code.region id ops true).wp P Q a w:=by
  obtain ⟨n,hnl⟩:∃ n,n=headLen js:=⟨_,rfl⟩
  rw [<-hnl] at hB
  unfold earlyB at hB
  simp only [Bool.and_eq_true,decide_eq_true_eq] at hB
  obtain ⟨⟨⟨⟨⟨⟨hsel,hn⟩,hc0⟩,hc⟩,hs⟩,hlex⟩,hon⟩:=hB
  split at hon
  case h_2=>cases hon
  rename_i on hon0
  simp only [Bool.and_eq_true] at hon
  obtain ⟨⟨hgd,hgr⟩,hall⟩:=hon
  have hgd':on.guard=none:=by simpa using hgd
  have hat:∀ j,j < n->Region.waitsFor .any ops j n=false/\(Region.waitsFor .any ops n j=true\/∀ oj,ops[j]? = some oj->on.apart ops oj=true):=fun j hjn=>by
    have:=List.all_eq_true.1 hall j (List.mem_range.2 hjn)
    simp only [Bool.and_eq_true,Bool.not_eq_true',Bool.or_eq_true] at this
    refine ⟨this.1,this.2.imp (fun h=>h) fun h oj hoj=>?_⟩
    rw [hoj] at h; exact h
  have inv0:HeadInv .any ops n (Array.replicate ops.size false):=
    ⟨by simp,fun j oj _ hl=>(by rw [getD_replicate_false] at hl; cases hl),fun t _ ht=>getD_in (by simpa using ht) (getD_replicate_false _ _)⟩
  refine Code.wp_mono (Q:=fun e a w=>e=.normal/\Q .normal a w) (fun e a w h=>by obtain ⟨rfl,h⟩:=h; exact h) (wp_region_any hmix ?_)
  obtain ⟨g,hg⟩:∃ g,ops.size=n + (g + 1):=⟨ops.size - n - 1,by omega⟩
  obtain ⟨_,h2⟩:=trR_split n hj
  rw [Nat.zero_add] at h2
  have hdr:ops.toList.drop n=on :: ops.toList.drop (n + 1):=by
    rw [List.drop_eq_getElem_cons (by simp; omega)]
    congr 1
    have:=Array.getElem?_eq_some_iff.1 hon0
    obtain ⟨_,h⟩:=this
    simpa using h
  have hlen2:(ops.toList.drop n).length=g + 1:=by simp; omega
  have hlen3:(ops.toList.drop (n + 1)).length=g:=by simp; omega
  obtain ⟨jn,jr,hjd,hj1,hj2⟩:∃ jn jr,js.drop n=jn :: jr/\trJ P nw N ops (h n) on=some jn/\trR P nw N ops h (n + 1) (ops.toList.drop (n + 1))=some jr:=by
    rw [hdr] at h2
    exact trR_cons h2
  let Lq:Act->Prop:=fun a'=>∃ fr',FRel N (gm E) ro fr' a'/\vR Γ (js.drop n) fr' (hp E) K
  have hheads:headS P ops (Rel X E ro) n (fun l' a'=>Region.seqB .any ops (ops.size - n) n l'=true/\Lq a') n (Array.replicate ops.size false) a:=by
    have:=headS_lex (P:=P) (C:=Rel X E ro) (Lq:=Lq) hsel (by omega:n < ops.size) (List.range n) (Array.replicate ops.size false) a hlex
      (headsS_sound (nw:=nw) (X:=X) (Γ:=Γ) (List.range n) (js.take n) (js.drop n) ?_ (by rw [hnl]; exact head_quiet js) fr a K hf hr.drew (by rw [List.take_append_drop]; exact hv) fun fr' a' hf' hv'=>⟨fr',hf',hv'⟩)
    · rwa [List.length_range] at this
    · have h3:=trAt_picks hj (List.range n) fun i hi=>by have:=List.mem_range.1 hi; omega
      have h4:picks js (List.range n)=js.take n:=picks_range js n
      rw [h4] at h3; exact h3
  have hwp:∀ a' w',Rel X E ro w'->∀ fr',FRel N (gm E) ro fr' a'->vR Γ (js.drop n) fr' (hp E) K->on.wp P a' w' (wpList P ops (fun e a w=>e=.normal/\Q .normal a w) (ops.toList.drop (n + 1))) (fun e a w=>e=.normal/\Q .normal a w):=fun a' w' hw' fr' hf' hv'=>by
    rw [hjd] at hv'
    have:=j_sound (Q:=fun e a w=>e=.normal/\Q .normal a w) (next:=wpList P ops (fun e a w=>e=.normal/\Q .normal a w) (ops.toList.drop (n + 1))) hf' hw' hm hj1 hv' fun fr2 E2 ro2 a2 w2 hK2 hf2 hr2=>
      r_sound (X:=X) hm (fun fr E ro a w hK hf hr=>⟨rfl,hQ fr E ro a w hK hf hr⟩) _ _ _ hj2 _ _ _ _ _ hf2 hr2 hK2
    rwa [if_pos (wanted_none hgd' _)] at this
  have key:=early1 (P:=P) (C:=Rel X E ro) (g:=g) (L:=fun l' a'=>Region.seqB .any ops (ops.size - n) n l'=true/\Lq a') (Q':=fun e a w=>e=.normal/\Q .normal a w) (fun c a w h=>by cases h.1) (Region.noSelect_spec hsel) hon0 hgd'
    (fun j oj hoj hjn hno=>(hat j hjn).2.elim (fun hw=>by
      obtain ⟨o',ho',e,he,hb,hon'⟩:=Region.waitsFor_spec hw
      cases hon0.symm.trans ho'
      exact absurd hon' (hno e he hb)) fun h=>h oj hoj)
    (fun j oj hoj hjn=>waits_not hoj (hat j hjn).1) hs hc0 hc hn
    (fun a' w' r w1 hw' hrun=>by
      obtain ⟨h1,h2,h3,h4,h5,h6⟩:=grow_run rfl hgr hrun
      exact ⟨h1,hw'.grown h2 h3 h4 h5 h6⟩)
    (fun l' a' w' hw' ⟨hseq,fr',hf',hv'⟩=>by
      have h1:=wpAny_of_seq (md:=.any) (P:=P) (ops:=ops) (Q':=fun e a w=>e=.normal/\Q .normal a w) (ops.toList.drop n) n l' a' w' (fun j=>by simp [List.getElem?_drop]) (by rw [hlen2,<-(by omega:ops.size - n=g + 1)]; exact hseq)
        (by rw [hdr]; simp only [wpList]; rw [if_pos (wanted_none hgd' _)]; exact .inl (hwp a' w' hw' fr' hf' hv'))
      rwa [hlen2] at h1)
    (fun l' a' w' hw' ⟨hseq,fr',hf',hv'⟩=>by
      have hsz:ops.size - n=g + 1:=by omega
      rw [hsz] at hseq
      simp only [Region.seqB,Bool.and_eq_true] at hseq
      refine Oper.wp_mono (fun a2 w2 h=>?_) (hwp a' w' hw' fr' hf' hv')
      have h1:=wpAny_of_seq (md:=.any) (P:=P) (ops:=ops) (Q':=fun e a w=>e=.normal/\Q .normal a w) (ops.toList.drop (n + 1)) (n + 1) (l'.setIfInBounds n true) a2 w2 (fun j=>by simp [List.getElem?_drop]) (by rw [hlen3]; exact hseq.2) h
      rwa [hlen3] at h1)
    n _ a { w with drawn:=w.drawn + 1 } hr.drew inv0 hheads
  rw [<-hg] at key
  exact key
theorem code_sound (hm:MeetsAll P Γ) {h:Hint} {k0:Nat} (hk0:X.g0.length=k0):∀ (c:Code) (pc:PC),tr P nw N h c=some pc->∀ (fr:Fr) (E:Es) (ro:RO) (a:Act) (w:World) (K:Ex->Fr->Hp->Prop),FRel N (gm E) ro fr a->Rel X E ro w->vc Γ k0 pc fr (hp E) K->
    ∀ (Q:Exit->Act->World->Prop),(∀ ex fr' E' ro' a' w',K ex fr' (hp E')->FRel N (gm E') ro' fr' a'->Rel X E' ro' w'->Q ex.to a' w')->c.wp P Q a w:=by
  intro c
  induction c with
  | skip=>intro pc hpc fr E ro a w K hf hr hv Q hQ; simp only [tr,Option.some.injEq] at hpc; subst hpc; exact wp_skip (hQ .n _ _ _ _ _ hv hf hr)
  | exit id=>intro pc hpc fr E ro a w K hf hr hv Q hQ; simp only [tr,Option.some.injEq] at hpc; subst hpc; exact wp_exit (hQ (.e id) _ _ _ _ _ hv hf hr)
  | ret=>intro pc hpc fr E ro a w K hf hr hv Q hQ; simp only [tr,Option.some.injEq] at hpc; subst hpc; exact wp_ret (hQ .r _ _ _ _ _ hv hf hr)
  | seq x y ihx ihy=>
    intro pc hpc fr E ro a w K hf hr hv Q hQ
    simp only [tr] at hpc
    split at hpc
    · rename_i px py hx hy
      simp only [Option.some.injEq] at hpc
      subst hpc
      simp only [vc] at hv
      refine wp_seq (ihx px hx fr E ro a w _ hf hr hv _ ?_)
      intro ex fr' E' ro' a' w' hK hf' hr'
      cases ex with
      | n=>exact ihy py hy fr' E' ro' a' w' K hf' hr' hK Q hQ
      | e id=>exact hQ (.e id) _ _ _ _ _ hK hf' hr'
      | r=>exact hQ .r _ _ _ _ _ hK hf' hr'
    · cases hpc
  | cond o x y ihx ihy=>
    intro pc hpc fr E ro a w K hf hr hv Q hQ
    simp only [tr] at hpc
    split at hpc
    · rename_i px py hx hy
      simp only [Option.some.injEq] at hpc
      subst hpc
      simp only [vc] at hv
      split at hv
      · rename_i b hb
        obtain ⟨hg,h1,h2⟩:=hv
        have he:a.eval o=.bool b:=by
          have:=ev_rel hf.res o
          rw [<-ev_congr (fst_res hg),hb] at this
          exact this
        exact wp_cond_split he (fun hb=>ihx px hx fr E ro a w K hf hr (h1 hb) Q hQ) (fun hb=>ihy py hy fr E ro a w K hf hr (h2 hb) Q hQ)
      · exact hv.elim
    · cases hpc
  | block id x ihx=>
    intro pc hpc fr E ro a w K hf hr hv Q hQ
    simp only [tr] at hpc
    split at hpc
    · rename_i px hx
      simp only [Option.some.injEq] at hpc
      subst hpc
      simp only [vc] at hv
      refine wp_block (ihx px hx fr E ro a w _ hf hr hv _ ?_)
      intro ex fr' E' ro' a' w' hK hf' hr'
      cases ex with
      | n=>exact hQ .n _ _ _ _ _ hK hf' hr'
      | e j=>
        simp only [Ex.to,Exit.inBlock]
        simp only at hK
        split at hK
        · rename_i hj; rw [if_pos hj]; exact hQ .n _ _ _ _ _ hK hf' hr'
        · rename_i hj; rw [if_neg hj]; exact hQ (.e j) _ _ _ _ _ hK hf' hr'
      | r=>exact hQ .r _ _ _ _ _ hK hf' hr'
    · cases hpc
  | loop x ihx=>
    intro pc hpc fr E ro a w K hf hr hv Q hQ
    simp only [tr] at hpc
    split at hpc
    · rename_i px hx
      simp only [Option.some.injEq] at hpc
      subst hpc
      simp only [vc] at hv
      obtain ⟨Inv,h0,hround⟩:=hv
      obtain ⟨fr1,E1,ro1,⟨m,hI⟩,hf1,hr1⟩:=gh_sound hk0 h0 rfl hf hr
      refine wp_loop_ghost (fun m a w=>∃ fr E ro,Inv m fr (hp E)/\FRel N (gm E) ro fr a/\Rel X E ro w) m ⟨_,_,_,hI,hf1,hr1⟩ ?_
      rintro n a w ⟨fr2,E2,ro2,hI2,hf2,hr2⟩
      refine ihx px hx fr2 E2 ro2 a w _ hf2 hr2 (hround n fr2 _ hI2) _ ?_
      intro ex fr' E' ro' a' w' hK hf' hr'
      cases ex with
      | n=>
        obtain ⟨fr3,E3,ro3,⟨m',hlt,hI3⟩,hf3,hr3⟩:=gh_sound hk0 hK rfl hf' hr'
        exact ⟨m',hlt,_,_,_,hI3,hf3,hr3⟩
      | e id=>exact hQ (.e id) _ _ _ _ _ hK hf' hr'
      | r=>exact hQ .r _ _ _ _ _ hK hf' hr'
    · cases hpc
  | region id ops draw=>
    intro pc hpc fr E ro a w K hf hr hv Q hQ
    simp only [tr] at hpc
    split at hpc
    · rename_i js hj
      have fin:∀ (js':List J),(∀ {fr1:Fr} {E1:Es} {ro1:RO},FRel N (gm E1) ro1 fr1 a->Rel X E1 ro1 w->vR Γ js' fr1 (hp E1) (K .n)->(Code.region id ops draw).wp P Q a w)->pc=(if h.gh id then .gh (.reg js') else .reg js')->(Code.region id ops draw).wp P Q a w:=fun js' hs hp'=>by
        subst hp'
        split at hv
        · simp only [vc] at hv
          obtain ⟨fr1,E1,ro1,hv1,hf1,hr1⟩:=gh_sound hk0 hv rfl hf hr
          exact hs hf1 hr1 hv1
        · simp only [vc] at hv
          exact hs hf hr hv
      by_cases hdr:draw=true
      · rw [if_pos hdr] at hpc
        by_cases hB:(P.follows .mixedOrders && (if js.all J.quietC then Region.lexB .any ops else Region.lexTailB .any ops (headLen js)))=true
        · rw [if_pos hB] at hpc
          exact fin js (fun hf1 hr1 hv1=>reg_sound hm hj (fun _=>hB) hf1 hr1 hv1 fun fr E ro a w hK hf hr=>hQ .n _ _ _ _ _ hK hf hr) (Option.some.inj hpc).symm
        · rw [if_neg hB] at hpc
          by_cases hB2:(P.follows .mixedOrders && lateB P ops (headC js))=true
          · rw [if_pos hB2] at hpc
            rw [Bool.and_eq_true] at hB2
            subst hdr
            exact fin (lateJs ops js) (fun hf1 hr1 hv1=>reg_late_sound hm hj hB2.1 hB2.2 hf1 hr1 hv1 fun fr E ro a w hK hf hr=>hQ .n _ _ _ _ _ hK hf hr) (Option.some.inj hpc).symm
          · rw [if_neg hB2] at hpc
            by_cases hB3:(P.follows .mixedOrders && earlyB P ops (headLen js))=true
            · rw [if_pos hB3] at hpc
              rw [Bool.and_eq_true] at hB3
              subst hdr
              exact fin js (fun hf1 hr1 hv1=>reg_early_sound hm hj hB3.1 hB3.2 hf1 hr1 hv1 fun fr E ro a w hK hf hr=>hQ .n _ _ _ _ _ hK hf hr) (Option.some.inj hpc).symm
            · rw [if_neg hB3] at hpc
              by_cases hB4:(P.follows .mixedOrders && ordB ops js)=true
              · rw [if_pos hB4] at hpc
                rw [Bool.and_eq_true] at hB4
                subst hdr
                obtain rfl:=(Option.some.inj hpc).symm
                have key:∀ {fr1:Fr} {E1:Es} {ro1:RO},FRel N (gm E1) ro1 fr1 a->Rel X E1 ro1 w->vO Γ (ordJs ops js [] [] (ordL ops js)) fr1 (hp E1) (K .n)->(Code.region id ops true).wp P Q a w:=fun hf1 hr1 hv1=>
                  reg_ord_sound hm (hh:=h.σ id) hB4.1 hB4.2 hf1 hr1 hv1 (fun fr E ro a w hK hf hr=>hQ .n _ _ _ _ _ hK hf hr) (fun i o ho=>by have:=trR_get hj i o ho; simpa using this)
                split at hv
                · simp only [vc] at hv
                  obtain ⟨fr1,E1,ro1,hv1,hf1,hr1⟩:=gh_sound hk0 hv rfl hf hr
                  exact key hf1 hr1 hv1
                · simp only [vc] at hv
                  exact key hf hr hv
              · rw [if_neg hB4] at hpc; cases hpc
      · rw [if_neg hdr] at hpc
        exact fin js (fun hf1 hr1 hv1=>reg_sound hm hj (fun h=>absurd h hdr) hf1 hr1 hv1 fun fr E ro a w hK hf hr=>hQ .n _ _ _ _ _ hK hf hr) (Option.some.inj hpc).symm
    · cases hpc
  | rangeFunc f ps x y=>intro pc hpc; simp [tr] at hpc
  | scope x=>intro pc hpc; simp [tr] at hpc
  | label l=>intro pc hpc; simp [tr] at hpc
  | goto l=>intro pc hpc; simp [tr] at hpc
  | refuse s=>intro pc hpc fr E ro a w K hf hr hv Q hQ; simp only [tr,Option.some.injEq] at hpc; subst hpc; exact hv.elim
def rvF (tmps:Array Value) (r:ResultVar):Sem Value:=
  match r with
  | .tmp t=>pure (tmps.getD t undef)
  | .cell c t=>do loadVar t (<-asAddr (tmps.getD c undef))
theorem results_rvF (fn:Func) (tmps:Array Value):results fn tmps=(do let vs <-fn.results.mapM (rvF tmps); pure (if h:vs.size=1 then vs[0] else .tuple vs)):=rfl
theorem rvs_sound {fr:Fr} {a:Act} {E:Es} {ro:RO} {w:World} (hf:FRel N (gm E) ro fr a) (hr:Rel X E ro w):∀ {rvs:List ResultVar} {rs:List RV} {K:List A->Prop},trRVs P rvs=some rs->vRs fr (hp E) rs K->
    ∃ l vs,K l/\(rvs.mapM (rvF a.tmps)).run P w=.ok vs w/\All2 (A.rel (gm E) ro) l vs
  | [],rs,K,h1,h2=>by
    simp only [trRVs,Option.some.injEq] at h1
    subst h1
    exact ⟨[],[],h2,by simp,.nil⟩
  | rv :: rvs,rs,K,h1,h2=>by
    simp only [trRVs] at h1
    split at h1
    · rename_i i rs' hi hrs
      simp only [Option.some.injEq] at h1
      subst h1
      have fin:∀ {y:A} {v:Value},(rvF a.tmps rv).run P w=.ok v w->y.rel (gm E) ro v->vRs fr (hp E) rs' (fun l=>K (y :: l))->∃ l vs,K l/\((rv :: rvs).mapM (rvF a.tmps)).run P w=.ok vs w/\All2 (A.rel (gm E) ro) l vs:=by
        intro y v hv hy hr'
        obtain ⟨l,vs,k1,k2,k3⟩:=rvs_sound hf hr hrs hr'
        exact ⟨_,v :: vs,k1,by simp only [List.mapM_cons,Sem.run_bind,hv,Result.andThen_ok,k2]; simp,.cons hy k3⟩
      cases rv with
      | tmp t=>
        simp only [trRV,Option.some.injEq] at hi
        subst hi
        simp only [vRs] at h2
        split at h2
        · rename_i y hy
          obtain ⟨hg,h2⟩:=h2
          have h3:=ev_rel hf.res (.tmp t)
          simp only [trO] at h3
          rw [<-ev_congr (fr:=fst fr) (fst_res hg),hy] at h3
          exact fin (v:=a.tmps.getD t undef) (by simp [rvF]) h3 h2
        · exact h2.elim
      | cell c t=>
        have hld:∀ {v:Value},(execOp a.eval { dst:=none,op:=.load t (.tmp c),type:=t,pos:="",after:=#[],guard:=none }).run P w=.ok (.value v) w->(rvF a.tmps (.cell c t)).run P w=.ok v w:=by
          intro v hv
          simp only [execOp,Instr.loadAt,Act.eval] at hv
          simp only [rvF]
          cases hp:a.tmps.getD c undef with
          | pointer p=>
            cases p with
            | none=>rw [hp] at hv; simp [Instr.sureAddr] at hv
            | some ad=>
              rw [hp] at hv
              simp only [Instr.sureAddr,asAddr] at hv ⊢
              simp only [pure_bind,Sem.run_bind] at hv ⊢
              cases hl:(loadVar t ad).run P w with
              | ok x w'=>rw [hl] at hv; simpa using hv
              | halt x w'=>rw [hl] at hv; simp at hv
          | _=>rw [hp] at hv; simp [Instr.sureAddr] at hv
        have hcase:∃ li,i=.ld li/\trL P (.load t (.tmp c))=some li:=by
          simp only [trRV] at hi
          simp only [trL]
          split at hi<;>simp only [Option.some.injEq,reduceCtorEq] at hi<;>subst hi<;>simp_all [trO]
        obtain ⟨li,rfl,hli⟩:=hcase
        obtain ⟨hg,h2⟩:=h2
        rw [l_congr (fst_res hg)] at h2
        obtain ⟨s,hK,v,hv,hrun⟩:=l_sound (P:=P) (o:={ dst:=none,op:=.load t (.tmp c),type:=t,pos:="",after:=#[],guard:=none }) hf.res hr hli h2
        cases s with
        | va y=>exact fin (hld (hrun X w hr)) hv hK
        | _=>exact hK.elim
    · cases h1
theorem meets_of {f:FuncId} {fn:Func} {c:Code} {pc:PC} {rs:List RV} {h:Hint} (hf:P.funcs[f]? = some fn) (hb:fn.body=some c) (hnm:(fn.name == "runtime.NumGoroutine")=false) (hN:fn.ntmps=N) (hpc:tr P nw N h c=some pc) (hrs:trRVs P fn.results.toList=some rs)
    (hm:MeetsAll P Γ) {s:Spec} (hlen:∀ az H K,s az H K->az.length<=N) (hs:∀ az H K,s az H K->vc Γ H.length pc (fr0 az) H (retK H.length rs K)):Meets P f s:=by
  refine ⟨by simp [enters,hf,hb,hnm],?_⟩
  intro az vs E ro w K hl hrel hr hsp
  have hlN:=hlen az (hp E) K hsp
  refine calls_of_wp hf hb ?_
  have hfr:FRel N (gm E) ro (fr0 az) { tmps:=vs.toArray ++ Array.replicate (fn.ntmps - vs.toArray.size) undef,defers:=[] }:=by
    refine ⟨by simp [hN]; omega,fun i=>?_,rfl⟩
    unfold fr0
    rw [List.getD_eq_getElem?_getD]
    cases hi:az[i]? with
    | none=>trivial
    | some x=>
      have hlt:i < vs.length:=by rw [<-hl]; exact (List.getElem?_eq_some_iff.1 hi).1
      have hv:vs[i]? = some vs[i]:=List.getElem?_eq_getElem hlt
      have:=hrel i x _ hi hv
      simp only [Option.getD_some]
      have he:(vs.toArray ++ Array.replicate (fn.ntmps - vs.toArray.size) undef).getD i undef=vs[i]:=by
        rw [Array.getD_eq_getD_getElem?,Array.getElem?_append_left (by simpa using hlt)]
        simp [hlt]
      simp only [he]
      exact this
  have hk0:(Ctx.mk w (blks E) ro (gm E)).g0.length=(hp E).length:=by simp [gm,hp]
  refine code_sound hm hk0 c pc hpc _ _ _ _ _ _ hfr hr (hs az (hp E) K hsp) _ ?_
  have fin:∀ fr' E' ro' a' w',vRs fr' (hp E') rs (fun l=>Fin (hp E).length K (tup l).nf (hp E'))->FRel N (gm E') ro' fr' a'->Rel ⟨w,blks E,ro,gm E⟩ E' ro' w'->
      a'.defers=[]/\∃ v,(results fn a'.tmps).run P w'=.ok v w'/\∃ r v' E'' ro'',Ending.returned v=.returned v'/\S.rel (gm E'') ro'' r v'/\K r (hp E'')/\Rel ⟨w,blks E,ro,gm E⟩ E'' ro'' w':=by
    intro fr' E' ro' a' w' h1 h4 h5
    obtain ⟨l,us,h3,hrun,hus⟩:=rvs_sound h4 h5 hrs h1
    refine ⟨h4.defers,(if h:us.toArray.size=1 then us.toArray[0] else .tuple us.toArray),?_,?_⟩
    · simp only [results_rvF,Array.mapM_eq_mapM_toList,Sem.run_bind,Sem.run_map,hrun,Result.andThen_ok,Sem.run_pure]
    · have hrel:(tup l).rel (gm E') ro' (if h:us.toArray.size=1 then us.toArray[0] else .tuple us.toArray):=by
        match l,us,hus with
        | [],us,hus=>have:=hus.nil_inv; subst this; exact ⟨[],rfl,.nil⟩
        | [y],us,hus=>
          obtain ⟨u,m',rfl,hy,hm'⟩:=hus.cons_inv
          have:=hm'.nil_inv
          subst this
          exact hy
        | y :: z :: r,us,hus=>
          have:¬ us.toArray.size=1:=by have:=hus.1; simp at this ⊢; omega
          rw [dif_neg this]
          exact ⟨us,rfl,hus⟩
      obtain ⟨r',E'',ro'',hK,hr',hR⟩:=fin_sound hk0 h3 rfl (S.rel_nf hrel) h5
      exact ⟨r',_,E'',ro'',rfl,hr',hK,hR⟩
  intro ex fr' E' ro' a' w' hK h4 h5
  cases ex with
  | n=>exact fin fr' E' ro' a' w' hK h4 h5
  | r=>exact fin fr' E' ro' a' w' hK h4 h5
  | e id=>exact hK.elim
end
def trFn (P:Program) (nw:Bool) (h:Hint) (fn:Func):Option (PC × List RV):=
  if fn.name == "runtime.NumGoroutine" then none else
  match fn.body with
  | some c=>match tr P nw fn.ntmps h c,trRVs P fn.results.toList with
    | some pc,some rs=>some (pc,rs)
    | _,_=>none
  | none=>none
theorem meets_fn {P:Program} {nw:Bool} {Γ:Env} {f:FuncId} {fn:Func} {pc:PC} {rs:List RV} {h:Hint} (hf:P.funcs[f]? = some fn) (hpc:trFn P nw h fn=some (pc,rs)) (n:Nat) (hn:n<=fn.ntmps)
    (hm:MeetsAll P Γ) {s:Spec} (hlen:∀ az H K,s az H K->az.length=n) (hs:∀ az H K,s az H K->vc Γ H.length pc (fr0 az) H (retK H.length rs K)):Meets P f s:=by
  unfold trFn at hpc
  split at hpc
  · cases hpc
  · rename_i hnm
    split at hpc
    · rename_i c hc
      split at hpc
      · rename_i pc' rs' h1 h2
        simp only [Option.some.injEq,Prod.mk.injEq] at hpc
        obtain ⟨rfl,rfl⟩:=hpc
        exact meets_of hf hc (by simpa using hnm) rfl h1 h2 hm (fun az H K hh=>by rw [hlen az H K hh]; exact hn) hs
      · cases hpc
    · cases hpc
def PC.hgh:PC->Bool
  | .gh _=>true
  | .seq x _=>x.hgh
  | _=>false
def PC.ungh:PC->PC
  | .gh x=>x
  | .seq x y=>.seq x.ungh y
  | x=>x
theorem vc_head {Γ:Env} {k0:Nat}:∀ {pc:PC} {fr:Fr} {H:Hp} {K:Ex->Fr->Hp->Prop},pc.hgh=true->Gh k0 (fun fr' H'=>vc Γ k0 pc.ungh fr' H' K) fr H->vc Γ k0 pc fr H K
  | .gh x,fr,H,K,_,h=>h
  | .seq x y,fr,H,K,hg,h=>vc_head (pc:=x) (K:=fun e fr' H'=>match e with | .n=>vc Γ k0 y fr' H' K | e=>K e fr' H') hg h
structure Tag {α:Type} (a:α):Type where
def vcn (Γ:Env) (k0:Nat) (x:PC) (fr:Fr) (H:Hp) (K:Ex->Fr->Hp->Prop) (_:Tag (Γ,x,fr,K)):Prop:=vc Γ k0 x fr H K
end Go.W
namespace Go.W
attribute [go_sem ↓] vJ0 vI callP cqP sp Fun.sp vRs rfn
@[go_sem ↓] theorem sp_s (s:Spec) (az':List S) (H:Hp) (K:S->Hp->Prop):(Entry.s s).sp az' H K=s az' H K:=rfl
@[go_sem ↓] theorem sp_f (p:Fun) (az':List S) (H:Hp) (K:S->Hp->Prop):(Entry.f p).sp az' H K=p.sp az' H K:=rfl
attribute [go_sem ↓] caps lkS lq vE vA vZ vL qv qc ev gv gds QI.sl LI.sl EI.sl O.sl O.sls O.slo O.slp tup
@[go_sem ↓] theorem put_at (fr:Fr) (d:Nat) (s:S) (i:Nat):put fr (some d) s i=if i=d then s else fr i:=rfl
@[go_sem ↓] theorem put_no (fr:Fr) (s:S) (i:Nat):put fr none s i=fr i:=rfl
@[go_sem ↓] theorem fst_at (fr:Fr) (i:Nat):fst fr i=(fr i).st:=rfl
@[go_sem ↓] theorem fr0_at (xs:List S) (i:Nat):fr0 xs i=xs.getD i .un:=rfl
attribute [go_sem] S.ofV A.ofV binI binIc binS binSc rowAt
attribute [go_sem] wr splice bdV bdC bnd rows okS oks eqC eqF fnOf Entry.f loc back pickH mergeH pubH san shuts shutss rff
section
variable {Γ:Env} {k0:Nat} {x y:PC} {fr:Fr} {H:Hp} {K:Ex->Fr->Hp->Prop} {id:Nat} {o:O} {js:List J}
@[go_sem ↓] theorem vR_nil (K:Fr->Hp->Prop):vR Γ [] fr H K=K fr H:=rfl
@[go_sem ↓] theorem vR_cons0 (K:Fr->Hp->Prop) (d:Option Nat) (i:I) (r:List J):vR Γ (⟨d,none,i⟩ :: r) fr H K=vJ0 Γ fr H (fun fr' H'=>vR Γ r fr' H' K) d i:=rfl
@[go_sem ↓] theorem vR_consg (K:Fr->Hp->Prop) (d:Option Nat) (sl:Nat) (want:Bool) (i:I) (r:List J):vR Γ (⟨d,some (sl,want),i⟩ :: r) fr H K=(match gv fr sl want with
    | none=>False
    | some g=>vJg Γ fr H (fun fr' H'=>vR Γ r fr' H' K) d sl want g i):=rfl
@[go_sem ↓] theorem vJg_q (K:Fr->Hp->Prop) (d:Option Nat) (sl:Nat) (want g:Bool) (i:QI):vJg Γ fr H K d sl want g (.q i)=(match qv (fst fr) H i with
    | some s=>(g=true->gds fr i.sl/\qc (fst fr) H i)/\K (put fr d (s.cnd g)) H
    | none=>g=false/\K (put fr d dum) H):=rfl
@[go_sem ↓] theorem vJg_ix (K:Fr->Hp->Prop) (d:Option Nat) (sl:Nat) (want g:Bool) (x y:O):vJg Γ fr H K d sl want g (.ix x y)=(match ev (fst fr) x,ev (fst fr) y with
    | .va (.c1 (.vl (.string s))),.va (.c1 (.vl (.int _ k)))=>(g=true->gds fr (x.sl ++ y.sl)/\0<=k/\k < (bl s).length)/\∀ c:UInt8,(g=true->(bl s)[k.toNat]? = some c)->K (put fr d (.cn g (.c1 (.vl (.int .u8 c.toNat))))) H
    | _,_=>g=false/\K (put fr d dum) H):=rfl
@[go_sem ↓] theorem vJg_l (K:Fr->Hp->Prop) (d:Option Nat) (sl:Nat) (want g:Bool) (i:LI):vJg Γ fr H K d sl want g (.l i)=(match lq (fst fr) H i with
    | some s=>(g=true->gds fr i.sl)/\K (put fr d (s.cnd g)) H
    | none=>(g=true->gds (rfn fr sl want) i.sl/\vL (fst (rfn fr sl want)) H i fun s=>K (put (rfn fr sl want) d s) H)/\(g=false->K (put (rff fr sl want) d dum) H)):=rfl
@[go_sem ↓] theorem vJg_pick (K:Fr->Hp->Prop) (d:Option Nat) (sl:Nat) (want g:Bool) (c x y:O):vJg Γ fr H K d sl want g (.pick c x y)=(match ev (fst fr) c,ev (fst fr) x,ev (fst fr) y with
    | .va (.c1 (.vl (.bool b))),.va ax,.va ay=>(g=true->gds fr c.sl/\(b=true->gds fr x.sl)/\(b=false->gds fr y.sl))/\K (put fr d (.cn g (mrg b ax ay))) H
    | _,_,_=>g=false/\K (put fr d dum) H):=rfl
@[go_sem ↓] theorem vJg_cq (K:Fr->Hp->Prop) (d:Option Nat) (sl:Nat) (want g:Bool) (f:FuncId) (xs:List O):vJg Γ fr H K d sl want g (.cq f xs)=cqP Γ fr H f xs (g=true) fun a=>K (put fr d (.cn g a)) H:=rfl
@[go_sem ↓] theorem vJg_e (K:Fr->Hp->Prop) (d:Option Nat) (sl:Nat) (want g:Bool) (i:EI):vJg Γ fr H K d sl want g (.e i)=((g=true->vI Γ (rfn fr sl want) H (fun s H'=>K (put (rfn fr sl want) d s) H') (.e i))/\(g=false->K (put (rff fr sl want) d dum) H)):=rfl
@[go_sem ↓] theorem vJg_cl (K:Fr->Hp->Prop) (d:Option Nat) (sl:Nat) (want g:Bool) (f:FuncId) (xs:List O) (σ:List Nat):vJg Γ fr H K d sl want g (.cl f xs σ)=((g=true->vI Γ (rfn fr sl want) H (fun s H'=>K (put (rfn fr sl want) d s) H') (.cl f xs σ))/\(g=false->K (put (rff fr sl want) d dum) H)):=rfl
@[go_sem ↓] theorem vJg_ca (K:Fr->Hp->Prop) (d:Option Nat) (sl:Nat) (want g:Bool) (f:O) (xs:List O) (σ:List Nat):vJg Γ fr H K d sl want g (.ca f xs σ)=((g=true->vI Γ (rfn fr sl want) H (fun s H'=>K (put (rfn fr sl want) d s) H') (.ca f xs σ))/\(g=false->K (put (rff fr sl want) d dum) H)):=rfl
def vcl (Γ:Env) (k0:Nat) (x:PC) (fr:Fr) (H:Hp) (K:Ex->Fr->Hp->Prop) (_:Tag (Γ,x,fr,K)):Prop:=vc Γ k0 (.loop x) fr H K
@[go_sem ↓] theorem vc_loop_fold:vc Γ k0 (.loop x) fr H K=vcl Γ k0 x fr H K ⟨⟩:=rfl
def vcg (Γ:Env) (k0:Nat) (x:PC) (fr:Fr) (H:Hp) (K:Ex->Fr->Hp->Prop) (_:Tag (Γ,x,fr,K)):Prop:=Gh k0 (fun fr' H'=>vc Γ k0 x fr' H' K) fr H
@[go_sem ↓] theorem vc_gh_fold:vc Γ k0 (.gh x) fr H K=vcg Γ k0 x fr H K ⟨⟩:=rfl
@[go_sem ↓] theorem vc_skip:vc Γ k0 .skip fr H K=K .n fr H:=rfl
@[go_sem ↓] theorem vc_seq:vc Γ k0 (.seq x y) fr H K=vc Γ k0 x fr H (fun e fr' H'=>match e with | .n=>vc Γ k0 y fr' H' K | e=>K e fr' H'):=rfl
@[go_sem ↓] theorem vc_reg:vc Γ k0 (.reg js) fr H K=vR Γ js fr H (K .n):=rfl
@[go_sem ↓] theorem vc_ord (l:List OJ):vc Γ k0 (.ord l) fr H K=vO Γ l fr H (K .n):=rfl
@[go_sem ↓] theorem vO_nil (K:Fr->Hp->Prop):vO Γ [] fr H K=K fr H:=rfl
@[go_sem ↓] theorem vO_q0 (K:Fr->Hp->Prop) (d:Nat) (i:I) (r:List OJ):vO Γ (.q ⟨some d,none,i⟩ :: r) fr H K=vJ0 Γ fr H (fun fr' _=>vO Γ r (put fr (some d) (fr' d)) H K) (some d) i:=rfl
@[go_sem ↓] theorem vO_qg (K:Fr->Hp->Prop) (d sl:Nat) (want:Bool) (i:I) (r:List OJ):vO Γ (.q ⟨some d,some (sl,want),i⟩ :: r) fr H K=(match gv fr sl want with
    | none=>False
    | some g=>vJg Γ fr H (fun fr' _=>vO Γ r (put fr (some d) (fr' d)) H K) (some d) sl want g i):=rfl
@[go_sem ↓] theorem vO_m0 (K:Fr->Hp->Prop) (d:Option Nat) (i:I) (r:List OJ):vO Γ (.m ⟨d,none,i⟩ :: r) fr H K=vJ0 Γ fr H (fun fr' H'=>vO Γ r fr' H' K) d i:=rfl
@[go_sem ↓] theorem vO_mg (K:Fr->Hp->Prop) (d:Option Nat) (sl:Nat) (want:Bool) (i:I) (r:List OJ):vO Γ (.m ⟨d,some (sl,want),i⟩ :: r) fr H K=(match gv fr sl want with
    | none=>False
    | some g=>vJg Γ fr H (fun fr' H'=>vO Γ r fr' H' K) d sl want g i):=rfl
@[go_sem ↓] theorem vO_rc0 (K:Fr->Hp->Prop) (d:Nat) (i:I) (r:List OJ):vO Γ (.rc ⟨some d,none,i⟩ :: r) fr H K=(vJ0 Γ fr H (fun fr' _=>fr' d=fr d) (some d) i/\vO Γ r fr H K):=rfl
@[go_sem ↓] theorem vO_rcg (K:Fr->Hp->Prop) (d sl:Nat) (want:Bool) (i:I) (r:List OJ):vO Γ (.rc ⟨some d,some (sl,want),i⟩ :: r) fr H K=((match gv fr sl want with
    | none=>False
    | some g=>vJg Γ fr H (fun fr' _=>fr' d=fr d) (some d) sl want g i)/\vO Γ r fr H K):=rfl
@[go_sem ↓] theorem vc_cond:vc Γ k0 (.cond o x y) fr H K=(match ev (fst fr) o with
    | .va (.c1 (.vl (.bool b)))=>gds fr o.sl/\(b=true->vc Γ k0 x fr H K)/\(b=false->vc Γ k0 y fr H K)
    | _=>False):=rfl
@[go_sem ↓] theorem vc_block:vc Γ k0 (.block id x) fr H K=vc Γ k0 x fr H (fun e fr' H'=>match e with | .e j=>if j=id then K .n fr' H' else K (.e j) fr' H' | e=>K e fr' H'):=rfl
@[go_sem ↓] theorem vc_exit:vc Γ k0 (.exit id) fr H K=K (.e id) fr H:=rfl
@[go_sem ↓] theorem vc_no:vc Γ k0 .no fr H K=False:=rfl
@[go_sem ↓] theorem vc_ret:vc Γ k0 .ret fr H K=K .r fr H:=rfl
def puts:List (Nat × S)->Fr
  | []=>fun _=>.un
  | (i,s) :: r=>put (puts r) (some i) s
def agree (L:Nat) (fr:Fr):List (Nat × S)->Prop
  | []=>True
  | (i,s) :: r=>(fr i).ren (san L)=s/\agree L fr r
@[go_sem ↓] theorem puts_at (l:List (Nat × S)) (i j:Nat) (s:S):puts ((j,s) :: l) i=if i=j then s else puts l i:=rfl
@[go_sem ↓] theorem puts_no (i:Nat):puts [] i=.un:=rfl
attribute [go_sem ↓] agree
theorem puts_wk {L:Nat}:∀ {l:List (Nat × S)} {fr:Fr},agree L fr l->∀ i,puts l i=(fr i).ren (san L)\/puts l i=.un
  | [],fr,_,i=>.inr rfl
  | (j,s) :: r,fr,h,i=>by
    simp only [puts,put]
    split
    · rename_i hi; subst hi; exact .inl h.1.symm
    · exact puts_wk h.2 i
def agree' (ns:List Nat) (fr:Fr):List (Nat × S)->Prop
  | []=>True
  | (i,s) :: r=>(fr i).ren (loc ns)=s/\agree' ns fr r
attribute [go_sem ↓] agree'
theorem puts_wk' {ns:List Nat}:∀ {l:List (Nat × S)} {fr:Fr},agree' ns fr l->∀ i,puts l i=(fr i).ren (loc ns)\/puts l i=.un
  | [],fr,_,i=>.inr rfl
  | (j,s) :: r,fr,h,i=>by
    simp only [puts,put]
    split
    · rename_i hi; subst hi; exact .inl h.1.symm
    · exact puts_wk' h.2 i
def loopK {α:Type} (k0:Nat) (up:α->List (Nat × S)) (Hs:α->Hp) (Inv:α->Prop) (μ:α->Nat) (z:α) (K:Ex->Fr->Hp->Prop):Ex->Fr->Hp->Prop
  | .n,fr',H'=>Gh k0 (fun fr'' H''=>∃ m',m' < μ z/\∃ z',Inv z'/\fr''=puts (up z')/\H''=Hs z'/\m'=μ z') fr' H'
  | e,fr',H'=>K e fr' H'
section
variable {α:Type} {up:α->List (Nat × S)} {Hs:α->Hp} {Inv:α->Prop} {μ:α->Nat} {z:α}
def NextR (k0:Nat) (up:α->List (Nat × S)) (Hs:α->Hp) (Inv:α->Prop) (μ:α->Nat) (z:α) (fr:Fr) (H:Hp) (_:Tag (up,Hs,Inv,μ,z,fr)):Prop:=
  Gh k0 (fun fr'' H''=>∃ m',m' < μ z/\∃ z',Inv z'/\fr''=puts (up z')/\H''=Hs z'/\m'=μ z') fr H
@[go_sem ↓] theorem loopK_n:loopK k0 up Hs Inv μ z K .n fr H=NextR k0 up Hs Inv μ z fr H ⟨⟩:=rfl
@[go_sem ↓] theorem loopK_e (j:Nat):loopK k0 up Hs Inv μ z K (.e j) fr H=K (.e j) fr H:=rfl
@[go_sem ↓] theorem loopK_r:loopK k0 up Hs Inv μ z K .r fr H=K .r fr H:=rfl
theorem loop_next (z':α) (L:Nat) (h1:Inv z') (h2:μ z' < μ z) (h3:agree L fr (up z')) (h4:(H.take L).map (B.ren (san L))=Hs z') (h0:k0<=L:=by decide):NextR k0 up Hs Inv μ z fr H ⟨⟩:=
  .cut L h0 (.wk _ (puts_wk h3) (.done ⟨_,h2,z',h1,rfl,h4,rfl⟩))
theorem vc_loop_gh (up:α->List (Nat × S)) (Hs:α->Hp) (Inv:α->Prop) (μ:α->Nat)
    (h0:Gh k0 (fun fr' H'=>∃ z,Inv z/\fr'=puts (up z)/\H'=Hs z) fr H)
    (step:∀ z,Inv z->vc Γ k0 x (puts (up z)) (Hs z) (loopK k0 up Hs Inv μ z K)):vcl Γ k0 x fr H K ⟨⟩:=by
  refine ⟨fun m fr' H'=>∃ z,Inv z/\fr'=puts (up z)/\H'=Hs z/\m=μ z,?_,?_⟩
  · clear step
    induction h0 with
    | done h=>obtain ⟨z,h1,h2,h3⟩:=h; exact .done ⟨_,z,h1,h2,h3,rfl⟩
    | wk fr' hw _ ih=>exact .wk fr' hw ih
    | cut k hk _ ih=>exact .cut k hk ih
    | sel ns h1 h2 h3 _ ih=>exact .sel ns h1 h2 h3 ih
    | kill n _ ih=>exact .kill n ih
    | nil sl T sz h _ ih=>exact .nil sl T sz h ih
    | nilc nm k T sz cs T' h1 h2 _ ih=>exact .nilc nm k T sz cs T' h1 h2 ih
    | nf sl _ ih=>exact .nf sl ih
    | pub n xs T sz h _ ih=>exact .pub n xs T sz h ih
    | opn n xs T sz h _ ih=>exact .opn n xs T sz h ih
    | nfr n xs T sz h _ ih=>exact .nfr n xs T sz h ih
    | shu n xs T sz h hs _ ih=>exact .shu n xs T sz h hs ih
  · rintro m fr' H' ⟨z,hI,rfl,rfl,rfl⟩
    have e:loopK k0 up Hs Inv μ z K=fun e fr' H'=>match e with
        | .n=>Gh k0 (fun fr'' H''=>∃ m',m' < μ z/\∃ z',Inv z'/\fr''=puts (up z')/\H''=Hs z'/\m'=μ z') fr' H'
        | e=>K e fr' H':=by
      funext e fr' H'; cases e<;>rfl
    have:=step z hI
    rw [e] at this
    exact this
theorem gh_at (z:α) (L:Nat) (h1:Inv z) (h2:agree L fr (up z)) (h3:(H.take L).map (B.ren (san L))=Hs z) (h0:k0<=L:=by decide):Gh k0 (fun fr' H'=>∃ z,Inv z/\fr'=puts (up z)/\H'=Hs z) fr H:=
  .cut L h0 (.wk _ (puts_wk h2) (.done ⟨z,h1,rfl,h3⟩))
theorem vc_loop (up:α->List (Nat × S)) (Hs:α->Hp) (Inv:α->Prop) (μ:α->Nat) (z:α) (L:Nat) (h1:Inv z) (h2:agree L fr (up z)) (h3:(H.take L).map (B.ren (san L))=Hs z)
    (step:∀ z,Inv z->vc Γ k0 x (puts (up z)) (Hs z) (loopK k0 up Hs Inv μ z K)) (h0:k0<=L:=by decide):vcl Γ k0 x fr H K ⟨⟩:=
  vc_loop_gh up Hs Inv μ (.cut L h0 (.wk _ (puts_wk h2) (.done ⟨z,h1,rfl,h3⟩))) step
end
theorem vc_tail {up:List (Nat × S)} {Hs:Hp} (L:Nat) (h:vc Γ k0 x.ungh (puts up) Hs K) (h1:agree L fr up) (h2:(H.take L).map (B.ren (san L))=Hs) (hg:x.hgh=true:=by rfl) (h0:k0<=L:=by decide):vcn Γ k0 x fr H K ⟨⟩:=
  vc_head hg (.cut L h0 (.wk _ (puts_wk h1) (.done (by rw [h2]; exact h))))
end
section
variable (a:A) (l:List A) (g:Bool) (c:C) (cs:List C) (f:Nat->Option Nat) (n b o i j sz len cap k m:Nat) (v:Value) (T:TypeId) (xs ys:List (List C)) (x y:A) (H:Hp)
@[go_sem] theorem st_va:(S.va a).st=.va a:=rfl
@[go_sem] theorem st_tu:(S.tu l).st=.tu l:=rfl
@[go_sem] theorem st_cn:(S.cn g a).st=.va a:=rfl
@[go_sem] theorem st_un:S.un.st=.un:=rfl
@[go_sem] theorem gd_va:(S.va a).gd=True:=rfl
@[go_sem] theorem gd_tu:(S.tu l).gd=True:=rfl
@[go_sem] theorem gd_cn:(S.cn g a).gd=(g=true):=rfl
@[go_sem] theorem gd_un:S.un.gd=True:=rfl
@[go_sem] theorem cnd_va:(S.va a).cnd g=.cn g a:=rfl
@[go_sem] theorem cnd_tu:(S.tu l).cnd g=.un:=rfl
@[go_sem] theorem cnd_un:S.un.cnd g=.un:=rfl
@[go_sem] theorem ren_va:(S.va a).ren f=.va (a.ren f):=rfl
@[go_sem] theorem ren_tu:(S.tu l).ren f=.tu (l.map (A.ren f)):=rfl
@[go_sem] theorem ren_cn:(S.cn g a).ren f=.cn g (a.ren f):=rfl
@[go_sem] theorem ren_un:S.un.ren f=.un:=rfl
@[go_sem] theorem ren_c1:(A.c1 c).ren f=.c1 (c.ren f):=rfl
@[go_sem] theorem ren_gs:(A.gs cs).ren f=.gs (cs.map (C.ren f)):=rfl
@[go_sem] theorem ren_no:C.no.ren f=.no:=rfl
@[go_sem] theorem ren_fn0 (k:FuncId):(C.fn k []).ren f=.fn k []:=rfl
@[go_sem] theorem ren_fn (k:FuncId) (l:List (Bool × List C)):(C.fn k l).ren f=.fn k (l.map fun x=>(x.1,x.2.map (C.ren0 f))):=rfl
@[go_sem] theorem ren_mp:(C.mp n).ren f=(match f n with | some m=>.mp m | none=>.no):=rfl
@[go_sem] theorem nf_mp:(C.mp n).nf=.mp n:=rfl
@[go_sem] theorem bor_mp:(C.mp n).bor H=.no:=rfl
@[go_sem] theorem pub_mp:(C.mp k).pub n xs=.mp k:=rfl
@[go_sem] theorem one_mp:(C.mp n).one=True:=rfl
@[go_sem] theorem isFn_mp:(C.mp n).isFn=false:=rfl
@[go_sem] theorem isFn_pt:(C.pt n o).isFn=false:=rfl
@[go_sem] theorem isFn_vl:(C.vl v).isFn=false:=rfl
@[go_sem] theorem isFn_fz:(C.fz xs).isFn=false:=rfl
@[go_sem] theorem isFn_sl:(C.sl n len).isFn=false:=rfl
@[go_sem] theorem ren0_no:C.no.ren0 f=.no:=rfl
@[go_sem] theorem ren0_vl:(C.vl v).ren0 f=.vl v:=rfl
@[go_sem] theorem ren0_fz:(C.fz xs).ren0 f=.fz xs:=rfl
@[go_sem] theorem ren0_pt:(C.pt n o).ren0 f=(match f n with | some m=>.pt m o | none=>.no):=rfl
@[go_sem] theorem ren0_sl:(C.sl n len).ren0 f=(match f n with | some m=>.sl m len | none=>.no):=rfl
@[go_sem] theorem ren0_mp:(C.mp n).ren0 f=(match f n with | some m=>.mp m | none=>.no):=rfl
@[go_sem] theorem bor0_vl:(C.vl v).bor0 H=.vl v:=rfl
@[go_sem] theorem bor0_fz:(C.fz xs).bor0 H=.fz xs:=rfl
@[go_sem] theorem bor0_pt:(C.pt n o).bor0 H=.no:=rfl
@[go_sem] theorem bor0_mp:(C.mp n).bor0 H=.no:=rfl
@[go_sem] theorem bor0_no:C.no.bor0 H=.no:=rfl
@[go_sem] theorem pub0_vl:(C.vl v).pub0 n xs=.vl v:=rfl
@[go_sem] theorem pub0_fz:(C.fz ys).pub0 n xs=.fz ys:=rfl
@[go_sem] theorem pub0_pt:(C.pt k o).pub0 n xs=.pt k o:=rfl
@[go_sem] theorem pub0_mp:(C.mp k).pub0 n xs=.mp k:=rfl
@[go_sem] theorem pub0_no:C.no.pub0 n xs=.no:=rfl
@[go_sem] theorem renB_map (kd:TypeDesc) (ks:List Value) (vs:List A):(B.map kd ks vs).ren f=.map kd ks (vs.map (A.ren f)):=rfl
@[go_sem] theorem pubB_map (kd:TypeDesc) (ks:List Value) (vs:List A):(B.map kd ks vs).pub n xs=.map kd ks (vs.map (A.pub n xs)):=rfl
@[go_sem] theorem capA_1:capA (false,[c])=.c1 c:=rfl
@[go_sem] theorem capA_n:capA (true,cs)=.gs cs:=rfl
@[go_sem] theorem key_int (k k':IntKind) (q:Int):MapKept.IsKey (.int k) (.int k' q)=(k'=k):=rfl
@[go_sem] theorem key_str (s:ByteArray):MapKept.IsKey .string (.string s)=True:=rfl
@[go_sem] theorem ren_vl:(C.vl v).ren f=.vl v:=rfl
@[go_sem] theorem ren_pt:(C.pt n o).ren f=(match f n with | some m=>.pt m o | none=>.no):=rfl
@[go_sem] theorem ren_sl:(C.sl n len).ren f=(match f n with | some m=>.sl m len | none=>.no):=rfl
@[go_sem] theorem ren_qt:(C.qt n len sz i j).ren f=(match f n with | some m=>.qt m len sz i j | none=>.no):=rfl
@[go_sem] theorem ren_dp:(C.dp n len).ren f=(match f n with | some m=>.dp m len | none=>.no):=rfl
@[go_sem] theorem nf_dp:(C.dp n len).nf=.dp n len:=rfl
@[go_sem] theorem ren_fz:(C.fz xs).ren f=.fz xs:=rfl
@[go_sem] theorem ren_fp:(C.fp cs j).ren f=.fp cs j:=rfl
@[go_sem] theorem renB_cells:(B.cells cs T).ren f=.cells (cs.map (C.ren f)) T:=rfl
@[go_sem] theorem renB_row:(B.row xs T sz).ren f=.row xs T sz:=rfl
@[go_sem] theorem renB_rowx:(B.rowx xs T sz).ren f=.rowx (xs.map fun r=>r.map (C.ren f)) T sz:=rfl
@[go_sem] theorem pubB_rowx:(B.rowx ys T sz).pub n xs=.rowx (ys.map fun r=>r.map (C.pub n xs)) T sz:=rfl
@[go_sem] theorem renB_dead:B.dead.ren f=.dead:=rfl
@[go_sem] theorem pub_va:(S.va a).pub n xs=.va (a.pub n xs):=rfl
@[go_sem] theorem pub_tu:(S.tu l).pub n xs=.tu (l.map (A.pub n xs)):=rfl
@[go_sem] theorem pub_cn:(S.cn g a).pub n xs=.cn g (a.pub n xs):=rfl
@[go_sem] theorem pub_un:S.un.pub n xs=.un:=rfl
@[go_sem] theorem pub_c1:(A.c1 c).pub n xs=.c1 (c.pub n xs):=rfl
@[go_sem] theorem pub_gs:(A.gs cs).pub n xs=.gs (cs.map (C.pub n xs)):=rfl
@[go_sem] theorem pub_vl:(C.vl v).pub n xs=.vl v:=rfl
@[go_sem] theorem pub_no:C.no.pub n xs=.no:=rfl
@[go_sem] theorem pub_pt:(C.pt k o).pub n xs=.pt k o:=rfl
@[go_sem] theorem pub_sl:(C.sl m len).pub n xs=if m=n then (if len=xs.length then .fz xs else .no) else .sl m len:=rfl
@[go_sem] theorem pub_fz:(C.fz ys).pub n xs=.fz ys:=rfl
@[go_sem] theorem pub_fp:(C.fp cs j).pub n xs=.fp cs j:=rfl
@[go_sem] theorem pubB_cells:(B.cells cs T).pub n xs=.cells (cs.map (C.pub n xs)) T:=rfl
@[go_sem] theorem pubB_row:(B.row ys T sz).pub n xs=.row ys T sz:=rfl
@[go_sem] theorem pubB_dead:B.dead.pub n xs=.dead:=rfl
@[go_sem] theorem nf_va:(S.va a).nf=.va a.nf:=rfl
@[go_sem] theorem nf_tu:(S.tu l).nf=.tu (l.map A.nf):=rfl
@[go_sem] theorem nf_cn:(S.cn g a).nf=.cn g a.nf:=rfl
@[go_sem] theorem nf_un:S.un.nf=.un:=rfl
@[go_sem] theorem nf_c1:(A.c1 c).nf=.c1 c.nf:=rfl
@[go_sem] theorem nf_gs:(A.gs cs).nf=.gs (cs.map C.nf):=rfl
@[go_sem] theorem nf_nil:(C.vl (.slice none 0 0)).nf=.fz []:=rfl
@[go_sem] theorem nf_int (k:IntKind) (z:Int):(C.vl (.int k z)).nf=.vl (.int k z):=rfl
@[go_sem] theorem nf_bool:(C.vl (.bool g)).nf=.vl (.bool g):=rfl
@[go_sem] theorem nf_str (s:ByteArray):(C.vl (.string s)).nf=.vl (.string s):=rfl
@[go_sem] theorem nf_ptr (p:Option Addr):(C.vl (.pointer p)).nf=.vl (.pointer p):=rfl
@[go_sem] theorem nf_map (p:Option Nat):(C.vl (.map p)).nf=.vl (.map p):=rfl
@[go_sem] theorem nf_ni:(C.vl .nilIface).nf=.vl .nilIface:=rfl
@[go_sem] theorem nf_nfn:(C.vl .nilFunc).nf=.vl .nilFunc:=rfl
@[go_sem] theorem nf_no:C.no.nf=.no:=rfl
@[go_sem] theorem nf_pt:(C.pt n o).nf=.pt n o:=rfl
@[go_sem] theorem nf_sl:(C.sl n len).nf=.sl n len:=rfl
@[go_sem] theorem nf_qt:(C.qt n len sz i j).nf=.qt n len sz i j:=rfl
@[go_sem] theorem nf_fz:(C.fz xs).nf=.fz xs:=rfl
@[go_sem] theorem nf_fp:(C.fp cs j).nf=.fp cs j:=rfl
@[go_sem] theorem nf_fn (q:FuncId) (ns:List (Bool × List C)):(C.fn q ns).nf=.fn q ns:=rfl
@[go_sem] theorem bor_va:(S.va a).bor H=.va (a.bor H):=rfl
@[go_sem] theorem bor_tu:(S.tu l).bor H=.un:=rfl
@[go_sem] theorem bor_un:S.un.bor H=.un:=rfl
@[go_sem] theorem bor_c1:(A.c1 c).bor H=.c1 (c.bor H):=rfl
@[go_sem] theorem bor_gs:(A.gs cs).bor H=.gs (cs.map (C.bor H)):=rfl
@[go_sem] theorem bor_vl:(C.vl v).bor H=.vl v:=rfl
@[go_sem] theorem bor_no:C.no.bor H=.no:=rfl
@[go_sem] theorem bor_pt:(C.pt n o).bor H=.no:=rfl
@[go_sem] theorem bor_sl:(C.sl n len).bor H=(match H[n]? with
    | some (.row xs _ _)=>if len=xs.length then .fz xs else .no
    | _=>.no):=rfl
@[go_sem] theorem bor_fz:(C.fz xs).bor H=.fz xs:=rfl
@[go_sem] theorem bor_fp:(C.fp cs j).bor H=.fp cs j:=rfl
@[go_sem] theorem bor_fn (q:FuncId) (l:List (Bool × List C)):(C.fn q l).bor H=.fn q (l.map fun x=>(x.1,x.2.map (C.bor0 H))):=rfl
@[go_sem] theorem pub_fn (q:FuncId) (l:List (Bool × List C)):(C.fn q l).pub n xs=.fn q (l.map fun x=>(x.1,x.2.map (C.pub0 n xs))):=rfl
@[go_sem] theorem ok_c1:(A.c1 c).ok=c.one:=rfl
@[go_sem] theorem ok_gs:(A.gs cs).ok=True:=rfl
@[go_sem] theorem cells_c1:(A.c1 c).cells=[c]:=rfl
@[go_sem] theorem cells_gs:(A.gs cs).cells=cs:=rfl
@[go_sem] theorem one_pt:(C.pt n o).one=True:=rfl
@[go_sem] theorem one_sl:(C.sl n len).one=True:=rfl
@[go_sem] theorem one_qt:(C.qt n len sz i j).one=True:=rfl
@[go_sem] theorem one_fz:(C.fz xs).one=True:=rfl
@[go_sem] theorem one_fp:(C.fp cs j).one=True:=rfl
@[go_sem] theorem one_fn (q:FuncId) (ns:List (Bool × List C)):(C.fn q ns).one=True:=rfl
@[go_sem] theorem one_int (k:IntKind) (n:Int):(C.vl (.int k n)).one=True:=by simp [C.one,Value.oneCell']
@[go_sem] theorem one_bool (b:Bool):(C.vl (.bool b)).one=True:=by simp [C.one,Value.oneCell']
@[go_sem] theorem one_string (s:ByteArray):(C.vl (.string s)).one=True:=by simp [C.one,Value.oneCell']
@[go_sem] theorem one_pointer (p:Option Addr):(C.vl (.pointer p)).one=True:=by simp [C.one,Value.oneCell']
@[go_sem] theorem one_slice (p:Option Addr):(C.vl (.slice p n m)).one=True:=by simp [C.one,Value.oneCell']
@[go_sem] theorem one_map (p:Option Nat):(C.vl (.map p)).one=True:=by simp [C.one,Value.oneCell']
@[go_sem] theorem shut_vl:(C.vl v).shut=true:=rfl
@[go_sem] theorem shut_fz:(C.fz xs).shut=true:=rfl
@[go_sem] theorem mrg_b (p q r:Bool):mrg p (.c1 (.vl (.bool q))) (.c1 (.vl (.bool r)))=.c1 (.vl (.bool (bif p then q else r))):=rfl
@[go_sem] theorem mrg_t:mrg true x y=x:=by unfold mrg; split<;>rfl
@[go_sem] theorem mrg_f:mrg false x y=y:=by unfold mrg; split<;>rfl
@[go_sem ↓] theorem ret_n (k0:Nat) (rs:List RV) (K:S->Hp->Prop) (fr:Fr) (H:Hp):retK k0 rs K .n fr H=vRs fr H rs fun l=>Fin k0 K (tup l).nf H:=rfl
@[go_sem ↓] theorem ret_r (k0:Nat) (rs:List RV) (K:S->Hp->Prop) (fr:Fr) (H:Hp):retK k0 rs K .r fr H=vRs fr H rs fun l=>Fin k0 K (tup l).nf H:=rfl
@[go_sem ↓] theorem ret_e (k0:Nat) (rs:List RV) (K:S->Hp->Prop) (id:Nat) (fr:Fr) (H:Hp):retK k0 rs K (.e id) fr H=False:=rfl
end
@[go_sem ↓] theorem all_map {α:Type} (l:List α) (f:α->List C) (i:Nat) (p:List C->Prop):(∀ r,(l.map f)[i]? = some r->p r) ↔ ∀ x,l[i]? = some x->p (f x):=by
  simp only [List.getElem?_map,Option.map_eq_some_iff]
  exact ⟨fun h x hx=>h _ ⟨x,hx,rfl⟩,fun h r ⟨x,hx,e⟩=>by subst e; exact h x hx⟩
attribute [go_sem ↓] PC.ungh
@[go_sem ↓] theorem tt_and (A B:Prop):((true=true->A)/\(true=false->B))=A:=by simp
@[go_sem ↓] theorem ff_and (A B:Prop):((false=true->A)/\(false=false->B))=B:=by simp
theorem imp_dup (p q:Prop):(p->p/\q) ↔ (p->q):=⟨fun h hp=>(h hp).2,fun h hp=>⟨hp,h hp⟩⟩
attribute [go_sem] imp_dup and_self Bool.not_eq_true'
attribute [go_sem] bl_mk mk_bl dum List.length_map List.map_append List.length_append
attribute [go_sem ↓] reduceIte
attribute [go_sem] reduceIte Nat.reduceEqDiff List.getD_cons_zero List.getD_cons_succ List.append_nil true_and and_true Option.map_some Option.map_none reduceCtorEq forall_const beq_true beq_false implies_true imp_self List.nil_append List.cons_append List.getElem?_cons_zero List.getElem?_cons_succ List.getElem?_nil
attribute [go_sem] Option.getD_some Option.getD_none List.map_cons List.map_nil List.length_cons List.length_nil Option.some.injEq false_implies true_implies List.nodup_nil List.nodup_cons List.not_mem_nil List.mem_cons or_false false_or not_false_eq_true List.set_cons_zero List.set_cons_succ List.headD_cons List.headD_nil List.tail_cons List.tail_nil
attribute [go_sem] Nat.zero_add Nat.add_zero List.take_zero List.take_succ_cons List.drop_zero List.drop_succ_cons Nat.reduceAdd Nat.reduceSub Nat.reduceLeDiff Nat.reduceLT Nat.reduceMul List.take_nil List.drop_nil Bool.cond_true Bool.cond_false beq_self_eq_true Bool.true_and Bool.and_true Bool.not_true Bool.not_false Option.isSome_some Option.isSome_none
attribute [go_sem] forall_eq forall_eq_or_imp Int.toNat_natCast List.take_length Int.reduceToNat Int.reduceNeg
theorem fin_eq {k0:Nat} {K:S->Hp->Prop} {r r':S} {H:Hp} (h:K r H) (e:r'=r):Fin k0 K r' H:=by rw [e]; exact .done h
@[simp] theorem cond_or (b x:Bool):(bif b then true else x)=(b || x):=by cases b<;>rfl
@[simp] theorem cond_and (b x:Bool):(bif b then x else false)=(b && x):=by cases b<;>rfl
attribute [go_sem] cond_or cond_and
theorem getD_some {α:Type} {l:List α} {i:Nat} (d:α) (h:i < l.length):l[i]? = some (l.getD i d):=by rw [List.getD,List.getElem?_eq_getElem h]; rfl
@[go_sem] theorem inr_i64 (n:Int):inr .i64 n ↔ -9223372036854775808<=n/\n<=9223372036854775807:=by
  simp [inr,IntKind.min,IntKind.max,IntKind.signed,IntKind.bits]
@[go_sem] theorem inr_u64 (n:Int):inr .u64 n ↔ 0<=n/\n<=18446744073709551615:=by
  simp [inr,IntKind.min,IntKind.max,IntKind.signed,IntKind.bits]
@[go_sem] theorem inr_i32 (n:Int):inr .i32 n ↔ -2147483648<=n/\n<=2147483647:=by
  simp [inr,IntKind.min,IntKind.max,IntKind.signed,IntKind.bits]
@[go_sem] theorem inr_u32 (n:Int):inr .u32 n ↔ 0<=n/\n<=4294967295:=by
  simp [inr,IntKind.min,IntKind.max,IntKind.signed,IntKind.bits]
@[go_sem] theorem inr_u8 (n:Int):inr .u8 n ↔ 0<=n/\n<=255:=by
  simp [inr,IntKind.min,IntKind.max,IntKind.signed,IntKind.bits]
@[go_sem] theorem inr_i8 (n:Int):inr .i8 n ↔ -128<=n/\n<=127:=by
  simp [inr,IntKind.min,IntKind.max,IntKind.signed,IntKind.bits]
@[go_sem] theorem inr_u16 (n:Int):inr .u16 n ↔ 0<=n/\n<=65535:=by
  simp [inr,IntKind.min,IntKind.max,IntKind.signed,IntKind.bits]
@[go_sem] theorem inr_i16 (n:Int):inr .i16 n ↔ -32768<=n/\n<=32767:=by
  simp [inr,IntKind.min,IntKind.max,IntKind.signed,IntKind.bits]
theorem inr64 {n:Int} (h1:-9223372036854775808<=n) (h2:n<=9223372036854775807):inr .i64 n:=by
  simp [inr,IntKind.min,IntKind.max,IntKind.signed,IntKind.bits]; omega
theorem byte_all {p:UInt8->Bool} (h:(List.range 256).all (fun n=>p (UInt8.ofNat n))=true) (c:UInt8):p c=true:=by
  have:=List.all_eq_true.1 h c.toNat (by simpa using c.toNat_lt)
  simpa using this
end Go.W
namespace Go.Proofs.YtbcnggkldclemaaGreat
open Go.W
def pc25:PC:=.seq (.reg [⟨some 4,none,.q (.mv (.k (.bool false)))⟩]) (.seq (.reg [⟨some 5,none,.q (.mv (.t 0))⟩,⟨some 6,none,.q (.mv (.t 1))⟩,⟨some 7,none,.cq 54 [(.t 5),(.t 6)]⟩,⟨some 8,none,.q (.bin .geq true (.t 7) (.k (.int .i64 0)))⟩,⟨some 4,none,.q (.mv (.t 8))⟩]) .ret)
def rs25:List RV:=[.mv (.t 4)]
theorem ok25:trFn Tryz.prog true ⟨fun r k=>if r=1/\k=2 then .q else .own [],fun _=>false⟩ Tryz.f25=some (pc25,rs25):=by kernel_rfl
def pc31:PC:=.seq (.reg [⟨some 1,none,.e (.bx 25 (.t 0))⟩,⟨some 2,none,.q (.mv (.k (.bool false)))⟩]) (.seq (.seq (.reg [⟨some 7,none,.q (.fa 1 (.t 1))⟩,⟨some 8,none,.l (.ld1 (.t 7))⟩,⟨some 9,none,.q (.lnL (.t 8))⟩,⟨some 10,none,.q (.bin .gtr true (.t 9) (.k (.int .i64 16)))⟩,⟨some 11,none,.q (.mv (.t 10))⟩,⟨some 12,(some (11,false)),.q (.fa 2 (.t 1))⟩,⟨some 13,(some (11,false)),.l (.ld1 (.t 12))⟩,⟨some 14,(some (11,false)),.q (.lnL (.t 13))⟩,⟨some 15,(some (11,false)),.q (.fa 1 (.t 1))⟩,⟨some 16,(some (11,false)),.l (.ld1 (.t 15))⟩,⟨some 17,(some (11,false)),.q (.lnL (.t 16))⟩,⟨some 18,(some (11,false)),.q (.bin .sub true (.k (.int .i64 16)) (.t 17))⟩,⟨some 19,(some (11,false)),.q (.bin .gtr true (.t 14) (.t 18))⟩,⟨some 20,none,.pick (.t 11) (.k (.bool true)) (.t 19)⟩]) (.cond (.t 20) (.seq (.reg [⟨some 2,none,.q (.mv (.k (.bool true)))⟩]) .ret) .skip)) (.seq (.seq (.reg [⟨some 21,none,.q (.fa 1 (.t 1))⟩,⟨some 22,none,.l (.ld1 (.t 21))⟩,⟨some 23,none,.q (.lnL (.t 22))⟩,⟨some 24,none,.q (.mv (.k (.int .i64 0)))⟩]) (.block 0 (.loop (.seq (.reg [⟨some 25,none,.q (.bin .lss true (.t 24) (.t 23))⟩]) (.seq (.cond (.t 25) .skip (.exit 0)) (.seq (.block 1 (.seq (.reg [⟨some 26,none,.l (.ia 3 (.t 22) (.t 24))⟩,⟨some 27,none,.l (.ldn 3 (.t 26))⟩,⟨some 4,none,.e (.al (.agg #[(.string (mk [])),(.slice none 0 0),(.slice none 0 0)]) 60)⟩,⟨none,none,.e (.st 3 (.t 4) (.t 27))⟩]) (.seq (.reg [⟨some 28,none,.q (.fa 1 (.t 4))⟩,⟨some 29,none,.l (.ld1 (.t 28))⟩,⟨some 30,none,.q (.lnL (.t 29))⟩,⟨some 31,none,.q (.bin .gtr true (.t 30) (.k (.int .i64 16)))⟩]) (.cond (.t 31) (.seq (.reg [⟨some 2,none,.q (.mv (.k (.bool true)))⟩]) .ret) .skip)))) (.reg [⟨some 32,none,.q (.bin .add true (.t 24) (.k (.int .i64 1)))⟩,⟨some 24,none,.q (.mv (.t 32))⟩]))))))) (.seq (.seq (.reg [⟨some 33,none,.q (.fa 2 (.t 1))⟩,⟨some 34,none,.l (.ld1 (.t 33))⟩,⟨some 35,none,.q (.lnL (.t 34))⟩,⟨some 36,none,.q (.mv (.k (.int .i64 0)))⟩]) (.block 2 (.loop (.seq (.reg [⟨some 37,none,.q (.bin .lss true (.t 36) (.t 35))⟩]) (.seq (.cond (.t 37) .skip (.exit 2)) (.seq (.block 3 (.seq (.reg [⟨some 38,none,.l (.ia 2 (.t 34) (.t 36))⟩,⟨some 39,none,.l (.ldn 2 (.t 38))⟩,⟨some 6,none,.e (.al (.agg #[(.string (mk [])),(.slice none 0 0)]) 45)⟩,⟨none,none,.e (.st 2 (.t 6) (.t 39))⟩]) (.seq (.reg [⟨some 40,none,.q (.fa 1 (.t 6))⟩,⟨some 41,none,.l (.ld1 (.t 40))⟩,⟨some 42,none,.q (.lnL (.t 41))⟩,⟨some 43,none,.q (.bin .gtr true (.t 42) (.k (.int .i64 16)))⟩]) (.cond (.t 43) (.seq (.reg [⟨some 2,none,.q (.mv (.k (.bool true)))⟩]) .ret) .skip)))) (.reg [⟨some 44,none,.q (.bin .add true (.t 36) (.k (.int .i64 1)))⟩,⟨some 36,none,.q (.mv (.t 44))⟩]))))))) (.seq (.reg [⟨some 2,none,.q (.mv (.k (.bool false)))⟩]) .ret))))
def rs31:List RV:=[.mv (.t 2)]
theorem ok31:trFn Tryz.prog true ⟨fun _ _=>.own [],fun _=>false⟩ Tryz.f31=some (pc31,rs31):=by kernel_rfl
def pc32:PC:=.seq (.reg [⟨some 2,none,.q (.mv (.k (.bool false)))⟩]) (.seq (.reg [⟨some 3,none,.q (.mv (.t 0))⟩,⟨some 4,none,.cq 59 [(.t 3)]⟩,⟨some 5,none,.q (.mv (.t 4))⟩,⟨some 6,(some (5,true)),.q (.mv (.t 0))⟩,⟨some 7,(some (5,true)),.ix (.t 6) (.k (.int .i64 0))⟩,⟨some 8,(some (5,true)),.q (.bin .geq true (.t 7) (.k (.int .u8 65)))⟩,⟨some 9,none,.pick (.t 5) (.t 8) (.k (.bool false))⟩,⟨some 10,none,.q (.mv (.t 9))⟩,⟨some 11,(some (10,true)),.q (.mv (.t 0))⟩,⟨some 12,(some (10,true)),.ix (.t 11) (.k (.int .i64 0))⟩,⟨some 13,(some (10,true)),.q (.bin .leq true (.t 12) (.k (.int .u8 90)))⟩,⟨some 14,none,.pick (.t 10) (.t 13) (.k (.bool false))⟩,⟨some 2,none,.q (.mv (.t 14))⟩]) .ret)
def rs32:List RV:=[.mv (.t 2)]
theorem ok32:trFn Tryz.prog true ⟨fun r k=>if r=1/\k=1 then .q else .own [],fun _=>false⟩ Tryz.f32=some (pc32,rs32):=by kernel_rfl
def pc33:PC:=.seq (.reg [⟨some 1,none,.e (.bx 60 (.t 0))⟩,⟨some 2,none,.q (.mv (.k (.int .i64 0)))⟩]) (.seq (.seq (.reg [⟨some 6,none,.q (.fa 1 (.t 1))⟩,⟨some 7,none,.l (.ld1 (.t 6))⟩,⟨some 8,none,.q (.lnL (.t 7))⟩,⟨some 9,none,.q (.bin .eql true (.t 8) (.k (.int .i64 0)))⟩,⟨some 10,none,.q (.mv (.t 9))⟩,⟨some 11,(some (10,false)),.q (.fa 1 (.t 1))⟩,⟨some 12,(some (10,false)),.l (.ld1 (.t 11))⟩,⟨some 13,(some (10,false)),.q (.lnL (.t 12))⟩,⟨some 14,(some (10,false)),.q (.fa 2 (.t 1))⟩,⟨some 15,(some (10,false)),.l (.ld1 (.t 14))⟩,⟨some 16,(some (10,false)),.q (.lnL (.t 15))⟩,⟨some 17,(some (10,false)),.q (.bin .neq true (.t 13) (.t 16))⟩,⟨some 18,none,.pick (.t 10) (.k (.bool true)) (.t 17)⟩]) (.cond (.t 18) (.seq (.reg [⟨some 2,none,.q (.mv (.k (.int .i64 2)))⟩]) .ret) .skip)) (.seq (.seq (.reg [⟨some 19,none,.q (.fa 1 (.t 1))⟩,⟨some 20,none,.l (.ld1 (.t 19))⟩,⟨some 21,none,.q (.lnL (.t 20))⟩,⟨some 22,none,.q (.mv (.k (.int .i64 0)))⟩]) (.block 0 (.loop (.seq (.reg [⟨some 23,none,.q (.bin .lss true (.t 22) (.t 21))⟩]) (.seq (.cond (.t 23) .skip (.exit 0)) (.seq (.block 1 (.seq (.reg [⟨some 24,none,.q (.mv (.t 22))⟩,⟨some 25,none,.l (.ia 1 (.t 20) (.t 22))⟩,⟨some 26,none,.l (.ld1 (.t 25))⟩,⟨some 3,none,.q (.mv (.t 24))⟩,⟨some 4,none,.q (.mv (.t 26))⟩]) (.seq (.reg [⟨some 27,none,.q (.fa 2 (.t 1))⟩,⟨some 28,none,.l (.ld1 (.t 27))⟩,⟨some 29,none,.q (.mv (.t 3))⟩,⟨some 30,none,.l (.ia 1 (.t 28) (.t 29))⟩,⟨some 31,none,.l (.ld1 (.t 30))⟩,⟨some 5,none,.q (.mv (.t 31))⟩]) (.block 2 (.seq (.reg [⟨some 33,none,.q (.mv (.t 4))⟩,⟨some 34,none,.cq 59 [(.t 33)]⟩,⟨some 35,none,.q (.not (.t 34))⟩,⟨some 32,none,.q (.mv (.t 35))⟩]) (.cond (.t 32) (.seq (.reg [⟨some 2,none,.q (.mv (.k (.int .i64 5)))⟩]) .ret) (.seq (.reg [⟨some 37,none,.q (.fa 1 (.t 1))⟩,⟨some 38,none,.l (.ld1 (.t 37))⟩,⟨some 39,none,.q (.mv (.t 3))⟩,⟨some 40,none,.q (.sf 1 (.t 38) none (some (.t 39)))⟩,⟨some 41,none,.q (.mv (.t 4))⟩,⟨some 42,none,.cq 50 [(.t 40),(.t 41)]⟩,⟨some 36,none,.q (.mv (.t 42))⟩]) (.cond (.t 36) (.seq (.reg [⟨some 2,none,.q (.mv (.k (.int .i64 7)))⟩]) .ret) (.seq (.reg [⟨some 44,none,.q (.mv (.t 5))⟩,⟨some 45,none,.q (.bin .lss true (.t 44) (.k (.int .i64 0)))⟩,⟨some 46,none,.q (.mv (.t 45))⟩,⟨some 47,(some (46,false)),.q (.mv (.t 5))⟩,⟨some 48,(some (46,false)),.q (.bin .gtr true (.t 47) (.k (.int .i64 127)))⟩,⟨some 49,none,.pick (.t 46) (.k (.bool true)) (.t 48)⟩,⟨some 43,none,.q (.mv (.t 49))⟩]) (.cond (.t 43) (.seq (.reg [⟨some 2,none,.q (.mv (.k (.int .i64 4)))⟩]) .ret) (.seq (.reg [⟨some 51,none,.q (.mv (.t 3))⟩,⟨some 52,none,.q (.bin .eql true (.t 51) (.k (.int .i64 0)))⟩,⟨some 53,none,.q (.mv (.t 52))⟩,⟨some 54,(some (53,true)),.q (.mv (.t 5))⟩,⟨some 55,(some (53,true)),.q (.bin .neq true (.t 54) (.k (.int .i64 0)))⟩,⟨some 56,none,.pick (.t 53) (.t 55) (.k (.bool false))⟩,⟨some 57,none,.q (.mv (.t 56))⟩,⟨some 58,(some (57,false)),.q (.mv (.t 3))⟩,⟨some 59,(some (57,false)),.q (.bin .gtr true (.t 58) (.k (.int .i64 0)))⟩,⟨some 60,(some (57,false)),.q (.mv (.t 59))⟩,⟨some 61,(some (60,true)),.q (.mv (.t 5))⟩,⟨some 62,(some (60,true)),.q (.fa 2 (.t 1))⟩,⟨some 63,(some (60,true)),.l (.ld1 (.t 62))⟩,⟨some 64,(some (60,true)),.q (.mv (.t 3))⟩,⟨some 65,(some (60,true)),.q (.bin .sub true (.t 64) (.k (.int .i64 1)))⟩,⟨some 66,(some (60,true)),.l (.ia 1 (.t 63) (.t 65))⟩,⟨some 67,(some (60,true)),.l (.ld1 (.t 66))⟩,⟨some 68,(some (60,true)),.q (.bin .leq true (.t 61) (.t 67))⟩,⟨some 69,(some (57,false)),.pick (.t 60) (.t 68) (.k (.bool false))⟩,⟨some 70,none,.pick (.t 57) (.k (.bool true)) (.t 69)⟩,⟨some 50,none,.q (.mv (.t 70))⟩]) (.cond (.t 50) (.seq (.reg [⟨some 2,none,.q (.mv (.k (.int .i64 2)))⟩]) .ret) .skip)))))))))))) (.reg [⟨some 71,none,.q (.bin .add true (.t 22) (.k (.int .i64 1)))⟩,⟨some 22,none,.q (.mv (.t 71))⟩]))))))) (.seq (.reg [⟨some 2,none,.q (.mv (.k (.int .i64 0)))⟩]) .ret)))
def rs33:List RV:=[.mv (.t 2)]
theorem ok33:trFn Tryz.prog true ⟨fun r k=>if r=7/\k=1 then .q else if r=9/\k=5 then .q else .own [],fun _=>false⟩ Tryz.f33=some (pc33,rs33):=by kernel_rfl
def pc34:PC:=.seq (.reg [⟨some 1,none,.e (.bx 25 (.t 0))⟩,⟨some 2,none,.e (.al (.agg #[(.map none),(.map none)]) 81)⟩]) (.seq (.reg [⟨some 6,none,.e (.mm .string)⟩,⟨some 7,none,.e (.mm .string)⟩,⟨some 8,none,.q (.bd [(.map none),(.map none)] [(0,1,(.t 6)),(1,1,(.t 7))])⟩,⟨some 3,none,.e (.al (.agg #[(.map none),(.map none)]) 81)⟩,⟨none,none,.e (.st 2 (.t 3) (.t 8))⟩]) (.seq (.seq (.reg [⟨some 9,none,.q (.fa 2 (.t 1))⟩,⟨some 10,none,.l (.ld1 (.t 9))⟩,⟨some 11,none,.q (.lnL (.t 10))⟩,⟨some 12,none,.q (.bin .sub true (.t 11) (.k (.int .i64 1)))⟩,⟨some 4,none,.q (.mv (.t 12))⟩]) (.block 0 (.loop (.seq (.seq (.reg [⟨some 13,none,.q (.mv (.t 4))⟩,⟨some 14,none,.q (.bin .geq true (.t 13) (.k (.int .i64 0)))⟩]) (.cond (.t 14) .skip (.exit 0))) (.seq (.block 1 (.reg [⟨some 17,none,.q (.fa 0 (.t 3))⟩,⟨some 18,none,.l (.ld1 (.t 17))⟩,⟨some 19,none,.q (.fa 2 (.t 1))⟩,⟨some 20,none,.l (.ld1 (.t 19))⟩,⟨some 21,none,.q (.mv (.t 4))⟩,⟨some 22,none,.l (.ia 2 (.t 20) (.t 21))⟩,⟨some 23,none,.q (.fa 0 (.t 22))⟩,⟨some 24,none,.l (.ld1 (.t 23))⟩,⟨some 25,none,.q (.fa 2 (.t 1))⟩,⟨some 26,none,.l (.ld1 (.t 25))⟩,⟨some 27,none,.q (.mv (.t 4))⟩,⟨some 28,none,.l (.ia 2 (.t 26) (.t 27))⟩,⟨some 29,none,.l (.ldn 2 (.t 28))⟩,⟨none,none,.e (.mu .string (.t 18) (.t 24) (.t 29))⟩])) (.reg [⟨some 15,none,.q (.mv (.t 4))⟩,⟨some 16,none,.q (.bin .sub true (.t 15) (.k (.int .i64 1)))⟩,⟨some 4,none,.q (.mv (.t 16))⟩])))))) (.seq (.seq (.reg [⟨some 30,none,.q (.fa 1 (.t 1))⟩,⟨some 31,none,.l (.ld1 (.t 30))⟩,⟨some 32,none,.q (.lnL (.t 31))⟩,⟨some 33,none,.q (.bin .sub true (.t 32) (.k (.int .i64 1)))⟩,⟨some 5,none,.q (.mv (.t 33))⟩]) (.block 2 (.loop (.seq (.seq (.reg [⟨some 34,none,.q (.mv (.t 5))⟩,⟨some 35,none,.q (.bin .geq true (.t 34) (.k (.int .i64 0)))⟩]) (.cond (.t 35) .skip (.exit 2))) (.seq (.block 3 (.reg [⟨some 38,none,.q (.fa 1 (.t 3))⟩,⟨some 39,none,.l (.ld1 (.t 38))⟩,⟨some 40,none,.q (.fa 1 (.t 1))⟩,⟨some 41,none,.l (.ld1 (.t 40))⟩,⟨some 42,none,.q (.mv (.t 5))⟩,⟨some 43,none,.l (.ia 3 (.t 41) (.t 42))⟩,⟨some 44,none,.q (.fa 0 (.t 43))⟩,⟨some 45,none,.l (.ld1 (.t 44))⟩,⟨some 46,none,.q (.fa 1 (.t 1))⟩,⟨some 47,none,.l (.ld1 (.t 46))⟩,⟨some 48,none,.q (.mv (.t 5))⟩,⟨some 49,none,.l (.ia 3 (.t 47) (.t 48))⟩,⟨some 50,none,.l (.ldn 3 (.t 49))⟩,⟨none,none,.e (.mu .string (.t 39) (.t 45) (.t 50))⟩])) (.reg [⟨some 36,none,.q (.mv (.t 5))⟩,⟨some 37,none,.q (.bin .sub true (.t 36) (.k (.int .i64 1)))⟩,⟨some 5,none,.q (.mv (.t 37))⟩])))))) (.seq (.reg [⟨some 51,none,.l (.ldn 2 (.t 3))⟩,⟨none,none,.e (.st 2 (.t 2) (.t 51))⟩]) .ret))))
def rs34:List RV:=[.ld (.ldn 2 (.t 2))]
theorem ok34:trFn Tryz.prog true ⟨fun _ _=>.own [],fun _=>false⟩ Tryz.f34=some (pc34,rs34):=by kernel_rfl
def pc35:PC:=.seq (.reg [⟨some 3,none,.e (.bx 25 (.t 0))⟩,⟨some 6,none,.q (.mv (.k (.int .i64 0)))⟩]) (.seq (.seq (.reg [⟨some 11,none,.q (.mv (.t 2))⟩,⟨some 12,none,.cq 32 [(.t 11)]⟩,⟨some 13,none,.q (.not (.t 12))⟩]) (.cond (.t 13) (.seq (.reg [⟨some 6,none,.q (.mv (.k (.int .i64 5)))⟩]) .ret) .skip)) (.seq (.seq (.reg [⟨some 14,none,.q (.fa 1 (.t 3))⟩,⟨some 15,none,.l (.ld1 (.t 14))⟩,⟨some 16,none,.q (.lnL (.t 15))⟩,⟨some 17,none,.q (.mv (.k (.int .i64 0)))⟩]) (.block 0 (.loop (.seq (.reg [⟨some 18,none,.q (.bin .lss true (.t 17) (.t 16))⟩]) (.seq (.cond (.t 18) .skip (.exit 0)) (.seq (.block 1 (.seq (.reg [⟨some 19,none,.l (.ia 3 (.t 15) (.t 17))⟩,⟨some 20,none,.l (.ldn 3 (.t 19))⟩,⟨some 8,none,.e (.al (.agg #[(.string (mk [])),(.slice none 0 0),(.slice none 0 0)]) 60)⟩,⟨none,none,.e (.st 3 (.t 8) (.t 20))⟩]) (.seq (.reg [⟨some 21,none,.q (.fa 0 (.t 8))⟩,⟨some 22,none,.l (.ld1 (.t 21))⟩,⟨some 23,none,.q (.mv (.t 2))⟩,⟨some 24,none,.q (.bin .eql true (.t 22) (.t 23))⟩]) (.cond (.t 24) (.seq (.reg [⟨some 6,none,.q (.mv (.k (.int .i64 7)))⟩]) .ret) .skip)))) (.reg [⟨some 25,none,.q (.bin .add true (.t 17) (.k (.int .i64 1)))⟩,⟨some 17,none,.q (.mv (.t 25))⟩]))))))) (.seq (.seq (.reg [⟨some 26,none,.q (.fa 2 (.t 3))⟩,⟨some 27,none,.l (.ld1 (.t 26))⟩,⟨some 28,none,.q (.mv (.t 1))⟩,⟨some 29,none,.q (.sf 2 (.t 27) none (some (.t 28)))⟩,⟨some 30,none,.q (.lnL (.t 29))⟩,⟨some 31,none,.q (.mv (.k (.int .i64 0)))⟩]) (.block 2 (.loop (.seq (.reg [⟨some 32,none,.q (.bin .lss true (.t 31) (.t 30))⟩]) (.seq (.cond (.t 32) .skip (.exit 2)) (.seq (.block 3 (.seq (.reg [⟨some 33,none,.l (.ia 2 (.t 29) (.t 31))⟩,⟨some 34,none,.l (.ldn 2 (.t 33))⟩,⟨some 10,none,.e (.al (.agg #[(.string (mk [])),(.slice none 0 0)]) 45)⟩,⟨none,none,.e (.st 2 (.t 10) (.t 34))⟩]) (.seq (.reg [⟨some 35,none,.q (.fa 0 (.t 10))⟩,⟨some 36,none,.l (.ld1 (.t 35))⟩,⟨some 37,none,.q (.mv (.t 2))⟩,⟨some 38,none,.q (.bin .eql true (.t 36) (.t 37))⟩]) (.cond (.t 38) (.seq (.reg [⟨some 6,none,.q (.mv (.k (.int .i64 7)))⟩]) .ret) .skip)))) (.reg [⟨some 39,none,.q (.bin .add true (.t 31) (.k (.int .i64 1)))⟩,⟨some 31,none,.q (.mv (.t 39))⟩]))))))) (.seq (.reg [⟨some 6,none,.q (.mv (.k (.int .i64 0)))⟩]) .ret))))
def rs35:List RV:=[.mv (.t 6)]
theorem ok35:trFn Tryz.prog true ⟨fun r k=>if r=1/\k=1 then .q else .own [],fun _=>false⟩ Tryz.f35=some (pc35,rs35):=by kernel_rfl
def pc36:PC:=.seq (.reg [⟨some 2,none,.e (.bx 81 (.t 0))⟩,⟨some 3,none,.e (.bx 45 (.t 1))⟩,⟨some 4,none,.q (.mv (.k (.int .i64 0)))⟩]) (.seq (.seq (.reg [⟨some 9,none,.q (.fa 1 (.t 3))⟩,⟨some 10,none,.l (.ld1 (.t 9))⟩,⟨some 11,none,.q (.lnL (.t 10))⟩,⟨some 12,none,.q (.mv (.k (.int .i64 0)))⟩]) (.block 0 (.loop (.seq (.reg [⟨some 13,none,.q (.bin .lss true (.t 12) (.t 11))⟩]) (.seq (.cond (.t 13) .skip (.exit 0)) (.seq (.block 1 (.seq (.reg [⟨some 14,none,.q (.mv (.t 12))⟩,⟨some 15,none,.l (.ia 7 (.t 10) (.t 12))⟩,⟨some 16,none,.l (.ldn 7 (.t 15))⟩,⟨some 6,none,.e (.al (.agg #[(.int .i64 0),(.string (mk [])),(.int .i64 0),(.int .i64 0),(.string (mk [])),(.slice none 0 0),(.bool false)]) 42)⟩,⟨some 5,none,.q (.mv (.t 14))⟩,⟨none,none,.e (.st 7 (.t 6) (.t 16))⟩]) (.seq (.block 2 (.seq (.reg [⟨some 18,none,.q (.fa 0 (.t 6))⟩,⟨some 19,none,.l (.ld1 (.t 18))⟩,⟨some 20,none,.q (.bin .lss true (.t 19) (.k (.int .i64 1)))⟩,⟨some 21,none,.q (.mv (.t 20))⟩,⟨some 22,(some (21,false)),.q (.fa 0 (.t 6))⟩,⟨some 23,(some (21,false)),.l (.ld1 (.t 22))⟩,⟨some 24,(some (21,false)),.q (.bin .gtr true (.t 23) (.k (.int .i64 127)))⟩,⟨some 25,none,.pick (.t 21) (.k (.bool true)) (.t 24)⟩,⟨some 17,none,.q (.mv (.t 25))⟩]) (.cond (.t 17) (.seq (.reg [⟨some 4,none,.q (.mv (.k (.int .i64 4)))⟩]) .ret) (.seq (.reg [⟨some 27,none,.q (.mv (.t 5))⟩,⟨some 28,none,.q (.bin .gtr true (.t 27) (.k (.int .i64 0)))⟩,⟨some 29,none,.q (.mv (.t 28))⟩,⟨some 30,(some (29,true)),.q (.fa 0 (.t 6))⟩,⟨some 31,(some (29,true)),.l (.ld1 (.t 30))⟩,⟨some 32,(some (29,true)),.q (.fa 1 (.t 3))⟩,⟨some 33,(some (29,true)),.l (.ld1 (.t 32))⟩,⟨some 34,(some (29,true)),.q (.mv (.t 5))⟩,⟨some 35,(some (29,true)),.q (.bin .sub true (.t 34) (.k (.int .i64 1)))⟩,⟨some 36,(some (29,true)),.l (.ia 7 (.t 33) (.t 35))⟩,⟨some 37,(some (29,true)),.q (.fa 0 (.t 36))⟩,⟨some 38,(some (29,true)),.l (.ld1 (.t 37))⟩,⟨some 39,(some (29,true)),.q (.bin .leq true (.t 31) (.t 38))⟩,⟨some 40,none,.pick (.t 29) (.t 39) (.k (.bool false))⟩,⟨some 26,none,.q (.mv (.t 40))⟩]) (.cond (.t 26) (.seq (.reg [⟨some 4,none,.q (.mv (.k (.int .i64 2)))⟩]) .ret) (.seq (.reg [⟨some 42,none,.q (.fa 1 (.t 6))⟩,⟨some 43,none,.l (.ld1 (.t 42))⟩,⟨some 44,none,.cq 59 [(.t 43)]⟩,⟨some 45,none,.q (.not (.t 44))⟩,⟨some 41,none,.q (.mv (.t 45))⟩]) (.cond (.t 41) (.seq (.reg [⟨some 4,none,.q (.mv (.k (.int .i64 5)))⟩]) .ret) .skip))))))) (.seq (.seq (.reg [⟨some 46,none,.q (.fa 1 (.t 3))⟩,⟨some 47,none,.l (.ld1 (.t 46))⟩,⟨some 48,none,.q (.mv (.t 5))⟩,⟨some 49,none,.q (.sf 7 (.t 47) none (some (.t 48)))⟩,⟨some 50,none,.q (.lnL (.t 49))⟩,⟨some 51,none,.q (.mv (.k (.int .i64 0)))⟩]) (.block 3 (.loop (.seq (.reg [⟨some 52,none,.q (.bin .lss true (.t 51) (.t 50))⟩]) (.seq (.cond (.t 52) .skip (.exit 3)) (.seq (.block 4 (.seq (.reg [⟨some 53,none,.l (.ia 7 (.t 49) (.t 51))⟩,⟨some 54,none,.l (.ldn 7 (.t 53))⟩,⟨some 8,none,.e (.al (.agg #[(.int .i64 0),(.string (mk [])),(.int .i64 0),(.int .i64 0),(.string (mk [])),(.slice none 0 0),(.bool false)]) 42)⟩,⟨none,none,.e (.st 7 (.t 8) (.t 54))⟩]) (.seq (.reg [⟨some 55,none,.q (.fa 1 (.t 8))⟩,⟨some 56,none,.l (.ld1 (.t 55))⟩,⟨some 57,none,.q (.fa 1 (.t 6))⟩,⟨some 58,none,.l (.ld1 (.t 57))⟩,⟨some 59,none,.q (.bin .eql true (.t 56) (.t 58))⟩]) (.cond (.t 59) (.seq (.reg [⟨some 4,none,.q (.mv (.k (.int .i64 7)))⟩]) .ret) .skip)))) (.reg [⟨some 60,none,.q (.bin .add true (.t 51) (.k (.int .i64 1)))⟩,⟨some 51,none,.q (.mv (.t 60))⟩]))))))) (.seq (.reg [⟨some 61,none,.l (.ldn 2 (.t 2))⟩,⟨some 62,none,.q (.fa 2 (.t 6))⟩,⟨some 63,none,.l (.ldn 4 (.t 62))⟩,⟨some 64,none,.cl 60 [(.t 61),(.t 63)] [0,1]⟩,⟨some 65,none,.q (.not (.t 64))⟩]) (.cond (.t 65) (.seq (.reg [⟨some 4,none,.q (.mv (.k (.int .i64 13)))⟩]) .ret) .skip)))))) (.reg [⟨some 66,none,.q (.bin .add true (.t 12) (.k (.int .i64 1)))⟩,⟨some 12,none,.q (.mv (.t 66))⟩]))))))) (.seq (.reg [⟨some 4,none,.q (.mv (.k (.int .i64 0)))⟩]) .ret))
def rs36:List RV:=[.mv (.t 4)]
theorem ok36:trFn Tryz.prog true ⟨fun r k=>if r=8/\k=2 then .q else if r=16/\k=3 then .own [0,1] else .own [],fun _=>false⟩ Tryz.f36=some (pc36,rs36):=by kernel_rfl
def pc50:PC:=.seq (.reg [⟨some 4,none,.q (.mv (.k (.bool false)))⟩]) (.seq (.reg [⟨some 5,none,.q (.mv (.t 0))⟩,⟨some 6,none,.q (.mv (.t 1))⟩,⟨some 7,none,.cq 71 [(.t 5),(.t 6)]⟩,⟨some 8,none,.q (.bin .geq true (.t 7) (.k (.int .i64 0)))⟩,⟨some 4,none,.q (.mv (.t 8))⟩]) .ret)
def rs50:List RV:=[.mv (.t 4)]
theorem ok50:trFn Tryz.prog true ⟨fun r k=>if r=1/\k=2 then .q else .own [],fun _=>false⟩ Tryz.f50=some (pc50,rs50):=by kernel_rfl
def pc54:PC:=.seq (.reg [⟨some 4,none,.q (.mv (.k (.int .i64 0)))⟩]) (.seq (.seq (.reg [⟨some 6,none,.q (.mv (.t 0))⟩,⟨some 7,none,.q (.lnL (.t 6))⟩,⟨some 8,none,.q (.mv (.k (.int .i64 0)))⟩]) (.block 0 (.loop (.seq (.reg [⟨some 9,none,.q (.bin .lss true (.t 8) (.t 7))⟩]) (.seq (.cond (.t 9) .skip (.exit 0)) (.seq (.block 1 (.seq (.reg [⟨some 10,none,.q (.mv (.t 8))⟩,⟨some 5,none,.q (.mv (.t 10))⟩]) (.seq (.reg [⟨some 11,none,.q (.mv (.t 1))⟩,⟨some 12,none,.q (.mv (.t 0))⟩,⟨some 13,none,.q (.mv (.t 5))⟩,⟨some 14,none,.l (.ia 1 (.t 12) (.t 13))⟩,⟨some 15,none,.l (.ld1 (.t 14))⟩,⟨some 16,none,.q (.bin .eql true (.t 11) (.t 15))⟩]) (.cond (.t 16) (.seq (.reg [⟨some 17,none,.q (.mv (.t 5))⟩,⟨some 4,none,.q (.mv (.t 17))⟩]) .ret) .skip)))) (.reg [⟨some 18,none,.q (.bin .add true (.t 8) (.k (.int .i64 1)))⟩,⟨some 8,none,.q (.mv (.t 18))⟩]))))))) (.seq (.reg [⟨some 4,none,.q (.mv (.k (.int .i64 (-1))))⟩]) .ret))
def rs54:List RV:=[.mv (.t 4)]
theorem ok54:trFn Tryz.prog true ⟨fun _ _=>.own [],fun _=>false⟩ Tryz.f54=some (pc54,rs54):=by kernel_rfl
def pc59:PC:=.seq (.reg [⟨some 2,none,.q (.mv (.k (.bool false)))⟩]) (.seq (.seq (.reg [⟨some 5,none,.q (.mv (.t 0))⟩,⟨some 6,none,.q (.bin .eql true (.t 5) (.k (.string (mk []))))⟩,⟨some 7,none,.q (.mv (.t 6))⟩,⟨some 8,(some (7,false)),.q (.mv (.t 0))⟩,⟨some 9,(some (7,false)),.q (.lnS (.t 8))⟩,⟨some 10,(some (7,false)),.q (.bin .gtr true (.t 9) (.k (.int .i64 16)))⟩,⟨some 11,none,.pick (.t 7) (.k (.bool true)) (.t 10)⟩,⟨some 12,none,.q (.mv (.t 11))⟩,⟨some 13,(some (12,false)),.q (.mv (.t 0))⟩,⟨some 14,(some (12,false)),.ix (.t 13) (.k (.int .i64 0))⟩,⟨some 15,(some (12,false)),.cq 85 [(.t 14)]⟩,⟨some 16,(some (12,false)),.q (.bin .neq true (.t 15) (.k (.int .i64 3)))⟩,⟨some 17,none,.pick (.t 12) (.k (.bool true)) (.t 16)⟩]) (.cond (.t 17) (.seq (.reg [⟨some 2,none,.q (.mv (.k (.bool false)))⟩]) .ret) .skip)) (.seq (.seq (.reg [⟨some 18,none,.q (.mv (.t 0))⟩,⟨some 19,none,.q (.lnS (.t 18))⟩,⟨some 20,none,.q (.mv (.k (.int .i64 0)))⟩]) (.block 0 (.loop (.seq (.reg [⟨some 21,none,.q (.bin .lss true (.t 20) (.t 19))⟩]) (.seq (.cond (.t 21) .skip (.exit 0)) (.seq (.block 1 (.seq (.reg [⟨some 22,none,.q (.mv (.t 20))⟩,⟨some 3,none,.q (.mv (.t 22))⟩]) (.seq (.reg [⟨some 23,none,.q (.mv (.t 0))⟩,⟨some 24,none,.q (.mv (.t 3))⟩,⟨some 25,none,.ix (.t 23) (.t 24)⟩,⟨some 26,none,.cq 85 [(.t 25)]⟩,⟨some 4,none,.q (.mv (.t 26))⟩]) (.seq (.reg [⟨some 27,none,.q (.mv (.t 4))⟩,⟨some 28,none,.q (.bin .neq true (.t 27) (.k (.int .i64 3)))⟩,⟨some 29,none,.q (.mv (.t 28))⟩,⟨some 30,(some (29,true)),.q (.mv (.t 4))⟩,⟨some 31,(some (29,true)),.q (.bin .neq true (.t 30) (.k (.int .i64 4)))⟩,⟨some 32,none,.pick (.t 29) (.t 31) (.k (.bool false))⟩,⟨some 33,none,.q (.mv (.t 32))⟩,⟨some 34,(some (33,true)),.q (.mv (.t 4))⟩,⟨some 35,(some (33,true)),.q (.bin .neq true (.t 34) (.k (.int .i64 6)))⟩,⟨some 36,none,.pick (.t 33) (.t 35) (.k (.bool false))⟩]) (.cond (.t 36) (.seq (.reg [⟨some 2,none,.q (.mv (.k (.bool false)))⟩]) .ret) .skip))))) (.reg [⟨some 37,none,.q (.bin .add true (.t 20) (.k (.int .i64 1)))⟩,⟨some 20,none,.q (.mv (.t 37))⟩]))))))) (.seq (.reg [⟨some 2,none,.q (.mv (.k (.bool true)))⟩]) .ret)))
def rs59:List RV:=[.mv (.t 2)]
theorem ok59:trFn Tryz.prog true ⟨fun r k=>if r=1/\k=10 then .q else if r=6/\k=3 then .q else .own [],fun _=>false⟩ Tryz.f59=some (pc59,rs59):=by kernel_rfl
def pc60:PC:=.seq (.reg [⟨some 2,none,.e (.bx 81 (.t 0))⟩,⟨some 3,none,.e (.bx 40 (.t 1))⟩,⟨some 4,none,.q (.mv (.k (.bool false)))⟩]) (.seq (.seq (.reg [⟨some 10,none,.q (.fa 0 (.t 3))⟩,⟨some 11,none,.l (.ld1 (.t 10))⟩]) (.block 0 (.seq (.reg [⟨some 13,none,.q (.bin .eql true (.t 11) (.k (.int .i64 1)))⟩,⟨some 12,none,.q (.mv (.t 13))⟩]) (.cond (.t 12) (.seq (.reg [⟨some 14,none,.q (.fa 1 (.t 3))⟩,⟨some 15,none,.l (.ld1 (.t 14))⟩,⟨some 16,none,.q (.bin .eql true (.t 15) (.k (.int .i64 0)))⟩,⟨some 17,none,.q (.mv (.t 16))⟩,⟨some 18,(some (17,true)),.q (.fa 2 (.t 3))⟩,⟨some 19,(some (17,true)),.l (.ld1 (.t 18))⟩,⟨some 20,(some (17,true)),.q (.bin .eql true (.t 19) (.k (.string (mk []))))⟩,⟨some 21,none,.pick (.t 17) (.t 20) (.k (.bool false))⟩,⟨some 22,none,.q (.mv (.t 21))⟩,⟨some 23,(some (22,true)),.q (.fa 3 (.t 3))⟩,⟨some 24,(some (22,true)),.l (.ld1 (.t 23))⟩,⟨some 25,(some (22,true)),.q (.lnL (.t 24))⟩,⟨some 26,(some (22,true)),.q (.bin .eql true (.t 25) (.k (.int .i64 0)))⟩,⟨some 27,none,.pick (.t 22) (.t 26) (.k (.bool false))⟩,⟨some 4,none,.q (.mv (.t 27))⟩]) .ret) (.seq (.seq (.reg [⟨some 29,none,.q (.bin .eql true (.t 11) (.k (.int .i64 2)))⟩,⟨some 28,none,.q (.mv (.t 29))⟩]) (.cond (.t 28) .skip (.reg [⟨some 30,none,.q (.bin .eql true (.t 11) (.k (.int .i64 3)))⟩,⟨some 28,none,.q (.mv (.t 30))⟩]))) (.cond (.t 28) (.seq (.reg [⟨some 31,none,.q (.fa 1 (.t 3))⟩,⟨some 32,none,.l (.ld1 (.t 31))⟩,⟨some 33,none,.q (.bin .eql true (.t 32) (.k (.int .i64 64)))⟩,⟨some 34,none,.q (.mv (.t 33))⟩,⟨some 35,(some (34,true)),.q (.fa 0 (.t 3))⟩,⟨some 36,(some (34,true)),.l (.ld1 (.t 35))⟩,⟨some 37,(some (34,true)),.q (.bin .eql true (.t 36) (.k (.int .i64 2)))⟩,⟨some 38,none,.pick (.t 34) (.t 37) (.k (.bool false))⟩,⟨some 5,none,.q (.mv (.t 38))⟩]) (.seq (.reg [⟨some 39,none,.q (.fa 1 (.t 3))⟩,⟨some 40,none,.l (.ld1 (.t 39))⟩,⟨some 41,none,.q (.bin .eql true (.t 40) (.k (.int .i64 8)))⟩,⟨some 42,none,.q (.mv (.t 41))⟩,⟨some 43,(some (42,false)),.q (.fa 1 (.t 3))⟩,⟨some 44,(some (42,false)),.l (.ld1 (.t 43))⟩,⟨some 45,(some (42,false)),.q (.bin .eql true (.t 44) (.k (.int .i64 16)))⟩,⟨some 46,none,.pick (.t 42) (.k (.bool true)) (.t 45)⟩,⟨some 47,none,.q (.mv (.t 46))⟩,⟨some 48,(some (47,false)),.q (.fa 1 (.t 3))⟩,⟨some 49,(some (47,false)),.l (.ld1 (.t 48))⟩,⟨some 50,(some (47,false)),.q (.bin .eql true (.t 49) (.k (.int .i64 32)))⟩,⟨some 51,none,.pick (.t 47) (.k (.bool true)) (.t 50)⟩,⟨some 52,none,.q (.mv (.t 51))⟩,⟨some 53,(some (52,false)),.q (.mv (.t 5))⟩,⟨some 54,none,.pick (.t 52) (.k (.bool true)) (.t 53)⟩,⟨some 55,none,.q (.mv (.t 54))⟩,⟨some 56,(some (55,true)),.q (.fa 2 (.t 3))⟩,⟨some 57,(some (55,true)),.l (.ld1 (.t 56))⟩,⟨some 58,(some (55,true)),.q (.bin .eql true (.t 57) (.k (.string (mk []))))⟩,⟨some 59,none,.pick (.t 55) (.t 58) (.k (.bool false))⟩,⟨some 60,none,.q (.mv (.t 59))⟩,⟨some 61,(some (60,true)),.q (.fa 3 (.t 3))⟩,⟨some 62,(some (60,true)),.l (.ld1 (.t 61))⟩,⟨some 63,(some (60,true)),.q (.lnL (.t 62))⟩,⟨some 64,(some (60,true)),.q (.bin .eql true (.t 63) (.k (.int .i64 0)))⟩,⟨some 65,none,.pick (.t 60) (.t 64) (.k (.bool false))⟩,⟨some 4,none,.q (.mv (.t 65))⟩]) .ret)) (.seq (.reg [⟨some 67,none,.q (.bin .eql true (.t 11) (.k (.int .i64 4)))⟩,⟨some 66,none,.q (.mv (.t 67))⟩]) (.cond (.t 66) (.seq (.reg [⟨some 68,none,.q (.fa 1 (.t 3))⟩,⟨some 69,none,.l (.ld1 (.t 68))⟩,⟨some 70,none,.q (.bin .geq true (.t 69) (.k (.int .i64 1)))⟩,⟨some 71,none,.q (.mv (.t 70))⟩,⟨some 72,(some (71,true)),.q (.fa 1 (.t 3))⟩,⟨some 73,(some (71,true)),.l (.ld1 (.t 72))⟩,⟨some 74,(some (71,true)),.q (.bin .leq true (.t 73) (.k (.int .i64 2000)))⟩,⟨some 75,none,.pick (.t 71) (.t 74) (.k (.bool false))⟩,⟨some 76,none,.q (.mv (.t 75))⟩,⟨some 77,(some (76,true)),.q (.fa 2 (.t 3))⟩,⟨some 78,(some (76,true)),.l (.ld1 (.t 77))⟩,⟨some 79,(some (76,true)),.q (.bin .eql true (.t 78) (.k (.string (mk []))))⟩,⟨some 80,none,.pick (.t 76) (.t 79) (.k (.bool false))⟩,⟨some 81,none,.q (.mv (.t 80))⟩,⟨some 82,(some (81,true)),.q (.fa 3 (.t 3))⟩,⟨some 83,(some (81,true)),.l (.ld1 (.t 82))⟩,⟨some 84,(some (81,true)),.q (.lnL (.t 83))⟩,⟨some 85,(some (81,true)),.q (.bin .eql true (.t 84) (.k (.int .i64 0)))⟩,⟨some 86,none,.pick (.t 81) (.t 85) (.k (.bool false))⟩,⟨some 4,none,.q (.mv (.t 86))⟩]) .ret) (.seq (.reg [⟨some 88,none,.q (.bin .eql true (.t 11) (.k (.int .i64 5)))⟩,⟨some 87,none,.q (.mv (.t 88))⟩]) (.cond (.t 87) (.seq (.reg [⟨some 89,none,.q (.fa 1 (.t 3))⟩,⟨some 90,none,.l (.ld1 (.t 89))⟩,⟨some 91,none,.q (.bin .geq true (.t 90) (.k (.int .i64 1)))⟩,⟨some 92,none,.q (.mv (.t 91))⟩,⟨some 93,(some (92,true)),.q (.fa 1 (.t 3))⟩,⟨some 94,(some (92,true)),.l (.ld1 (.t 93))⟩,⟨some 95,(some (92,true)),.q (.bin .leq true (.t 94) (.k (.int .i64 32)))⟩,⟨some 96,none,.pick (.t 92) (.t 95) (.k (.bool false))⟩,⟨some 97,none,.q (.mv (.t 96))⟩,⟨some 98,(some (97,true)),.q (.fa 2 (.t 3))⟩,⟨some 99,(some (97,true)),.l (.ld1 (.t 98))⟩,⟨some 100,(some (97,true)),.q (.bin .eql true (.t 99) (.k (.string (mk []))))⟩,⟨some 101,none,.pick (.t 97) (.t 100) (.k (.bool false))⟩,⟨some 102,none,.q (.mv (.t 101))⟩,⟨some 103,(some (102,true)),.q (.fa 3 (.t 3))⟩,⟨some 104,(some (102,true)),.l (.ld1 (.t 103))⟩,⟨some 105,(some (102,true)),.q (.lnL (.t 104))⟩,⟨some 106,(some (102,true)),.q (.bin .eql true (.t 105) (.k (.int .i64 1)))⟩,⟨some 107,none,.pick (.t 102) (.t 106) (.k (.bool false))⟩,⟨some 108,none,.q (.mv (.t 107))⟩,⟨some 109,(some (108,true)),.l (.ldn 2 (.t 2))⟩,⟨some 110,(some (108,true)),.q (.fa 3 (.t 3))⟩,⟨some 111,(some (108,true)),.l (.ld1 (.t 110))⟩,⟨some 112,(some (108,true)),.l (.ia 4 (.t 111) (.k (.int .i64 0)))⟩,⟨some 113,(some (108,true)),.l (.ldn 4 (.t 112))⟩,⟨some 114,(some (108,true)),.cl 60 [(.t 109),(.t 113)] [0,1]⟩,⟨some 115,none,.pick (.t 108) (.t 114) (.k (.bool false))⟩,⟨some 4,none,.q (.mv (.t 115))⟩]) .ret) (.seq (.reg [⟨some 117,none,.q (.bin .eql true (.t 11) (.k (.int .i64 6)))⟩,⟨some 116,none,.q (.mv (.t 117))⟩]) (.cond (.t 116) (.seq (.reg [⟨some 119,none,.q (.fa 0 (.t 2))⟩,⟨some 120,none,.l (.ld1 (.t 119))⟩,⟨some 121,none,.q (.fa 2 (.t 3))⟩,⟨some 122,none,.l (.ld1 (.t 121))⟩,⟨some 123,none,.l (.lk .string (.agg #[(.string (mk [])),(.slice none 0 0)]) true (.t 120) (.t 122))⟩,⟨some 118,none,.q (.mv (.t 123))⟩,⟨some 124,none,.q (.ex (.t 118) 0)⟩,⟨some 125,none,.q (.ex (.t 118) 1)⟩,⟨some 6,none,.e (.al (.agg #[(.string (mk [])),(.slice none 0 0)]) 45)⟩,⟨none,none,.e (.st 2 (.t 6) (.t 124))⟩,⟨some 7,none,.q (.mv (.t 125))⟩]) (.seq (.reg [⟨some 126,none,.q (.mv (.t 7))⟩,⟨some 127,none,.q (.mv (.t 126))⟩,⟨some 128,(some (127,true)),.q (.fa 1 (.t 3))⟩,⟨some 129,(some (127,true)),.l (.ld1 (.t 128))⟩,⟨some 130,(some (127,true)),.q (.bin .eql true (.t 129) (.k (.int .i64 0)))⟩,⟨some 131,none,.pick (.t 127) (.t 130) (.k (.bool false))⟩,⟨some 132,none,.q (.mv (.t 131))⟩,⟨some 133,(some (132,true)),.q (.fa 3 (.t 3))⟩,⟨some 134,(some (132,true)),.l (.ld1 (.t 133))⟩,⟨some 135,(some (132,true)),.q (.lnL (.t 134))⟩,⟨some 136,(some (132,true)),.q (.bin .eql true (.t 135) (.k (.int .i64 0)))⟩,⟨some 137,none,.pick (.t 132) (.t 136) (.k (.bool false))⟩,⟨some 4,none,.q (.mv (.t 137))⟩]) .ret)) (.seq (.reg [⟨some 139,none,.q (.bin .eql true (.t 11) (.k (.int .i64 7)))⟩,⟨some 138,none,.q (.mv (.t 139))⟩]) (.cond (.t 138) (.seq (.reg [⟨some 141,none,.q (.fa 1 (.t 2))⟩,⟨some 142,none,.l (.ld1 (.t 141))⟩,⟨some 143,none,.q (.fa 2 (.t 3))⟩,⟨some 144,none,.l (.ld1 (.t 143))⟩,⟨some 145,none,.l (.lk .string (.agg #[(.string (mk [])),(.slice none 0 0),(.slice none 0 0)]) true (.t 142) (.t 144))⟩,⟨some 140,none,.q (.mv (.t 145))⟩,⟨some 146,none,.q (.ex (.t 140) 0)⟩,⟨some 147,none,.q (.ex (.t 140) 1)⟩,⟨some 8,none,.e (.al (.agg #[(.string (mk [])),(.slice none 0 0),(.slice none 0 0)]) 60)⟩,⟨none,none,.e (.st 3 (.t 8) (.t 146))⟩,⟨some 9,none,.q (.mv (.t 147))⟩]) (.seq (.reg [⟨some 148,none,.q (.mv (.t 9))⟩,⟨some 149,none,.q (.mv (.t 148))⟩,⟨some 150,(some (149,true)),.q (.fa 1 (.t 3))⟩,⟨some 151,(some (149,true)),.l (.ld1 (.t 150))⟩,⟨some 152,(some (149,true)),.q (.bin .eql true (.t 151) (.k (.int .i64 0)))⟩,⟨some 153,none,.pick (.t 149) (.t 152) (.k (.bool false))⟩,⟨some 154,none,.q (.mv (.t 153))⟩,⟨some 155,(some (154,true)),.q (.fa 3 (.t 3))⟩,⟨some 156,(some (154,true)),.l (.ld1 (.t 155))⟩,⟨some 157,(some (154,true)),.q (.lnL (.t 156))⟩,⟨some 158,(some (154,true)),.q (.bin .eql true (.t 157) (.k (.int .i64 0)))⟩,⟨some 159,none,.pick (.t 154) (.t 158) (.k (.bool false))⟩,⟨some 4,none,.q (.mv (.t 159))⟩]) .ret)) .skip)))))))))))))) (.seq (.reg [⟨some 4,none,.q (.mv (.k (.bool false)))⟩]) .ret))
def rs60:List RV:=[.mv (.t 4)]
theorem ok60:trFn Tryz.prog true ⟨fun r k=>if r=11/\k=25 then .own [0,1] else .own [],fun _=>false⟩ Tryz.f60=some (pc60,rs60):=by kernel_rfl
def pc71:PC:=.seq (.reg [⟨some 4,none,.q (.mv (.k (.int .i64 0)))⟩]) (.seq (.seq (.reg [⟨some 6,none,.q (.mv (.t 0))⟩,⟨some 7,none,.q (.lnL (.t 6))⟩,⟨some 8,none,.q (.mv (.k (.int .i64 0)))⟩]) (.block 0 (.loop (.seq (.reg [⟨some 9,none,.q (.bin .lss true (.t 8) (.t 7))⟩]) (.seq (.cond (.t 9) .skip (.exit 0)) (.seq (.block 1 (.seq (.reg [⟨some 10,none,.q (.mv (.t 8))⟩,⟨some 5,none,.q (.mv (.t 10))⟩]) (.seq (.reg [⟨some 11,none,.q (.mv (.t 1))⟩,⟨some 12,none,.q (.mv (.t 0))⟩,⟨some 13,none,.q (.mv (.t 5))⟩,⟨some 14,none,.l (.ia 1 (.t 12) (.t 13))⟩,⟨some 15,none,.l (.ld1 (.t 14))⟩,⟨some 16,none,.q (.bin .eql true (.t 11) (.t 15))⟩]) (.cond (.t 16) (.seq (.reg [⟨some 17,none,.q (.mv (.t 5))⟩,⟨some 4,none,.q (.mv (.t 17))⟩]) .ret) .skip)))) (.reg [⟨some 18,none,.q (.bin .add true (.t 8) (.k (.int .i64 1)))⟩,⟨some 8,none,.q (.mv (.t 18))⟩]))))))) (.seq (.reg [⟨some 4,none,.q (.mv (.k (.int .i64 (-1))))⟩]) .ret))
def rs71:List RV:=[.mv (.t 4)]
theorem ok71:trFn Tryz.prog true ⟨fun _ _=>.own [],fun _=>false⟩ Tryz.f71=some (pc71,rs71):=by kernel_rfl
def pc85:PC:=.seq (.reg [⟨some 2,none,.q (.mv (.k (.int .i64 0)))⟩]) (.seq (.seq (.reg [⟨some 4,none,.q (.mv (.t 0))⟩,⟨some 5,none,.q (.cvt .i32 (.t 4))⟩,⟨some 3,none,.q (.mv (.t 5))⟩]) (.block 0 (.seq (.reg [⟨some 7,none,.q (.mv (.t 3))⟩,⟨some 8,none,.q (.bin .eql true (.t 7) (.k (.int .i32 32)))⟩,⟨some 9,none,.q (.mv (.t 8))⟩,⟨some 10,(some (9,false)),.q (.mv (.t 3))⟩,⟨some 11,(some (9,false)),.q (.bin .eql true (.t 10) (.k (.int .i32 9)))⟩,⟨some 12,none,.pick (.t 9) (.k (.bool true)) (.t 11)⟩,⟨some 13,none,.q (.mv (.t 12))⟩,⟨some 14,(some (13,false)),.q (.mv (.t 3))⟩,⟨some 15,(some (13,false)),.q (.bin .eql true (.t 14) (.k (.int .i32 10)))⟩,⟨some 16,none,.pick (.t 13) (.k (.bool true)) (.t 15)⟩,⟨some 6,none,.q (.mv (.t 16))⟩]) (.cond (.t 6) (.seq (.reg [⟨some 2,none,.q (.mv (.k (.int .i64 1)))⟩]) .ret) (.seq (.reg [⟨some 18,none,.q (.mv (.t 3))⟩,⟨some 19,none,.q (.bin .eql true (.t 18) (.k (.int .i32 35)))⟩,⟨some 17,none,.q (.mv (.t 19))⟩]) (.cond (.t 17) (.seq (.reg [⟨some 2,none,.q (.mv (.k (.int .i64 2)))⟩]) .ret) (.seq (.reg [⟨some 21,none,.q (.mv (.t 3))⟩,⟨some 22,none,.q (.bin .geq true (.t 21) (.k (.int .i32 97)))⟩,⟨some 23,none,.q (.mv (.t 22))⟩,⟨some 24,(some (23,true)),.q (.mv (.t 3))⟩,⟨some 25,(some (23,true)),.q (.bin .leq true (.t 24) (.k (.int .i32 122)))⟩,⟨some 26,none,.pick (.t 23) (.t 25) (.k (.bool false))⟩,⟨some 27,none,.q (.mv (.t 26))⟩,⟨some 28,(some (27,false)),.q (.mv (.t 3))⟩,⟨some 29,(some (27,false)),.q (.bin .geq true (.t 28) (.k (.int .i32 65)))⟩,⟨some 30,(some (27,false)),.q (.mv (.t 29))⟩,⟨some 31,(some (30,true)),.q (.mv (.t 3))⟩,⟨some 32,(some (30,true)),.q (.bin .leq true (.t 31) (.k (.int .i32 90)))⟩,⟨some 33,(some (27,false)),.pick (.t 30) (.t 32) (.k (.bool false))⟩,⟨some 34,none,.pick (.t 27) (.k (.bool true)) (.t 33)⟩,⟨some 20,none,.q (.mv (.t 34))⟩]) (.cond (.t 20) (.seq (.reg [⟨some 2,none,.q (.mv (.k (.int .i64 3)))⟩]) .ret) (.seq (.reg [⟨some 36,none,.q (.mv (.t 3))⟩,⟨some 37,none,.q (.bin .geq true (.t 36) (.k (.int .i32 48)))⟩,⟨some 38,none,.q (.mv (.t 37))⟩,⟨some 39,(some (38,true)),.q (.mv (.t 3))⟩,⟨some 40,(some (38,true)),.q (.bin .leq true (.t 39) (.k (.int .i32 57)))⟩,⟨some 41,none,.pick (.t 38) (.t 40) (.k (.bool false))⟩,⟨some 35,none,.q (.mv (.t 41))⟩]) (.cond (.t 35) (.seq (.reg [⟨some 2,none,.q (.mv (.k (.int .i64 4)))⟩]) .ret) (.seq (.reg [⟨some 43,none,.q (.mv (.t 3))⟩,⟨some 44,none,.q (.bin .eql true (.t 43) (.k (.int .i32 45)))⟩,⟨some 42,none,.q (.mv (.t 44))⟩]) (.cond (.t 42) (.seq (.reg [⟨some 2,none,.q (.mv (.k (.int .i64 5)))⟩]) .ret) (.seq (.reg [⟨some 46,none,.q (.mv (.t 3))⟩,⟨some 47,none,.q (.bin .eql true (.t 46) (.k (.int .i32 95)))⟩,⟨some 45,none,.q (.mv (.t 47))⟩]) (.cond (.t 45) (.seq (.reg [⟨some 2,none,.q (.mv (.k (.int .i64 6)))⟩]) .ret) (.seq (.reg [⟨some 49,none,.q (.mv (.t 3))⟩,⟨some 50,none,.q (.bin .eql true (.t 49) (.k (.int .i32 34)))⟩,⟨some 48,none,.q (.mv (.t 50))⟩]) (.cond (.t 48) (.seq (.reg [⟨some 2,none,.q (.mv (.k (.int .i64 7)))⟩]) .ret) (.seq (.reg [⟨some 52,none,.q (.mv (.t 0))⟩,⟨some 53,none,.cq 96 [(.k (.string (mk [123,125,40,41,91,93,58,59,44,61,46,63,33,38,124,64]))),(.t 52)]⟩,⟨some 54,none,.q (.bin .geq true (.t 53) (.k (.int .i64 0)))⟩,⟨some 51,none,.q (.mv (.t 54))⟩]) (.cond (.t 51) (.seq (.reg [⟨some 2,none,.q (.mv (.k (.int .i64 8)))⟩]) .ret) .skip)))))))))))))))))) (.seq (.reg [⟨some 2,none,.q (.mv (.k (.int .i64 0)))⟩]) .ret))
def rs85:List RV:=[.mv (.t 2)]
theorem ok85:trFn Tryz.prog true ⟨fun r k=>if r=16/\k=1 then .q else .own [],fun _=>false⟩ Tryz.f85=some (pc85,rs85):=by kernel_rfl
end Go.Proofs.YtbcnggkldclemaaGreat
namespace Go.Proofs.YtbcnggkldclemaaGreat
open Go.W
def isLet (c:Int):Bool:=(decide (97<=c) && decide (c<=122)) || (decide (65<=c) && decide (c<=90))
def isDig (c:Int):Bool:=decide (48<=c) && decide (c<=57)
def isWord (c:Int):Bool:=isLet c || isDig c || c == 95
def marksB:List UInt8:=[123,125,40,41,91,93,58,59,44,61,46,63,33,38,124,64]
def isMark (c:Int):Bool:=decide (c.toNat.toUInt8 ∈ marksB)
def cls (c:Int):Int:=
  bif c == 32 || c == 9 || c == 10 then 1 else bif c == 35 then 2 else bif isLet c then 3 else bif isDig c then 4
  else bif c == 45 then 5 else bif c == 95 then 6 else bif c == 34 then 7 else bif isMark c then 8 else 0
theorem indexByte_neg (l:List UInt8) (c:UInt8):decide (0<=Lib.indexByte l c)=decide (c ∈ l):=by
  rw [decide_eq_decide]
  induction l with
  | nil=>simp [Lib.indexByte]
  | cons b l ih=>
    have hge:=Lib.indexByte_ge l c
    rw [Lib.indexByte]
    by_cases hb:b=c
    · simp [hb]
    · have hb2:(b == c)=false:=by simpa using hb
      have hb3:¬ c=b:=fun e=>hb e.symm
      simp only [hb2,Bool.false_eq_true,if_false,List.mem_cons,hb3,false_or,<-ih]
      by_cases h:Lib.indexByte l c=-1
      · simp [h]
      · have h2:(Lib.indexByte l c == -1)=false:=by simpa using h
        simp only [h2,Bool.false_eq_true,if_false]; omega
inductive R where
  | ok (k:Int) (t:List UInt8) (n:Int) (z:Nat)
  | bad (e t:Int)
def wordB (c:UInt8):Bool:=isWord c.toNat
theorem cls346 (c:UInt8):(cls c.toNat == 3 || cls c.toNat == 4 || cls c.toNat == 6)=wordB c:=by
  have:=byte_all (p:=fun c=>(cls c.toNat == 3 || cls c.toNat == 4 || cls c.toNat == 6) == wordB c) (by decide +kernel) c
  simpa using this
def signed (neg:Bool) (n:Nat):Int:=bif neg then -n else n
end Go.Proofs.YtbcnggkldclemaaGreat
namespace Go.Proofs
open Go.Shelf
def Tryz.lays137_ren:Go.Shelf.Ren:=⟨fun | 137=>96 | 217=>99 | 266=>109 | n=>n,fun | 9=>9 | 5=>5 | 3=>3 | n=>n,fun | n=>n⟩
theorem Tryz.lays137:Go.Proofs.Lays.n137 Tryz.prog Tryz.lays137_ren:={
  mixed:=by kernel_rfl
  f137:=Tryz.func96.trans (congrArg some (by kernel_rfl))
  f217:=Tryz.func99.trans (congrArg some (by kernel_rfl))
  f266:=Tryz.func109.trans (congrArg some (by kernel_rfl))
  t3:=Tryz.underlying3
  a3:=Tryz.isAgg3
  z3:=Tryz.sizeOf3
  v3:=Tryz.zeroValue3
  t5:=Tryz.underlying5
  a5:=Tryz.isAgg5
  z5:=Tryz.sizeOf5
  v5:=Tryz.zeroValue5
  t9:=Tryz.underlying9
  a9:=Tryz.isAgg9
  z9:=Tryz.sizeOf9
  v9:=Tryz.zeroValue9 }
open Go.RowKit in
theorem Tryz.strings_IndexByte (s:ByteArray) (c:Int) (w:World) :
    Calls Tryz.prog 96 #[.string s,.int .u8 c] w fun e w'=>e=.returned (.int .i64 (Lib.indexByte s.data.toList c.toNat.toUInt8))/\w'=w:=Any.strings_IndexByte Tryz.lays137 s c w
end Go.Proofs
namespace Go.Proofs.YtbcnggkldclemaaGreat
open Go.W
abbrev iA (k:IntKind) (n:Int):A:=.c1 (.vl (.int k n))
abbrev bA (b:Bool):A:=.c1 (.vl (.bool b))
def bytePre:List S->Prop:=fun xs=>match xs with
  | [.va (.c1 (.vl (.int .u8 c)))]=>0<=c/\c<=255
  | _=>False
theorem bytePre_open {xs:List S} (h:bytePre xs):∃ c:Int,xs=[iS .u8 c]/\0<=c/\c<=255:=by
  unfold bytePre at h
  split at h
  · exact ⟨_,rfl,h⟩
  · exact h.elim
def byteVal (f:Int->Value):List S->A:=fun xs=>match xs with
  | [.va (.c1 (.vl (.int .u8 c)))]=>.c1 (.vl (f c))
  | _=>.gs []
def byteFn (f:Int->Value):Fun:=⟨bytePre,byteVal f,fun xs h=>by obtain ⟨c,rfl,_⟩:=bytePre_open h; trivial⟩
theorem byteFn_len {f:Int->Value}:∀ xs H K,(byteFn f).sp xs H K->xs.length=1:=fun xs H K h=>by obtain ⟨c,rfl,_⟩:=bytePre_open h.1.1; rfl
attribute [go_sem] byteFn bytePre byteVal
def ibPre:List S->Prop:=fun xs=>match xs with | [.va (.c1 (.vl (.string _))),.va (.c1 (.vl (.int .u8 _)))]=>True | _=>False
def ibVal:List S->A:=fun xs=>match xs with | [.va (.c1 (.vl (.string s))),.va (.c1 (.vl (.int .u8 c)))]=>iA .i64 (Lib.indexByte (bl s) c.toNat.toUInt8) | _=>.gs []
theorem ibPre_open {xs:List S} (h:ibPre xs):∃ s c,xs=[tS s,iS .u8 c]:=by
  unfold ibPre at h
  split at h
  · exact ⟨_,_,rfl⟩
  · exact h.elim
def fnIb:Fun:=⟨ibPre,ibVal,fun xs h=>by obtain ⟨s,c,rfl⟩:=ibPre_open h; trivial⟩
attribute [go_sem] fnIb ibPre ibVal
theorem mIb:Meets Tryz.prog 96 fnIb.sp:=by
  refine ⟨by kernel_rfl,?_⟩
  rintro xs vs E ro w K hl hrel hr ⟨⟨h,hE⟩,hK⟩
  obtain ⟨s,c,rfl⟩:=ibPre_open h
  obtain ⟨v0,v1,rfl⟩:∃ v0 v1,vs=[v0,v1]:=by
    match vs,hl with
    | [v0,v1],_=>exact ⟨v0,v1,rfl⟩
  have h0:v0=.string s:=hrel 0 _ _ rfl rfl
  have h1:v1=.int .u8 c:=hrel 1 _ _ rfl rfl
  subst h0 h1
  refine (Tryz.strings_IndexByte s c w).mono ?_
  rintro e w' ⟨rfl,rfl⟩
  exact ⟨iS .i64 _,_,E,ro,rfl,rfl,by rw [hE]; exact hK,hr⟩
set_option maxRecDepth 100000 in
theorem mClass:Meets Tryz.prog 85 (byteFn fun c=>.int .i64 (cls c)).sp:=by
  refine meets_fn Tryz.func85 ok85 1 (by rw [Tryz.ntmps85]; decide) (meetsAll_f mIb (meetsAll_nil _)) byteFn_len ?_
  rintro xs H K ⟨⟨h,rfl⟩,hK⟩
  obtain ⟨c,rfl,hc⟩:=bytePre_open h
  simp -dsimp (maxSteps:=1000000) only [go_sem,pc85,rs85] at hK ⊢
  have hw:IntKind.i32.wrap c=c:=wrap_inr (by simp [inr,IntKind.min,IntKind.max,IntKind.signed,IntKind.bits]; omega)
  rw [hw]
  have hm:decide (0<=Lib.indexByte [123,125,40,41,91,93,58,59,44,61,46,63,33,38,124,64] c.toNat.toUInt8)=isMark c:=indexByte_neg _ _
  rw [hm]
  clear hm hw
  refine ⟨fun h1=>fin_eq hK ?_,fun h1=>⟨fun h2=>fin_eq hK ?_,fun h2=>⟨by simp; omega,fun h3=>fin_eq hK ?_,fun h3=>⟨fun h4=>fin_eq hK ?_,fun h4=>⟨fun h5=>fin_eq hK ?_,fun h5=>⟨fun h6=>fin_eq hK ?_,fun h6=>⟨fun h7=>fin_eq hK ?_,fun h7=>⟨fun h8=>fin_eq hK ?_,fun h8=>fin_eq hK ?_⟩⟩⟩⟩⟩⟩⟩⟩
  all_goals simp only [cls,isLet,isDig, *,Bool.cond_true,Bool.cond_false]
def isNm (l:List UInt8):Bool:=match l with
  | []=>false
  | c :: _=>decide (l.length<=16) && isLet c.toNat && l.all wordB
def strPre:List S->Prop:=fun xs=>match xs with
  | [.va (.c1 (.vl (.string _)))]=>True
  | _=>False
theorem strPre_open {xs:List S} (h:strPre xs):∃ s,xs=[tS s]:=by
  unfold strPre at h
  split at h
  · exact ⟨_,rfl⟩
  · exact h.elim
def strVal (f:List UInt8->Value):List S->A:=fun xs=>match xs with
  | [.va (.c1 (.vl (.string s)))]=>.c1 (.vl (f (bl s)))
  | _=>.gs []
def strFn (f:List UInt8->Value):Fun:=⟨strPre,strVal f,fun xs h=>by obtain ⟨s,rfl⟩:=strPre_open h; trivial⟩
theorem strFn_len {f:List UInt8->Value}:∀ xs H K,(strFn f).sp xs H K->xs.length=1:=fun xs H K h=>by obtain ⟨s,rfl⟩:=strPre_open h.1.1; rfl
attribute [go_sem] strFn strPre strVal
theorem isNm_long {l:List UInt8} (h:16 < l.length):isNm l=false:=by
  cases l with
  | nil=>rfl
  | cons c l=>
    simp only [isNm]
    have:decide ((c :: l).length<=16)=false:=by simp at h ⊢; omega
    rw [this]; rfl
theorem isNm_first {l:List UInt8} {c:UInt8} (h:l[0]? = some c) (hc:isLet c.toNat=false):isNm l=false:=by
  cases l with
  | nil=>rfl
  | cons d l=>simp at h; subst h; simp [isNm,hc]
theorem isNm_at {l:List UInt8} {i:Nat} {c:UInt8} (h:l[i]? = some c) (hc:wordB c=false):isNm l=false:=by
  cases l with
  | nil=>rfl
  | cons d l=>
    have:(d :: l).all wordB=false:=by rw [List.all_eq_false]; exact ⟨c,List.mem_of_getElem? h,by simp [hc]⟩
    simp only [isNm,this,Bool.and_false]
theorem isNm_true {l:List UInt8} {c:UInt8} (h:l[0]? = some c) (hl:l.length<=16) (hc:isLet c.toNat=true) (ha:∀ (j:Nat) (x:UInt8),l[j]? = some x->wordB x=true):isNm l=true:=by
  cases l with
  | nil=>simp at h
  | cons d l=>
    simp at h; subst h
    have h1:(d :: l).all wordB=true:=by
      rw [List.all_eq_true]; intro x hx
      obtain ⟨j,hj⟩:=List.mem_iff_getElem?.1 hx
      exact ha j x hj
    simp only [isNm,h1,hc,Bool.and_true,decide_eq_true_eq]; exact hl
theorem cls3 (c:UInt8):(cls c.toNat == 3)=isLet c.toNat:=by
  have:=byte_all (p:=fun c=>(cls c.toNat == 3) == isLet c.toNat) (by decide +kernel) c
  simpa using this
theorem cls346n (c:UInt8):((cls c.toNat != 3) && (cls c.toNat != 4) && (cls c.toNat != 6))=!(wordB c):=by
  rw [<-cls346]; simp [bne,Bool.not_or]
set_option maxRecDepth 100000 in
theorem mIsName:Meets Tryz.prog 59 (strFn fun l=>.bool (isNm l)).sp:=by
  refine meets_fn Tryz.func59 ok59 1 (by rw [Tryz.ntmps59]; decide) (meetsAll_f mClass (meetsAll_nil _)) strFn_len ?_
  rintro xs H K ⟨⟨h,rfl⟩,hK⟩
  obtain ⟨s,rfl⟩:=strPre_open h
  have hn:∀ c:UInt8,(cls c.toNat != 3)=!(isLet c.toNat):=fun c=>by rw [bne,cls3]
  simp -dsimp only [go_sem,pc59,rs59,hn] at hK ⊢
  generalize hg:(bl s == [] || decide (16 < ((bl s).length:Int)))=g
  have hg1:g=false->0 < (bl s).length/\(bl s).length<=16:=fun h=>by
    subst hg; simp at h
    exact ⟨List.length_pos_iff.2 h.1,by omega⟩
  have hg2:g=true->isNm (bl s)=false:=fun h=>by
    subst hg; simp at h
    rcases h with h | h
    · rw [h]; rfl
    · exact isNm_long (by omega)
  refine ⟨fun h=>⟨by omega,by have:=hg1 h; omega⟩,fun c hc=>⟨fun h=>?_,fun h=>?_,fun h=>?_⟩⟩
  · have:=c.toNat_lt; omega
  · refine fin_eq hK ?_
    cases g with
    | true=>rw [hg2 rfl]
    | false=>simp at h; rw [isNm_first (hc rfl) h]
  simp at h
  obtain ⟨rfl,h3⟩:=h
  have hc:=hc rfl
  obtain ⟨hl0,hl⟩:=hg1 rfl
  refine vc_loop (α:=Nat) (fun i=>[(0,tS s),(19,iS .i64 (bl s).length),(20,iS .i64 i)]) (fun i=>[]) (fun i=>i<=(bl s).length/\∀ (j:Nat) (x:UInt8),j < i->(bl s)[j]? = some x->wordB x=true) (fun i=>(bl s).length - i) 0 0 ⟨by omega,by omega⟩ ?_ ?_ ?_
  · simp -dsimp only [go_sem]; simp
  · simp [go_sem]
  rintro i ⟨hi,ha⟩
  simp -dsimp only [go_sem,cls346n]
  have hlt:(bl s).length < 2^64:=by omega
  refine ⟨fun h1=>⟨⟨by omega,by simpa using h1⟩,fun d hd=>⟨by have:=d.toNat_lt; omega,fun h2=>?_,fun h2=>⟨by omega,?_⟩⟩⟩,fun h1=>?_⟩
  · refine fin_eq hK ?_
    rw [isNm_at hd h2]
  · refine loop_next (i + 1) 0 ⟨by have:=(List.getElem?_eq_some_iff.1 hd).1; omega,fun j x hj hx=>?_⟩ (by have:=(List.getElem?_eq_some_iff.1 hd).1; omega) ?_ ?_
    · rcases Nat.lt_or_ge j i with h4 | h4
      · exact ha j x h4 hx
      · obtain rfl:j=i:=by omega
        rw [hd] at hx; obtain rfl:=Option.some.inj hx
        simpa [wordB] using h2
    · simp -dsimp only [go_sem]; simp
    · simp [go_sem]
  · refine fin_eq hK ?_
    have:i=(bl s).length:=by simp at h1; omega
    subst this
    rw [isNm_true hc hl h3 fun j x hx=>ha j x (List.getElem?_eq_some_iff.1 hx).1 hx]
end Go.Proofs.YtbcnggkldclemaaGreat
namespace Go.W
section
variable {P:Program} {f:FuncId} {s:Spec}
def pubB (n:Nat) (s:Spec):Spec:=fun ar H K=>match H[n]? with
  | some (.row xs _ _)=>s (ar.map (S.pub n xs)) (pubH n xs H) K
  | _=>False
def dropB (s:Spec):Spec:=fun ar H K=>s (ar.map fun a=>a.nf.ren (loc [])) [] fun r H'=>K (r.ren (back [] H.length)) (mergeH [] H (H'.map (B.ren (back [] H.length))))
theorem Rel.rebase {X:Ctx} {E:Es} {ro:RO} {w:World} (h:Rel X E ro w):Rel ⟨w,blks E,ro,gm E⟩ E ro w:=
  ⟨h.own,h.inj,h.apart,h.rd,Ext.refl _,fun _ _ _ h=>.inl h,fun n b g blk hn en hl=>.inr (mem_blks.2 ⟨n,g,blk,hn,en,hl⟩),.refl _,Nat.le_refl _,fun _ _ _=>rfl,rfl,rfl,rfl⟩
theorem Rel.over {X:Ctx} {E E':Es} {ro ro':RO} {w w':World} (h:Rel X E ro w) (k:Rel ⟨w,blks E,ro,gm E⟩ E' ro' w'):Rel X E' ro' w' where
  own:=k.own
  inj:=k.inj
  apart:=k.apart
  rd:=k.rd
  ro0:=h.ro0.trans k.ro0
  rob:=fun b off v hc=>by
    rcases k.rob b off v hc with q | q | q
    · exact h.rob b off v q
    · simp only at q; have:=h.sz; exact .inr (.inl (by omega))
    · obtain ⟨n,g,blk,hE,hgb,hl⟩:=mem_blks.1 q
      exact .inr (h.par n b g blk hE hgb hl)
  par:=fun n b g blk hn en hl=>by
    rcases k.par n b g blk hn en hl with q | q
    · simp only at q; have:=h.sz; exact .inl (by omega)
    · obtain ⟨n',g',blk',hE,hgb,hl'⟩:=mem_blks.1 q
      exact h.par n' b g' blk' hE hgb hl'
  gx:=h.gx.trans k.gx
  sz:=Nat.le_trans h.sz k.sz
  keep:=fun b hb hp=>by
    rw [k.keep b (by have:=h.sz; simp only; omega) (fun hb'=>?_)]
    · exact h.keep b hb hp
    · obtain ⟨n,g,blk,hE,hgb,hl⟩:=mem_blks.1 hb'
      rcases h.par n b g blk hE hgb hl with q | q
      · omega
      · exact hp q
  os:=k.os.trans h.os
  tape:=k.tape.trans h.tape
  output:=k.output.trans h.output
theorem Meets.pubB (h:Meets P f s) (n:Nat):Meets P f (pubB n s):=by
  refine ⟨h.1,fun ar vs E ro w K hl hrel hr hs=>?_⟩
  unfold W.pubB at hs
  split at hs
  · rename_i xs T sz hn
    obtain ⟨g,hE⟩:∃ g,E[n]? = some (g,.row xs T sz):=by
      simp only [hp,List.getElem?_map] at hn
      cases hE:E[n]? with
      | none=>rw [hE] at hn; cases hn
      | some y=>rw [hE] at hn; simp at hn; exact ⟨y.1,by rw [<-hn]⟩
    obtain ⟨ro',hext,hfz,hglen,hr'⟩:=hr.pubR hE
    have hcall:=h.2 (ar.map (S.pub n xs)) vs (mapB (B.pub n xs) (E.set n (g,.dead))) ro' w K (by simpa using hl) (fun i x v hx hv=>by
      rw [List.getElem?_map] at hx
      cases hi:ar[i]? with
      | none=>rw [hi] at hx; cases hx
      | some y=>
        rw [hi] at hx
        simp only [Option.map_some,Option.some.injEq] at hx
        subst hx
        rw [gm_mapB,gm_kill hE]
        exact S.rel_pub hext (gm_get hE) hglen hfz (hrel i y v hi hv)) hr'.rebase (by rw [hp_mapB,hp_kill]; exact hs)
    refine hcall.mono ?_
    rintro e w' ⟨r,v,E',ro2,rfl,hrv,hR,hrel'⟩
    exact ⟨r,v,E',ro2,rfl,hrv,hR,hr'.over hrel'⟩
  · exact hs.elim
theorem Meets.dropB (h:Meets P f s):Meets P f (dropB s):=by
  refine ⟨h.1,fun ar vs E ro w K hl hrel hr hs=>?_⟩
  unfold W.dropB at hs
  have hnd:([]:List Nat).Nodup:=.nil
  have hlt:∀ n ∈ ([]:List Nat),n < E.length:=fun n hn=>by cases hn
  have gxl:∀ (n m:Nat) (g:Gb),loc [] n=some m->(gm E)[n]? = some g->(gm (mapB (B.ren (loc [])) (pickE E [])))[m]? = some g:=fun n m g h1 h2=>by rw [gm_mapB]; exact loc_gm n m g h1 h2
  have hloc:Rel ⟨w,blks (mapB (B.ren (loc [])) (pickE E [])),ro,gm (mapB (B.ren (loc [])) (pickE E []))⟩ (mapB (B.ren (loc [])) (pickE E [])) ro w:=by
    have h0:Rel ⟨w,blks E,ro,[]⟩ E ro w:=⟨hr.own,hr.inj,hr.apart,hr.rd,Ext.refl _,fun _ _ _ h=>.inl h,fun n b g blk hn en hl=>.inr (mem_blks.2 ⟨n,g,blk,hn,en,hl⟩),fun n g hn=>by simp at hn,Nat.le_refl _,fun _ _ _=>rfl,rfl,rfl,rfl⟩
    exact (h0.sel hnd hlt (fun n g hn=>by simp at hn)).here
  have hcall:=h.2 (ar.map fun s=>s.nf.ren (loc [])) vs (mapB (B.ren (loc [])) (pickE E [])) ro w _ (by simpa using hl) (fun i x v hx hv=>by
    rw [List.getElem?_map] at hx
    cases hi:ar[i]? with
    | none=>rw [hi] at hx; cases hx
    | some y=>
      rw [hi] at hx
      simp only [Option.map_some,Option.some.injEq] at hx
      subst hx
      exact S.rel_ren gxl (S.rel_nf (hrel i y v hi hv))) hloc (by rw [hp_mapB,hp_pick]; exact hs)
  refine hcall.mono ?_
  rintro e w' ⟨r,v,E',ro',rfl,hrv,hR,hrel'⟩
  obtain ⟨q1,q2,q3⟩:=hr.back hnd hlt rfl hrel'
  refine ⟨_,v,_,ro',rfl,S.rel_ren q3 hrv,?_,q1⟩
  rw [hp_merge,hp_mapB]
  rw [hp_len] at hR
  exact hR
def lend1 (s:Spec):Spec:=pubB 0 (dropB s)
theorem Meets.lend1 (h:Meets P f s):Meets P f (lend1 s):=h.dropB.pubB 0
def lend2 (s:Spec):Spec:=pubB 0 (pubB 1 (dropB s))
theorem Meets.lend2 (h:Meets P f s):Meets P f (lend2 s):=(h.dropB.pubB 1).pubB 0
attribute [go_sem ↓] pubB dropB lend1 lend2
end
end Go.W
