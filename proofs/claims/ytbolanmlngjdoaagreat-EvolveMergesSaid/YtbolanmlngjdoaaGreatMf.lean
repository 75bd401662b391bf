/- Lemmas and walks for the proof. -/
import Derived.Test.YtbolanmlngjdoaaGreatMe
import Derived.Test.YtbolanmlngjdoaaGreatProg
import Derived.KernelRfl
namespace Go.Proofs.YtbolanmlngjdoaaGreat
open Go.W
theorem eq_of_asc {α:Type} {g:α->Int} {l m:List α} (hl:l.Pairwise fun a b=>g a < g b) (hm:m.Pairwise fun a b=>g a < g b) (h:∀ x,x ∈ l ↔ x ∈ m):l=m:=by
  have nl:l.Nodup:=by unfold List.Nodup; exact hl.imp fun h e=>by subst e; omega
  have nm:m.Nodup:=by unfold List.Nodup; exact hm.imp fun h e=>by subst e; omega
  exact List.Perm.eq_of_pairwise (le:=fun a b=>g a < g b) (fun a b _ _ h3 h4=>by omega) hl hm ((List.perm_ext_iff_of_nodup nl nm).2 h)
theorem sortBy_asc {α:Type} {g:α->Int} {l:List α} (hn:(l.map g).Nodup):(sortBy g l).Pairwise fun a b=>g a < g b:=asc_of (sortBy_perm g l) (sortBy_sorted g l) hn
theorem sortBy_self {α:Type} {g:α->Int} {l:List α} (h:l.Pairwise fun a b=>g a < g b):sortBy g l=l:=by
  have hn:(l.map g).Nodup:=by unfold List.Nodup; rw [List.pairwise_map]; exact h.imp fun h e=>by omega
  exact eq_of_asc (sortBy_asc hn) h fun x=>(sortBy_perm g l).mem_iff
structure NdV (A:List Nd):Prop where
  asc:A.Pairwise fun p q=>p.n < q.n
  nd:A.Pairwise fun p q=>p.nm ≠ q.nm
  rg:∀ p ∈ A,0<=p.n/\p.n<=127
  ne:∀ p ∈ A,p.nm ≠ mk []
theorem nds_nm {e:En} (h:e.vs.length=e.ns.length):(nds e).map Nd.nm=e.ns:=by
  unfold nds
  refine List.ext_getElem? fun i=>?_
  rw [List.getElem?_map,List.getElem?_zipWith]
  cases h1:e.ns[i]? with
  | none=>cases e.vs[i]?<;>rfl
  | some v=>
    have hi:=(List.getElem?_eq_some_iff.1 h1).1
    rw [List.getElem?_eq_getElem (show i < e.vs.length by omega)]; rfl
theorem nds_n' {e:En} (h:e.vs.length=e.ns.length):(nds e).map Nd.n=e.vs:=by
  unfold nds
  refine List.ext_getElem? fun i=>?_
  rw [List.getElem?_map,List.getElem?_zipWith]
  cases h1:e.vs[i]? with
  | none=>rfl
  | some v=>
    have hi:=(List.getElem?_eq_some_iff.1 h1).1
    rw [List.getElem?_eq_getElem (show i < e.ns.length by omega)]; rfl
theorem isNm_ne {n:ByteArray} (h:isNm (bl n)=true):n ≠ mk []:=by
  rintro rfl
  rw [bl_mk] at h
  exact absurd h (by decide)
theorem ndv_of {e:En} (h:EnV e):NdV (nds e):=by
  have h1:=h.asc
  have h2:=h.nd
  rw [<-nds_n' h.len,List.pairwise_map] at h1
  rw [<-nds_nm h.len] at h2
  unfold List.Nodup at h2
  rw [List.pairwise_map] at h2
  refine ⟨h1,h2,fun p hp=>h.vs _ (by rw [<-nds_n' h.len]; exact List.mem_map_of_mem hp),fun p hp=>isNm_ne (h.nm _ (by rw [<-nds_nm h.len]; exact List.mem_map_of_mem hp))⟩
theorem pw_of_lt {α:Type} {g:α->Int} {l:List α} (h:l.Pairwise fun a b=>g a < g b):∀ p ∈ l,∀ q ∈ l,g p=g q->p=q:=by
  induction l with
  | nil=>intro p hp; cases hp
  | cons x l ih=>
    obtain ⟨h1,h2⟩:=List.pairwise_cons.1 h
    intro p hp q hq e
    rcases List.mem_cons.1 hp with rfl | hp'<;>rcases List.mem_cons.1 hq with rfl | hq'
    · rfl
    · have:=h1 q hq'; omega
    · have:=h1 p hp'; omega
    · exact ih h2 p hp' q hq' e
theorem pw_of_ne {A:List Nd} (h:A.Pairwise fun p q=>p.nm ≠ q.nm):∀ p ∈ A,∀ q ∈ A,p.nm=q.nm->p=q:=by
  induction A with
  | nil=>intro p hp; cases hp
  | cons x l ih=>
    obtain ⟨h1,h2⟩:=List.pairwise_cons.1 h
    intro p hp q hq e
    rcases List.mem_cons.1 hp with rfl | hp'<;>rcases List.mem_cons.1 hq with rfl | hq'
    · rfl
    · exact absurd e (h1 q hq')
    · exact absurd e.symm (h1 p hp')
    · exact ih h2 p hp' q hq' e
def Apart (p q:Nd):Prop:=p=q\/(p.n ≠ q.n/\p.nm ≠ q.nm)
theorem NdV.apart {A:List Nd} (h:NdV A):∀ p ∈ A,∀ q ∈ A,Apart p q:=fun p hp q hq=>by
  by_cases e1:p.n=q.n
  · exact .inl (pw_of_lt h.asc p hp q hq e1)
  · by_cases e2:p.nm=q.nm
    · exact .inl (pw_of_ne h.nd p hp q hq e2)
    · exact .inr ⟨e1,e2⟩
theorem any_isN {l:List Nd} {q:Nd}:l.any (isN q)=true ↔ q ∈ l:=by
  rw [List.any_eq_true]
  constructor
  · rintro ⟨p,hp,h⟩; unfold isN at h; rw [decide_eq_true_eq] at h; exact h ▸ hp
  · intro h; exact ⟨q,h,by unfold isN; simp⟩
theorem clN_true {p q:Nd}:clN q p=true ↔ (p.n=q.n\/p.nm=q.nm):=by unfold clN; simp
theorem meL_ok:∀ {r l:List Nd},(∀ q ∈ r,∀ p ∈ l,Apart p q)->(r.Pairwise fun p q=>p.n ≠ q.n/\p.nm ≠ q.nm)->meL l r=some (l ++ r.filter fun q=>!(l.any (isN q)))
  | [],l,_,_=>by rw [meL,List.filter_nil,List.append_nil]
  | q :: r,l,h1,h2=>by
    obtain ⟨h3,h4⟩:=List.pairwise_cons.1 h2
    rw [meL]
    cases c1:l.any (isN q) with
    | true=>
      rw [Bool.cond_true,meL_ok (fun q hq=>h1 q (List.mem_cons_of_mem _ hq)) h4,List.filter_cons_of_neg (by rw [c1]; simp)]
    | false=>
      have hq:q ∉ l:=fun hm=>by rw [any_isN.2 hm] at c1; cases c1
      have c2:l.any (clN q)=false:=by
        rw [List.any_eq_false]
        intro p hp hc
        rcases h1 q (by simp) p hp with rfl | ⟨e1,e2⟩
        · exact hq hp
        · rcases clN_true.1 hc with e | e
          · exact e1 e
          · exact e2 e
      rw [Bool.cond_false,c2,Bool.cond_false,meL_ok (fun z hz p hp=>?_) h4,List.filter_cons_of_pos (by rw [c1]; rfl)]
      · rw [List.append_assoc,List.singleton_append]
        congr 3
        refine List.filter_congr fun z hz=>?_
        rw [List.any_append]
        have:[q].any (isN z)=false:=by
          rw [Bool.eq_false_iff,ne_eq,any_isN,List.mem_singleton]
          rintro rfl; exact (h3 z hz).1 rfl
        rw [this,Bool.or_false]
      · rcases List.mem_append.1 hp with hp | hp
        · exact h1 z (List.mem_cons_of_mem _ hz) p hp
        · obtain rfl:=List.mem_singleton.1 hp; exact .inr (h3 z hz)
theorem meL_apart:∀ {r l o:List Nd},(∀ p ∈ l,∀ q ∈ l,Apart p q)->meL l r=some o->∀ q ∈ r,∀ p ∈ l,Apart p q
  | [],_,_,_,_=>fun q hq=>by cases hq
  | z :: r,l,o,h1,h=>by
    rw [meL] at h
    cases c1:l.any (isN z) with
    | true=>
      rw [c1,Bool.cond_true] at h
      have hz:=any_isN.1 c1
      intro q hq p hp
      rcases List.mem_cons.1 hq with rfl | hq
      · exact h1 p hp q hz
      · exact meL_apart h1 h q hq p hp
    | false=>
      rw [c1,Bool.cond_false] at h
      cases c2:l.any (clN z) with
      | true=>rw [c2] at h; cases h
      | false=>
        rw [c2,Bool.cond_false] at h
        rw [List.any_eq_false] at c2
        have hz:∀ p ∈ l,Apart p z:=fun p hp=>by
          have:=c2 p hp
          rw [clN_true] at this
          exact .inr ⟨fun e=>this (.inl e),fun e=>this (.inr e)⟩
        have h2:∀ p ∈ l ++ [z],∀ q ∈ l ++ [z],Apart p q:=fun p hp q hq=>by
          rcases List.mem_append.1 hp with hp' | hp'<;>rcases List.mem_append.1 hq with hq' | hq'
          · exact h1 p hp' q hq'
          · rw [List.mem_singleton.1 hq']; exact hz p hp'
          · rw [List.mem_singleton.1 hp']
            rcases hz q hq' with e | ⟨e1,e2⟩
            · exact .inl e.symm
            · exact .inr ⟨fun e=>e1 e.symm,fun e=>e2 e.symm⟩
          · exact .inl ((List.mem_singleton.1 hp').trans (List.mem_singleton.1 hq').symm)
        intro q hq p hp
        rcases List.mem_cons.1 hq with rfl | hq
        · exact hz p hp
        · exact meL_apart h2 h q hq p (List.mem_append_left _ hp)
theorem nmAt_skip {n:Int}:∀ {A:List Nd} {x:ByteArray},(∀ p ∈ A,p.n ≠ n)->nmAt n x A=x
  | [],_,_=>rfl
  | p :: r,x,h=>by
    rw [nmAt,decide_eq_false (h p (by simp)),Bool.cond_false]
    exact nmAt_skip fun q hq=>h q (List.mem_cons_of_mem _ hq)
theorem nmAt_mem:∀ {A:List Nd},NdV A->∀ {p:Nd},p ∈ A->∀ x,nmAt p.n x A=p.nm
  | [],_,_,hp,_=>by cases hp
  | z :: r,h,p,hp,x=>by
    obtain ⟨h1,h2⟩:=List.pairwise_cons.1 h.asc
    rw [nmAt]
    have hr:NdV r:=⟨h2,(List.pairwise_cons.1 h.nd).2,fun q hq=>h.rg q (List.mem_cons_of_mem _ hq),fun q hq=>h.ne q (List.mem_cons_of_mem _ hq)⟩
    rcases List.mem_cons.1 hp with rfl | hp
    · rw [decide_eq_true rfl,Bool.cond_true]
      exact nmAt_skip fun q hq=>by have:=h1 q hq; omega
    · exact nmAt_mem hr hp _
theorem nmAt_some {A:List Nd} (h:NdV A) {n:Int} (hn:nmAt n (mk []) A ≠ mk []):(⟨n,nmAt n (mk []) A⟩:Nd) ∈ A:=by
  by_cases he:∃ p ∈ A,p.n=n
  · obtain ⟨p,hp,rfl⟩:=he
    rw [nmAt_mem h hp]; exact hp
  · exact absurd (nmAt_skip fun p hp e=>he ⟨p,hp,e⟩) hn
def chN (A B:List Nd) (n:Nat):ByteArray:=bif decide (nmAt n (mk []) A=mk []) then nmAt n (mk []) B else nmAt n (mk []) A
def okN (A B:List Nd) (n:Nat):Prop:=nmAt n (mk []) A ≠ mk []->nmAt n (mk []) B ≠ mk []->nmAt n (mk []) A=nmAt n (mk []) B
theorem okN_cond {A B:List Nd} {n:Nat}:(!(decide (nmAt n (mk []) A=mk [])) && !(decide (nmAt n (mk []) B=mk [])) && !(decide (nmAt n (mk []) A=nmAt n (mk []) B)))=false ↔ okN A B n:=by
  unfold okN
  by_cases h1:nmAt n (mk []) A=mk []<;>by_cases h2:nmAt n (mk []) B=mk []<;>by_cases h3:nmAt n (mk []) A=nmAt n (mk []) B<;>simp [h1,h2,h3]
def pkN (A B:List Nd) (n:Nat):Option Nd:=bif decide (chN A B n=mk []) then none else some ⟨n,chN A B n⟩
theorem inB_mem {l:List ByteArray} {x:ByteArray}:inB l x=true ↔ x ∈ l:=by
  unfold inB
  rw [List.any_eq_true]
  constructor
  · rintro ⟨y,hy,h⟩; rw [decide_eq_true_eq] at h; exact h ▸ hy
  · intro h; exact ⟨x,h,by simp⟩
theorem enR_ok {A B:List Nd}:∀ {r:List Nat} {l:List Nd},(∀ n ∈ r,okN A B n)->(∀ n ∈ r,chN A B n ≠ mk []->chN A B n ∉ l.map Nd.nm)->(r.Pairwise fun n m=>chN A B n ≠ mk []->chN A B n ≠ chN A B m)->enR A B r l=some (l ++ r.filterMap (pkN A B))
  | [],l,_,_,_=>by rw [enR,List.filterMap_nil,List.append_nil]
  | n :: r,l,h1,h2,h3=>by
    obtain ⟨h4,h5⟩:=List.pairwise_cons.1 h3
    have hch:(bif decide (nmAt n (mk []) A=mk []) then nmAt n (mk []) B else nmAt n (mk []) A)=chN A B n:=rfl
    rw [enR,okN_cond.2 (h1 n (by simp)),Bool.cond_false]
    simp only [hch]
    have h1':∀ m ∈ r,okN A B m:=fun m hm=>h1 m (List.mem_cons_of_mem _ hm)
    by_cases c:chN A B n=mk []
    · have hp:pkN A B n=none:=by unfold pkN; rw [decide_eq_true c]; rfl
      rw [decide_eq_true c,Bool.cond_true,enR_ok h1' (fun m hm=>h2 m (List.mem_cons_of_mem _ hm)) h5,List.filterMap_cons_none hp]
    · have hp:pkN A B n=some ⟨n,chN A B n⟩:=by unfold pkN; rw [decide_eq_false c]; rfl
      have hi:inB (l.map Nd.nm) (chN A B n)=false:=by
        rw [Bool.eq_false_iff,ne_eq,inB_mem]; exact h2 n (by simp) c
      rw [decide_eq_false c,Bool.cond_false,hi,Bool.cond_false,enR_ok h1' (fun m hm hc=>?_) h5,List.filterMap_cons_some hp]
      · rw [List.append_assoc,List.singleton_append]
      · rw [List.map_append,List.mem_append]
        rintro (h | h)
        · exact h2 m (List.mem_cons_of_mem _ hm) hc h
        · simp only [List.map_cons,List.map_nil,List.mem_singleton] at h
          exact h4 m hm c h.symm
theorem enR_inv {A B:List Nd}:∀ {r:List Nat} {l o:List Nd},enR A B r l=some o->(∀ n ∈ r,okN A B n)/\(∀ n ∈ r,chN A B n ≠ mk []->chN A B n ∉ l.map Nd.nm)/\(r.Pairwise fun n m=>chN A B n ≠ mk []->chN A B n ≠ chN A B m)
  | [],_,_,_=>⟨fun n hn=>(List.not_mem_nil hn).elim,fun n hn=>(List.not_mem_nil hn).elim,.nil⟩
  | n :: r,l,o,h=>by
    have hch:(bif decide (nmAt n (mk []) A=mk []) then nmAt n (mk []) B else nmAt n (mk []) A)=chN A B n:=rfl
    rw [enR] at h
    simp only [hch] at h
    cases c0:(!(decide (nmAt n (mk []) A=mk [])) && !(decide (nmAt n (mk []) B=mk [])) && !(decide (nmAt n (mk []) A=nmAt n (mk []) B))) with
    | true=>rw [c0] at h; cases h
    | false=>
      rw [c0,Bool.cond_false] at h
      have hk:=okN_cond.1 c0
      by_cases c:chN A B n=mk []
      · rw [decide_eq_true c,Bool.cond_true] at h
        obtain ⟨q1,q2,q3⟩:=enR_inv h
        refine ⟨fun m hm=>?_,fun m hm=>?_,List.pairwise_cons.2 ⟨fun m _ hc=>absurd c hc,q3⟩⟩
        · rcases List.mem_cons.1 hm with rfl | hm
          · exact hk
          · exact q1 m hm
        · rcases List.mem_cons.1 hm with rfl | hm
          · exact fun hc=>absurd c hc
          · exact q2 m hm
      · rw [decide_eq_false c,Bool.cond_false] at h
        cases ci:inB (l.map Nd.nm) (chN A B n) with
        | true=>rw [ci] at h; cases h
        | false=>
          rw [ci,Bool.cond_false] at h
          obtain ⟨q1,q2,q3⟩:=enR_inv h
          refine ⟨fun m hm=>?_,fun m hm=>?_,List.pairwise_cons.2 ⟨fun m hm _ e=>?_,q3⟩⟩
          · rcases List.mem_cons.1 hm with rfl | hm
            · exact hk
            · exact q1 m hm
          · rcases List.mem_cons.1 hm with rfl | hm
            · intro _ hm; rw [inB_mem.2 hm] at ci; cases ci
            · intro hc h'; exact q2 m hm hc (by rw [List.map_append]; exact List.mem_append_left _ h')
          · refine q2 m hm (by rw [<-e]; exact c) ?_
            rw [List.map_append,<-e]
            exact List.mem_append_right _ (by simp)
theorem chN_cases {A B:List Nd} (hA:NdV A) (hB:NdV B) {n:Nat} (h:chN A B n ≠ mk []):(⟨n,chN A B n⟩:Nd) ∈ A\/((⟨n,chN A B n⟩:Nd) ∈ B/\nmAt n (mk []) A=mk []):=by
  unfold chN at *
  by_cases c:nmAt n (mk []) A=mk []
  · rw [decide_eq_true c,Bool.cond_true] at *
    exact .inr ⟨nmAt_some hB h,c⟩
  · rw [decide_eq_false c,Bool.cond_false] at *
    exact .inl (nmAt_some hA h)
theorem enR_eq {A B:List Nd} (hA:NdV A) (hB:NdV B):enR A B (List.range 128) []=(meL A B).map (sortBy Nd.n):=by
  by_cases hg:∀ q ∈ B,∀ p ∈ A,Apart p q
  · have hpw:B.Pairwise fun p q=>p.n ≠ q.n/\p.nm ≠ q.nm:=(List.pairwise_and_iff.2 ⟨hB.asc,hB.nd⟩).imp fun h=>⟨by have:=h.1; omega,h.2⟩
    rw [meL_ok hg hpw,Option.map_some]
    have hok:∀ n:Nat,okN A B n:=fun n h1 h2=>by
      rcases hg _ (nmAt_some hB h2) _ (nmAt_some hA h1) with e | ⟨e,_⟩
      · exact congrArg Nd.nm e
      · exact absurd rfl e
    have hinj:∀ n m:Nat,chN A B n ≠ mk []->chN A B n=chN A B m->n=m:=fun n m h1 e=>by
      have h2:chN A B m ≠ mk []:=e ▸ h1
      have key:∀ {p q:Nd},Apart p q->p.nm=q.nm->p.n=q.n:=fun {p q} h e=>by
        rcases h with rfl | ⟨_,h⟩
        · rfl
        · exact absurd e h
      have:(n:Int)=m:=by
        rcases chN_cases hA hB h1 with h3 | ⟨h3,_⟩<;>rcases chN_cases hA hB h2 with h4 | ⟨h4,_⟩
        · exact key (hA.apart _ h3 _ h4) e
        · exact key (hg _ h4 _ h3) e
        · exact (key (hg _ h3 _ h4) e.symm).symm
        · exact key (hB.apart _ h3 _ h4) e
      omega
    have hr:(List.range 128).Pairwise (· < ·):=List.pairwise_lt_range
    rw [enR_ok (fun n _=>hok n) (fun n _ _ h=>by cases h) (hr.imp fun {n m} h h1 e=>by have:=hinj n m h1 e; omega),List.nil_append,Option.some.injEq]
    refine (eq_of_asc (g:=Nd.n) (sortBy_asc ?_) ?_ fun x=>?_).symm
    · rw [List.map_append]
      have h1:(A.map Nd.n).Nodup:=by unfold List.Nodup; rw [List.pairwise_map]; exact hA.asc.imp fun h e=>by omega
      have h2:(B.map Nd.n).Nodup:=by unfold List.Nodup; rw [List.pairwise_map]; exact hB.asc.imp fun h e=>by omega
      rw [List.nodup_append]
      refine ⟨h1,h2.sublist (List.filter_sublist.map Nd.n),fun v hv w hw e=>?_⟩
      obtain ⟨p,hp,rfl⟩:=List.mem_map.1 hv
      obtain ⟨q,hq,rfl⟩:=List.mem_map.1 hw
      obtain ⟨hq1,hq2⟩:=List.mem_filter.1 hq
      rcases hg q hq1 p hp with rfl | ⟨e',_⟩
      · rw [any_isN.2 hp] at hq2; cases hq2
      · exact e' e
    · rw [List.pairwise_filterMap]
      refine hr.imp fun {n m} h x hx y hy=>?_
      unfold pkN at hx hy
      by_cases c1:chN A B n=mk []
      · rw [decide_eq_true c1] at hx; cases hx
      · by_cases c2:chN A B m=mk []
        · rw [decide_eq_true c2] at hy; cases hy
        · rw [decide_eq_false c1,Bool.cond_false] at hx
          rw [decide_eq_false c2,Bool.cond_false] at hy
          cases hx; cases hy
          show (n:Int) < m; omega
    · rw [(sortBy_perm Nd.n _).mem_iff,List.mem_append,List.mem_filter,List.mem_filterMap]
      constructor
      · intro hx
        have hrg:0<=x.n/\x.n<=127:=by
          rcases hx with hx | ⟨hx,_⟩
          · exact hA.rg x hx
          · exact hB.rg x hx
        refine ⟨x.n.toNat,List.mem_range.2 (by omega),?_⟩
        have en:((x.n.toNat:Nat):Int)=x.n:=by omega
        have hc:chN A B x.n.toNat=x.nm/\x.nm ≠ mk []:=by
          unfold chN
          rw [en]
          rcases hx with hx | ⟨hx,hx2⟩
          · rw [nmAt_mem hA hx,decide_eq_false (hA.ne x hx)]; exact ⟨rfl,hA.ne x hx⟩
          · have hnA:nmAt x.n (mk []) A=mk []:=Decidable.byContradiction fun h=>by
              rcases hg x hx _ (nmAt_some hA h) with e | ⟨e,_⟩
              · rw [any_isN.2 (e ▸ nmAt_some hA h)] at hx2; cases hx2
              · exact e rfl
            rw [hnA,decide_eq_true rfl,Bool.cond_true,nmAt_mem hB hx]; exact ⟨rfl,hB.ne x hx⟩
        unfold pkN
        rw [hc.1,decide_eq_false hc.2,Bool.cond_false,en]
      · rintro ⟨n,hn,hx⟩
        unfold pkN at hx
        by_cases c:chN A B n=mk []
        · rw [decide_eq_true c] at hx; cases hx
        · rw [decide_eq_false c,Bool.cond_false,Option.some.injEq] at hx
          subst hx
          rcases chN_cases hA hB c with h | ⟨h,h0⟩
          · exact .inl h
          · by_cases hm:(⟨n,chN A B n⟩:Nd) ∈ A
            · exact .inl hm
            · refine .inr ⟨h,?_⟩
              rw [Bool.not_eq_true',Bool.eq_false_iff,ne_eq,any_isN]; exact hm
  · have h1:meL A B=none:=by
      cases h:meL A B with
      | none=>rfl
      | some o=>exact absurd (meL_apart hA.apart h) hg
    rw [h1,Option.map_none]
    cases h:enR A B (List.range 128) [] with
    | none=>rfl
    | some o=>
      refine absurd (fun q hq p hp=>?_) hg
      obtain ⟨i1,_,i3⟩:=enR_inv h
      have hp2:=hA.rg p hp
      have hq2:=hB.rg q hq
      have ep:((p.n.toNat:Nat):Int)=p.n:=by omega
      have eq:((q.n.toNat:Nat):Int)=q.n:=by omega
      have mp:=nmAt_mem hA hp (mk [])
      have mq:=nmAt_mem hB hq (mk [])
      have np:=hA.ne p hp
      have nq:=hB.ne q hq
      by_cases e1:p.n=q.n
      · have:=i1 q.n.toNat (List.mem_range.2 (by omega))
        unfold okN at this
        rw [eq,<-e1,mp,e1,mq] at this
        exact .inl (nd_eq.2 ⟨e1,this np nq⟩)
      · by_cases e2:p.nm=q.nm
        · exfalso
          have cp:chN A B p.n.toNat=p.nm:=by unfold chN; rw [ep,mp,decide_eq_false np]; rfl
          have cq:chN A B q.n.toNat=q.nm:=by
            unfold chN
            rw [eq]
            by_cases c:nmAt q.n (mk []) A=mk []
            · rw [decide_eq_true c,Bool.cond_true,mq]
            · have:=i1 q.n.toNat (List.mem_range.2 (by omega))
              unfold okN at this
              rw [eq,mq] at this
              rw [decide_eq_false c,Bool.cond_false]; exact this c nq
          have hne:p.n.toNat ≠ q.n.toNat:=by omega
          have hpw:=i3
          have key:∀ {n m:Nat},n < m->m < 128->chN A B n ≠ mk []->chN A B n ≠ chN A B m:=fun {n m} h1 h2=>by
            have:=List.pairwise_iff_getElem.1 hpw n m (by rw [List.length_range]; omega) (by rw [List.length_range]; exact h2) h1
            rwa [List.getElem_range,List.getElem_range] at this
          rcases Nat.lt_or_gt_of_ne hne with h2 | h2
          · exact key h2 (by omega) (by rw [cp]; exact np) (by rw [cp,cq,e2])
          · exact key h2 (by omega) (by rw [cq]; exact nq) (by rw [cp,cq,e2])
        · exact .inr ⟨e1,e2⟩
end Go.Proofs.YtbolanmlngjdoaaGreat
namespace Go.Proofs.YtbolanmlngjdoaaGreat
open Go.W
structure FsV (A:List Fl):Prop where
  asc:A.Pairwise fun p q=>p.num < q.num
  rg:∀ p ∈ A,1<=p.num/\p.num<=127
theorem FsV.fF {A:List Fl} (h:FsV A) {f:Fl} (hf:f ∈ A):fF A f.num=some f:=fF_of_asc h.asc hf
theorem FsV.nd {A:List Fl} (h:FsV A):(A.map Fl.num).Nodup:=by unfold List.Nodup; rw [List.pairwise_map]; exact h.asc.imp fun h e=>by omega
noncomputable def hF (b:List Fl) (f:Fl):Option Fl:=match fF b f.num with
  | some g=>bif (mfF f g).2 then some (mfF f g).1 else none
  | none=>bif f.opt then some f else none
def mapO {α β:Type} (h:α->Option β):List α->Option (List β)
  | []=>some []
  | x :: r=>match h x,mapO h r with
    | some y,some l=>some (y :: l)
    | _,_=>none
theorem mapO_none {α β:Type} {h:α->Option β}:∀ {l:List α},mapO h l=none ↔ ∃ x ∈ l,h x=none
  | []=>by simp [mapO]
  | x :: r=>by
    rw [mapO]
    cases h1:h x with
    | none=>simp [h1]
    | some y=>
      cases h2:mapO h r with
      | none=>
        obtain ⟨z,hz,e⟩:=mapO_none.1 h2
        simp only [true_iff]
        exact ⟨z,List.mem_cons_of_mem _ hz,e⟩
      | some l=>
        simp only [reduceCtorEq,false_iff]
        rintro ⟨z,hz,e⟩
        rcases List.mem_cons.1 hz with rfl | hz
        · rw [h1] at e; cases e
        · rw [mapO_none.2 ⟨z,hz,e⟩] at h2; cases h2
theorem mapO_mem {α β:Type} {h:α->Option β}:∀ {l:List α} {m:List β},mapO h l=some m->∀ y,y ∈ m ↔ ∃ x ∈ l,h x=some y
  | [],m,e,y=>by rw [mapO,Option.some.injEq] at e; subst e; simp
  | x :: r,m,e,y=>by
    rw [mapO] at e
    cases h1:h x with
    | none=>rw [h1] at e; cases e
    | some z=>
      rw [h1] at e
      cases h2:mapO h r with
      | none=>rw [h2] at e; cases e
      | some l=>
        rw [h2] at e
        cases e
        rw [List.mem_cons,mapO_mem h2 y]
        constructor
        · rintro (rfl | ⟨x',hx,e⟩)
          · exact ⟨x,by simp,h1⟩
          · exact ⟨x',List.mem_cons_of_mem _ hx,e⟩
        · rintro ⟨x',hx,e⟩
          rcases List.mem_cons.1 hx with rfl | hx
          · rw [h1] at e; exact .inl (Option.some.inj e).symm
          · exact .inr ⟨x',hx,e⟩
theorem mapO_map {α β γ:Type} {h:α->Option β} {g:β->γ} {g':α->γ} (hg:∀ x y,h x=some y->g y=g' x):∀ {l:List α} {m:List β},mapO h l=some m->m.map g=l.map g'
  | [],m,e=>by rw [mapO,Option.some.injEq] at e; subst e; rfl
  | x :: r,m,e=>by
    rw [mapO] at e
    cases h1:h x with
    | none=>rw [h1] at e; cases e
    | some z=>
      rw [h1] at e
      cases h2:mapO h r with
      | none=>rw [h2] at e; cases e
      | some l=>
        rw [h2] at e
        cases e
        rw [List.map_cons,List.map_cons,mapO_map hg h2,hg x z h1]
theorem msA_eq {b:List Fl}:∀ {r l:List Fl},msA b l r=(mapO (hF b) r).map (l ++ ·)
  | [],l=>by rw [msA,mapO]; simp
  | f :: r,l=>by
    rw [msA,mapO]
    unfold hF
    cases hg:fF b f.num with
    | none=>
      cases ho:f.opt with
      | true=>
        simp only [Bool.cond_true]
        rw [msA_eq]
        unfold hF
        cases mapO _ r<;>simp
      | false=>simp
    | some g=>
      cases ho:(mfF f g).2 with
      | true=>
        simp only [Bool.cond_true,ho]
        rw [msA_eq]
        unfold hF
        cases mapO _ r<;>simp
      | false=>simp [ho]
theorem msB_eq {a:List Fl}:∀ {r l:List Fl},msB a l r=bif r.all (fun g=>(fF a g.num).isSome || g.opt) then some (l ++ r.filter fun g=>!(fF a g.num).isSome) else none
  | [],l=>by rw [msB]; simp
  | g :: r,l=>by
    rw [msB,List.all_cons]
    cases h1:(fF a g.num).isSome with
    | true=>rw [Bool.cond_true,msB_eq,List.filter_cons_of_neg (by rw [h1]; simp)]; simp
    | false=>
      rw [Bool.cond_false]
      cases h2:g.opt with
      | true=>rw [Bool.cond_true,msB_eq,List.filter_cons_of_pos (by rw [h1]; rfl)]; simp
      | false=>simp
noncomputable def gqF (a b:List Fl) (n:Nat):Option (Option Fl):=match fF a n,fF b n with
  | none,none=>some none
  | none,some g=>bif g.opt then some (some g) else none
  | some f,none=>bif f.opt then some (some f) else none
  | some f,some g=>bif (mfF f g).2 then some (some (mfF f g).1) else none
theorem fdR_eq {a b:List Fl}:∀ {r:List Nat} {l:List Fl},fdR a b r l=(mapO (gqF a b) r).map fun m=>l ++ m.filterMap id
  | [],l=>by rw [fdR,mapO]; simp
  | n :: r,l=>by
    have go:∀ x:Fl,gqF a b n=some (some x)->fdR a b (n :: r) l=fdR a b r (l ++ [x])->fdR a b (n :: r) l=(mapO (gqF a b) (n :: r)).map fun m=>l ++ m.filterMap id:=fun x h1 h2=>by
      rw [h2,fdR_eq,mapO,h1]
      cases mapO (gqF a b) r<;>simp
    have bad:gqF a b n=none->fdR a b (n :: r) l=none->fdR a b (n :: r) l=(mapO (gqF a b) (n :: r)).map fun m=>l ++ m.filterMap id:=fun h1 h2=>by
      rw [h2,mapO,h1]; rfl
    cases hf:fF a n with
    | none=>
      cases hg:fF b n with
      | none=>
        have h1:gqF a b n=some none:=by unfold gqF; rw [hf,hg]
        rw [fdR,hf,hg,mapO,h1]
        simp only
        rw [fdR_eq]
        cases mapO (gqF a b) r<;>simp
      | some g=>
        cases ho:g.opt with
        | true=>exact go g (by unfold gqF; rw [hf,hg]; simp only [ho,Bool.cond_true]) (by rw [fdR,hf,hg]; simp only [ho,Bool.cond_true])
        | false=>exact bad (by unfold gqF; rw [hf,hg]; simp only [ho,Bool.cond_false]) (by rw [fdR,hf,hg]; simp only [ho,Bool.cond_false])
    | some f=>
      cases hg:fF b n with
      | none=>
        cases ho:f.opt with
        | true=>exact go f (by unfold gqF; rw [hf,hg]; simp only [ho,Bool.cond_true]) (by rw [fdR,hf,hg]; simp only [ho,Bool.cond_true])
        | false=>exact bad (by unfold gqF; rw [hf,hg]; simp only [ho,Bool.cond_false]) (by rw [fdR,hf,hg]; simp only [ho,Bool.cond_false])
      | some g=>
        cases ho:(mfF f g).2 with
        | true=>exact go (mfF f g).1 (by unfold gqF; rw [hf,hg]; simp only [ho,Bool.cond_true]) (by rw [fdR,hf,hg]; simp only [ho,Bool.cond_true])
        | false=>exact bad (by unfold gqF; rw [hf,hg]; simp only [ho,Bool.cond_false]) (by rw [fdR,hf,hg]; simp only [ho,Bool.cond_false])
theorem hF_num {b:List Fl} {f x:Fl} (h:hF b f=some x):x.num=f.num:=by
  unfold hF at h
  split at h
  · rename_i g _
    cases c:(mfF f g).2 with
    | true=>rw [c] at h; cases h; exact mfF_num f g
    | false=>rw [c] at h; cases h
  · cases c:f.opt with
    | true=>rw [c] at h; cases h; rfl
    | false=>rw [c] at h; cases h
theorem gqF_of_a {a b:List Fl} (ha:FsV a) {f:Fl} (hf:f ∈ a):gqF a b f.num.toNat=(hF b f).map some:=by
  have hr:=ha.rg f hf
  have e:((f.num.toNat:Nat):Int)=f.num:=by omega
  unfold gqF hF
  rw [e,ha.fF hf]
  cases fF b f.num with
  | none=>cases h:f.opt<;>simp [h]
  | some g=>cases h:(mfF f g).2<;>simp [h]
theorem gqF_of_b {a b:List Fl} (hb:FsV b) {g:Fl} (hg:g ∈ b) (h:(fF a g.num).isSome=false):gqF a b g.num.toNat=bif g.opt then some (some g) else none:=by
  have hr:=hb.rg g hg
  have e:((g.num.toNat:Nat):Int)=g.num:=by omega
  unfold gqF
  rw [e,hb.fF hg,Option.isSome_eq_false_iff.1 h |> Option.isNone_iff_eq_none.1]
theorem fF_mem {l:List Fl} {k:Int} {f:Fl} (h:fF l k=some f):f ∈ l/\f.num=k:=fF_some h
theorem gqF_inv {a b:List Fl} (ha:FsV a) (hb:FsV b) (n:Nat):gqF a b n=some none\/(∃ f ∈ a,f.num=n/\gqF a b n=(hF b f).map some)\/(∃ g ∈ b,g.num=n/\(fF a g.num).isSome=false/\gqF a b n=bif g.opt then some (some g) else none):=by
  cases hf:fF a n with
  | some f=>
    obtain ⟨h1,h2⟩:=fF_mem hf
    refine .inr (.inl ⟨f,h1,h2,?_⟩)
    have:=gqF_of_a (b:=b) ha h1
    rw [h2,Int.toNat_natCast] at this; exact this
  | none=>
    cases hg:fF b n with
    | none=>exact .inl (by unfold gqF; rw [hf,hg])
    | some g=>
      obtain ⟨h1,h2⟩:=fF_mem hg
      refine .inr (.inr ⟨g,h1,h2,by rw [h2,hf]; rfl,?_⟩)
      have:=gqF_of_b (a:=a) hb h1 (by rw [h2,hf]; rfl)
      rw [h2,Int.toNat_natCast] at this; exact this
theorem mem_rg {n:Nat}:n ∈ (List.range 128).drop 1 ↔ 1<=n/\n < 128:=by
  have:(List.range 128).drop 1=List.range' 1 127:=by decide
  rw [this,List.mem_range'_1]
theorem fdR_sort {a b:List Fl} (ha:FsV a) (hb:FsV b):fdR a b ((List.range 128).drop 1) []=(msL a b).map (sortBy Fl.num):=by
  rw [fdR_eq]
  cases hm:msL a b with
  | none=>
    rw [Option.map_none]
    have:mapO (gqF a b) ((List.range 128).drop 1)=none:=by
      rw [mapO_none]
      unfold msL at hm
      rw [msA_eq] at hm
      cases h1:mapO (hF b) a with
      | none=>
        obtain ⟨f,hf,e⟩:=mapO_none.1 h1
        have hr:=ha.rg f hf
        exact ⟨f.num.toNat,mem_rg.2 (by omega),by rw [gqF_of_a ha hf,e]; rfl⟩
      | some m=>
        rw [h1] at hm
        have hm:msB a m b=none:=by simpa using hm
        rw [msB_eq] at hm
        cases h2:b.all (fun g=>(fF a g.num).isSome || g.opt) with
        | true=>rw [h2] at hm; cases hm
        | false=>
          rw [List.all_eq_false] at h2
          obtain ⟨g,hg,e⟩:=h2
          have e:(fF a g.num).isSome=false/\g.opt=false:=by
            cases h3:(fF a g.num).isSome<;>cases h4:g.opt<;>rw [h3,h4] at e<;>first | exact ⟨rfl,rfl⟩ | exact absurd rfl e
          have hr:=hb.rg g hg
          exact ⟨g.num.toNat,mem_rg.2 (by omega),by rw [gqF_of_b hb hg e.1,e.2]; rfl⟩
    rw [this]; rfl
  | some l=>
    have hn:=msL_nodup hm ha.nd hb.nd
    unfold msL at hm
    rw [msA_eq] at hm
    cases h1:mapO (hF b) a with
    | none=>rw [h1] at hm; cases hm
    | some m=>
      rw [h1] at hm
      have hm:msB a m b=some l:=by simpa using hm
      rw [msB_eq] at hm
      cases h2:b.all (fun g=>(fF a g.num).isSome || g.opt) with
      | false=>rw [h2] at hm; cases hm
      | true=>
        rw [h2,Bool.cond_true,Option.some.injEq] at hm
        have hall:∀ g ∈ b,(fF a g.num).isSome=false->g.opt=true:=fun g hg e=>by
          have:=List.all_eq_true.1 h2 g hg
          rw [e,Bool.false_or] at this; exact this
        cases h3:mapO (gqF a b) ((List.range 128).drop 1) with
        | none=>
          obtain ⟨n,hn,e⟩:=mapO_none.1 h3
          rcases gqF_inv ha hb n with e1 | ⟨f,hf,_,e1⟩ | ⟨g,hg,_,h4,e1⟩
          · rw [e1] at e; cases e
          · rw [e1,Option.map_eq_none_iff] at e
            rw [mapO_none.2 ⟨f,hf,e⟩] at h1; cases h1
          · rw [e1,hall g hg h4] at e; cases e
        | some M=>
          rw [Option.map_some,Option.map_some,List.nil_append,Option.some.injEq]
          have hmm:=mapO_mem h3
          have mem:∀ x,x ∈ M.filterMap id ↔ ∃ n,1<=n/\n < 128/\gqF a b n=some (some x):=fun x=>by
            rw [List.mem_filterMap]
            constructor
            · rintro ⟨o,ho,e⟩
              obtain ⟨n,hn,e2⟩:=(hmm o).1 ho
              have e:o=some x:=e
              rw [e] at e2
              exact ⟨n,(mem_rg.1 hn).1,(mem_rg.1 hn).2,e2⟩
            · rintro ⟨n,n1,n2,e⟩
              exact ⟨some x,(hmm _).2 ⟨n,mem_rg.2 ⟨n1,n2⟩,e⟩,rfl⟩
          have gn:∀ {n:Nat} {x:Fl},gqF a b n=some (some x)->x.num=n:=fun {n x} e=>by
            rcases gqF_inv ha hb n with e1 | ⟨f,hf,hfn,e1⟩ | ⟨g,hg,hgn,h4,e1⟩
            · rw [e1] at e; cases e
            · rw [e1] at e
              obtain ⟨y,hy,e⟩:=Option.map_eq_some_iff.1 e
              cases e
              rw [hF_num hy]; exact hfn
            · rw [e1,hall g hg h4] at e; cases e; exact hgn
          refine eq_of_asc (g:=Fl.num) ?_ (sortBy_asc hn) fun x=>?_
          · have key:∀ {r:List Nat} {M:List (Option Fl)},r.Pairwise (· < ·)->mapO (gqF a b) r=some M->(M.filterMap id).Pairwise (fun p q=>p.num < q.num)/\∀ x ∈ M.filterMap id,∃ n ∈ r,x.num=(n:Int):=by
              intro r
              induction r with
              | nil=>intro M _ e; rw [mapO,Option.some.injEq] at e; subst e; exact ⟨.nil,fun x hx=>(List.not_mem_nil hx).elim⟩
              | cons n r ih=>
                intro M hp e
                obtain ⟨p1,p2⟩:=List.pairwise_cons.1 hp
                rw [mapO] at e
                cases q1:gqF a b n with
                | none=>rw [q1] at e; cases e
                | some o=>
                  rw [q1] at e
                  cases q2:mapO (gqF a b) r with
                  | none=>rw [q2] at e; cases e
                  | some M'=>
                    rw [q2] at e
                    cases e
                    obtain ⟨i1,i2⟩:=ih p2 q2
                    cases o with
                    | none=>
                      rw [List.filterMap_cons_none rfl]
                      exact ⟨i1,fun x hx=>by obtain ⟨k,hk,e⟩:=i2 x hx; exact ⟨k,List.mem_cons_of_mem _ hk,e⟩⟩
                    | some y=>
                      have hy:=gn q1
                      rw [List.filterMap_cons_some (f:=id) (a:=some y) (b:=y) rfl]
                      refine ⟨List.pairwise_cons.2 ⟨fun x hx=>?_,i1⟩,fun x hx=>?_⟩
                      · obtain ⟨k,hk,e⟩:=i2 x hx
                        have:=p1 k hk; omega
                      · rcases List.mem_cons.1 hx with rfl | hx
                        · exact ⟨n,by simp,hy⟩
                        · obtain ⟨k,hk,e⟩:=i2 x hx; exact ⟨k,List.mem_cons_of_mem _ hk,e⟩
            exact (key (List.pairwise_lt_range.drop) h3).1
          · rw [mem,(sortBy_perm Fl.num _).mem_iff,<-hm,List.mem_append,mapO_mem h1,List.mem_filter]
            constructor
            · rintro ⟨n,_,_,e⟩
              rcases gqF_inv ha hb n with e1 | ⟨f,hf,hfn,e1⟩ | ⟨g,hg,hgn,h4,e1⟩
              · rw [e1] at e; cases e
              · rw [e1] at e
                obtain ⟨y,hy,e⟩:=Option.map_eq_some_iff.1 e
                cases e
                exact .inl ⟨f,hf,hy⟩
              · rw [e1,hall g hg h4] at e; cases e
                exact .inr ⟨hg,by rw [h4]; rfl⟩
            · rintro (⟨f,hf,e⟩ | ⟨hg,h4⟩)
              · have hr:=ha.rg f hf
                exact ⟨f.num.toNat,by omega,by omega,by rw [gqF_of_a ha hf,e]; rfl⟩
              · have h4:(fF a x.num).isSome=false:=by simpa using h4
                have hr:=hb.rg x hg
                exact ⟨x.num.toNat,by omega,by omega,by rw [gqF_of_b hb hg h4,hall x hg h4]; rfl⟩
theorem mfF_self (f:Fl):mfF f f=(f,true):=by
  unfold mfF
  rw [bne_self_eq_false,Bool.cond_false,widF_refl,Bool.cond_true]
theorem msL_self {a:List Fl} (ha:FsV a):msL a a=some a:=by
  have h1:mapO (hF a) a=some a:=by
    have key:∀ {r:List Fl},(∀ f ∈ r,f ∈ a)->mapO (hF a) r=some r:=by
      intro r
      induction r with
      | nil=>intro _; rfl
      | cons f r ih=>
        intro h
        rw [mapO,ih fun f hf=>h f (List.mem_cons_of_mem _ hf)]
        unfold hF
        rw [ha.fF (h f (by simp))]
        simp [mfF_self]
    exact key fun f hf=>hf
  have h2:a.all (fun g=>(fF a g.num).isSome || g.opt)=true:=List.all_eq_true.2 fun g hg=>by rw [ha.fF hg]; rfl
  have h3:(a.filter fun g=>!(fF a g.num).isSome)=[]:=List.filter_eq_nil_iff.2 fun g hg=>by rw [ha.fF hg]; simp
  unfold msL
  rw [msA_eq,h1]
  show msB a ([] ++ a) a=some a
  rw [msB_eq,h2,Bool.cond_true,h3,List.nil_append,List.append_nil]
end Go.Proofs.YtbolanmlngjdoaaGreat
namespace Go.Proofs.YtbolanmlngjdoaaGreat
open Go.W
theorem hasE_iff {l:List En} {n:ByteArray}:hasE l n=true ↔ n ∈ l.map En.nm:=by
  unfold hasE
  rw [List.any_eq_true,List.mem_map]
  constructor
  · rintro ⟨x,hx,h⟩; exact ⟨x,hx,by simpa using h⟩
  · rintro ⟨x,hx,h⟩; exact ⟨x,hx,by simpa using h⟩
theorem hasS_iff {l:List St} {n:ByteArray}:hasS l n=true ↔ n ∈ l.map St.nm:=by
  unfold hasS
  rw [List.any_eq_true,List.mem_map]
  constructor
  · rintro ⟨x,hx,h⟩; exact ⟨x,hx,by simpa using h⟩
  · rintro ⟨x,hx,h⟩; exact ⟨x,hx,by simpa using h⟩
theorem hasE_congr {l m:List En} (h:l.map En.nm=m.map En.nm) (n:ByteArray):hasE l n=hasE m n:=by rw [Bool.eq_iff_iff,hasE_iff,hasE_iff,h]
theorem hasS_congr {l m:List St} (h:l.map St.nm=m.map St.nm) (n:ByteArray):hasS l n=hasS m n:=by rw [Bool.eq_iff_iff,hasS_iff,hasS_iff,h]
structure ScV (s:Sc):Prop where
  en:∀ x ∈ s.es,fEn s.es x.nm=some x/\EnV x
  st:∀ x ∈ s.ss,fS s.ss x.nm=some x/\FsV x.fs
  ne:(s.es.map En.nm).Nodup
  ns:(s.ss.map St.nm).Nodup
theorem scV_of {s:Sc} (hf:s.fit) (h:checkF s=0):ScV s:=by
  obtain ⟨_,_,h1,h2,_,_⟩:=check_good hf h
  refine ⟨fun x hx=>⟨(en_at hf h hx).1,enV_of hf h hx⟩,fun x hx=>?_,?_,?_⟩
  · obtain ⟨q1,q2,_⟩:=st_at hf h hx
    exact ⟨q1,cf_asc q2,fun f hf=>(cf_zero q2 f hf).1⟩
  · unfold List.Nodup
    rw [List.pairwise_map,List.pairwise_iff_getElem]
    intro i j hi hj hij e
    have hc:=(en_zero (List.getElem?_eq_getElem hj) (fE_zero h1 j hj)).2.1
    rw [Bool.eq_false_iff,ne_eq,hasE_iff,List.mem_map] at hc
    exact hc ⟨s.es[i],List.mem_take_iff_getElem.2 ⟨i,by omega,rfl⟩,e⟩
  · unfold List.Nodup
    rw [List.pairwise_map,List.pairwise_iff_getElem]
    intro i j hi hj hij e
    have hc:=(cn_zero (st_zero (List.getElem?_eq_getElem hj) (fE_zero h2 j hj)).1).2.2
    rw [Bool.eq_false_iff,ne_eq,hasS_iff,List.mem_map] at hc
    exact hc ⟨s.ss[i],List.mem_take_iff_getElem.2 ⟨i,by omega,rfl⟩,e⟩
noncomputable def enP (b:Sc) (x:En):Option En:=match fEn b.es x.nm with
  | some y=>(meL (nds x) (nds y)).map (enOf x.nm)
  | none=>some x
noncomputable def stP (b:Sc) (x:St):Option St:=match fS b.ss x.nm with
  | some y=>(msL x.fs y.fs).map fun l=>⟨x.nm,sortBy Fl.num l⟩
  | none=>some x
theorem enM_eq {a b:Sc} (va:ScV a) (vb:ScV b) {x:En} (hx:x ∈ a.es):enM b x=enP b x:=by
  unfold enM enP
  cases hy:fEn b.es x.nm with
  | none=>rfl
  | some y=>
    show Option.map _ _=Option.map _ _
    rw [enR_eq (ndv_of (va.en x hx).2) (ndv_of (vb.en y (fEn_mem hy).1).2),Option.map_map]
    rfl
theorem stM_eq {a b:Sc} (va:ScV a) (vb:ScV b) {x:St} (hx:x ∈ a.ss):stM b x=stP b x:=by
  unfold stM stP
  cases hy:fS b.ss x.nm with
  | none=>rfl
  | some y=>
    show Option.map _ _=Option.map _ _
    rw [fdR_sort (va.st x hx).2 (vb.st y (fS_mem hy).1).2,Option.map_map]
    rfl
theorem enP_nm {b:Sc} {x z:En} (h:enP b x=some z):z.nm=x.nm:=by
  unfold enP at h
  split at h
  · obtain ⟨l,_,rfl⟩:=Option.map_eq_some_iff.1 h; rfl
  · cases h; rfl
theorem stP_nm {b:Sc} {x z:St} (h:stP b x=some z):z.nm=x.nm:=by
  unfold stP at h
  split at h
  · obtain ⟨l,_,rfl⟩:=Option.map_eq_some_iff.1 h; rfl
  · cases h; rfl
theorem enP_self {b:Sc} (vb:ScV b) {x:En} (hx:x ∈ b.es):meL (nds x) (nds x)=some (nds x)/\enOf x.nm (nds x)=x:=by
  have hv:=(vb.en x hx).2
  have hn:=ndv_of hv
  have hpw:(nds x).Pairwise fun p q=>p.n ≠ q.n/\p.nm ≠ q.nm:=(List.pairwise_and_iff.2 ⟨hn.asc,hn.nd⟩).imp fun h=>⟨by have:=h.1; omega,h.2⟩
  refine ⟨?_,?_⟩
  · rw [meL_ok (fun q hq p hp=>hn.apart p hp q hq) hpw,Option.some.injEq]
    rw [List.filter_eq_nil_iff.2 fun q hq=>by rw [any_isN.2 hq]; simp,List.append_nil]
  · unfold enOf
    rw [sortBy_self hn.asc,nds_nm hv.len,nds_n' hv.len]
theorem stP_self {b:Sc} (vb:ScV b) {x:St} (hx:x ∈ b.ss):msL x.fs x.fs=some x.fs/\(⟨x.nm,sortBy Fl.num x.fs⟩:St)=x:=by
  have hv:=(vb.st x hx).2
  exact ⟨msL_self hv,by rw [sortBy_self hv.asc]⟩
theorem enS_none (b:Sc):∀ x,enStep b none x=none:=fun _=>rfl
theorem stS_none (b:Sc):∀ x,stStep b none x=none:=fun _=>rfl
theorem en_fold1 {b:Sc} {T:List St}:∀ {l E:List En},(∀ x ∈ l,x.nm ∉ E.map En.nm)->(l.map En.nm).Nodup->l.foldl (enStep b) (some (E,T))=(mapO (enP b) l).map fun L=>(E ++ L,T)
  | [],E,_,_=>by rw [List.foldl_nil,mapO]; simp
  | x :: l,E,h1,h2=>by
    rw [List.map_cons,List.nodup_cons] at h2
    have hh:hasE E x.nm=false:=by rw [Bool.eq_false_iff,ne_eq,hasE_iff]; exact h1 x (by simp)
    have hs:enStep b (some (E,T)) x=(enP b x).map fun z=>(E ++ [z],T):=by
      simp only [enStep,hh,Bool.cond_false,enP]
      cases fEn b.es x.nm with
      | none=>rfl
      | some y=>simp only [Option.map_map]; rfl
    rw [List.foldl_cons,hs,mapO]
    cases hp:enP b x with
    | none=>rw [Option.map_none,foldl_none (enS_none b)]; rfl
    | some z=>
      rw [Option.map_some,en_fold1 (fun y hy hm=>?_) h2.2]
      · cases mapO (enP b) l<;>simp
      · rw [List.map_append,List.mem_append] at hm
        rcases hm with hm | hm
        · exact h1 y (List.mem_cons_of_mem _ hy) hm
        · simp only [List.map_cons,List.map_nil,List.mem_singleton] at hm
          rw [enP_nm hp] at hm
          exact h2.1 (hm ▸ List.mem_map_of_mem hy)
theorem st_fold1 {b:Sc} {E:List En}:∀ {l T:List St},(∀ x ∈ l,x.nm ∉ T.map St.nm)->(l.map St.nm).Nodup->l.foldl (stStep b) (some (E,T))=(mapO (stP b) l).map fun L=>(E,T ++ L)
  | [],T,_,_=>by rw [List.foldl_nil,mapO]; simp
  | x :: l,T,h1,h2=>by
    rw [List.map_cons,List.nodup_cons] at h2
    have hh:hasS T x.nm=false:=by rw [Bool.eq_false_iff,ne_eq,hasS_iff]; exact h1 x (by simp)
    have hs:stStep b (some (E,T)) x=(stP b x).map fun z=>(E,T ++ [z]):=by
      simp only [stStep,hh,Bool.cond_false,stP]
      cases fS b.ss x.nm with
      | none=>rfl
      | some y=>simp only [Option.map_map]; rfl
    rw [List.foldl_cons,hs,mapO]
    cases hp:stP b x with
    | none=>rw [Option.map_none,foldl_none (stS_none b)]; rfl
    | some z=>
      rw [Option.map_some,st_fold1 (fun y hy hm=>?_) h2.2]
      · cases mapO (stP b) l<;>simp
      · rw [List.map_append,List.mem_append] at hm
        rcases hm with hm | hm
        · exact h1 y (List.mem_cons_of_mem _ hy) hm
        · simp only [List.map_cons,List.map_nil,List.mem_singleton] at hm
          rw [stP_nm hp] at hm
          exact h2.1 (hm ▸ List.mem_map_of_mem hy)
theorem en_fold2 {b:Sc} (vb:ScV b) {T:List St}:∀ {l E:List En},(∀ x ∈ l,x ∈ b.es)->(l.map En.nm).Nodup->l.foldl (enStep b) (some (E,T))=some (E ++ l.filter fun x=>!(hasE E x.nm),T)
  | [],E,_,_=>by rw [List.foldl_nil,List.filter_nil,List.append_nil]
  | x :: l,E,h1,h2=>by
    rw [List.map_cons,List.nodup_cons] at h2
    have h1':∀ y ∈ l,y ∈ b.es:=fun y hy=>h1 y (List.mem_cons_of_mem _ hy)
    rw [List.foldl_cons]
    cases hh:hasE E x.nm with
    | true=>
      have hs:enStep b (some (E,T)) x=some (E,T):=by simp only [enStep,hh,Bool.cond_true]
      rw [hs,en_fold2 vb h1' h2.2,List.filter_cons_of_neg (by rw [hh]; simp)]
    | false=>
      have hx:=h1 x (by simp)
      obtain ⟨q1,q2⟩:=enP_self vb hx
      have hs:enStep b (some (E,T)) x=some (E ++ [x],T):=by
        simp only [enStep,hh,Bool.cond_false,(vb.en x hx).1,q1,Option.map_some,q2]
      rw [hs,en_fold2 vb h1' h2.2,List.filter_cons_of_pos (by rw [hh]; rfl),List.append_assoc,List.singleton_append]
      congr 4
      refine List.filter_congr fun y hy=>?_
      congr 1
      rw [Bool.eq_iff_iff,hasE_iff,hasE_iff,List.map_append,List.mem_append]
      constructor
      · rintro (h | h)
        · exact h
        · simp only [List.map_cons,List.map_nil,List.mem_singleton] at h
          exact absurd (h ▸ List.mem_map_of_mem hy) h2.1
      · exact .inl
theorem st_fold2 {b:Sc} (vb:ScV b) {E:List En}:∀ {l T:List St},(∀ x ∈ l,x ∈ b.ss)->(l.map St.nm).Nodup->l.foldl (stStep b) (some (E,T))=some (E,T ++ l.filter fun x=>!(hasS T x.nm))
  | [],T,_,_=>by rw [List.foldl_nil,List.filter_nil,List.append_nil]
  | x :: l,T,h1,h2=>by
    rw [List.map_cons,List.nodup_cons] at h2
    have h1':∀ y ∈ l,y ∈ b.ss:=fun y hy=>h1 y (List.mem_cons_of_mem _ hy)
    rw [List.foldl_cons]
    cases hh:hasS T x.nm with
    | true=>
      have hs:stStep b (some (E,T)) x=some (E,T):=by simp only [stStep,hh,Bool.cond_true]
      rw [hs,st_fold2 vb h1' h2.2,List.filter_cons_of_neg (by rw [hh]; simp)]
    | false=>
      have hx:=h1 x (by simp)
      obtain ⟨q1,q2⟩:=stP_self vb hx
      have hs:stStep b (some (E,T)) x=some (E,T ++ [x]):=by
        simp only [stStep,hh,Bool.cond_false,(vb.st x hx).1,q1,Option.map_some,q2]
      rw [hs,st_fold2 vb h1' h2.2,List.filter_cons_of_pos (by rw [hh]; rfl),List.append_assoc,List.singleton_append]
      congr 4
      refine List.filter_congr fun y hy=>?_
      congr 1
      rw [Bool.eq_iff_iff,hasS_iff,hasS_iff,List.map_append,List.mem_append]
      constructor
      · rintro (h | h)
        · exact h
        · simp only [List.map_cons,List.map_nil,List.mem_singleton] at h
          exact absurd (h ▸ List.mem_map_of_mem hy) h2.1
      · exact .inl
noncomputable def mgX (a b:Sc):MSt:=bif crF a b || crF b a then none else match mapO (enP b) a.es,mapO (stP b) a.ss with
  | some L,some M=>some (L ++ b.es.filter fun x=>!(hasE a.es x.nm),M ++ b.ss.filter fun x=>!(hasS a.ss x.nm))
  | _,_=>none
theorem mgT_eq {a b:Sc} (va:ScV a) (vb:ScV b):mgT a b=mgX a b:=by
  unfold mgT mgX mg0
  rw [List.foldl_cons,List.foldl_cons,List.foldl_nil]
  have hn:∀ s,scRun b none s=none:=fun s=>by unfold scRun; rw [foldl_none (enS_none b),foldl_none (stS_none b)]
  cases hc:(crF a b || crF b a) with
  | true=>
    have:(!(crF a b) && !(crF b a))=false:=by rw [<-Bool.not_or,hc]; rfl
    rw [this,Bool.cond_false,hn,hn]; rfl
  | false=>
    have:(!(crF a b) && !(crF b a))=true:=by rw [<-Bool.not_or,hc]; rfl
    rw [this,Bool.cond_true,Bool.cond_false]
    have h1:scRun b (some ([],[])) a=match mapO (enP b) a.es,mapO (stP b) a.ss with
        | some L,some M=>some (L,M)
        | _,_=>none:=by
      unfold scRun
      rw [en_fold1 (fun x _ h=>by cases h) va.ne]
      cases mapO (enP b) a.es with
      | none=>rw [Option.map_none,foldl_none (stS_none b)]
      | some L=>
        rw [Option.map_some,List.nil_append,st_fold1 (fun x _ h=>by cases h) va.ns]
        cases mapO (stP b) a.ss<;>simp
    rw [h1]
    cases hL:mapO (enP b) a.es with
    | none=>exact hn b
    | some L=>
      cases hM:mapO (stP b) a.ss with
      | none=>exact hn b
      | some M=>
        show scRun b (some (L,M)) b=_
        unfold scRun
        rw [en_fold2 vb (fun x hx=>hx) vb.ne,st_fold2 vb (fun x hx=>hx) vb.ns]
        have e1:L.map En.nm=a.es.map En.nm:=mapO_map (g:=En.nm) (g':=En.nm) (fun x y h=>enP_nm h) hL
        have e2:M.map St.nm=a.ss.map St.nm:=mapO_map (g:=St.nm) (g':=St.nm) (fun x y h=>stP_nm h) hM
        simp only [hasE_congr e1,hasS_congr e2]
theorem mapO_guard {α β:Type} {f:α->Option β} {p:β->Bool} {q:α->Bool}:∀ {l:List α},(∀ x ∈ l,∀ z,f x=some z->p z=q x)->mapO (fun x=>(f x).bind fun z=>bif p z then none else some z) l=bif l.any q then none else mapO f l
  | [],_=>rfl
  | x :: l,h=>by
    have ih:=mapO_guard (f:=f) (p:=p) (q:=q) (l:=l) fun y hy=>h y (List.mem_cons_of_mem _ hy)
    rw [mapO,ih,mapO,List.any_cons]
    cases hx:f x with
    | none=>cases q x<;>cases l.any q<;>simp
    | some z=>
      have:=h x (by simp) z hx
      simp only [Option.bind_some,this]
      cases q x<;>cases l.any q<;>simp
theorem mapO_congr {α β:Type} {f g:α->Option β}:∀ {l:List α},(∀ x ∈ l,f x=g x)->mapO f l=mapO g l
  | [],_=>rfl
  | x :: l,h=>by rw [mapO,mapO,h x (by simp),mapO_congr fun y hy=>h y (List.mem_cons_of_mem _ hy)]
theorem rx1_fold {b:Sc} {T:List St}:∀ {l E:List En},l.foldl (rx1 b) (some (E,T))=(mapO (fun x=>(enM b x).bind fun z=>bif hasS b.ss z.nm then none else some z) l).map fun L=>(E ++ L,T)
  | [],E=>by rw [List.foldl_nil,mapO]; simp
  | x :: l,E=>by
    have hs:rx1 b (some (E,T)) x=((enM b x).bind fun z=>bif hasS b.ss z.nm then none else some z).map fun z=>(E ++ [z],T):=by
      simp only [rx1]
      cases enM b x with
      | none=>rfl
      | some z=>simp only [Option.bind_some]; cases hasS b.ss z.nm<;>rfl
    rw [List.foldl_cons,hs,mapO]
    cases (enM b x).bind fun z=>bif hasS b.ss z.nm then none else some z with
    | none=>rw [Option.map_none,foldl_none (fun _=>rfl)]; rfl
    | some z=>
      rw [Option.map_some,rx1_fold]
      cases mapO _ l<;>simp
theorem rx3_fold {b:Sc} {E:List En}:∀ {l T:List St},l.foldl (rx3 b) (some (E,T))=(mapO (fun x=>(stM b x).bind fun z=>bif hasE b.es z.nm then none else some z) l).map fun L=>(E,T ++ L)
  | [],E=>by rw [List.foldl_nil,mapO]; simp
  | x :: l,T=>by
    have hs:rx3 b (some (E,T)) x=((stM b x).bind fun z=>bif hasE b.es z.nm then none else some z).map fun z=>(E,T ++ [z]):=by
      simp only [rx3]
      cases stM b x with
      | none=>rfl
      | some z=>simp only [Option.bind_some]; cases hasE b.es z.nm<;>rfl
    rw [List.foldl_cons,hs,mapO]
    cases (stM b x).bind fun z=>bif hasE b.es z.nm then none else some z with
    | none=>rw [Option.map_none,foldl_none (fun _=>rfl)]; rfl
    | some z=>
      rw [Option.map_some,rx3_fold]
      cases mapO _ l<;>simp
theorem rx2_fold {a:Sc} {T:List St}:∀ {l E:List En},l.foldl (rx2 a) (some (E,T))=some (E ++ l.filter fun x=>!(hasE a.es x.nm),T)
  | [],E=>by rw [List.foldl_nil,List.filter_nil,List.append_nil]
  | x :: l,E=>by
    rw [List.foldl_cons,rx2]
    cases hh:hasE a.es x.nm with
    | true=>rw [Bool.cond_true,rx2_fold,List.filter_cons_of_neg (by rw [hh]; simp)]
    | false=>rw [Bool.cond_false,rx2_fold,List.filter_cons_of_pos (by rw [hh]; rfl),List.append_assoc,List.singleton_append]
theorem rx4_fold {a:Sc} {E:List En}:∀ {l T:List St},l.foldl (rx4 a) (some (E,T))=some (E,T ++ l.filter fun x=>!(hasS a.ss x.nm))
  | [],E=>by rw [List.foldl_nil,List.filter_nil,List.append_nil]
  | x :: l,E=>by
    rw [List.foldl_cons,rx4]
    cases hh:hasS a.ss x.nm with
    | true=>rw [Bool.cond_true,rx4_fold,List.filter_cons_of_neg (by rw [hh]; simp)]
    | false=>rw [Bool.cond_false,rx4_fold,List.filter_cons_of_pos (by rw [hh]; rfl),List.append_assoc,List.singleton_append]
theorem cr_sym (a b:Sc):crF b a=a.es.any fun x=>hasS b.ss x.nm:=by
  unfold crF
  rw [Bool.eq_iff_iff,List.any_eq_true,List.any_eq_true]
  constructor
  · rintro ⟨x,hx,h⟩
    obtain ⟨y,hy,e⟩:=List.mem_map.1 (hasE_iff.1 h)
    exact ⟨y,hy,hasS_iff.2 (e ▸ List.mem_map_of_mem hx)⟩
  · rintro ⟨x,hx,h⟩
    obtain ⟨y,hy,e⟩:=List.mem_map.1 (hasS_iff.1 h)
    exact ⟨y,hy,hasE_iff.2 (e ▸ List.mem_map_of_mem hx)⟩
theorem mrT_eq {a b:Sc} (va:ScV a) (vb:ScV b):mrT a b=mgX a b:=by
  unfold mrT mgX
  have g1:mapO (fun x=>(enM b x).bind fun z=>bif hasS b.ss z.nm then none else some z) a.es=bif crF b a then none else mapO (enP b) a.es:=by
    rw [cr_sym,mapO_congr (g:=fun x=>(enP b x).bind fun z=>bif hasS b.ss z.nm then none else some z) fun x hx=>by rw [enM_eq va vb hx]]
    exact mapO_guard (f:=enP b) (p:=fun z=>hasS b.ss z.nm) (q:=fun x=>hasS b.ss x.nm) fun x hx z hz=>by rw [enP_nm hz]
  have g3:mapO (fun x=>(stM b x).bind fun z=>bif hasE b.es z.nm then none else some z) a.ss=bif crF a b then none else mapO (stP b) a.ss:=by
    rw [mapO_congr (g:=fun x=>(stP b x).bind fun z=>bif hasE b.es z.nm then none else some z) fun x hx=>by rw [stM_eq va vb hx]]
    exact mapO_guard (f:=stP b) (p:=fun z=>hasE b.es z.nm) (q:=fun x=>hasE b.es x.nm) fun x hx z hz=>by rw [stP_nm hz]
  have n2:∀ l:List En,l.foldl (rx2 a) none=none:=foldl_none fun _=>rfl
  have n3:∀ l:List St,l.foldl (rx3 b) none=none:=foldl_none fun _=>rfl
  have n4:∀ l:List St,l.foldl (rx4 a) none=none:=foldl_none fun _=>rfl
  rw [rx1_fold,g1]
  cases crF b a with
  | true=>rw [Bool.cond_true,Option.map_none,n2,n3,n4,Bool.or_true]; rfl
  | false=>
    rw [Bool.cond_false]
    cases mapO (enP b) a.es with
    | none=>rw [Option.map_none,n2,n3,n4]; cases crF a b<;>rfl
    | some L=>
      rw [Option.map_some,rx2_fold,rx3_fold,g3]
      cases crF a b with
      | true=>rw [Bool.cond_true,Option.map_none,n4]; rfl
      | false=>
        rw [Bool.cond_false]
        cases mapO (stP b) a.ss with
        | none=>rw [Option.map_none,n4]; rfl
        | some M=>rw [Option.map_some,rx4_fold]; rfl
theorem mgF_eq {a b:Sc} (fa:a.fit) (fb:b.fit):mgF a b=mrF a b:=by
  unfold mgF mrF
  cases e1:checkF a != 0 with
  | true=>rfl
  | false=>
    cases e2:checkF b != 0 with
    | true=>rfl
    | false=>
      have va:=scV_of fa (by simpa using e1)
      have vb:=scV_of fb (by simpa using e2)
      rw [mgT_eq va vb,mrT_eq va vb]
      all_goals (rcases mgX a b with _ | ⟨E,T⟩<;>rfl)
end Go.Proofs.YtbolanmlngjdoaaGreat
namespace Go.Proofs.YtbolanmlngjdoaaGreat
open Go.W
def mrSp:W.Spec:=fun av H K=>∃ a b:Sc,av=[.va (.gs (scC a)),.va (.gs (scC b))]/\H=[]/\a.fit/\b.fit/\K (.tu [.gs (scC (mrF a b).1),.c1 (.vl (.int .i64 (mrF a b).2))]) []
theorem mr_use {a b:Sc} {K:S->Hp->Prop} (h1:a.fit) (h2:b.fit) (hK:K (.tu [.gs (scC (mrF a b).1),.c1 (.vl (.int .i64 (mrF a b).2))]) []):mrSp [.va (.gs (scC a)),.va (.gs (scC b))] [] K:=⟨a,b,rfl,rfl,h1,h2,hK⟩
def mrGo (a b:Sc) (K:Ex->Fr->Hp->Prop):Prop:=vc mrE 0 pc15_10.ungh (puts [(2,.va (.c1 (.pt 0 0))),(3,.va (.c1 (.pt 1 0))),(4,.va (.c1 (.pt 2 0))),(8,.va (.c1 (.pt 3 0)))])
  [.cells (scC a) 25,.cells (scC b) 25,.cells [.vl (.int .i64 0),.vl (.slice none 0 0),.vl (.slice none 0 0)] 25,.cells [.vl (.int .i64 (max a.ver b.ver)),.vl (.slice none 0 0),.vl (.slice none 0 0)] 25] K
set_option maxRecDepth 100000 in
set_option maxHeartbeats 8000000 in
theorem mr_go {a b:Sc} {K:S->Hp->Prop} (fa:a.fit) (fb:b.fit) (e1:(checkF a != 0)=false) (e2:(checkF b != 0)=false) (hK:K (.tu [.gs (scC (mrF a b).1),.c1 (.vl (.int .i64 (mrF a b).2))]) []):mrGo a b (retK 0 rs15 K):=by
  have c1:checkF a=0:=by simpa using e1
  have c2:checkF b=0:=by simpa using e2
  have hm:mrF a b=match mrT a b with
    | none=>(default,14)
    | some (E,T)=>bif checkF ⟨max a.ver b.ver,E,T⟩ != 0 then (default,checkF ⟨max a.ver b.ver,E,T⟩) else (⟨max a.ver b.ver,E,T⟩,0):=by unfold mrF; rw [e1,e2]; rfl
  rw [hm] at hK
  clear hm
  have mv:in64 (max a.ver b.ver):=by have:=fa.ok.ver; have:=fb.ok.ver; unfold in64 at *; omega
  have ga:=mgI_of fa c1
  have gb:=mgI_of fb c2
  have la1:=ga.le
  have la2:=ga.ls
  have lb1:=gb.le
  have lb2:=gb.ls
  unfold mrGo
  generalize hver:max a.ver b.ver=ver at *
  generalize hX:mrT a b=X at hK
  unfold mrT at hX
  simp (maxSteps:=1000000) -dsimp only [go_sem,pc15_10,rs15]
  refine vc_loop_gh (α:=Nat × List En × Bool) (fun z=>rU 10 z.1 z.2.2) (fun z=>rB a b ver z.2.1 [])
    (fun z=>z.1<=a.es.length/\b.ss.foldl (rx4 a) (a.ss.foldl (rx3 b) (b.es.foldl (rx2 a) ((a.es.drop z.1).foldl (rx1 b) (mOf z.2.1 [] z.2.2))))=X/\(∀ e ∈ z.2.1,EnW e)/\z.2.1.length<=z.1) (fun z=>a.es.length - z.1)
    (.nilc 3 1 60 3 [.vl (.int .i64 ver),.vl (.slice none 0 0),.vl (.slice none 0 0)] 25 rfl rfl (.nilc 3 2 37 2 [.vl (.int .i64 ver),.sl 4 0,.vl (.slice none 0 0)] 25 rfl rfl (gh_at (0,[],true) 6 ⟨Nat.zero_le _,hX,fun e he=>(List.not_mem_nil he).elim,Nat.zero_le _⟩ ?_ ?_))) ?_
  · simp -dsimp only [go_sem]<;>simp
  · simp -dsimp only [go_sem,scC]<;>simp [scC]
  clear hX
  rintro ⟨i,E,ok⟩ ⟨hi,hr,hE,lE⟩
  generalize hT0:([]:List St)=T at *
  have lT0:T.length=0:=by rw [<-hT0]; rfl
  have lT:T.length<=1000:=by omega
  simp only at hi hr hE lE ⊢
  rcases Nat.lt_or_ge i a.es.length with hlt | hge
  · have hg:decide ((i:Int) < (a.es.length:Int))=true:=by simp; omega
    obtain ⟨x,hx⟩:∃ t,a.es[i]? = some t:=⟨_,List.getElem?_eq_getElem hlt⟩
    have q1:=row_rg' (row:=enC) hx
    have gx:=ga.es x (List.mem_of_getElem? hx)
    have hdx:a.es.drop i=x :: a.es.drop (i + 1):=by
      obtain ⟨h,rfl⟩:=List.getElem?_eq_some_iff.1 hx
      exact List.drop_eq_getElem_cons h
    rw [hdx,List.foldl_cons] at hr
    have fin:∀ s,rx1 b (mOf E T ok) x=s->b.ss.foldl (rx4 a) (a.ss.foldl (rx3 b) (b.es.foldl (rx2 a) ((a.es.drop (i + 1)).foldl (rx1 b) s)))=X:=fun s h=>by rw [<-h]; exact hr
    simp (maxSteps:=1000000) -dsimp only [go_sem,hg,↓q1,enC,scC]
    refine ⟨by omega,enp_use (s:=b) fb ?_⟩
    cases hy:fEn b.es x.nm with
    | none=>
      have hys:hasE b.es x.nm=false:=by rw [<-fEn_has,hy]; rfl
      have hM:enM b x=some x:=by unfold enM; rw [hy]
      have hr2:=fin (mOf (E ++ [x]) T (ok && !(hasS b.ss x.nm))) (rx1_some hM)
      have hw:=gx.w
      simp (maxSteps:=1000000) -dsimp only [go_sem,hys,Option.getD_none,enC_def]
      refine vc_tail (up:=(11,.va (.c1 (.pt 6 0))) :: rU 10 i ok) (Hs:=rB a b ver E T ++ [.cells (enC x) 60]) 7 (rTail1 fb (by omega) fun fr' R' he=>?_) ?_ ?_
      rotate_left
      · simp -dsimp only [go_sem]<;>simp
      · simp -dsimp only [go_sem,scC,enC]<;>simp [scC,enC]
      simp only [isFr] at he
      obtain ⟨f2,f3,f4,f8,f9,fi,_⟩:=he
      simp (maxSteps:=1000000) -dsimp only [go_sem,fi]
      refine ⟨by omega,loop_next (i + 1,E ++ [x],ok && !(hasS b.ss x.nm)) 6 ⟨by simp only; omega,hr2,mem_app hE hw,by simp only [List.length_append,List.length_singleton]; omega⟩ (by simp only; omega) ?_ ?_⟩
      · simp -dsimp only [go_sem,f2,f3,f4,f8,f9]<;>simp
      · simp -dsimp only [go_sem,scC]<;>simp [scC]
    | some y=>
      have hys:hasE b.es x.nm=true:=by rw [<-fEn_has,hy]; rfl
      have gy:=gb.es y (fEn_mem hy).1
      simp (maxSteps:=1000000) -dsimp only [go_sem,hys,Option.getD_some,enC]
      refine er_use (a:=x) (b:=y) gx gy ?_
      cases hml:enR (nds x) (nds y) (List.range 128) [] with
      | some l=>
        have hM:enM b x=some ⟨x.nm,l.map Nd.nm,l.map Nd.n⟩:=by unfold enM; rw [hy]; show Option.map _ (enR (nds x) (nds y) (List.range 128) [])=_; rw [hml]; rfl
        have hw:EnW ⟨x.nm,l.map Nd.nm,l.map Nd.n⟩:=enR_w gx gy hml
        simp only [erK]
        generalize (⟨x.nm,l.map Nd.nm,l.map Nd.n⟩:En)=z at *
        have hr2:=fin (mOf (E ++ [z]) T (ok && !(hasS b.ss z.nm))) (rx1_some hM)
        simp (maxSteps:=1000000) -dsimp only [go_sem,enC]
        refine vc_tail (up:=(11,.va (.c1 (.pt 6 0))) :: rU 10 i ok) (Hs:=rB a b ver E T ++ [.cells (enC z) 60]) 7 (rTail1 fb (by omega) fun fr' R' he=>?_) ?_ ?_
        rotate_left
        · simp -dsimp only [go_sem,pick_t]<;>simp
        · simp -dsimp only [go_sem,scC,enC]<;>simp [scC,enC]
        simp only [isFr] at he
        obtain ⟨f2,f3,f4,f8,f9,fi,_⟩:=he
        simp (maxSteps:=1000000) -dsimp only [go_sem,fi]
        refine ⟨by omega,loop_next (i + 1,E ++ [z],ok && !(hasS b.ss z.nm)) 6 ⟨by simp only; omega,hr2,mem_app hE hw,by simp only [List.length_append,List.length_singleton]; omega⟩ (by simp only; omega) ?_ ?_⟩
        · simp -dsimp only [go_sem,f2,f3,f4,f8,f9]<;>simp
        · simp -dsimp only [go_sem,scC]<;>simp [scC]
      | none=>
        have hM:enM b x=none:=by unfold enM; rw [hy]; show Option.map _ (enR (nds x) (nds y) (List.range 128) [])=_; rw [hml]; rfl
        simp only [erK]
        intro z hw
        have hr2:=fin (mOf (E ++ [z]) T (false && !(hasS b.ss z.nm))) (rx1_none hM)
        simp (maxSteps:=1000000) -dsimp only [go_sem,enC]
        refine vc_tail (up:=(11,.va (.c1 (.pt 6 0))) :: rU 10 i false) (Hs:=rB a b ver E T ++ [.cells (enC z) 60]) 7 (rTail1 fb (by omega) fun fr' R' he=>?_) ?_ ?_
        rotate_left
        · simp -dsimp only [go_sem,pick_f]<;>simp
        · simp -dsimp only [go_sem,scC,enC]<;>simp [scC,enC]
        simp only [isFr] at he
        obtain ⟨f2,f3,f4,f8,f9,fi,_⟩:=he
        simp (maxSteps:=1000000) -dsimp only [go_sem,fi]
        refine ⟨by omega,loop_next (i + 1,E ++ [z],false && !(hasS b.ss z.nm)) 6 ⟨by simp only; omega,hr2,mem_app hE hw,by simp only [List.length_append,List.length_singleton]; omega⟩ (by simp only; omega) ?_ ?_⟩
        · simp -dsimp only [go_sem,f2,f3,f4,f8,f9]<;>simp
        · simp -dsimp only [go_sem,scC]<;>simp [scC]
  · have hg:decide ((i:Int) < (a.es.length:Int))=false:=by simp; omega
    obtain rfl:i=a.es.length:=by omega
    rw [List.drop_length,List.foldl_nil] at hr
    simp (maxSteps:=1000000) -dsimp only [go_sem,hg,scC]
    refine vc_loop (α:=Nat × List En) (fun z=>rU 18 z.1 ok) (fun z=>rB a b ver z.2 T)
      (fun z=>z.1<=b.es.length/\b.ss.foldl (rx4 a) (a.ss.foldl (rx3 b) ((b.es.drop z.1).foldl (rx2 a) (mOf z.2 T ok)))=X/\(∀ e ∈ z.2,EnW e)/\z.2.length<=100 + z.1) (fun z=>b.es.length - z.1) (0,E) 6 ⟨Nat.zero_le _,hr,hE,by simp only; omega⟩ ?_ ?_ ?_
    · simp -dsimp only [go_sem]<;>simp
    · simp -dsimp only [go_sem,scC]<;>simp [scC]
    clear hr hE lE hi hge hg
    rintro ⟨i,E⟩ ⟨hi,hr,hE,lE⟩
    simp only at hi hr hE lE ⊢
    rcases Nat.lt_or_ge i b.es.length with hlt | hge
    · have hg:decide ((i:Int) < (b.es.length:Int))=true:=by simp; omega
      obtain ⟨x,hx⟩:∃ t,b.es[i]? = some t:=⟨_,List.getElem?_eq_getElem hlt⟩
      have q1:=row_rg' (row:=enC) hx
      have gx:=gb.es x (List.mem_of_getElem? hx)
      have hdx:b.es.drop i=x :: b.es.drop (i + 1):=by
        obtain ⟨h,rfl⟩:=List.getElem?_eq_some_iff.1 hx
        exact List.drop_eq_getElem_cons h
      rw [hdx,List.foldl_cons,rx2_step] at hr
      simp (maxSteps:=1000000) -dsimp only [go_sem,hg,↓q1,enC,scC]
      refine ⟨by omega,enp_use (s:=a) fa ?_⟩
      cases hc:hasE a.es x.nm with
      | true=>
        rw [hc,Bool.cond_true] at hr
        simp (maxSteps:=1000000) -dsimp only [go_sem,enC]
        refine ⟨by omega,loop_next (i + 1,E) 6 ⟨by simp only; omega,hr,hE,by simp only; omega⟩ (by simp only; omega) ?_ ?_⟩
        · simp -dsimp only [go_sem]<;>simp
        · simp -dsimp only [go_sem]<;>simp [scC]
      | false=>
        rw [hc,Bool.cond_false] at hr
        simp (maxSteps:=1000000) -dsimp only [go_sem,↓q1,enC]
        refine ⟨by omega,by omega,by omega,loop_next (i + 1,E ++ [x]) 6 ⟨by simp only; omega,hr,mem_app hE gx.w,by simp only [List.length_append,List.length_singleton]; omega⟩ (by simp only; omega) ?_ ?_⟩
        · simp -dsimp only [go_sem]<;>simp
        · simp -dsimp only [go_sem]<;>simp [scC,enC]
    · have hg:decide ((i:Int) < (b.es.length:Int))=false:=by simp; omega
      obtain rfl:i=b.es.length:=by omega
      rw [List.drop_length,List.foldl_nil] at hr
      simp (maxSteps:=1000000) -dsimp only [go_sem,hg,scC]
      clear hi hge hg
      have hT:∀ t ∈ T,StM t:=fun t ht=>by rw [<-hT0] at ht; cases ht
      refine vc_loop (α:=Nat × List St × Bool) (fun z=>rU 21 z.1 z.2.2) (fun z=>rB a b ver E z.2.1)
        (fun z=>z.1<=a.ss.length/\b.ss.foldl (rx4 a) ((a.ss.drop z.1).foldl (rx3 b) (mOf E z.2.1 z.2.2))=X/\(∀ t ∈ z.2.1,StM t)/\z.2.1.length<=z.1) (fun z=>a.ss.length - z.1) (0,T,ok) 6 ⟨Nat.zero_le _,hr,hT,by simp only; omega⟩ ?_ ?_ ?_
      · simp -dsimp only [go_sem]<;>simp
      · simp -dsimp only [go_sem,scC]<;>simp [scC]
      clear hr hT lT lT0 hT0
      rintro ⟨i,T,ok⟩ ⟨hi,hr,hT,lT⟩
      simp only at hi hr hT lT ⊢
      rcases Nat.lt_or_ge i a.ss.length with hlt | hge
      · have hg:decide ((i:Int) < (a.ss.length:Int))=true:=by simp; omega
        obtain ⟨x,hx⟩:∃ t,a.ss[i]? = some t:=⟨_,List.getElem?_eq_getElem hlt⟩
        have q1:=row_rg' (row:=stC) hx
        have gx:=ga.ss x (List.mem_of_getElem? hx)
        have hdx:a.ss.drop i=x :: a.ss.drop (i + 1):=by
          obtain ⟨h,rfl⟩:=List.getElem?_eq_some_iff.1 hx
          exact List.drop_eq_getElem_cons h
        rw [hdx,List.foldl_cons] at hr
        have fin:∀ s,rx3 b (mOf E T ok) x=s->b.ss.foldl (rx4 a) ((a.ss.drop (i + 1)).foldl (rx3 b) s)=X:=fun s h=>by rw [<-h]; exact hr
        simp (maxSteps:=1000000) -dsimp only [go_sem,hg,↓q1,stC,scC]
        refine ⟨by omega,stp_use (s:=b) fb ?_⟩
        cases hy:fS b.ss x.nm with
        | none=>
          have hys:hasS b.ss x.nm=false:=by rw [<-fS_has,hy]; rfl
          have hM:stM b x=some x:=by unfold stM; rw [hy]
          have hr2:=fin (mOf E (T ++ [x]) (ok && !(hasE b.es x.nm))) (rx3_some hM)
          simp (maxSteps:=1000000) -dsimp only [go_sem,hys,Option.getD_none,stC_def]
          refine vc_tail (up:=(22,.va (.c1 (.pt 6 0))) :: rU 21 i ok) (Hs:=rB a b ver E T ++ [.cells (stC x) 37]) 7 (rTail3 fb (by omega) fun fr' R' he=>?_) ?_ ?_
          rotate_left
          · simp -dsimp only [go_sem]<;>simp
          · simp -dsimp only [go_sem,scC,stC]<;>simp [scC,stC]
          simp only [isFr] at he
          obtain ⟨f2,f3,f4,f8,f9,fi,_⟩:=he
          simp (maxSteps:=1000000) -dsimp only [go_sem,fi]
          refine ⟨by omega,loop_next (i + 1,T ++ [x],ok && !(hasE b.es x.nm)) 6 ⟨by simp only; omega,hr2,mem_app hT gx.1,by simp only [List.length_append,List.length_singleton]; omega⟩ (by simp only; omega) ?_ ?_⟩
          · simp -dsimp only [go_sem,f2,f3,f4,f8,f9]<;>simp
          · simp -dsimp only [go_sem,scC]<;>simp [scC]
        | some y=>
          have hys:hasS b.ss x.nm=true:=by rw [<-fS_has,hy]; rfl
          have gy:=gb.ss y (fS_mem hy).1
          simp (maxSteps:=1000000) -dsimp only [go_sem,hys,Option.getD_some,stC]
          refine fr_use (a:=x) (b:=y) gx.1 gy.1 ?_
          cases hml:fdR x.fs y.fs ((List.range 128).drop 1) [] with
          | some l=>
            have hM:stM b x=some ⟨x.nm,l⟩:=by unfold stM; rw [hy]; show Option.map _ (fdR x.fs y.fs ((List.range 128).drop 1) [])=_; rw [hml]; rfl
            have hw:=fdR_st gx.1 gy.1 hml
            simp only [frK]
            generalize (⟨x.nm,l⟩:St)=z at *
            have hr2:=fin (mOf E (T ++ [z]) (ok && !(hasE b.es z.nm))) (rx3_some hM)
            simp (maxSteps:=1000000) -dsimp only [go_sem,stC]
            refine vc_tail (up:=(22,.va (.c1 (.pt 6 0))) :: rU 21 i ok) (Hs:=rB a b ver E T ++ [.cells (stC z) 37]) 7 (rTail3 fb (by omega) fun fr' R' he=>?_) ?_ ?_
            rotate_left
            · simp -dsimp only [go_sem,pick_t]<;>simp
            · simp -dsimp only [go_sem,scC,stC]<;>simp [scC,stC]
            simp only [isFr] at he
            obtain ⟨f2,f3,f4,f8,f9,fi,_⟩:=he
            simp (maxSteps:=1000000) -dsimp only [go_sem,fi]
            refine ⟨by omega,loop_next (i + 1,T ++ [z],ok && !(hasE b.es z.nm)) 6 ⟨by simp only; omega,hr2,mem_app hT hw,by simp only [List.length_append,List.length_singleton]; omega⟩ (by simp only; omega) ?_ ?_⟩
            · simp -dsimp only [go_sem,f2,f3,f4,f8,f9]<;>simp
            · simp -dsimp only [go_sem,scC]<;>simp [scC]
          | none=>
            have hM:stM b x=none:=by unfold stM; rw [hy]; show Option.map _ (fdR x.fs y.fs ((List.range 128).drop 1) [])=_; rw [hml]; rfl
            simp only [frK]
            intro z hw
            have hr2:=fin (mOf E (T ++ [z]) (false && !(hasE b.es z.nm))) (rx3_none hM)
            simp (maxSteps:=1000000) -dsimp only [go_sem,stC]
            refine vc_tail (up:=(22,.va (.c1 (.pt 6 0))) :: rU 21 i false) (Hs:=rB a b ver E T ++ [.cells (stC z) 37]) 7 (rTail3 fb (by omega) fun fr' R' he=>?_) ?_ ?_
            rotate_left
            · simp -dsimp only [go_sem,pick_f]<;>simp
            · simp -dsimp only [go_sem,scC,stC]<;>simp [scC,stC]
            simp only [isFr] at he
            obtain ⟨f2,f3,f4,f8,f9,fi,_⟩:=he
            simp (maxSteps:=1000000) -dsimp only [go_sem,fi]
            refine ⟨by omega,loop_next (i + 1,T ++ [z],false && !(hasE b.es z.nm)) 6 ⟨by simp only; omega,hr2,mem_app hT hw,by simp only [List.length_append,List.length_singleton]; omega⟩ (by simp only; omega) ?_ ?_⟩
            · simp -dsimp only [go_sem,f2,f3,f4,f8,f9]<;>simp
            · simp -dsimp only [go_sem,scC]<;>simp [scC]
      · have hg:decide ((i:Int) < (a.ss.length:Int))=false:=by simp; omega
        obtain rfl:i=a.ss.length:=by omega
        rw [List.drop_length,List.foldl_nil] at hr
        simp (maxSteps:=1000000) -dsimp only [go_sem,hg,scC]
        clear hi hge hg
        refine vc_loop (α:=Nat × List St) (fun z=>rU 29 z.1 ok) (fun z=>rB a b ver E z.2)
          (fun z=>z.1<=b.ss.length/\(b.ss.drop z.1).foldl (rx4 a) (mOf E z.2 ok)=X/\(∀ t ∈ z.2,StM t)/\z.2.length<=100 + z.1) (fun z=>b.ss.length - z.1) (0,T) 6 ⟨Nat.zero_le _,hr,hT,by simp only; omega⟩ ?_ ?_ ?_
        · simp -dsimp only [go_sem]<;>simp
        · simp -dsimp only [go_sem,scC]<;>simp [scC]
        clear hr hT lT
        rintro ⟨i,T⟩ ⟨hi,hr,hT,lT⟩
        simp only at hi hr hT lT ⊢
        rcases Nat.lt_or_ge i b.ss.length with hlt | hge
        · have hg:decide ((i:Int) < (b.ss.length:Int))=true:=by simp; omega
          obtain ⟨x,hx⟩:∃ t,b.ss[i]? = some t:=⟨_,List.getElem?_eq_getElem hlt⟩
          have q1:=row_rg' (row:=stC) hx
          have gx:=gb.ss x (List.mem_of_getElem? hx)
          have hdx:b.ss.drop i=x :: b.ss.drop (i + 1):=by
            obtain ⟨h,rfl⟩:=List.getElem?_eq_some_iff.1 hx
            exact List.drop_eq_getElem_cons h
          rw [hdx,List.foldl_cons,rx4_step] at hr
          simp (maxSteps:=1000000) -dsimp only [go_sem,hg,↓q1,stC,scC]
          refine ⟨by omega,stp_use (s:=a) fa ?_⟩
          cases hc:hasS a.ss x.nm with
          | true=>
            rw [hc,Bool.cond_true] at hr
            simp (maxSteps:=1000000) -dsimp only [go_sem,stC]
            refine ⟨by omega,loop_next (i + 1,T) 6 ⟨by simp only; omega,hr,hT,by simp only; omega⟩ (by simp only; omega) ?_ ?_⟩
            · simp -dsimp only [go_sem]<;>simp
            · simp -dsimp only [go_sem]<;>simp [scC]
          | false=>
            rw [hc,Bool.cond_false] at hr
            simp (maxSteps:=1000000) -dsimp only [go_sem,↓q1,stC]
            refine ⟨by omega,by omega,by omega,loop_next (i + 1,T ++ [x]) 6 ⟨by simp only; omega,hr,mem_app hT gx.1,by simp only [List.length_append,List.length_singleton]; omega⟩ (by simp only; omega) ?_ ?_⟩
            · simp -dsimp only [go_sem]<;>simp
            · simp -dsimp only [go_sem]<;>simp [scC,stC]
        · have hg:decide ((i:Int) < (b.ss.length:Int))=false:=by simp; omega
          obtain rfl:i=b.ss.length:=by omega
          rw [List.drop_length,List.foldl_nil] at hr
          rw [<-hr] at hK
          cases ok with
          | false=>
            have hK:K (.tu [.gs (scC default),.c1 (.vl (.int .i64 14))]) []:=hK
            simp (maxSteps:=1000000) -dsimp only [go_sem,hg,scC]
            exact .sel [] (by simp) (by simp) rfl (.done (by simpa [go_sem,scC_def] using hK))
          | true=>
            have hff:Sc.fit ⟨ver,E,T⟩:=fit_of mv (by omega) (by omega) hE hT
            have hK:K (.tu [.gs (scC (bif checkF ⟨ver,E,T⟩ != 0 then (default,checkF ⟨ver,E,T⟩) else ((⟨ver,E,T⟩:Sc),0)).1),.c1 (.vl (.int .i64 (bif checkF ⟨ver,E,T⟩ != 0 then (default,checkF ⟨ver,E,T⟩) else ((⟨ver,E,T⟩:Sc),0)).2))]) []:=hK
            have hsc:=isScF_mk hff
            have hdc:=sc_dec ⟨ver,E,T⟩
            rw [scC] at hsc hdc
            simp only at hsc hdc
            cases c3:checkF ⟨ver,E,T⟩ != 0 with
            | true=>
              rw [c3] at hK
              simp (maxSteps:=1000000) -dsimp only [go_sem,hg,scC,hsc,hdc,c3]
              exact .sel [] (by simp) (by simp) rfl (.done (by simpa [go_sem,scC_def] using hK))
            | false=>
              rw [c3] at hK
              simp (maxSteps:=1000000) -dsimp only [go_sem,hg,scC,hsc,hdc,c3]
              refine .pub 4 _ _ _ rfl (.pub 5 _ _ _ rfl (.sel [] (by simp) (by simp [pubH]) rfl (.done ?_)))
              simp -dsimp only [go_sem,pubH]
              simpa [scC] using hK
set_option maxRecDepth 100000 in
set_option maxHeartbeats 8000000 in
theorem mRMerge:Meets Tryz.prog 15 mrSp:=by
  refine meets_fn Tryz.func15 ok15 2 (by rw [Tryz.ntmps15]; decide) mrMeets (fun av H K h=>by obtain ⟨_,_,rfl,_⟩:=h; rfl) ?_
  rintro av H K ⟨a,b,rfl,rfl,fa,fb,hK⟩
  have hso:=isScF_mk fa
  have hsn:=isScF_mk fb
  have hdo:=sc_dec a
  have hdn:=sc_dec b
  rw [scC] at hso hsn hdo hdn
  cases e1:checkF a != 0 with
  | true=>
    have hm:mrF a b=(default,checkF a):=by unfold mrF; rw [e1]; rfl
    rw [hm] at hK
    simp (maxSteps:=1000000) -dsimp only [go_sem,scC,pc15,rs15,hso,hdo,e1]
    exact .sel [] (by simp) (by simp) rfl (.done (by simpa [go_sem,scC_def] using hK))
  | false=>
  cases e2:checkF b != 0 with
  | true=>
    have hm:mrF a b=(default,checkF b):=by unfold mrF; rw [e1,e2]; rfl
    rw [hm] at hK
    simp (maxSteps:=1000000) -dsimp only [go_sem,scC,pc15,rs15,hso,hsn,hdo,hdn,e1,e2]
    exact .sel [] (by simp) (by simp) rfl (.done (by simpa [go_sem,scC_def] using hK))
  | false=>
    have go:=mr_go fa fb e1 e2 hK
    unfold mrGo at go
    simp (maxSteps:=1000000) -dsimp only [go_sem,scC,pc15,rs15,hso,hsn,hdo,hdn,e1,e2]
    refine ⟨fun hv=>?_,fun hv=>?_⟩
    · have hmx:max a.ver b.ver=b.ver:=by simp at hv; omega
      refine vc_tail 4 go ?_ ?_
      · simp -dsimp only [go_sem]<;>simp
      · simp -dsimp only [go_sem,scC,hmx]<;>simp
    · have hmx:max a.ver b.ver=a.ver:=by simp at hv; omega
      refine vc_tail 4 go ?_ ?_
      · simp -dsimp only [go_sem]<;>simp
      · simp -dsimp only [go_sem,scC,hmx]<;>simp
end Go.Proofs.YtbolanmlngjdoaaGreat
namespace Go.Proofs.YtbolanmlngjdoaaGreat
open Go.W
def pc6:PC:=.seq (.reg [⟨some 1,none,.e (.bx 25 (.t 0))⟩,⟨some 2,none,.q (.mv (.k (.bool false)))⟩]) (.seq (.reg [⟨some 3,none,.l (.ldn 3 (.t 1))⟩,⟨some 4,none,.cq 17 [(.t 3)]⟩,⟨some 5,none,.q (.not (.t 4))⟩,⟨some 2,none,.q (.mv (.t 5))⟩]) .ret)
def rs6:List RV:=[.mv (.t 2)]
theorem ok6:trFn Tryz.prog true ⟨fun r k=>if r=1/\k=1 then .q else .own [],fun _=>false⟩ Tryz.f6=some (pc6,rs6):=by kernel_rfl
end Go.Proofs.YtbolanmlngjdoaaGreat
namespace Go.Proofs.YtbolanmlngjdoaaGreat
open Go.W
structure ScG (s:Sc):Prop where
  fit:s.fit
  chk:checkF s=0
end Go.Proofs.YtbolanmlngjdoaaGreat
namespace Go.Proofs.YtbolanmlngjdoaaGreat
open Go.W
def levF:Nat->Ty->Nat
  | 0,_=>0
  | N + 1,t=>t.e.foldl (fun m u=>max m (1 + levF N u)) 0
abbrev lF (N:Nat):Nat->Ty->Nat:=fun m u=>max m (1 + levF N u)
theorem lF_ge (N:Nat):∀ (l:List Ty) (m:Nat),m<=l.foldl (lF N) m
  | [],_=>Nat.le_refl _
  | u :: l,m=>Nat.le_trans (Nat.le_max_left _ _) (lF_ge N l (max m (1 + levF N u)))
theorem lF_mem {N:Nat} {l:List Ty} {u:Ty} (h:u ∈ l):∀ m,1 + levF N u<=l.foldl (lF N) m:=by
  induction l with
  | nil=>cases h
  | cons v l ih=>
    intro m
    rcases List.mem_cons.1 h with rfl | h
    · exact Nat.le_trans (Nat.le_max_right m _) (lF_ge N l _)
    · exact ih h _
theorem lF_le {N B:Nat} {l:List Ty} (h:∀ u ∈ l,1 + levF N u<=B):∀ m,m<=B->l.foldl (lF N) m<=B:=by
  induction l with
  | nil=>exact fun _ h=>h
  | cons v l ih=>exact fun m hm=>ih (fun u hu=>h u (List.mem_cons_of_mem _ hu)) _ (Nat.max_le.2 ⟨hm,h v List.mem_cons_self⟩)
theorem levF_le:∀ (N:Nat) (t:Ty),levF N t<=N
  | 0,_=>Nat.le_refl _
  | N + 1,t=>lF_le (fun u _=>by have:=levF_le N u; omega) 0 (Nat.zero_le _)
theorem lev_h:∀ (N:Nat) (t:Ty),levF N t < N->t.h<=levF N t + 1
  | 0,_,h=>absurd h (Nat.not_lt_zero _)
  | N + 1,.mk k s n e,h=>by
    have hu:∀ u ∈ e,u.h<=levF (N + 1) (.mk k s n e):=fun u hu=>by
      have h1:1 + levF N u<=levF (N + 1) (.mk k s n e):=lF_mem (N:=N) (l:=e) hu 0
      have:=lev_h N u (by omega)
      omega
    rw [Ty.h]
    have:∀ (l:List Ty),(∀ u ∈ l,u.h<=levF (N + 1) (.mk k s n e))->Ty.hs l<=levF (N + 1) (.mk k s n e):=by
      intro l
      induction l with
      | nil=>exact fun _=>Nat.zero_le _
      | cons v l ih=>
        intro h
        rw [Ty.hs]
        exact Nat.max_le.2 ⟨h v List.mem_cons_self,ih fun u hu=>h u (List.mem_cons_of_mem _ hu)⟩
    have:=this e hu
    omega
theorem levF_gF {N:Nat} {l:List Ty} {i:Nat} {u:Ty} (hx:l[i]? = some u):(l.take (i + 1)).foldl (lF N) 0=max ((l.take i).foldl (lF N) 0) (1 + levF N u):=by
  rw [take_next hx,List.foldl_append]; rfl
def lePre (N:Nat):List S->Prop:=fun av=>match av with
  | [.va (.gs q),.va (.c1 (.vl (.int .i64 k)))]=>isTy q/\k=(N:Int)/\N<=1000
  | _=>False
theorem lePre_open {N:Nat} {av:List S} (h:lePre N av):∃ t:Ty,av=[.va (.gs (tyC t)),iS .i64 N]/\TyOk t/\N<=1000:=by
  unfold lePre at h
  split at h
  · obtain ⟨⟨t,rfl,ht⟩,rfl,h⟩:=h
    exact ⟨t,rfl,ht,h⟩
  · exact h.elim
noncomputable def leVal (N:Nat):List S->A:=fun av=>match av with
  | [.va (.gs q),.va (.c1 (.vl (.int .i64 _)))]=>iA .i64 (levF N (C.ty q))
  | _=>.gs []
noncomputable def leFn (N:Nat):Fun:=⟨lePre N,leVal N,fun av h=>by obtain ⟨a,rfl,_⟩:=lePre_open h; trivial⟩
theorem leFn_len {N:Nat}:∀ av H K,(leFn N).sp av H K->av.length=2:=fun av H K h=>by obtain ⟨a,rfl,_⟩:=lePre_open h.1.1; rfl
attribute [go_sem] leFn lePre leVal
set_option maxRecDepth 100000 in
set_option maxHeartbeats 1000000 in
theorem mLevel0:Meets Tryz.prog 87 (leFn 0).sp:=by
  refine meets_fn Tryz.func87 ok87 2 (by rw [Tryz.ntmps87]; decide) (meetsAll_nil _) leFn_len ?_
  rintro av H K ⟨⟨h,rfl⟩,hK⟩
  obtain ⟨t,rfl,ht,hN⟩:=lePre_open h
  have hK:K (iS .i64 0) []:=by
    have:(leFn 0).val [.va (.gs (tyC t)),iS .i64 ((0:Nat):Int)]=iA .i64 0:=by simp -dsimp only [go_sem]; rfl
    rw [this] at hK; exact hK
  clear h
  obtain ⟨k,s,n,e⟩:=t
  simp (maxSteps:=1000000) -dsimp only [go_sem,tyC,tysC_map,pc87,rs87]
  refine vc_loop (α:=Unit) (fun i=>[(1,iS .i64 0),(2,.va (.c1 (.pt 0 0))),(5,iS .i64 0),(6,iS .i64 0)]) (fun _=>[.cells (tyC (.mk k s n e)) 48])
    (fun i=>True) (fun i=>0) () 1 trivial ?_ ?_ ?_
  · simp -dsimp only [go_sem]
    simp
  · simp -dsimp only [go_sem,tyC,tysC_map]
  intro _ _
  have hg2:decide ((0:Int) < 0)=false:=rfl
  cases hg:decide ((0:Int) < (e.length:Int)) with
  | true=>
    simp (maxSteps:=1000000) -dsimp only [go_sem,hg,hg2,tyC,tysC_map]
    exact .sel [] (by simp) (by simp) rfl (.done (by simp -dsimp only [go_sem]; exact hK))
  | false=>
    simp (maxSteps:=1000000) -dsimp only [go_sem,hg,hg2,tyC,tysC_map]
    exact .sel [] (by simp) (by simp) rfl (.done (by simp -dsimp only [go_sem]; exact hK))
set_option maxRecDepth 100000 in
set_option maxHeartbeats 1000000 in
theorem mLevel:∀ N,Meets Tryz.prog 87 (leFn N).sp
  | 0=>mLevel0
  | N + 1=>by
    refine meets_fn Tryz.func87 ok87 2 (by rw [Tryz.ntmps87]; decide) (meetsAll_f (mLevel N) (meetsAll_nil _)) leFn_len ?_
    rintro av H K ⟨⟨h,rfl⟩,hK⟩
    obtain ⟨t,rfl,ht,hN⟩:=lePre_open h
    have hK:K (iS .i64 (levF (N + 1) t)) []:=by
      have:(leFn (N + 1)).val [.va (.gs (tyC t)),iS .i64 ((N + 1:Nat):Int)]=iA .i64 (levF (N + 1) t):=by simp -dsimp only [go_sem]
      rw [this] at hK; exact hK
    clear h
    obtain ⟨k,s,n,e⟩:=t
    have hte:=ht.e
    have hte2:=ht.len
    simp only [Ty.e] at hte hte2
    have hK:K (iS .i64 ((e.foldl (lF N) 0:Nat):Int)) []:=hK
    simp (maxSteps:=1000000) -dsimp only [go_sem,tyC,tysC_map,pc87,rs87]
    refine vc_loop (α:=Nat) (fun i=>[(1,iS .i64 ((N + 1:Nat):Int)),(2,.va (.c1 (.pt 0 0))),(5,iS .i64 (((e.take i).foldl (lF N) 0:Nat):Int)),(6,iS .i64 i)]) (fun _=>[.cells (tyC (.mk k s n e)) 48])
      (fun i=>i<=e.length) (fun i=>e.length - i) 0 1 (Nat.zero_le _) ?_ ?_ ?_
    · simp -dsimp only [go_sem]
      simp
    · simp -dsimp only [go_sem,tyC,tysC_map]
    intro i hi
    rcases Nat.lt_or_ge i e.length with hlt | hge
    · have hg:decide ((i:Int) < (e.length:Int))=true:=by simp; omega
      have hg2:decide (0 < ((N + 1:Nat):Int))=true:=decide_eq_true (by omega)
      obtain ⟨u,hx⟩:∃ t,e[i]? = some t:=⟨_,List.getElem?_eq_getElem hlt⟩
      have q1:=row_rg' (row:=tyC) hx
      have hu:isTy (tyC u):=isTy_mk (hte u (List.mem_of_getElem? hx))
      have hn1:((N + 1:Nat):Int) - 1=(N:Int):=by omega
      have hl:=levF_le N u
      simp (maxSteps:=1000000) -dsimp only [go_sem,hg,hg2,↓q1,tyC,tysC_map,tyC_len,hu,hn1]
      refine ⟨by omega,by omega,by omega,by omega,by omega,loop_next (i + 1) 1 (by omega) (by omega) ?_ ?_⟩
      · simp -dsimp only [go_sem,levF_gF hx]<;>simp<;>omega
      · simp -dsimp only [go_sem,tyC,tysC_map]
    · have hg:decide ((i:Int) < (e.length:Int))=false:=by simp; omega
      obtain rfl:i=e.length:=by omega
      rw [List.take_length]
      simp (maxSteps:=1000000) -dsimp only [go_sem,hg,tyC,tysC_map]
      exact .sel [] (by simp) (by simp) rfl (.done (by simp -dsimp only [go_sem]; exact hK))
mutual
def fewT:Ty->Bool
  | .mk k s n e=>bif decide (40 < (bl n).length) || decide (3 < e.length) || decide (8 < levF 20 (.mk k s n e)) then false else fewTs e
def fewTs:List Ty->Bool
  | []=>true
  | t :: r=>fewT t && fewTs r
end
theorem fewTs_all:∀ l:List Ty,fewTs l=l.all fewT
  | []=>rfl
  | t :: r=>by rw [fewTs,fewTs_all r]; rfl
theorem few_e {k s:Int} {n:ByteArray} {e:List Ty} (h:fewT (.mk k s n e)=true):((bl n).length<=40/\e.length<=3/\levF 20 (.mk k s n e)<=8)/\∀ u ∈ e,fewT u=true:=by
  rw [fewT] at h
  cases c:decide (40 < (bl n).length) || decide (3 < e.length) || decide (8 < levF 20 (.mk k s n e)) with
  | true=>rw [c] at h; cases h
  | false=>
    rw [c] at h
    simp only [Bool.or_eq_false_iff,decide_eq_false_iff_not] at c
    refine ⟨by omega,fun u hu=>?_⟩
    simp only [Bool.cond_false,fewTs_all,List.all_eq_true] at h
    exact h u hu
theorem few_h {t:Ty} (h:fewT t=true):t.h<=9:=by
  obtain ⟨k,s,n,e⟩:=t
  have h1:=(few_e h).1.2.2
  have:=lev_h 20 (.mk k s n e) (by omega)
  omega
theorem few_sm:∀ (N:Nat) (t:Ty),t.h<=N->fewT t=true->TySm t
  | 0,t,h,_=>absurd h (by have:=t.h_pos; omega)
  | N + 1,.mk k s n e,h,hf=>by
    obtain ⟨⟨_,h2,_⟩,h3⟩:=few_e hf
    refine .mk (by omega) fun u hu=>few_sm N u ?_ (h3 u hu)
    have:=Ty.hs_mem hu; rw [Ty.h] at h; omega
theorem lv_h:∀ (N:Nat) (t:Ty),t.h<=N->(lvT t).1<=t.h
  | 0,t,h=>absurd h (by have:=t.h_pos; omega)
  | N + 1,.mk k s n e,h=>by
    cases c:(k == 5 && decide (0 < (e.length:Int))) with
    | false=>rw [lvT_stop c]; exact Nat.zero_le _
    | true=>
      simp only [Bool.and_eq_true,beq_iff_eq,decide_eq_true_eq] at c
      obtain ⟨rfl,c⟩:=c
      cases e with
      | nil=>simp at c
      | cons u r=>
        rw [lvT_cons]
        have h2:=lv_h N u (by rw [Ty.h,Ty.hs] at h; omega)
        rw [Ty.h,Ty.hs]; simp only; omega
def ftPre (N:Nat):List S->Prop:=fun av=>match av with
  | [.va (.gs q)]=>isTy q/\(C.ty q).h<=N
  | _=>False
theorem ftPre_open {N:Nat} {av:List S} (h:ftPre N av):∃ t:Ty,av=[.va (.gs (tyC t))]/\TyOk t/\t.h<=N:=by
  unfold ftPre at h
  split at h
  · obtain ⟨⟨t,rfl,ht⟩,h⟩:=h
    rw [ty_dec] at h
    exact ⟨t,rfl,ht,h⟩
  · exact h.elim
noncomputable def ftVal:List S->A:=fun av=>match av with
  | [.va (.gs q)]=>bA (fewT (C.ty q))
  | _=>.gs []
noncomputable def ftFn (N:Nat):Fun:=⟨ftPre N,ftVal,fun av h=>by obtain ⟨a,rfl,_⟩:=ftPre_open h; trivial⟩
theorem ftFn_len {N:Nat}:∀ av H K,(ftFn N).sp av H K->av.length=1:=fun av H K h=>by obtain ⟨a,rfl,_⟩:=ftPre_open h.1.1; rfl
attribute [go_sem] ftFn ftPre ftVal
set_option maxRecDepth 100000 in
set_option maxHeartbeats 1000000 in
theorem mFewType':∀ N,Meets Tryz.prog 49 (ftFn N).sp
  | 0=>⟨by kernel_rfl,by rintro xs vs E ro w K _ _ _ ⟨⟨h,_⟩,_⟩; obtain ⟨a,_,_,h⟩:=ftPre_open h; have:=a.h_pos; omega⟩
  | N + 1=>by
    refine meets_fn Tryz.func49 ok49 1 (by rw [Tryz.ntmps49]; decide) (meetsAll_f (mLevel 20) (meetsAll_f (mFewType' N) (meetsAll_nil _))) ftFn_len ?_
    rintro av H K ⟨⟨h,rfl⟩,hK⟩
    obtain ⟨t,rfl,ht,hN⟩:=ftPre_open h
    have hK:K (bS (fewT t)) []:=by
      have:(ftFn (N + 1)).val [.va (.gs (tyC t))]=bA (fewT t):=by simp -dsimp only [go_sem]
      rw [this] at hK; exact hK
    clear h
    have hit:=isTy_mk ht
    obtain ⟨k,s,n,e⟩:=t
    have hte:=ht.e
    have hte2:=ht.len
    simp only [Ty.e] at hte hte2
    have fin:∀ (x:Bool) (R:Hp),fewT (.mk k s n e)=x->W.Fin 0 K (bS x) R:=fun x R h1=>by
      rw [h1] at hK
      exact .sel [] (by simp) (by simp) rfl (.done (by simpa [go_sem] using hK))
    have hcd:=ty_dec (.mk k s n e)
    have hF:=fewT.eq_1 k s n e
    rw [tyC,tysC_map] at hit hcd
    generalize hlv:levF 20 (.mk k s n e)=lv at hF
    have hl20:=levF_le 20 (.mk k s n e)
    rw [hlv] at hl20
    have e20:((20:Nat):Int)=20:=rfl
    have hb20:(20<=1000)=True:=by simp
    simp (maxSteps:=1000000) -dsimp only [go_sem,tyC,tysC_map,pc49,rs49,hit,hcd,hlv,e20,hb20]
    refine ⟨fun h1=>fin false _ ?_,fun h1=>?_⟩
    · rw [hF]
      simp only [Bool.or_eq_true,decide_eq_true_eq] at h1
      rw [show (decide (40 < (bl n).length) || decide (3 < e.length) || decide (8 < lv))=true by simp only [Bool.or_eq_true,decide_eq_true_eq]; omega]; rfl
    have hF2:fewT (.mk k s n e)=e.all fewT:=by
      simp only [Bool.or_eq_false_iff,decide_eq_false_iff_not] at h1
      rw [hF,show (decide (40 < (bl n).length) || decide (3 < e.length) || decide (8 < lv))=false by simp only [Bool.or_eq_false_iff,decide_eq_false_iff_not]; omega,fewTs_all]; rfl
    refine vc_loop (α:=Nat) (fun i=>[(1,.va (.c1 (.pt 0 0))),(3,iS .i64 i)]) (fun i=>[.cells (tyC (.mk k s n e)) 48])
      (fun i=>i<=e.length/\∀ u ∈ e.take i,fewT u=true) (fun i=>e.length - i) 0 1 ⟨Nat.zero_le _,fun u hu=>by cases hu⟩ ?_ ?_ ?_
    · simp -dsimp only [go_sem]<;>simp
    · simp -dsimp only [go_sem,tyC,tysC_map]
    rintro i ⟨hi,ho⟩
    rcases Nat.lt_or_ge i e.length with hlt | hge
    · have hg:decide ((i:Int) < (e.length:Int))=true:=by simp; omega
      obtain ⟨u,hx⟩:∃ t,e[i]? = some t:=⟨_,List.getElem?_eq_getElem hlt⟩
      have hum:=List.mem_of_getElem? hx
      have q1:=row_rg' (row:=tyC) hx
      have hu:isTy (tyC u):=isTy_mk (hte u hum)
      have huh:(u.h<=N)=True:=eq_true (by have:=Ty.hs_mem hum; rw [Ty.h] at hN; omega)
      simp (maxSteps:=1000000) -dsimp only [go_sem,hg,↓q1,tyC,tysC_map,tyC_len,hu,huh]
      refine ⟨by omega,fun h1=>fin false _ ?_,fun h1=>?_⟩
      · rw [hF2,List.all_eq_false]; exact ⟨u,hum,by simpa using h1⟩
      · refine ⟨by omega,loop_next (i + 1) 1 ⟨by omega,fun v hv=>?_⟩ (by omega) ?_ ?_⟩
        · rw [take_next hx] at hv
          rcases List.mem_append.1 hv with h | h
          · exact ho v h
          · obtain rfl:v=u:=by simpa using h
            simpa using h1
        · simp -dsimp only [go_sem]<;>simp
        · simp -dsimp only [go_sem,tyC,tysC_map]
    · have hg:decide ((i:Int) < (e.length:Int))=false:=by simp; omega
      obtain rfl:i=e.length:=by omega
      rw [List.take_length] at ho
      simp (maxSteps:=1000000) -dsimp only [go_sem,hg,tyC,tysC_map]
      exact fin true _ (by rw [hF2,List.all_eq_true]; exact ho)
noncomputable def f0Fn:Fun:=gFn isTy C.ty fun t=>.bool (fewT t)
attribute [go_sem] f0Fn
theorem mFewType:Meets Tryz.prog 49 f0Fn.sp:=meets_all 0 mFewType' fun av H K ⟨⟨h,e⟩,hK⟩=>by
  obtain ⟨_,rfl,t,rfl,ht⟩:=gPre_open h
  exact ⟨t.h,⟨⟨⟨isTy_mk ht,by rw [ty_dec]; exact Nat.le_refl _⟩,e⟩,hK⟩⟩
end Go.Proofs.YtbolanmlngjdoaaGreat
namespace Go.Proofs.YtbolanmlngjdoaaGreat
open Go.W
def fewE (e:En):Bool:=!(decide (40 < (bl e.nm).length) || decide (18 < e.ns.length) || decide (18 < e.vs.length)) && e.ns.all fun n=>!(decide (40 < (bl n).length))
def fewFl (f:Fl):Bool:=!(decide (40 < (bl f.nm).length) || !(fewT f.ty))
def fewSt (t:St):Bool:=!(decide (40 < (bl t.nm).length) || decide (18 < t.fs.length)) && t.fs.all fewFl
def fewS (s:Sc):Bool:=!(decide (18 < s.es.length) || decide (18 < s.ss.length)) && (s.es.all fewE && s.ss.all fewSt)
theorem few_fit {s:Sc} (h:s.ok) (hf:fewS s=true):s.fit:=by
  unfold fewS at hf
  simp only [Bool.and_eq_true,List.all_eq_true,Bool.not_eq_true',Bool.or_eq_false_iff,decide_eq_false_iff_not] at hf
  obtain ⟨_,he,hs⟩:=hf
  have hfl:∀ t ∈ s.ss,t.fs.length<=18/\∀ f ∈ t.fs,fewT f.ty=true:=fun t ht=>by
    have:=hs t ht
    unfold fewSt at this
    simp only [Bool.and_eq_true,List.all_eq_true,Bool.not_eq_true',Bool.or_eq_false_iff,decide_eq_false_iff_not] at this
    refine ⟨by omega,fun f hf=>?_⟩
    have:=this.2 f hf
    unfold fewFl at this
    simp only [Bool.not_eq_true',Bool.or_eq_false_iff,Bool.not_eq_false'] at this
    exact this.2
  refine ⟨h,fun t ht f hf=>?_,fun t ht=>⟨by have:=(hfl t ht).1; omega,fun f hf=>few_sm _ _ (Nat.le_refl _) ((hfl t ht).2 f hf)⟩,fun e hm=>?_⟩
  · have h1:=few_h ((hfl t ht).2 f hf)
    have h2:=lv_h _ f.ty (Nat.le_refl _)
    omega
  · have:=he e hm
    unfold fewE at this
    simp only [Bool.and_eq_true,List.all_eq_true,Bool.not_eq_true',Bool.or_eq_false_iff,decide_eq_false_iff_not] at this
    omega
theorem all_step {α:Type} {l:List α} {i:Nat} {x:α} (hx:l[i]? = some x) (p:α->Bool):(l.drop i).all p=(p x && (l.drop (i + 1)).all p):=by
  obtain ⟨h,rfl⟩:=List.getElem?_eq_some_iff.1 hx
  rw [List.drop_eq_getElem_cons h,List.all_cons]
theorem all_end {α:Type} {l:List α} (p:α->Bool):(l.drop l.length).all p=true:=by rw [List.drop_length]; rfl
set_option maxRecDepth 100000 in
set_option maxHeartbeats 4000000 in
theorem mFew:Meets Tryz.prog 17 (gFn isSc C.sc fun s=>.bool (fewS s)).sp:=by
  refine meets_fn Tryz.func17 ok17 1 (by rw [Tryz.ntmps17]; decide) (meetsAll_f mFewType (meetsAll_nil _)) gFn_len ?_
  rintro av H K ⟨⟨h,rfl⟩,hK⟩
  obtain ⟨_,rfl,s,rfl,hs⟩:=gPre_open h
  have hK:K (bS (fewS s)) []:=by
    have:(gFn isSc C.sc fun s=>.bool (fewS s)).val [.va (.gs (scC s))]=bA (fewS s):=by simp -dsimp only [go_sem]
    rw [this] at hK; exact hK
  clear h
  obtain ⟨hv,hle,hls,hes,hss⟩:=hs
  have fin:∀ (x:Bool) (R:Hp),fewS s=x->W.Fin 0 K (bS x) R:=fun x R h1=>by
    rw [h1] at hK
    exact .sel [] (by simp) (by simp) rfl (.done (by simpa [go_sem] using hK))
  simp (maxSteps:=1000000) -dsimp only [go_sem,scC,pc17,rs17]
  refine ⟨fun h1=>fin false _ ?_,fun h1=>?_⟩
  · unfold fewS
    rw [show (decide (18 < s.es.length) || decide (18 < s.ss.length))=true by simp only [Bool.or_eq_true,decide_eq_true_eq] at h1 ⊢; omega]; rfl
  have hF:fewS s=(s.es.all fewE && s.ss.all fewSt):=by
    unfold fewS
    rw [show (decide (18 < s.es.length) || decide (18 < s.ss.length))=false by simp only [Bool.or_eq_false_iff,decide_eq_false_iff_not] at h1 ⊢; omega]; rfl
  refine vc_loop (α:=Nat) (fun i=>[(1,.va (.c1 (.pt 0 0))),(3,iS .i64 i)]) (fun _=>[.cells (scC s) 25])
    (fun i=>i<=s.es.length/\(s.es.drop i).all fewE=s.es.all fewE) (fun i=>s.es.length - i) 0 1 ⟨Nat.zero_le _,rfl⟩ ?_ ?_ ?_
  · simp -dsimp only [go_sem]<;>simp
  · simp -dsimp only [go_sem,scC]<;>simp
  rintro i ⟨hi,ho⟩
  rcases Nat.lt_or_ge i s.es.length with hlt | hge
  · have hg:decide ((i:Int) < (s.es.length:Int))=true:=by simp; omega
    obtain ⟨e,hx⟩:∃ e,s.es[i]? = some e:=⟨_,List.getElem?_eq_getElem hlt⟩
    have hem:=List.mem_of_getElem? hx
    have q1:=row_rg' (row:=enC) hx
    obtain ⟨_,hln,hlv,_,_⟩:=hes e hem
    rw [all_step hx] at ho
    have bad:fewE e=false->∀ R,W.Fin 0 K (bS false) R:=fun h R=>fin false R (by rw [hF,<-ho,h]; rfl)
    have cst:∀ (a b:Nat),decide ((a:Int) < (b:Int))=decide (a < b):=fun a b=>by simp
    have hE:fewE e=(!(decide (40 < ((bl e.nm).length:Int)) || decide (18 < (e.ns.length:Int)) || decide (18 < (e.vs.length:Int))) && e.ns.all fun n=>!(decide (40 < ((bl n).length:Int)))):=by
      unfold fewE
      have c40:∀ b:Nat,decide (40 < (b:Int))=decide (40 < b):=fun b=>by simp; omega
      have c18:∀ b:Nat,decide (18 < (b:Int))=decide (18 < b):=fun b=>by simp; omega
      simp only [c40,c18]
    cases d1:decide (40 < ((bl e.nm).length:Int)) with
    | true=>
      rw [d1] at hE
      simp (maxSteps:=1000000) -dsimp only [go_sem,hg,↓q1,enC,scC,d1]
      exact ⟨by omega,bad hE _⟩
    | false=>
    cases d2:decide (18 < (e.ns.length:Int)) with
    | true=>
      rw [d1,d2] at hE
      simp (maxSteps:=1000000) -dsimp only [go_sem,hg,↓q1,enC,scC,d1,d2]
      exact ⟨by omega,by omega,bad hE _⟩
    | false=>
    cases d3:decide (18 < (e.vs.length:Int)) with
    | true=>
      rw [d1,d2,d3] at hE
      simp (maxSteps:=1000000) -dsimp only [go_sem,hg,↓q1,enC,scC,d1,d2,d3]
      exact ⟨by omega,by omega,by omega,bad hE _⟩
    | false=>
      rw [d1,d2,d3] at hE
      simp only [Bool.or_self,Bool.not_false,Bool.true_and] at hE
      simp (maxSteps:=1000000) -dsimp only [go_sem,hg,↓q1,enC,scC,d1,d2,d3]
      refine ⟨by omega,by omega,by omega,?_⟩
      refine vc_loop (α:=Nat) (fun k=>[(1,.va (.c1 (.pt 0 0))),(3,iS .i64 i),(4,iS .i64 k)]) (fun _=>[.cells (scC s) 25])
        (fun k=>k<=e.ns.length/\((e.ns.drop k).all fun n=>!(decide (40 < ((bl n).length:Int))))=e.ns.all fun n=>!(decide (40 < ((bl n).length:Int)))) (fun k=>e.ns.length - k) 0 1 ⟨Nat.zero_le _,rfl⟩ ?_ ?_ ?_
      · simp -dsimp only [go_sem]<;>simp
      · simp -dsimp only [go_sem,scC]<;>simp
      rintro k ⟨hk,ho2⟩
      rcases Nat.lt_or_ge k e.ns.length with hkt | hkg
      · have hgk:decide ((k:Int) < (e.ns.length:Int))=true:=by simp; omega
        obtain ⟨n,hn⟩:∃ n,e.ns[k]? = some n:=⟨_,List.getElem?_eq_getElem hkt⟩
        have q2:=row_rg' (row:=stR) hn
        rw [all_step hn] at ho2
        simp (maxSteps:=1000000) -dsimp only [go_sem,↓q1,enC,scC,hgk]
        simp (maxSteps:=1000000) -dsimp only [go_sem,hn,Option.some.injEq,forall_eq']
        refine ⟨by omega,by omega,by omega,fun h2=>bad (by rw [hE,<-ho2,h2]; rfl) _,fun h2=>?_⟩
        rw [h2] at ho2
        refine ⟨by omega,loop_next (k + 1) 1 ⟨by omega,by simpa using ho2⟩ (by omega) ?_ ?_⟩
        · simp -dsimp only [go_sem]<;>simp
        · simp -dsimp only [go_sem,scC]<;>simp
      · have hgk:decide ((k:Int) < (e.ns.length:Int))=false:=by simp; omega
        obtain rfl:k=e.ns.length:=by omega
        rw [all_end] at ho2
        rw [hE,<-ho2,Bool.true_and] at ho
        simp (maxSteps:=1000000) -dsimp only [go_sem,↓q1,enC,scC,hgk]
        refine ⟨by omega,by omega,loop_next (i + 1) 1 ⟨by omega,ho⟩ (by omega) ?_ ?_⟩
        · simp -dsimp only [go_sem]<;>simp
        · simp -dsimp only [go_sem,scC]<;>simp
  · have hg:decide ((i:Int) < (s.es.length:Int))=false:=by simp; omega
    obtain rfl:i=s.es.length:=by omega
    rw [all_end] at ho
    rw [<-ho,Bool.true_and] at hF
    simp (maxSteps:=1000000) -dsimp only [go_sem,hg,scC]
    clear ho hi hge hg
    refine vc_loop (α:=Nat) (fun i=>[(1,.va (.c1 (.pt 0 0))),(5,iS .i64 i)]) (fun _=>[.cells (scC s) 25])
      (fun i=>i<=s.ss.length/\(s.ss.drop i).all fewSt=s.ss.all fewSt) (fun i=>s.ss.length - i) 0 1 ⟨Nat.zero_le _,rfl⟩ ?_ ?_ ?_
    · simp -dsimp only [go_sem]<;>simp
    · simp -dsimp only [go_sem,scC]<;>simp
    rintro i ⟨hi,ho⟩
    rcases Nat.lt_or_ge i s.ss.length with hlt | hge
    · have hg:decide ((i:Int) < (s.ss.length:Int))=true:=by simp; omega
      obtain ⟨e,hx⟩:∃ e,s.ss[i]? = some e:=⟨_,List.getElem?_eq_getElem hlt⟩
      have hem:=List.mem_of_getElem? hx
      have q1:=row_rg' (row:=stC) hx
      obtain ⟨_,hln,hfs⟩:=hss e hem
      rw [all_step hx] at ho
      have bad:fewSt e=false->∀ R,W.Fin 0 K (bS false) R:=fun h R=>fin false R (by rw [hF,<-ho,h]; rfl)
      have hE:fewSt e=(!(decide (40 < ((bl e.nm).length:Int)) || decide (18 < (e.fs.length:Int))) && e.fs.all fewFl):=by
        unfold fewSt
        have c40:∀ b:Nat,decide (40 < (b:Int))=decide (40 < b):=fun b=>by simp; omega
        have c18:∀ b:Nat,decide (18 < (b:Int))=decide (18 < b):=fun b=>by simp; omega
        simp only [c40,c18]
      cases d1:decide (40 < ((bl e.nm).length:Int)) with
      | true=>
        rw [d1] at hE
        simp (maxSteps:=1000000) -dsimp only [go_sem,hg,↓q1,stC,scC,d1]
        exact ⟨by omega,bad hE _⟩
      | false=>
      cases d2:decide (18 < (e.fs.length:Int)) with
      | true=>
        rw [d1,d2] at hE
        simp (maxSteps:=1000000) -dsimp only [go_sem,hg,↓q1,stC,scC,d1,d2]
        exact ⟨by omega,by omega,bad hE _⟩
      | false=>
        rw [d1,d2] at hE
        simp only [Bool.or_self,Bool.not_false,Bool.true_and] at hE
        simp (maxSteps:=1000000) -dsimp only [go_sem,hg,↓q1,stC,scC,d1,d2]
        refine ⟨by omega,by omega,?_⟩
        refine vc_loop (α:=Nat) (fun k=>[(1,.va (.c1 (.pt 0 0))),(5,iS .i64 i),(6,iS .i64 k)]) (fun _=>[.cells (scC s) 25])
          (fun k=>k<=e.fs.length/\(e.fs.drop k).all fewFl=e.fs.all fewFl) (fun k=>e.fs.length - k) 0 1 ⟨Nat.zero_le _,rfl⟩ ?_ ?_ ?_
        · simp -dsimp only [go_sem]<;>simp
        · simp -dsimp only [go_sem,scC]<;>simp
        rintro k ⟨hk,ho2⟩
        rcases Nat.lt_or_ge k e.fs.length with hkt | hkg
        · have hgk:decide ((k:Int) < (e.fs.length:Int))=true:=by simp; omega
          obtain ⟨f,hn⟩:∃ n,e.fs[k]? = some n:=⟨_,List.getElem?_eq_getElem hkt⟩
          have q2:=row_rg' (row:=flC) hn
          have hity:isTy (tyC f.ty):=isTy_mk (hfs f (List.mem_of_getElem? hn)).ty
          rw [all_step hn] at ho2
          have hFl:fewFl f=!(decide (40 < ((bl f.nm).length:Int)) || !(fewT f.ty)):=by
            unfold fewFl
            have c40:∀ b:Nat,decide (40 < (b:Int))=decide (40 < b):=fun b=>by simp; omega
            simp only [c40]
          cases d3:decide (40 < ((bl f.nm).length:Int)) with
          | true=>
            rw [d3] at hFl
            simp (maxSteps:=1000000) -dsimp only [go_sem,↓q1,stC,scC,hgk]
            simp (maxSteps:=1000000) -dsimp only [go_sem,flC,hn,Option.some.injEq,forall_eq',d3]
            refine ⟨by omega,by omega,by omega,bad (by rw [hE,<-ho2,hFl]; rfl) _⟩
          | false=>
            rw [d3] at hFl
            simp only [Bool.false_or,Bool.not_not] at hFl
            rw [hFl] at ho2
            simp (maxSteps:=1000000) -dsimp only [go_sem,↓q1,stC,scC,hgk]
            simp (maxSteps:=1000000) -dsimp only [go_sem,flC,fl_ty,hity,hn,Option.some.injEq,forall_eq',d3]
            refine ⟨by omega,by omega,by omega,by omega,by omega,fun h2=>bad (by rw [hE,<-ho2,h2]; rfl) _,fun h2=>?_⟩
            rw [show fewT f.ty=true by simpa using h2,Bool.true_and] at ho2
            refine ⟨by omega,loop_next (k + 1) 1 ⟨by omega,ho2⟩ (by omega) ?_ ?_⟩
            · simp -dsimp only [go_sem]<;>simp
            · simp -dsimp only [go_sem,scC]<;>simp
        · have hgk:decide ((k:Int) < (e.fs.length:Int))=false:=by simp; omega
          obtain rfl:k=e.fs.length:=by omega
          rw [all_end] at ho2
          rw [hE,<-ho2,Bool.true_and] at ho
          simp (maxSteps:=1000000) -dsimp only [go_sem,↓q1,stC,scC,hgk]
          refine ⟨by omega,by omega,loop_next (i + 1) 1 ⟨by omega,ho⟩ (by omega) ?_ ?_⟩
          · simp -dsimp only [go_sem]<;>simp
          · simp -dsimp only [go_sem,scC]<;>simp
    · have hg:decide ((i:Int) < (s.ss.length:Int))=false:=by simp; omega
      obtain rfl:i=s.ss.length:=by omega
      rw [all_end] at ho
      simp (maxSteps:=1000000) -dsimp only [go_sem,hg,scC]
      exact fin true _ (by rw [hF,<-ho])
end Go.Proofs.YtbolanmlngjdoaaGreat
namespace Go.Proofs.YtbolanmlngjdoaaGreat
open Go.W
set_option maxRecDepth 100000 in
set_option maxHeartbeats 8000000 in
theorem mIssues:Meets Tryz.prog 8 iuSp:=by
  refine meets_fn Tryz.func8 ok8 3 (by rw [Tryz.ntmps8]; decide) (meetsAll_f mCheck (meetsAll_s mNamesE (meetsAll_s mStructP (meetsAll_s mEnumP (meetsAll_s mAdd (meetsAll_s mStructs (meetsAll_f mContainsI (meetsAll_s mSortI (meetsAll_nil _)))))))))
    (fun av H K h=>by obtain ⟨_,_,_,rfl,_⟩:=h; rfl) ?_
  rintro av H K ⟨o,n,x,rfl,rfl,ho,hn,hK⟩
  have hso:=isScF_mk ho
  have hsn:=isScF_mk hn
  have hdo:=sc_dec o
  have hdn:=sc_dec n
  rw [scC] at hso hsn hdo hdn
  have fin:∀ (l:List Is) (R:Hp),issF o n x=l->W.Fin 0 K (.va (.c1 (.fz (l.map isC)))) R:=fun l R h1=>by
    rw [h1] at hK
    exact .sel [] (by simp) (by simp) rfl (.done (by simpa [go_sem] using hK))
  by_cases c1:checkF o=0
  rotate_left
  · have e1:(checkF o != 0)=true:=by simpa using c1
    simp (maxSteps:=1000000) -dsimp only [go_sem,scC,pc8,rs8,hso,hsn,hdo,hdn,e1]
    exact fin [] _ (by unfold issF; rw [e1]; rfl)
  have e1:(checkF o != 0)=false:=by simp [c1]
  by_cases c2:checkF n=0
  rotate_left
  · have e2:(checkF n != 0)=true:=by simpa using c2
    simp (maxSteps:=1000000) -dsimp only [go_sem,scC,pc8,rs8,hso,hsn,hdo,hdn,e1,e2]
    exact fin [] _ (by unfold issF; rw [e1,e2]; rfl)
  have e2:(checkF n != 0)=false:=by simp [c2]
  have hiss:issF o n x=putA [] (rawI o n x):=by unfold issF; rw [e1,e2]; rfl
  have hlen:(nmsF o n x).length<=33:=by
    unfold nmsF
    have h1:=List.length_filter_le (inB (usL n x)) (usL o x)
    have h2:=usL_len ho x
    rw [List.length_cons]; omega
  simp (maxSteps:=1000000) -dsimp only [go_sem,scC,pc8,rs8,hso,hsn,hdo,hdn,e1,e2]
  refine nm_use ho hn ?_
  have hbd:∀ i,(addA [] (((nmsF o n x).take i).flatMap (cmpN o n))).length<=140000:=fun i=>by
    have h1:=addA_len (((nmsF o n x).take i).flatMap (cmpN o n)) []
    have h2:=fm_le (f:=cmpN o n) (l:=(nmsF o n x).take i) fun y _=>cmpN_len ho hn c1 c2 y
    have h3:((nmsF o n x).take i).length<=33:=by rw [List.length_take]; omega
    have h4:=Nat.mul_le_mul_right 4000 h3
    simp only [List.length_nil] at h1
    omega
  have hraw:rawI o n x=(nmsF o n x).flatMap (cmpN o n):=rfl
  have hBI:∀ z ∈ addA [] (rawI o n x),BI z:=fun z hz=>by
    rw [addA_mem] at hz
    rcases hz with hz | hz
    · cases hz
    · exact raw_BI ho hn c1 c2 x z hz
  generalize hns:nmsF o n x=ns at *
  simp (maxSteps:=1000000) -dsimp only [go_sem]
  refine vc_loop_gh (α:=Nat) (fun i=>[(3,.va (.c1 (.pt 0 0))),(4,.va (.c1 (.pt 1 0))),(7,.va (.c1 (.pt 2 0))),(33,.va (.c1 (.fz (ns.map stR)))),(34,iS .i64 ns.length),(35,iS .i64 i)]) (fun i=>[.cells (scC o) 25,.cells (scC n) 25,.cells [.sl 3 (addA [] ((ns.take i).flatMap (cmpN o n))).length] 53,.row ((addA [] ((ns.take i).flatMap (cmpN o n))).map isC) 33 3])
    (fun i=>i<=ns.length) (fun i=>ns.length - i) (.nilc 2 0 33 3 [.vl (.slice none 0 0)] 53 rfl rfl (gh_at 0 4 (Nat.zero_le _) ?_ ?_)) ?_
  · simp -dsimp only [go_sem]<;>simp
  · simp -dsimp only [go_sem,scC]<;>simp [addA]
  intro i hi
  have hbi:=hbd i
  rcases Nat.lt_or_ge i ns.length with hlt | hge
  · have hg:decide ((i:Int) < (ns.length:Int))=true:=by simp; omega
    obtain ⟨y,hx⟩:∃ t,ns[i]? = some t:=⟨_,List.getElem?_eq_getElem hlt⟩
    have q1:=row_rg' (row:=stR) hx
    have hnx:addA [] ((ns.take (i + 1)).flatMap (cmpN o n))=addA (addA [] ((ns.take i).flatMap (cmpN o n))) (cmpN o n y):=by rw [fm_next hx,addA_app]
    clear hns hraw hBI hiss hbd
    generalize hL:addA [] ((ns.take i).flatMap (cmpN o n))=L0 at *
    have ga:=stG_of ho c1 y
    have gb:=stG_of hn c2 y
    have hdl:=enL_of ho c1 y
    have hel:=enL_of hn c2 y
    have hcN:cmpN o n y=bif hasS o.ss y != hasS n.ss y then [⟨5,0,y⟩] else (bif hasS o.ss y then cmpS y ((fS o.ss y).getD default) ((fS n.ss y).getD default) else []) ++ (bif hasE o.es y && hasE n.es y then cmpV y ((fEn o.es y).getD default).vs ((fEn n.es y).getD default) else []):=rfl
    rw [hcN] at hnx
    clear hcN
    generalize hd:(fEn o.es y).getD default=d at *
    generalize he:(fEn n.es y).getD default=e at *
    simp (maxSteps:=1000000) -dsimp only [go_sem,hg,↓q1,scC]
    refine ⟨by omega,stp_use (s:=o) ho ?_⟩
    generalize (fS o.ss y).getD default=a at *
    simp (maxSteps:=1000000) -dsimp only [go_sem,stC]
    refine stp_use (s:=n) hn ?_
    generalize (fS n.ss y).getD default=b at *
    cases s1:hasS o.ss y with
    | true=>
      cases s2:hasS n.ss y with
      | true=>
        rw [s1,s2] at hnx
        simp only [bne_self_eq_false,Bool.cond_false,Bool.cond_true,addA_app] at hnx
        simp (maxSteps:=1000000) -dsimp only [go_sem,stC]
        refine ius_use (l:=L0) ga gb (by omega) ?_
        simp (maxSteps:=1000000) -dsimp only [go_sem]
        have hbL:(addA L0 (cmpS y a b)).length<=150000:=by
          have h1:=addA_len (cmpS y a b) L0
          have h2:=fm_le (f:=isA y b) (l:=a.fs) fun f _=>isA_len y _ f
          have h3:=fm_le (f:=isB y a) (l:=b.fs) fun f _=>isB_len y _ f
          have:=ga.len
          have:=gb.len
          unfold cmpS at h1 ⊢
          rw [List.length_append] at h1
          omega
        refine vc_tail (up:=[(3,.va (.c1 (.pt 0 0))),(4,.va (.c1 (.pt 1 0))),(7,.va (.c1 (.pt 2 0))),(9,tS y),(33,.va (.c1 (.fz (ns.map stR)))),(34,iS .i64 ns.length),(35,iS .i64 i)]) (Hs:=[.cells (scC o) 25,.cells (scC n) 25,.cells [.sl 3 (addA L0 (cmpS y a b)).length] 53,.row ((addA L0 (cmpS y a b)).map isC) 33 3]) 4 ?_ ?_ ?_
        rotate_left
        · simp -dsimp only [go_sem]<;>simp
        · simp -dsimp only [go_sem,scC]<;>simp
        generalize addA L0 (cmpS y a b)=L at *
        simp (maxSteps:=1000000) -dsimp only [go_sem,scC,pc8_13]
        refine enp_use (s:=o) ho ?_
        rw [show (fEn o.es y).getD default=d from hd]
        simp (maxSteps:=1000000) -dsimp only [go_sem,enC]
        refine enp_use (s:=n) hn ?_
        rw [show (fEn n.es y).getD default=e from he]
        simp (maxSteps:=1000000) -dsimp only [go_sem,enC]
        have hii:isIs (e.vs.map inR):=isIs_mk (by omega)
        have dii:=it_map e.vs
        generalize hasE o.es y=p at *
        generalize hasE n.es y=q at *
        have hbj:∀ j,(addA L (bif p && q then cmpV y (d.vs.take j) e else [])).length<=160000:=fun j=>by
          have h1:=addA_len (bif p && q then cmpV y (d.vs.take j) e else []) L
          have h2:=cmpV_len y (d.vs.take j) e
          rw [List.length_take] at h2
          have h3:(bif p && q then cmpV y (d.vs.take j) e else []).length<=16:=by cases p && q<;>simp only [Bool.cond_true,Bool.cond_false,List.length_nil]<;>omega
          omega
        refine vc_loop (α:=Nat) (fun j=>[(3,.va (.c1 (.pt 0 0))),(4,.va (.c1 (.pt 1 0))),(7,.va (.c1 (.pt 2 0))),(9,tS y),(15,bS p),(16,.va (.c1 (.pt 5 0))),(17,bS q),(33,.va (.c1 (.fz (ns.map stR)))),(34,iS .i64 ns.length),(35,iS .i64 i),(78,.va (.c1 (.fz (d.vs.map inR)))),(79,iS .i64 d.vs.length),(80,iS .i64 j)])
          (fun j=>[.cells (scC o) 25,.cells (scC n) 25,.cells [.sl 3 (addA L (bif p && q then cmpV y (d.vs.take j) e else [])).length] 53,.row ((addA L (bif p && q then cmpV y (d.vs.take j) e else [])).map isC) 33 3,.cells (enC d) 60,.cells (enC e) 60])
          (fun j=>j<=d.vs.length) (fun j=>d.vs.length - j) 0 6 (Nat.zero_le _) ?_ ?_ ?_
        · simp -dsimp only [go_sem]<;>simp
        · simp -dsimp only [go_sem,scC,enC,List.take_zero,cmpV_nil,bif_nil,addA_nil]<;>simp
        intro j hj
        have hbjj:=hbj j
        rcases Nat.lt_or_ge j d.vs.length with hltj | hgej
        · have hgj:decide ((j:Int) < (d.vs.length:Int))=true:=by simp; omega
          obtain ⟨v,hv⟩:∃ t,d.vs[j]? = some t:=⟨_,List.getElem?_eq_getElem hltj⟩
          have q3:=row_rg' (row:=inR) hv
          have hcn:=cmpV_next hv y e
          cases p with
          | false=>
            simp only [Bool.false_and,Bool.cond_false,addA_nil] at hbjj ⊢
            simp (maxSteps:=1000000) -dsimp only [go_sem,hgj,↓q3,scC,enC]
            refine ⟨by omega,by omega,loop_next (j + 1) 6 (by omega) (by omega) ?_ ?_⟩
            · simp -dsimp only [go_sem]<;>simp
            · simp -dsimp only [go_sem,scC,enC]<;>simp
          | true=>
          cases q with
          | false=>
            simp only [Bool.and_false,Bool.cond_false,addA_nil] at hbjj ⊢
            simp (maxSteps:=1000000) -dsimp only [go_sem,hgj,↓q3,scC,enC]
            refine ⟨by omega,by omega,loop_next (j + 1) 6 (by omega) (by omega) ?_ ?_⟩
            · simp -dsimp only [go_sem]<;>simp
            · simp -dsimp only [go_sem,scC,enC]<;>simp
          | true=>
            simp only [Bool.and_self,Bool.cond_true] at hbjj ⊢
            have hjn:addA L (cmpV y (d.vs.take (j + 1)) e)=addA (addA L (cmpV y (d.vs.take j) e)) (bif inI e.vs v then [] else [⟨4,v,y⟩]):=by rw [hcn,addA_app]
            generalize hM:addA L (cmpV y (d.vs.take j) e)=M at *
            cases hc:inI e.vs v with
            | true=>
              rw [hc,Bool.cond_true,addA_nil] at hjn
              simp (maxSteps:=1000000) -dsimp only [go_sem,hgj,↓q3,scC,enC,hii,dii,hc]
              refine ⟨by omega,by omega,loop_next (j + 1) 6 (by omega) (by omega) ?_ ?_⟩
              · simp -dsimp only [go_sem]<;>simp
              · simp -dsimp only [go_sem,scC,enC,hjn]<;>simp
            | false=>
              rw [hc,Bool.cond_false,addA_one] at hjn
              simp (maxSteps:=1000000) -dsimp only [go_sem,hgj,↓q3,scC,enC,hii,dii,hc]
              refine ⟨by omega,ad_use (l:=M) (by omega) ?_⟩
              simp (maxSteps:=1000000) -dsimp only [go_sem]
              refine ⟨by omega,loop_next (j + 1) 6 (by omega) (by omega) ?_ ?_⟩
              · simp -dsimp only [go_sem]<;>simp
              · simp -dsimp only [go_sem,scC,enC,hjn]<;>simp
        · have hgj:decide ((j:Int) < (d.vs.length:Int))=false:=by simp; omega
          obtain rfl:j=d.vs.length:=by omega
          simp only [List.take_length]
          rw [<-hnx]
          simp (maxSteps:=1000000) -dsimp only [go_sem,hgj,scC,enC]
          refine ⟨by omega,loop_next (i + 1) 4 (by omega) (by omega) ?_ ?_⟩
          · simp -dsimp only [go_sem]<;>simp
          · simp -dsimp only [go_sem,scC]<;>simp
      | false=>
        rw [s1,s2] at hnx
        simp only [Bool.true_bne,Bool.not_false,Bool.cond_true,addA_one] at hnx
        simp (maxSteps:=1000000) -dsimp only [go_sem,stC]
        refine ad_use (l:=L0) (by omega) ?_
        simp (maxSteps:=1000000) -dsimp only [go_sem]
        refine ⟨by omega,loop_next (i + 1) 4 (by omega) (by omega) ?_ ?_⟩
        · simp -dsimp only [go_sem]<;>simp
        · simp -dsimp only [go_sem,scC,hnx]<;>simp
    | false=>
      cases s2:hasS n.ss y with
      | true=>
        rw [s1,s2] at hnx
        simp only [Bool.false_bne,Bool.cond_true,addA_one] at hnx
        simp (maxSteps:=1000000) -dsimp only [go_sem,stC]
        refine ad_use (l:=L0) (by omega) ?_
        simp (maxSteps:=1000000) -dsimp only [go_sem]
        refine ⟨by omega,loop_next (i + 1) 4 (by omega) (by omega) ?_ ?_⟩
        · simp -dsimp only [go_sem]<;>simp
        · simp -dsimp only [go_sem,scC,hnx]<;>simp
      | false=>
        rw [s1,s2] at hnx
        simp only [bne_self_eq_false,Bool.cond_false,List.nil_append] at hnx
        simp (maxSteps:=1000000) -dsimp only [go_sem,stC]
        have hbL:L0.length<=150000:=by omega
        refine vc_tail (up:=[(3,.va (.c1 (.pt 0 0))),(4,.va (.c1 (.pt 1 0))),(7,.va (.c1 (.pt 2 0))),(9,tS y),(33,.va (.c1 (.fz (ns.map stR)))),(34,iS .i64 ns.length),(35,iS .i64 i)]) (Hs:=[.cells (scC o) 25,.cells (scC n) 25,.cells [.sl 3 L0.length] 53,.row (L0.map isC) 33 3]) 4 ?_ ?_ ?_
        rotate_left
        · simp -dsimp only [go_sem]<;>simp
        · simp -dsimp only [go_sem,scC]<;>simp
        generalize L0=L at *
        simp (maxSteps:=1000000) -dsimp only [go_sem,scC,pc8_13]
        refine enp_use (s:=o) ho ?_
        rw [show (fEn o.es y).getD default=d from hd]
        simp (maxSteps:=1000000) -dsimp only [go_sem,enC]
        refine enp_use (s:=n) hn ?_
        rw [show (fEn n.es y).getD default=e from he]
        simp (maxSteps:=1000000) -dsimp only [go_sem,enC]
        have hii:isIs (e.vs.map inR):=isIs_mk (by omega)
        have dii:=it_map e.vs
        generalize hasE o.es y=p at *
        generalize hasE n.es y=q at *
        have hbj:∀ j,(addA L (bif p && q then cmpV y (d.vs.take j) e else [])).length<=160000:=fun j=>by
          have h1:=addA_len (bif p && q then cmpV y (d.vs.take j) e else []) L
          have h2:=cmpV_len y (d.vs.take j) e
          rw [List.length_take] at h2
          have h3:(bif p && q then cmpV y (d.vs.take j) e else []).length<=16:=by cases p && q<;>simp only [Bool.cond_true,Bool.cond_false,List.length_nil]<;>omega
          omega
        refine vc_loop (α:=Nat) (fun j=>[(3,.va (.c1 (.pt 0 0))),(4,.va (.c1 (.pt 1 0))),(7,.va (.c1 (.pt 2 0))),(9,tS y),(15,bS p),(16,.va (.c1 (.pt 5 0))),(17,bS q),(33,.va (.c1 (.fz (ns.map stR)))),(34,iS .i64 ns.length),(35,iS .i64 i),(78,.va (.c1 (.fz (d.vs.map inR)))),(79,iS .i64 d.vs.length),(80,iS .i64 j)])
          (fun j=>[.cells (scC o) 25,.cells (scC n) 25,.cells [.sl 3 (addA L (bif p && q then cmpV y (d.vs.take j) e else [])).length] 53,.row ((addA L (bif p && q then cmpV y (d.vs.take j) e else [])).map isC) 33 3,.cells (enC d) 60,.cells (enC e) 60])
          (fun j=>j<=d.vs.length) (fun j=>d.vs.length - j) 0 6 (Nat.zero_le _) ?_ ?_ ?_
        · simp -dsimp only [go_sem]<;>simp
        · simp -dsimp only [go_sem,scC,enC,List.take_zero,cmpV_nil,bif_nil,addA_nil]<;>simp
        intro j hj
        have hbjj:=hbj j
        rcases Nat.lt_or_ge j d.vs.length with hltj | hgej
        · have hgj:decide ((j:Int) < (d.vs.length:Int))=true:=by simp; omega
          obtain ⟨v,hv⟩:∃ t,d.vs[j]? = some t:=⟨_,List.getElem?_eq_getElem hltj⟩
          have q3:=row_rg' (row:=inR) hv
          have hcn:=cmpV_next hv y e
          cases p with
          | false=>
            simp only [Bool.false_and,Bool.cond_false,addA_nil] at hbjj ⊢
            simp (maxSteps:=1000000) -dsimp only [go_sem,hgj,↓q3,scC,enC]
            refine ⟨by omega,by omega,loop_next (j + 1) 6 (by omega) (by omega) ?_ ?_⟩
            · simp -dsimp only [go_sem]<;>simp
            · simp -dsimp only [go_sem,scC,enC]<;>simp
          | true=>
          cases q with
          | false=>
            simp only [Bool.and_false,Bool.cond_false,addA_nil] at hbjj ⊢
            simp (maxSteps:=1000000) -dsimp only [go_sem,hgj,↓q3,scC,enC]
            refine ⟨by omega,by omega,loop_next (j + 1) 6 (by omega) (by omega) ?_ ?_⟩
            · simp -dsimp only [go_sem]<;>simp
            · simp -dsimp only [go_sem,scC,enC]<;>simp
          | true=>
            simp only [Bool.and_self,Bool.cond_true] at hbjj ⊢
            have hjn:addA L (cmpV y (d.vs.take (j + 1)) e)=addA (addA L (cmpV y (d.vs.take j) e)) (bif inI e.vs v then [] else [⟨4,v,y⟩]):=by rw [hcn,addA_app]
            generalize hM:addA L (cmpV y (d.vs.take j) e)=M at *
            cases hc:inI e.vs v with
            | true=>
              rw [hc,Bool.cond_true,addA_nil] at hjn
              simp (maxSteps:=1000000) -dsimp only [go_sem,hgj,↓q3,scC,enC,hii,dii,hc]
              refine ⟨by omega,by omega,loop_next (j + 1) 6 (by omega) (by omega) ?_ ?_⟩
              · simp -dsimp only [go_sem]<;>simp
              · simp -dsimp only [go_sem,scC,enC,hjn]<;>simp
            | false=>
              rw [hc,Bool.cond_false,addA_one] at hjn
              simp (maxSteps:=1000000) -dsimp only [go_sem,hgj,↓q3,scC,enC,hii,dii,hc]
              refine ⟨by omega,ad_use (l:=M) (by omega) ?_⟩
              simp (maxSteps:=1000000) -dsimp only [go_sem]
              refine ⟨by omega,loop_next (j + 1) 6 (by omega) (by omega) ?_ ?_⟩
              · simp -dsimp only [go_sem]<;>simp
              · simp -dsimp only [go_sem,scC,enC,hjn]<;>simp
        · have hgj:decide ((j:Int) < (d.vs.length:Int))=false:=by simp; omega
          obtain rfl:j=d.vs.length:=by omega
          simp only [List.take_length]
          rw [<-hnx]
          simp (maxSteps:=1000000) -dsimp only [go_sem,hgj,scC,enC]
          refine ⟨by omega,loop_next (i + 1) 4 (by omega) (by omega) ?_ ?_⟩
          · simp -dsimp only [go_sem]<;>simp
          · simp -dsimp only [go_sem,scC]<;>simp
  · have hg:decide ((i:Int) < (ns.length:Int))=false:=by simp; omega
    obtain rfl:i=ns.length:=by omega
    rw [List.take_length] at hbi ⊢
    rw [<-hraw] at hbi ⊢
    simp (maxSteps:=1000000) -dsimp only [go_sem,hg,scC]
    refine sr_use (l:=addA [] (rawI o n x)) (by omega) hBI fun l' hp hs=>?_
    have hr:=iss_sorted hp hs
    rw [<-hp.length_eq]
    simp (maxSteps:=1000000) -dsimp only [go_sem]
    rw [show l'.length=(l'.map isC).length by simp]
    refine .pub 3 _ _ _ rfl (.sel [] (by simp) (by simp [pubH]) rfl (.done ?_))
    simp -dsimp only [go_sem,pubH]
    rw [hiss,<-hr] at hK
    simpa using hK
end Go.Proofs.YtbolanmlngjdoaaGreat
namespace Go.Proofs.YtbolanmlngjdoaaGreat
open Go.W
def coPre:List S->Prop:=fun av=>match av with
  | [.va (.gs r),.va (.gs q),.va (.c1 (.vl (.string _)))]=>isScF r/\isScF q
  | _=>False
theorem coPre_open {av:List S} (h:coPre av):∃ (o n:Sc) (x:ByteArray),av=[.va (.gs (scC o)),.va (.gs (scC n)),tS x]/\o.fit/\n.fit:=by
  unfold coPre at h
  split at h
  · obtain ⟨⟨o,rfl,ho⟩,⟨n,rfl,hn⟩⟩:=h; exact ⟨o,n,_,rfl,ho,hn⟩
  · exact h.elim
noncomputable def coVal:List S->A:=fun av=>match av with
  | [.va (.gs r),.va (.gs q),.va (.c1 (.vl (.string x)))]=>bA (coF (C.sc r) (C.sc q) x)
  | _=>.gs []
noncomputable def coFn:Fun:=⟨coPre,coVal,fun av h=>by obtain ⟨o,n,x,rfl,_⟩:=coPre_open h; trivial⟩
theorem coFn_len:∀ av H K,coFn.sp av H K->av.length=3:=fun av H K h=>by obtain ⟨o,n,x,rfl,_⟩:=coPre_open h.1.1; rfl
attribute [go_sem] coFn coPre coVal
set_option maxRecDepth 100000 in
set_option maxHeartbeats 2000000 in
theorem mCompatible:Meets Tryz.prog 12 coFn.sp:=by
  refine meets_fn Tryz.func12 ok12 3 (by rw [Tryz.ntmps12]; decide) (meetsAll_f mCheck (meetsAll_s mStructP (meetsAll_s mIssues (meetsAll_nil _)))) coFn_len ?_
  rintro av H K ⟨⟨h,rfl⟩,hK⟩
  obtain ⟨o,n,x,rfl,ho,hn⟩:=coPre_open h
  replace hK:K (bS (coF o n x)) []:=by
    have:coFn.val [.va (.gs (scC o)),.va (.gs (scC n)),tS x]=bA (coF o n x):=by simp -dsimp only [go_sem]
    rw [this] at hK; exact hK
  clear h
  have hso:=isScF_mk ho
  have hsn:=isScF_mk hn
  have hdo:=sc_dec o
  have hdn:=sc_dec n
  rw [scC] at hso hsn hdo hdn
  have fin:∀ (b:Bool) (R:Hp),coF o n x=b->W.Fin 0 K (bS b) R:=fun b R h1=>by
    rw [h1] at hK
    exact .sel [] (by simp) (by simp) rfl (.done (by simpa [go_sem] using hK))
  by_cases c1:checkF o=0
  rotate_left
  · have e1:(checkF o != 0)=true:=by simpa using c1
    simp (maxSteps:=1000000) -dsimp only [go_sem,scC,pc12,rs12,hso,hsn,hdo,hdn,e1]
    exact fin false _ (by unfold coF; rw [e1]; rfl)
  have e1:(checkF o != 0)=false:=by simp [c1]
  by_cases c2:checkF n=0
  rotate_left
  · have e2:(checkF n != 0)=true:=by simpa using c2
    simp (maxSteps:=1000000) -dsimp only [go_sem,scC,pc12,rs12,hso,hsn,hdo,hdn,e1,e2]
    exact fin false _ (by unfold coF; rw [e1,e2]; rfl)
  have e2:(checkF n != 0)=false:=by simp [c2]
  have hco:coF o n x=(hasS o.ss x && hasS n.ss x && (((issF o n x).length:Int) == 0)):=by unfold coF; rw [e1,e2]; rfl
  simp (maxSteps:=1000000) -dsimp only [go_sem,scC,pc12,rs12,hso,hsn,hdo,hdn,e1,e2]
  refine stp_use ho ?_
  generalize (fS o.ss x).getD default=a
  simp (maxSteps:=1000000) -dsimp only [go_sem,stC]
  refine vc_tail (up:=[(2,tS x),(3,.va (.c1 (.pt 0 0))),(4,.va (.c1 (.pt 1 0))),(8,bS (hasS o.ss x))]) (Hs:=[.cells (scC o) 25,.cells (scC n) 25]) 2 ?_ ?_ ?_
  rotate_left
  · simp -dsimp only [go_sem]<;>simp
  · simp -dsimp only [go_sem,scC]<;>simp
  simp (maxSteps:=1000000) -dsimp only [go_sem,scC,pc12_4]
  refine stp_use hn ?_
  generalize (fS n.ss x).getD default=b
  simp (maxSteps:=1000000) -dsimp only [go_sem,stC]
  refine vc_tail (up:=[(2,tS x),(3,.va (.c1 (.pt 0 0))),(4,.va (.c1 (.pt 1 0))),(8,bS (hasS o.ss x)),(10,bS (hasS n.ss x))]) (Hs:=[.cells (scC o) 25,.cells (scC n) 25]) 2 ?_ ?_ ?_
  rotate_left
  · simp -dsimp only [go_sem]<;>simp
  · simp -dsimp only [go_sem,scC]<;>simp
  cases s1:hasS o.ss x with
  | false=>
    rw [s1] at hco
    simp (maxSteps:=1000000) -dsimp only [go_sem,scC,pc12_5]
    exact fin false _ (by rw [hco]; rfl)
  | true=>
    cases s2:hasS n.ss x with
    | false=>
      rw [s1,s2] at hco
      simp (maxSteps:=1000000) -dsimp only [go_sem,scC,pc12_5]
      exact fin false _ (by rw [hco]; rfl)
    | true=>
      rw [s1,s2] at hco
      simp (maxSteps:=1000000) -dsimp only [go_sem,scC,pc12_5]
      refine iu_use ho hn ?_
      simp (maxSteps:=1000000) -dsimp only [go_sem]
      exact fin _ _ (by rw [hco]; rfl)
end Go.Proofs.YtbolanmlngjdoaaGreat
namespace Go.Proofs.YtbolanmlngjdoaaGreat
open Go.W
noncomputable def lgFn:Fun:=gFn isSc C.sc fun s=>.bool (!fewS s)
attribute [go_sem] lgFn
set_option maxRecDepth 100000 in
theorem mLarge12:Meets Tryz.prog 6 lgFn.sp:=by
  refine meets_fn Tryz.func6 ok6 1 (by rw [Tryz.ntmps6]; decide) (meetsAll_f mFew (meetsAll_nil _)) gFn_len ?_
  rintro av H K ⟨⟨h,rfl⟩,hK⟩
  obtain ⟨_,rfl,s,rfl,hs⟩:=gPre_open h
  replace hK:K (bS (!fewS s)) []:=by
    have:lgFn.val [.va (.gs (scC s))]=bA (!fewS s):=by simp -dsimp only [go_sem]
    rw [this] at hK; exact hK
  clear h
  have hsc:=isSc_mk hs
  have hdc:=sc_dec s
  rw [scC] at hsc hdc
  simp (maxSteps:=1000000) -dsimp only [go_sem,scC,pc6,rs6,hsc,hdc]
  exact .sel [] (by simp) (by simp) rfl (.done (by simpa [go_sem] using hK))
end Go.Proofs.YtbolanmlngjdoaaGreat
namespace Go.Proofs.YtbolanmlngjdoaaGreat
open Go.W
abbrev nTop:ByteArray:=mk [84,111,112]
abbrev nX:ByteArray:=mk [120]
def tyA:Ty:=.mk 2 8 (mk []) []
def tyW:Ty:=.mk 2 16 (mk []) []
def flA:Fl:=⟨2,nX,tyA,false⟩
def flW:Fl:=⟨2,nX,tyW,false⟩
def stX:St:=⟨nTop,[flA]⟩
def stY:St:=⟨nTop,[flW]⟩
def exA:Sc:=⟨1,[],[stX]⟩
def exB:Sc:=⟨2,[],[stY]⟩
theorem fit_one {v s:Int} (h1:in64 v) (h2:in64 s):(⟨v,[],[⟨nTop,[⟨2,nX,.mk 2 s (mk []) [],false⟩]⟩]⟩:Sc).fit:=by
  have hok:TyOk (.mk 2 s (mk []) []):=.mk (by unfold in64; omega) h2 (by decide) (Nat.zero_le _) (fun t h=>by cases h)
  have hsm:TySm (.mk 2 s (mk []) []):=.mk (Nat.zero_le _) (fun t h=>by cases h)
  have hst:∀ t ∈ [(⟨nTop,[⟨2,nX,.mk 2 s (mk []) [],false⟩]⟩:St)],t=⟨nTop,[⟨2,nX,.mk 2 s (mk []) [],false⟩]⟩:=fun t ht=>by simpa using ht
  have n1:nTop.size<=9223372036854775807:=by decide
  have n2:nX.size<=9223372036854775807:=by decide
  have n3:in64 2:=by unfold in64; decide
  refine ⟨⟨h1,by simp,by simp,fun e he=>(by cases he),fun t ht=>?_⟩,fun t ht f hf=>?_,fun t ht=>?_,fun e he=>(by cases he)⟩
  · rw [hst t ht]
    refine ⟨n1,by simp,fun f hf=>?_⟩
    obtain rfl:=List.mem_singleton.1 hf
    exact ⟨n3,n2,hok⟩
  · rw [hst t ht] at hf
    obtain rfl:=List.mem_singleton.1 hf
    show (lvT (.mk 2 s (mk []) [])).1<=1000000000
    rw [show (lvT (.mk 2 s (mk []) [])).1=0 from rfl]; omega
  · rw [hst t ht]
    refine ⟨by simp,fun f hf=>?_⟩
    obtain rfl:=List.mem_singleton.1 hf
    exact hsm
theorem a_fit:exA.fit:=fit_one (v:=1) (s:=8) (by unfold in64; omega) (by unfold in64; omega)
theorem b_fit:exB.fit:=fit_one (v:=2) (s:=16) (by unfold in64; omega) (by unfold in64; omega)
theorem inB_uses (ss:List St) (n x:ByteArray):inB (usesF ss n) x=inB (visAll ss n) x:=by
  rw [Bool.eq_iff_iff,inB_iff,inB_iff,usesF,mem_srtB]
theorem a_vis:visAll exA.ss nTop=[]:=by decide +kernel
theorem b_vis:visAll exB.ss nTop=[]:=by decide +kernel
theorem a_acy:exA.ss.any (fun t=>inB (usesF exA.ss t.nm) t.nm)=false:=by
  simp only [inB_uses]; decide +kernel
theorem b_acy:exB.ss.any (fun t=>inB (usesF exB.ss t.nm) t.nm)=false:=by
  simp only [inB_uses]; decide +kernel
theorem a_check:checkF exA=0:=by
  have h1:largeF exA=false:=by decide +kernel
  have h2:enF exA=0:=by decide +kernel
  have h3:stF exA=0:=by decide +kernel
  have g:=good_of a_fit h1 h3
  have ac:Acy exA.ss:=fun t ht=>any_false a_acy t ht
  have hd:dD exA.ss nTop=1:=by
    have h:=dD_eq g ac (g.nd stX (by simp [exA]))
    rw [show nTop=stX.nm from rfl,h]
    rfl
  have h:nestF exA.ss=0:=by
    unfold nestF
    rw [a_acy]
    have e:exA.ss.any (fun t=>decide (6 < dD exA.ss t.nm))=(decide (6 < dD exA.ss nTop) || false):=rfl
    rw [e,hd]; rfl
  unfold checkF
  rw [h1,h2,h3,h]; rfl
theorem b_check:checkF exB=0:=by
  have h1:largeF exB=false:=by decide +kernel
  have h2:enF exB=0:=by decide +kernel
  have h3:stF exB=0:=by decide +kernel
  have g:=good_of b_fit h1 h3
  have ac:Acy exB.ss:=fun t ht=>any_false b_acy t ht
  have hd:dD exB.ss nTop=1:=by
    have h:=dD_eq g ac (g.nd stY (by simp [exB]))
    rw [show nTop=stY.nm from rfl,h]
    rfl
  have h:nestF exB.ss=0:=by
    unfold nestF
    rw [b_acy]
    have e:exB.ss.any (fun t=>decide (6 < dD exB.ss t.nm))=(decide (6 < dD exB.ss nTop) || false):=rfl
    rw [e,hd]; rfl
  unfold checkF
  rw [h1,h2,h3,h]; rfl
theorem usesF_nil {ss:List St} {n:ByteArray} (h:visAll ss n=[]):usesF ss n=[]:=by
  rw [usesF,h]; exact List.eq_nil_iff_forall_not_mem.2 fun x hx=>by rw [mem_srtB] at hx; cases hx
theorem a_us:usL exA nTop=[]:=by unfold usL; rw [usesF_nil a_vis]; cases okS exA nTop<;>rfl
theorem b_us:usL exB nTop=[]:=by unfold usL; rw [usesF_nil b_vis]; cases okS exB nTop<;>rfl
theorem wd_ab:widF tyA tyW=true:=widF_iff.2 (.inr ⟨rfl,rfl,.inr ⟨by decide,.inl rfl,by decide,rfl⟩⟩)
theorem wd_ba:widF tyW tyA=false:=by
  cases h:widF tyW tyA with
  | false=>rfl
  | true=>
    rcases widF_iff.1 h with h | ⟨_,_,h | ⟨_,_,h,_⟩⟩
    · have:=congrArg Ty.s h; exact absurd this (by decide)
    · exact absurd h.1 (by decide)
    · exact absurd h (by decide)
theorem a_has:hasS exA.ss nTop=true:=by decide +kernel
theorem b_has:hasS exB.ss nTop=true:=by decide +kernel
theorem a_fs:fS exA.ss nTop=some stX:=rfl
theorem b_fs:fS exB.ss nTop=some stY:=rfl
theorem raw_ab:rawI exA exB nTop=[]:=by
  have h:rawI exA exB nTop=cmpN exA exB nTop ++ []:=by unfold rawI nmsF; rw [a_us]; rfl
  rw [h]
  unfold cmpN
  rw [a_has,b_has,a_fs,b_fs]
  have h1:cmpS nTop stX stY=[]:=by
    have h2:isA nTop stY flA=[]:=by
      unfold isA
      rw [show fF stY.fs flA.num=some flW from rfl]
      simp only
      rw [show widF flA.ty flW.ty=true from wd_ab]; rfl
    have h3:isB nTop stX flW=[]:=rfl
    show (isA nTop stY flA ++ []) ++ (isB nTop stX flW ++ [])=[]
    rw [h2,h3]; rfl
  simp only [Option.getD_some,h1]
  rfl
theorem raw_ba:rawI exB exA nTop=[⟨1,2,nTop⟩]:=by
  have h:rawI exB exA nTop=cmpN exB exA nTop ++ []:=by unfold rawI nmsF; rw [b_us]; rfl
  rw [h]
  unfold cmpN
  rw [a_has,b_has,a_fs,b_fs]
  have h1:cmpS nTop stY stX=[⟨1,2,nTop⟩]:=by
    have h2:isA nTop stX flW=[⟨1,2,nTop⟩]:=by
      unfold isA
      rw [show fF stX.fs flW.num=some flA from rfl]
      simp only
      rw [show widF flW.ty flA.ty=false from wd_ba]; rfl
    have h3:isB nTop stY flA=[]:=rfl
    show (isA nTop stX flW ++ []) ++ (isB nTop stY flA ++ [])=_
    rw [h2,h3]; rfl
  simp only [Option.getD_some,h1]
  rfl
theorem is_ab:issF exA exB nTop=[]:=by unfold issF; rw [a_check,b_check,raw_ab]; rfl
theorem is_ba:issF exB exA nTop=[⟨1,2,nTop⟩]:=by unfold issF; rw [a_check,b_check,raw_ba]; rfl
theorem co_ab:coF exA exB nTop=true:=by unfold coF; rw [a_check,b_check,a_has,b_has,is_ab]; rfl
end Go.Proofs.YtbolanmlngjdoaaGreat
namespace Go.Proofs.YtbolanmlngjdoaaGreat
open Go.W
theorem gh_tail {Γ:Env} {k0:Nat} {x:PC} {fr:Fr} {H:Hp} {K:Ex->Fr->Hp->Prop} {up:List (Nat × S)} {Hs:Hp} (ns:List Nat) (h:vc Γ k0 x.ungh (puts up) Hs K) (h3:ns.Nodup) (h4:∀ n ∈ ns,n < H.length) (h5:ns.take k0=List.range k0)
    (h1:agree' ns fr up) (h2:(pickH H ns).map (B.ren (loc ns))=Hs):Gh k0 (fun fr' H'=>vc Γ k0 x.ungh fr' H' K) fr H:=
  .sel ns h3 h4 h5 (.wk _ (puts_wk' h1) (.done (by rw [h2]; exact h)))
def awFn:Fun:=⟨fun av=>av=[],fun _=>bA true,fun _av _=>trivial⟩
attribute [go_sem] awFn
set_option maxRecDepth 100000 in
set_option maxHeartbeats 4000000 in
theorem mAwake:Meets Tryz.prog 7 awFn.sp:=by
  refine meets_fn Tryz.func7 ok7 0 (by rw [Tryz.ntmps7]; decide) (meetsAll_s mIssues (meetsAll_f mCompatible (meetsAll_nil _))) (fun av H K h=>by obtain ⟨⟨rfl,_⟩,_⟩:=h; rfl) ?_
  rintro av H K ⟨⟨rfl,rfl⟩,hK⟩
  have hK:K (bS true) []:=hK
  simp (maxSteps:=1000000) -dsimp only [go_sem,pc7,rs7]
  have e1:scC exA=[.vl (.int .i64 1),.fz [],.fz [stC stX]]:=rfl
  have e2:scC exB=[.vl (.int .i64 2),.fz [],.fz [stC stY]]:=rfl
  have e3:stC stX=[.vl (.string nTop),.fz [flC flA]]:=rfl
  have e4:stC stY=[.vl (.string nTop),.fz [flC flW]]:=rfl
  have e5:flC flA=[.vl (.int .i64 2),.vl (.string nX),.vl (.int .i64 2),.vl (.int .i64 8),.vl (.string (mk [])),.fz [],.vl (.bool false)]:=rfl
  have e6:flC flW=[.vl (.int .i64 2),.vl (.string nX),.vl (.int .i64 2),.vl (.int .i64 16),.vl (.string (mk [])),.fz [],.vl (.bool false)]:=rfl
  refine vc_head rfl (.opn 0 _ _ _ rfl (.nfr 0 _ _ _ rfl (.shu 0 _ _ _ rfl ?_ (.pub 0 _ _ _ rfl (.shu 1 _ _ _ rfl ?_ (.pub 1 _ _ _ rfl (.opn 3 _ _ _ rfl (.nfr 3 _ _ _ rfl (.shu 3 _ _ _ rfl ?_ (.pub 3 _ _ _ rfl (.shu 4 _ _ _ rfl ?_ (.pub 4 _ _ _ rfl ?_))))))))))))
  · simp [C.shut,C.nf]
  · simp [C.shut,C.pub]
  · simp [C.shut,C.nf]
  · simp [C.shut,C.pub]
  refine gh_tail (up:=[(1,.va (.c1 (.pt 0 0))),(2,.va (.c1 (.pt 1 0)))]) (Hs:=[.cells [.vl (.int .i64 1),.vl (.slice none 0 0),.fz [stC stX]] 25,.cells [.vl (.int .i64 2),.vl (.slice none 0 0),.fz [stC stY]] 25]) [2,5] ?_ (by simp) (by simp [pubH]) rfl ?_ ?_
  rotate_left
  · simp -dsimp only [go_sem]<;>simp
  · simp -dsimp only [go_sem,pubH,e3,e4,e5,e6]<;>simp [C.pub,C.nf]
  simp (maxSteps:=1000000) -dsimp only [go_sem,pc7_3]
  refine iu_use (o:=exB) (n:=exA) (x:=nTop) b_fit a_fit ?_
  rw [is_ba]
  simp (maxSteps:=1000000) -dsimp only [go_sem]
  refine vc_tail (up:=[(1,.va (.c1 (.pt 0 0))),(2,.va (.c1 (.pt 1 0))),(3,.va (.c1 (.fz [isC ⟨1,2,nTop⟩])))]) (Hs:=[.cells [.vl (.int .i64 1),.vl (.slice none 0 0),.fz [stC stX]] 25,.cells [.vl (.int .i64 2),.vl (.slice none 0 0),.fz [stC stY]] 25]) 2 ?_ ?_ ?_
  rotate_left
  · simp -dsimp only [go_sem]<;>simp
  · simp -dsimp only [go_sem]<;>simp
  have h1:=isScF_mk a_fit
  have h2:=isScF_mk b_fit
  have d1:=sc_dec exA
  have d2:=sc_dec exB
  rw [e1] at h1 d1
  rw [e2] at h2 d2
  have k1:((1:Int) == 1)=true:=rfl
  have k2:((2:Int) == 2)=true:=rfl
  have k3:(bl nTop == bl nTop)=true:=by simp
  simp (maxSteps:=1000000) -dsimp only [go_sem,pc7_4,h1,h2,d1,d2,co_ab,isC]
  refine ⟨fun _=>⟨⟨by omega,fun r hr=>by subst hr; rfl⟩,fun r hr=>?_⟩,fun h=>absurd h (by simp)⟩
  subst hr
  simp (maxSteps:=1000000) -dsimp only [go_sem,k1,k2]
  exact .sel [] (by simp) (by simp) rfl (.done (by simpa [go_sem] using hK))
end Go.Proofs.YtbolanmlngjdoaaGreat
namespace Go.W
open Go.RowKit
inductive Fit (P:Program):TypeId->List C->Prop
  | int {t:TypeId} {k:IntKind} {n:Int}:P.underlying t=some (.int k)->(Lit.int k n).wf=true->Fit P t [.vl (.int k n)]
  | bool {t:TypeId} {b:Bool}:P.underlying t=some .bool->Fit P t [.vl (.bool b)]
  | str {t:TypeId} {s:ByteArray}:P.underlying t=some .string->s.size<=maxLen->Fit P t [.vl (.string s)]
  | sl {t e:TypeId} {xs:List (List C)}:P.underlying t=some (.slice e)->xs.length<=maxLen->(∀ r ∈ xs,Fit P e r)->Fit P t [.fz xs]
  | st {t:TypeId} {fs:Array Field} {parts:List (List C)}:P.underlying t=some (.struct fs)->parts.length=fs.size->(∀ (i:Nat) (f:Field) (p:List C),fs[i]? = some f->parts[i]? = some p->Fit P f.type p)->Fit P t parts.flatten
section
variable {P:Program} {t e:TypeId} {xs:List C}
theorem Fit.inv_int {k:IntKind} (ht:P.underlying t=some (.int k)) (h:Fit P t xs):∃ n:Int,xs=[.vl (.int k n)]/\(Lit.int k n).wf=true:=by
  cases h with
  | int h1 h2=>rw [ht] at h1; cases h1; exact ⟨_,rfl,h2⟩
  | bool h1=>rw [ht] at h1; cases h1
  | str h1=>rw [ht] at h1; cases h1
  | sl h1=>rw [ht] at h1; cases h1
  | st h1=>rw [ht] at h1; cases h1
theorem Fit.inv_bool (ht:P.underlying t=some .bool) (h:Fit P t xs):∃ b:Bool,xs=[.vl (.bool b)]:=by
  cases h with
  | int h1 h2=>rw [ht] at h1; cases h1
  | bool h1=>exact ⟨_,rfl⟩
  | str h1=>rw [ht] at h1; cases h1
  | sl h1=>rw [ht] at h1; cases h1
  | st h1=>rw [ht] at h1; cases h1
theorem Fit.inv_str (ht:P.underlying t=some .string) (h:Fit P t xs):∃ s:ByteArray,xs=[.vl (.string s)]/\s.size<=maxLen:=by
  cases h with
  | int h1 h2=>rw [ht] at h1; cases h1
  | bool h1=>rw [ht] at h1; cases h1
  | str h1 h2=>exact ⟨_,rfl,h2⟩
  | sl h1=>rw [ht] at h1; cases h1
  | st h1=>rw [ht] at h1; cases h1
theorem Fit.inv_sl (ht:P.underlying t=some (.slice e)) (h:Fit P t xs):∃ ys:List (List C),xs=[.fz ys]/\ys.length<=maxLen/\∀ r ∈ ys,Fit P e r:=by
  cases h with
  | int h1 h2=>rw [ht] at h1; cases h1
  | bool h1=>rw [ht] at h1; cases h1
  | str h1=>rw [ht] at h1; cases h1
  | sl h1 h2 h3=>rw [ht] at h1; cases h1; exact ⟨_,rfl,h2,h3⟩
  | st h1=>rw [ht] at h1; cases h1
theorem Fit.inv_st {fs:Array Field} (ht:P.underlying t=some (.struct fs)) (h:Fit P t xs):∃ parts:List (List C),xs=parts.flatten/\parts.length=fs.size/\∀ (i:Nat) (f:Field) (p:List C),fs[i]? = some f->parts[i]? = some p->Fit P f.type p:=by
  cases h with
  | int h1 h2=>rw [ht] at h1; cases h1
  | bool h1=>rw [ht] at h1; cases h1
  | str h1=>rw [ht] at h1; cases h1
  | sl h1=>rw [ht] at h1; cases h1
  | st h1 h2 h3=>rw [ht] at h1; cases h1; exact ⟨_,rfl,h2,h3⟩
end
theorem Fit.rows {P:Program} {e:TypeId} {α:Type} {row:α->List C} {Q:α->Prop} {ys:List (List C)} (hi:∀ r,Fit P e r->∃ a,r=row a/\Q a) (h:∀ r ∈ ys,Fit P e r):∃ l:List α,ys=l.map row/\∀ a ∈ l,Q a:=by
  induction ys with
  | nil=>exact ⟨[],rfl,fun a h=>by cases h⟩
  | cons r ys ih=>
    obtain ⟨l,h1,h2⟩:=ih fun r hr=>h r (List.mem_cons_of_mem _ hr)
    obtain ⟨a,h3,h4⟩:=hi r (h r (by simp))
    refine ⟨a :: l,by rw [h1,h3]; rfl,fun x hx=>?_⟩
    rcases List.mem_cons.1 hx with rfl | hx
    · exact h4
    · exact h2 x hx
def offs (P:Program):Nat->List Field->Option Nat
  | o,[]=>some o
  | o,f :: r=>if f.offset=o then offs P (o + P.cellsOf f.type) r else none
def tysOk (P:Program) (ts:List TypeId):Bool:=ts.all fun t=>match P.underlying t with
  | some (.int _) | some .bool | some .string=>true
  | some (.slice e)=>ts.contains e && decide (0 < P.cellsOf e)
  | some (.struct fs)=>fs.toList.all (fun f=>ts.contains f.type) && offs P 0 fs.toList == some (P.cellsOf t)
  | _=>false
theorem glue {P:Program} {R:C->Value->Prop} {Q:Field->List C->Prop} {cs:List Value}:∀ (fs:List Field) (o:Nat),offs P o fs=some cs.length->
    (∀ (i:Nat) (f:Field),fs[i]? = some f->∃ p,Q f p/\All2 R p ((cs.drop f.offset).take (P.cellsOf f.type)))->
    ∃ parts:List (List C),parts.length=fs.length/\(∀ (i:Nat) (f:Field) (p:List C),fs[i]? = some f->parts[i]? = some p->Q f p)/\All2 R parts.flatten (cs.drop o)
  | [],o,ho,_=>by
    simp only [offs,Option.some.injEq] at ho
    subst ho
    exact ⟨[],rfl,fun i f p h=>by simp at h,by simpa using All2.nil⟩
  | f :: fs,o,ho,h=>by
    simp only [offs] at ho
    split at ho
    · rename_i hf
      obtain ⟨parts,h1,h2,h3⟩:=glue fs _ ho fun i f hf=>h (i + 1) f (by simpa using hf)
      obtain ⟨p,h4,h5⟩:=h 0 f rfl
      refine ⟨p :: parts,by simp [h1],fun i g q hg hq=>?_,?_⟩
      · cases i with
        | zero=>simp at hg hq; subst hg hq; exact h4
        | succ i=>exact h2 i g q (by simpa using hg) (by simpa using hq)
      · have:cs.drop o=(cs.drop f.offset).take (P.cellsOf f.type) ++ cs.drop (o + P.cellsOf f.type):=by
          rw [hf,<-List.drop_drop,List.take_append_drop]
        rw [List.flatten_cons,this]
        exact h5.app h3
    · cases ho
section
variable {H:Type} {enc:TypeId × Value->H} {P:Program} {W:World} {ts:List TypeId}
theorem fz_any {b off len cap sz:Nat} {oa:Option Addr} (hoa:len ≠ 0->oa=some ⟨b,off,none⟩) (hsz:0 < sz) (X:Nat->List C) (hl:∀ i,i < len->(X i).length=sz) (hc:len<=cap)
    (h:∀ i,i < len->∀ j c,(X i)[j]? = some c->∃ v,W.cell? ⟨b,off + (i * sz + j),none⟩=some v/\c.fv (roW W) v/\c.shut=true) :
    FzR (roW W) ((List.range len).map X) (.slice oa len cap):=by
  have hz:∀ x ∈ (List.range len).map X,x.length=sz:=fun x hx=>by
    obtain ⟨i,hi,rfl⟩:=List.mem_map.1 hx
    exact hl i (List.mem_range.1 hi)
  have hfl:∀ k c,((List.range len).map X).flatten[k]? = some c->∃ v,W.cell? ⟨b,off + k,none⟩=some v/\c.fv (roW W) v/\c.shut=true:=fun k c hk=>by
    have hkl:k < len * sz:=by
      have h1:=(List.getElem?_eq_some_iff.1 hk).1
      rw [flat_len _ hz] at h1
      simpa using h1
    have hi:k / sz < len:=(Nat.div_lt_iff_lt_mul hsz).2 hkl
    have hj:=Nat.mod_lt k hsz
    have hg:=flat_get hz (i:=k / sz) (j:=k % sz) (by simpa using hi) hj
    rw [Nat.mul_comm,Nat.div_add_mod,hk] at hg
    have hxi:((List.range len).map X)[k / sz]? = some (X (k / sz)):=by simp [hi]
    rw [hxi,Option.bind_some] at hg
    have:=h (k / sz) hi (k % sz) c hg.symm
    rwa [Nat.mul_comm,Nat.div_add_mod] at this
  have hr:=FzR.mk (ro:=roW W) ((List.range len).map X) sz (some (b,off)) oa (fun hne=>hoa (fun e=>by subst e; simp at hne)) cap (fun k=>(W.cell? ⟨b,off + k,none⟩).getD undef) hz (by simpa using hc) (fun _=>rfl)
    (fun k c hk=>by
      obtain ⟨v,h2,_⟩:=hfl k c hk
      simp [roW,h2])
    (fun k v hk=>by
      obtain ⟨u,h1,h2,_⟩:=hfl k _ hk
      have:u=v:=h2
      simp [h1,this])
    (fun k ys hk=>by
      obtain ⟨u,h1,h2,_⟩:=hfl k _ hk
      have:FzR (roW W) ys u:=h2
      simpa [h1] using this)
    (fun c hc=>by
      obtain ⟨k,hk⟩:=List.mem_iff_getElem?.1 hc
      obtain ⟨u,_,_,h3⟩:=hfl k c hk
      exact h3)
  simpa using hr
theorem fit_of_trod (hok:tysOk P ts=true):∀ (n:Nat) (t:TypeId) (cs:List Value) (y:DataW H × List MemPlace),t ∈ ts->DataW.trod enc P W 0 (fun _=>true) true n t cs=some y->
    ∃ xs,Fit P t xs/\All2 (C.fv (roW W)) xs cs/\∀ c ∈ xs,c.shut=true
  | 0,t,cs,y,_,h=>by simp [DataW.trod] at h
  | n + 1,t,cs,y,ht,h=>by
    have h1:=List.all_eq_true.1 hok t ht
    split at h1
    · rename_i k hu
      obtain ⟨m,rfl,_,hw⟩:=DataW.trod_int hu h
      exact ⟨_,.int hu hw,.cons rfl .nil,fun c hc=>by simp at hc; subst hc; rfl⟩
    · rename_i hu
      obtain ⟨b,rfl,_⟩:=DataW.trod_bool hu h
      exact ⟨_,.bool hu,.cons rfl .nil,fun c hc=>by simp at hc; subst hc; rfl⟩
    · rename_i hu
      obtain ⟨s,rfl,_,hs⟩:=DataW.trod_string hu h
      exact ⟨_,.str hu hs,.cons rfl .nil,fun c hc=>by simp at hc; subst hc; rfl⟩
    · rename_i e hu
      simp only [Bool.and_eq_true,List.contains_iff_mem,decide_eq_true_eq] at h1
      obtain ⟨he,hpos⟩:=h1
      rcases DataW.trod_slice hu h with ⟨rfl,_⟩ | ⟨a,len,cap,elems,rest,n',hn',rfl,_,_,hl,hm,hel,hi,_⟩
      · exact ⟨_,.sl hu (Nat.zero_le _) (fun r hr=>by cases hr),.cons (fz_nil _) .nil,fun c hc=>by simp at hc; subst hc; rfl⟩
      · obtain rfl:n=n':=by omega
        have hall:∀ i,i < len->∃ x:List C,Fit P e x/\x.length=P.cellsOf e/\(∀ j c,x[j]? = some c->∃ v,W.cell? ((a.add (i * P.cellsOf e)).add j)=some v/\c.fv (roW W) v/\c.shut=true):=fun i hil=>by
          have h1:=hi i hil
          rw [List.getElem?_eq_getElem (by omega)] at h1
          obtain ⟨cs',h2,h3⟩:=Option.bind_eq_some_iff.1 h1
          obtain ⟨x,h4,h5,h6⟩:=fit_of_trod hok n e cs' _ he h3
          obtain ⟨_,h7,h8⟩:=World.cells?_some h2
          refine ⟨x,h4,h5.1.trans h7,fun j c hj=>?_⟩
          obtain ⟨v,h9,h10⟩:=h5.get hj
          have hjl:j < P.cellsOf e:=by rw [<-h7,<-h5.1]; exact (List.getElem?_eq_some_iff.1 hj).1
          refine ⟨v,?_,h10,h6 c (List.mem_of_getElem? hj)⟩
          have:=h8 j hjl
          rwa [h9] at this
        by_cases h0:len=0
        · subst h0
          refine ⟨[.fz []],.sl hu (Nat.zero_le _) (fun r hr=>by cases hr),.cons ?_ .nil,fun c hc=>by simp at hc; subst hc; rfl⟩
          exact fz_any (b:=0) (off:=0) (fun h=>absurd rfl h) hpos (fun _=>[]) (fun i hi=>by omega) (Nat.zero_le _) (fun i hi=>by omega)
        · obtain ⟨x0,_,hx0l,hx0⟩:=hall 0 (by omega)
          have hsp:a.spot=none:=by
            have hx:∃ c,x0[0]? = some c:=⟨_,List.getElem?_eq_getElem (by omega)⟩
            obtain ⟨c,hc⟩:=hx
            obtain ⟨v,hv,_⟩:=hx0 0 c hc
            unfold World.cell? at hv
            split at hv
            · split at hv
              · cases hv
              · rename_i hs; simpa [Addr.add] using hs
            · cases hv
          obtain ⟨b,off,spot⟩:=a
          obtain rfl:spot=none:=hsp
          haveI:Inhabited (List C):=⟨[]⟩
          obtain ⟨X,hX⟩:=Go.Deep.choose_lt hall
          refine ⟨[.fz ((List.range len).map X)],.sl hu (by simp; omega) (fun r hr=>?_),.cons ?_ .nil,fun c hc=>by simp at hc; subst hc; rfl⟩
          · obtain ⟨i,hi,rfl⟩:=List.mem_map.1 hr
            exact (hX i (List.mem_range.1 hi)).1
          · exact fz_any (fun _=>rfl) hpos X (fun i hi=>(hX i hi).2.1) hl (fun i hi j c hj=>by
              obtain ⟨v,h2,h3⟩:=(hX i hi).2.2 j c hj
              exact ⟨v,by simpa [Go.WideShapes.add_plain,Nat.add_assoc] using h2,h3⟩)
    · rename_i fs hu
      simp only [Bool.and_eq_true,List.all_eq_true,List.contains_iff_mem,beq_iff_eq] at h1
      obtain ⟨hft,hof⟩:=h1
      obtain ⟨ys,n',hn,_,hcl,hyl,hf⟩:=DataW.trod_struct hu h
      obtain rfl:n=n':=by omega
      obtain ⟨parts,k1,k2,k3⟩:=glue (P:=P) (R:=fun c v=>C.fv (roW W) c v/\c.shut=true) (Q:=fun f p=>Fit P f.type p) (cs:=cs) fs.toList 0 (by rw [hcl]; exact hof) (fun i f hfi=>by
        have hfi':fs[i]? = some f:=by simpa using hfi
        have h2:=hf i f hfi'
        have hil:i < fs.size:=(Array.getElem?_eq_some_iff.1 hfi').1
        rw [List.getElem?_eq_getElem (by omega)] at h2
        obtain ⟨x,h4,h5,h6⟩:=fit_of_trod hok n f.type _ _ (hft f (List.mem_of_getElem? hfi)) h2
        exact ⟨x,h4,⟨h5.1,fun j c v hc hv=>⟨h5.2 j c v hc hv,h6 c (List.mem_of_getElem? hc)⟩⟩⟩)
      refine ⟨parts.flatten,.st hu (by simpa using k1) (fun i f p hfi hp=>k2 i f p (by simpa using hfi) hp),?_,fun c hc=>?_⟩
      · simpa using k3.imp (fun _ _ h=>h.1)
      · obtain ⟨j,hj⟩:=List.mem_iff_getElem?.1 hc
        obtain ⟨v,_,_,h3⟩:=k3.get hj
        exact h3
    · cases h1
theorem fit_of_arg (hok:tysOk P ts=true) {t:TypeId} {v:Value} {d:DataW H} {ps:List MemPlace} (ht:t ∈ ts) (h:DataW.Trod enc P W 0 (fun _=>true) true t v d ps):∃ xs,Fit P t xs/\All2 (C.fv (roW W)) xs v.cells.toList/\∀ c ∈ xs,c.shut=true:=by
  obtain ⟨n,h⟩:=h
  exact fit_of_trod hok n t _ _ ht h
theorem arg_gs {cs:List C} {vs:Array Value} (h:All2 (C.fv (roW W)) cs (Value.agg vs).cells.toList) (hs:∀ c ∈ cs,c.shut=true):(S.va (.gs cs)).rel (gm []) (roW W) (.agg vs):=
  ⟨vs.toList,by simp,⟨by simpa [Value.cells] using h.1,fun i c v hc hv=>(C.rel_shut (hs c (List.mem_of_getElem? hc))).2 (h.2 i c v hc (by simpa [Value.cells] using hv))⟩⟩
end
end Go.W
namespace Go.Proofs.YtbolanmlngjdoaaGreat
open Go.W
theorem v3:Tryz.prog.underlying 3=some (.int .i64):=by kernel_rfl
theorem v4:Tryz.prog.underlying 4=some .bool:=by kernel_rfl
theorem v9:Tryz.prog.underlying 9=some .string:=by kernel_rfl
theorem v22:Tryz.prog.underlying 22=some (.slice 60):=by kernel_rfl
theorem v23:Tryz.prog.underlying 23=some (.slice 37):=by kernel_rfl
theorem v30:Tryz.prog.underlying 35=some (.slice 50):=by kernel_rfl
theorem v35:Tryz.prog.underlying 54=some (.slice 9):=by kernel_rfl
theorem v38:Tryz.prog.underlying 46=some (.slice 48):=by kernel_rfl
theorem v45:Tryz.prog.underlying 58=some (.slice 3):=by kernel_rfl
theorem v40:Tryz.prog.underlying 48=some (.struct #[⟨"Kind",3,0,false,"","",0⟩,⟨"Size",3,1,false,"","",8⟩,⟨"Name",9,2,false,"","",16⟩,⟨"Elem",46,3,false,"","",32⟩]):=by kernel_rfl
theorem v53:Tryz.prog.underlying 50=some (.struct #[⟨"Number",3,0,false,"","",0⟩,⟨"Name",9,1,false,"","",8⟩,⟨"Type",48,2,false,"","",24⟩,⟨"Optional",4,6,false,"","",80⟩]):=by kernel_rfl
theorem v32:Tryz.prog.underlying 37=some (.struct #[⟨"Name",9,0,false,"","",0⟩,⟨"Fields",35,1,false,"","",16⟩]):=by kernel_rfl
theorem v47:Tryz.prog.underlying 60=some (.struct #[⟨"Name",9,0,false,"","",0⟩,⟨"Names",54,1,false,"","",16⟩,⟨"Numbers",58,2,false,"","",40⟩]):=by kernel_rfl
theorem v25:Tryz.prog.underlying 25=some (.struct #[⟨"Version",3,0,false,"","",0⟩,⟨"Enums",22,1,false,"","",8⟩,⟨"Structs",23,2,false,"","",32⟩]):=by kernel_rfl
theorem rows_of {α:Type} {row:α->List C} {Q:α->Prop} {ys:List (List C)} (h:∀ r ∈ ys,∃ a,r=row a/\Q a):∃ l:List α,ys=l.map row/\∀ a ∈ l,Q a:=by
  induction ys with
  | nil=>exact ⟨[],rfl,fun a h=>by cases h⟩
  | cons r ys ih=>
    obtain ⟨l,h1,h2⟩:=ih fun r hr=>h r (List.mem_cons_of_mem _ hr)
    obtain ⟨a,h3,h4⟩:=h r List.mem_cons_self
    refine ⟨a :: l,by rw [h1,h3]; rfl,fun x hx=>?_⟩
    rcases List.mem_cons.1 hx with rfl | hx
    · exact h4
    · exact h2 x hx
theorem wf64 {n:Int} (h:(Lit.int .i64 n).wf=true):in64 n:=by simpa [in64,Lit.wf,IntKind.min,IntKind.max,IntKind.signed,IntKind.bits] using h
theorem mx47 {n:Nat} (h:n<=maxLen):n<=9223372036854775807:=by unfold maxLen at h; exact h
theorem fitT:∀ {t:TypeId} {cs:List C},Fit Tryz.prog t cs->(t=48->∃ a,cs=tyC a/\TyOk a)/\(t=46->∃ l:List Ty,cs=[.fz (l.map tyC)]/\l.length<=9223372036854775807/\∀ a ∈ l,TyOk a):=by
  intro t cs h
  induction h with
  | int h1 _=>exact ⟨fun e=>(by rw [e,v40] at h1; cases h1),fun e=>(by rw [e,v38] at h1; cases h1)⟩
  | bool h1=>exact ⟨fun e=>(by rw [e,v40] at h1; cases h1),fun e=>(by rw [e,v38] at h1; cases h1)⟩
  | str h1 _=>exact ⟨fun e=>(by rw [e,v40] at h1; cases h1),fun e=>(by rw [e,v38] at h1; cases h1)⟩
  | @sl t e xs h1 h2 h3 ih=>
    refine ⟨fun e=>(by rw [e,v40] at h1; cases h1),fun e=>?_⟩
    subst e
    rw [v38] at h1
    cases h1
    obtain ⟨l,rfl,hl⟩:=rows_of (row:=tyC) (Q:=TyOk) fun r hr=>(ih r hr).1 rfl
    exact ⟨l,rfl,by have:=mx47 h2; simpa using this,hl⟩
  | @st t fs parts h1 h2 h3 ih=>
    refine ⟨fun e=>?_,fun e=>(by rw [e,v38] at h1; cases h1)⟩
    subst e
    rw [v40] at h1
    cases h1
    match parts,h2 with
    | [p0,p1,p2,p3],_=>
      obtain ⟨k,rfl,hk⟩:=Fit.inv_int v3 (h3 0 _ p0 rfl rfl)
      obtain ⟨s,rfl,hs⟩:=Fit.inv_int v3 (h3 1 _ p1 rfl rfl)
      obtain ⟨n,rfl,hn⟩:=Fit.inv_str v9 (h3 2 _ p2 rfl rfl)
      obtain ⟨l,rfl,hl,ho⟩:=(ih 3 _ p3 rfl rfl).2 rfl
      exact ⟨.mk k s n l,by rw [tyC,tysC_map]; rfl,.mk (wf64 hk) (wf64 hs) (mx47 hn) hl ho⟩
theorem fitTy {cs:List C} (h:Fit Tryz.prog 48 cs):∃ a,cs=tyC a/\TyOk a:=(fitT h).1 rfl
theorem fitFl {cs:List C} (h:Fit Tryz.prog 50 cs):∃ a:Fl,cs=flC a/\a.ok:=by
  obtain ⟨parts,rfl,h2,h3⟩:=Fit.inv_st v53 h
  match parts,h2 with
  | [p0,p1,p2,p3],_=>
    obtain ⟨k,rfl,hk⟩:=Fit.inv_int v3 (h3 0 _ p0 rfl rfl)
    obtain ⟨n,rfl,hn⟩:=Fit.inv_str v9 (h3 1 _ p1 rfl rfl)
    obtain ⟨t,rfl,ht⟩:=fitTy (h3 2 _ p2 rfl rfl)
    obtain ⟨b,rfl⟩:=Fit.inv_bool v4 (h3 3 _ p3 rfl rfl)
    exact ⟨⟨k,n,t,b⟩,by rw [tyC_eq]; rfl,wf64 hk,mx47 hn,ht⟩
theorem fitSt {cs:List C} (h:Fit Tryz.prog 37 cs):∃ a:St,cs=stC a/\a.ok:=by
  obtain ⟨parts,rfl,h2,h3⟩:=Fit.inv_st v32 h
  match parts,h2 with
  | [p0,p1],_=>
    obtain ⟨n,rfl,hn⟩:=Fit.inv_str v9 (h3 0 _ p0 rfl rfl)
    obtain ⟨ys,rfl,hl,hy⟩:=Fit.inv_sl v30 (h3 1 _ p1 rfl rfl)
    obtain ⟨l,rfl,ho⟩:=rows_of (row:=flC) (Q:=Fl.ok) fun r hr=>fitFl (hy r hr)
    exact ⟨⟨n,l⟩,rfl,mx47 hn,by have:=mx47 hl; simpa using this,ho⟩
theorem fitEn {cs:List C} (h:Fit Tryz.prog 60 cs):∃ a:En,cs=enC a/\a.ok:=by
  obtain ⟨parts,rfl,h2,h3⟩:=Fit.inv_st v47 h
  match parts,h2 with
  | [p0,p1,p2],_=>
    obtain ⟨n,rfl,hn⟩:=Fit.inv_str v9 (h3 0 _ p0 rfl rfl)
    obtain ⟨ys,rfl,hl,hy⟩:=Fit.inv_sl v35 (h3 1 _ p1 rfl rfl)
    obtain ⟨zs,rfl,hl2,hz⟩:=Fit.inv_sl v45 (h3 2 _ p2 rfl rfl)
    obtain ⟨l,rfl,ho⟩:=rows_of (row:=stR) (Q:=fun b=>b.size<=9223372036854775807) fun r hr=>by
      obtain ⟨s,rfl,hs⟩:=Fit.inv_str v9 (hy r hr); exact ⟨s,rfl,mx47 hs⟩
    obtain ⟨m,rfl,hm⟩:=rows_of (row:=inR) (Q:=in64) fun r hr=>by
      obtain ⟨s,rfl,hs⟩:=Fit.inv_int v3 (hz r hr); exact ⟨s,rfl,wf64 hs⟩
    exact ⟨⟨n,l,m⟩,rfl,mx47 hn,by have:=mx47 hl; simpa using this,by have:=mx47 hl2; simpa using this,ho,hm⟩
theorem fitSc (cs:List C) (h:Fit Tryz.prog 25 cs):∃ a:Sc,cs=scC a/\a.ok:=by
  obtain ⟨parts,rfl,h2,h3⟩:=Fit.inv_st v25 h
  match parts,h2 with
  | [p0,p1,p2],_=>
    obtain ⟨n,rfl,hn⟩:=Fit.inv_int v3 (h3 0 _ p0 rfl rfl)
    obtain ⟨ys,rfl,hl,hy⟩:=Fit.inv_sl v22 (h3 1 _ p1 rfl rfl)
    obtain ⟨zs,rfl,hl2,hz⟩:=Fit.inv_sl v23 (h3 2 _ p2 rfl rfl)
    obtain ⟨l,rfl,ho⟩:=rows_of (row:=enC) (Q:=En.ok) fun r hr=>fitEn (hy r hr)
    obtain ⟨m,rfl,hm⟩:=rows_of (row:=stC) (Q:=St.ok) fun r hr=>fitSt (hz r hr)
    exact ⟨⟨n,l,m⟩,rfl,wf64 hn,by have:=mx47 hl; simpa using this,by have:=mx47 hl2; simpa using this,ho,hm⟩
end Go.Proofs.YtbolanmlngjdoaaGreat
namespace Go.Proofs.YtbolanmlngjdoaaGreat
open Go.W
theorem enP_w {a b:Sc} (ga:MgI a) (gb:MgI b) {x z:En} (hx:x ∈ a.es) (h:enP b x=some z):EnW z:=by
  unfold enP at h
  cases hy:fEn b.es x.nm with
  | none=>rw [hy] at h; cases h; exact (ga.es x hx).w
  | some y=>
    rw [hy] at h
    obtain ⟨l,hl,rfl⟩:=Option.map_eq_some_iff.1 h
    exact enOf_w (ga.es x hx) (gb.es y (fEn_mem hy).1) hl
theorem stP_w {a b:Sc} (ga:MgI a) (gb:MgI b) {x z:St} (hx:x ∈ a.ss) (h:stP b x=some z):StM z:=by
  unfold stP at h
  cases hy:fS b.ss x.nm with
  | none=>rw [hy] at h; cases h; exact (ga.ss x hx).1
  | some y=>
    rw [hy] at h
    obtain ⟨l,hl,rfl⟩:=Option.map_eq_some_iff.1 h
    have h1:=ga.ss x hx
    have h2:=gb.ss y (fS_mem hy).1
    exact msL_w ⟨h1.1,h1.2.1⟩ ⟨h2.1,h2.2.1⟩ hl
theorem mgX_some {a b:Sc} {E:List En} {T:List St} (h:mgX a b=some (E,T)):crF a b=false/\crF b a=false/\∃ L M,mapO (enP b) a.es=some L/\mapO (stP b) a.ss=some M/\E=L ++ b.es.filter (fun x=>!(hasE a.es x.nm))/\T=M ++ b.ss.filter (fun x=>!(hasS a.ss x.nm)):=by
  unfold mgX at h
  cases c1:crF a b with
  | true=>rw [c1] at h; cases h
  | false=>
    cases c2:crF b a with
    | true=>rw [c1,c2] at h; cases h
    | false=>
      rw [c1,c2,Bool.or_false,Bool.cond_false] at h
      cases hL:mapO (enP b) a.es with
      | none=>rw [hL] at h; cases h
      | some L=>
        cases hM:mapO (stP b) a.ss with
        | none=>rw [hL,hM] at h; cases h
        | some M=>
          rw [hL,hM] at h
          simp only [Option.some.injEq,Prod.mk.injEq] at h
          exact ⟨rfl,rfl,L,M,rfl,rfl,h.1.symm,h.2.symm⟩
theorem mgX_w {a b:Sc} (ga:MgI a) (gb:MgI b) {E:List En} {T:List St} (h:mgX a b=some (E,T)):(∀ e ∈ E,EnW e)/\(∀ t ∈ T,StM t)/\E.length<=1000/\T.length<=1000:=by
  obtain ⟨_,_,L,M,hL,hM,rfl,rfl⟩:=mgX_some h
  have e1:=congrArg List.length (mapO_map (g:=En.nm) (g':=En.nm) (fun x y h=>enP_nm h) hL)
  have e2:=congrArg List.length (mapO_map (g:=St.nm) (g':=St.nm) (fun x y h=>stP_nm h) hM)
  rw [List.length_map,List.length_map] at e1 e2
  have:=ga.le; have:=ga.ls; have:=gb.le; have:=gb.ls
  have f1:=List.length_filter_le (fun x:En=>!(hasE a.es x.nm)) b.es
  have f2:=List.length_filter_le (fun x:St=>!(hasS a.ss x.nm)) b.ss
  refine ⟨fun e he=>?_,fun t ht=>?_,by rw [List.length_append]; omega,by rw [List.length_append]; omega⟩
  · rcases List.mem_append.1 he with he | he
    · obtain ⟨x,hx,h⟩:=(mapO_mem hL e).1 he; exact enP_w ga gb hx h
    · exact (gb.es e (List.mem_filter.1 he).1).w
  · rcases List.mem_append.1 ht with ht | ht
    · obtain ⟨x,hx,h⟩:=(mapO_mem hM t).1 ht; exact stP_w ga gb hx h
    · exact (gb.ss t (List.mem_filter.1 ht).1).1
theorem fit_default:Sc.fit default:=⟨⟨by unfold in64; decide,by decide,by decide,fun e he=>(List.not_mem_nil he).elim,fun e he=>(List.not_mem_nil he).elim⟩,fun e he=>(List.not_mem_nil he).elim,fun e he=>(List.not_mem_nil he).elim,fun e he=>(List.not_mem_nil he).elim⟩
theorem mgF_fit {a b:Sc} (fa:a.fit) (fb:b.fit):(mgF a b).1.fit:=by
  unfold mgF
  cases e1:checkF a != 0 with
  | true=>exact fit_default
  | false=>
    cases e2:checkF b != 0 with
    | true=>exact fit_default
    | false=>
      have c1:checkF a=0:=by simpa using e1
      have c2:checkF b=0:=by simpa using e2
      rw [Bool.cond_false,Bool.cond_false,mgT_eq (scV_of fa c1) (scV_of fb c2)]
      cases h:mgX a b with
      | none=>exact fit_default
      | some z=>
        obtain ⟨E,T⟩:=z
        obtain ⟨h1,h2,h3,h4⟩:=mgX_w (mgI_of fa c1) (mgI_of fb c2) h
        have hv:in64 (max a.ver b.ver):=by have:=fa.ok.ver; have:=fb.ok.ver; unfold in64 at *; omega
        have hf:Sc.fit ⟨max a.ver b.ver,E,T⟩:=fit_of hv h3 h4 h1 h2
        show ((bif checkF ⟨max a.ver b.ver,E,T⟩ != 0 then (default,checkF ⟨max a.ver b.ver,E,T⟩) else ((⟨max a.ver b.ver,E,T⟩:Sc),0)).1).fit
        cases checkF ⟨max a.ver b.ver,E,T⟩ != 0 with
        | true=>exact fit_default
        | false=>exact hf
def i2Pre:List S->Prop:=fun av=>match av with
  | [.va (.gs r),.va (.gs q)]=>isSc r/\isSc q
  | _=>False
theorem i2Pre_open {av:List S} (h:i2Pre av):∃ a b:Sc,av=[.va (.gs (scC a)),.va (.gs (scC b))]/\a.ok/\b.ok:=by
  unfold i2Pre at h
  split at h
  · obtain ⟨⟨a,rfl,ha⟩,⟨b,rfl,hb⟩⟩:=h; exact ⟨a,b,rfl,ha,hb⟩
  · exact h.elim
def lawM:Fun:=⟨i2Pre,fun _=>bA true,fun _ _=>trivial⟩
theorem lawM_len:∀ av H K,lawM.sp av H K->av.length=2:=fun av H K h=>by obtain ⟨a,b,rfl,_⟩:=i2Pre_open h.1.1; rfl
set_option maxRecDepth 100000 in
set_option maxHeartbeats 4000000 in
theorem mLawMerges:Meets Tryz.prog 4 lawM.sp:=by
  refine meets_fn Tryz.func4 ok4 2 (by rw [Tryz.ntmps4]; decide) (meetsAll_f mLarge12 (meetsAll_f mAwake (meetsAll_s mMerge (meetsAll_s mRMerge (meetsAll_f mRSameSchema (meetsAll_nil _)))))) lawM_len ?_
  rintro av H K ⟨⟨h,rfl⟩,hK⟩
  obtain ⟨a,b,rfl,ha,hb⟩:=i2Pre_open h
  replace hK:K (bS true) []:=hK
  clear h
  have fin:∀ R:Hp,W.Fin 0 K (bS true) R:=fun R=>.sel [] (by simp) (by simp) rfl (.done (by simpa [go_sem] using hK))
  have hsa:=isSc_mk ha
  have hsb:=isSc_mk hb
  have hda:=sc_dec a
  have hdb:=sc_dec b
  rw [scC] at hsa hsb hda hdb
  cases f1:fewS a with
  | false=>
    simp (maxSteps:=1000000) -dsimp only [go_sem,scC,pc4,rs4,hsa,hsb,hda,hdb,f1,Bool.not_false]
    exact fin _
  | true=>
  cases f2:fewS b with
  | false=>
    simp (maxSteps:=1000000) -dsimp only [go_sem,scC,pc4,rs4,hsa,hsb,hda,hdb,f1,f2,Bool.not_false,Bool.not_true]
    exact fin _
  | true=>
  have fa:=few_fit ha f1
  have fb:=few_fit hb f2
  have hmo:=(mgF_fit fa fb).ok
  have hme:=mgF_eq fa fb
  simp (maxSteps:=1000000) -dsimp only [go_sem,scC,pc4,rs4,hsa,hsb,hda,hdb,f1,f2,Bool.not_true]
  refine mg_use (a:=a) (b:=b) fa fb ?_
  generalize hM:mgF a b=M at *
  obtain ⟨m,e⟩:=M
  simp only at hmo ⊢
  simp (maxSteps:=1000000) -dsimp only [go_sem,scC]
  refine vc_tail (up:=[(2,.va (.c1 (.pt 0 0))),(3,.va (.c1 (.pt 1 0))),(5,.va (.c1 (.pt 2 0))),(6,iS .i64 e)]) (Hs:=[.cells (scC a) 25,.cells (scC b) 25,.cells (scC m) 25]) 3 ?_ ?_ ?_
  rotate_left
  · simp -dsimp only [go_sem]<;>simp
  · simp -dsimp only [go_sem,scC]<;>simp
  simp (maxSteps:=1000000) -dsimp only [go_sem,scC,pc4_4]
  refine mr_use (a:=a) (b:=b) fa fb ?_
  rw [<-hme]
  simp (maxSteps:=1000000) -dsimp only [go_sem,scC]
  refine vc_tail (up:=[(5,.va (.c1 (.pt 2 0))),(6,iS .i64 e),(7,.va (.c1 (.pt 3 0))),(8,iS .i64 e)]) (Hs:=[.cells (scC a) 25,.cells (scC b) 25,.cells (scC m) 25,.cells (scC m) 25]) 4 ?_ ?_ ?_
  rotate_left
  · simp -dsimp only [go_sem]<;>simp
  · simp -dsimp only [go_sem,scC]<;>simp
  have hsm:=isSc_mk hmo
  have hdm:=sc_dec m
  rw [scC] at hsm hdm
  have e1:(e == e)=true:=by simp
  have e2:eqB m m=true:=eqB_eq rfl
  simp (maxSteps:=1000000) -dsimp only [go_sem,scC,pc4_5,hsm,hdm,e1,e2]
  exact fin _
end Go.Proofs.YtbolanmlngjdoaaGreat
