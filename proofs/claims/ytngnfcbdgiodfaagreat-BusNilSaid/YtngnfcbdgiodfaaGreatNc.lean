/- Lemmas and walks for the proof. -/
import Derived.Test.YtngnfcbdgiodfaaGreatNb
import Derived.Laws.MakeOwn
import Derived.Laws.OwnMore
import Derived.Lib.AppendStr
import Derived.StillTail
import Derived.Deep.Quiet
set_option maxRecDepth 100000
set_option maxHeartbeats 8000000
namespace Go.W
def bQ (P:Program) (o:Oper) (a:Act) (w:World) (X:Ctx) (E:Es) (ro:RO) (R:S->Hp->Prop):Prop:=
 ∀ next Q,(∀ s v E' ro' w',R s (hp E')->s.rel (gm E') ro' v->GExt (gm E) (gm E')->Ext ro ro'->Rel X E' ro' w'->next (a.put o.dst v) w')->o.wp P a w next Q
theorem yB {R:List Gb} {ro:RO} {cs:List C} {us:List Value} (h:All2 (C.rel R ro) cs us) (h1:∀ c ∈ cs,c.one):∀ v ∈ us,v.oneCell'=true:=by
 intro v hv
 obtain ⟨i,hi⟩:=List.mem_iff_getElem?.1 hv
 obtain ⟨c,hc,hr⟩:=h.get' hi
 exact C.one_rel (h1 c (dL hc)) hr
theorem nE {xs:List (List C)} {sz:Nat} (h:∀ x ∈ xs,x.length=sz):∀ {i j:Nat} {vs:List C},i < xs.length->j + vs.length<=sz->
 (xs.set i (aM (xs.getD i []) j vs)).flatten=aM xs.flatten (i * sz + j) vs:=by
 induction xs with
 | nil=>intro i j vs hi; simp at hi
 | cons x r ih=>
  intro i j vs hi hj
  have hx:x.length=sz:=h x (by simp)
  cases i with
  | zero=>
   simp only [List.set_cons_zero,List.getD_cons_zero,List.flatten_cons,aM,Nat.zero_mul,Nat.zero_add]
   rw [List.take_append_of_le_length (by omega),List.drop_append_of_le_length (by omega)]
   simp
  | succ i=>
   have:=ih (fun z hz=>h z (by simp [hz])) (i:=i) (j:=j) (vs:=vs) (by simpa using hi) hj
   rw [List.set_cons_succ,List.getD_cons_succ,List.flatten_cons,this]
   simp only [aM,Nat.succ_mul,List.flatten_cons]
   have e1:(x ++ r.flatten).take (i * sz + sz + j)=x ++ r.flatten.take (i * sz + j):=by
    rw [List.take_append,hx,List.take_of_length_le (by omega),show i * sz + sz + j - sz=i * sz + j by omega]
   have e2:(x ++ r.flatten).drop (i * sz + sz + j + vs.length)=r.flatten.drop (i * sz + j + vs.length):=by
    rw [List.drop_append,hx,List.drop_of_length_le (by omega),show i * sz + sz + j + vs.length - sz=i * sz + j + vs.length by omega,List.nil_append]
   rw [e1,e2]
   simp
theorem cD {sz:Nat}:∀ (l:List (List C)),(∀ x ∈ l,x.length=sz)->(l.flatten).length=l.length * sz
 | [],_=>by simp
 | x :: r,h=>by simp [h x (by simp),cD r (fun y hy=>h y (by simp [hy])),Nat.succ_mul]; omega
theorem kH {cur V:List Value} {p L:Nat} (h:p + V.length<=L) (hL:L<=cur.length):(cur.take p ++ V ++ cur.drop (p + V.length)).take L=(cur.take L).take p ++ V ++ (cur.take L).drop (p + V.length):=by
 have e0:(cur.take p ++ V).length=p + V.length:=by simp; omega
 rw [List.take_append,e0,List.take_of_length_le (by omega),List.take_take,Nat.min_eq_left (by omega),List.drop_take]
theorem kQ {xs:List (List C)} {sz:Nat} (h:∀ x ∈ xs,x.length=sz) {i j:Nat} {vs r:List C} (hr:xs[i]? = some r) (hj:j + vs.length<=sz) :
 (xs.set i (aM r j vs)).flatten=aM xs.flatten (i * sz + j) vs:=by
 have:=nE h (vs:=vs) (bT.1 hr).1 hj
 rwa [List.getD_eq_getElem?_getD,hr] at this
section
variable {P:Program} {o:Oper} {N:Nat} {fr:Fr} {a:Act} {E:Es} {ro:RO} {X:Ctx} {w:World} {R:S->Hp->Prop}
theorem cR (E:Es) (n:Nat) (g:Gb) (blk:B):hp (E.set n (g,blk))=(hp E).set n blk:=by simp [hp,List.map_set]
theorem cQ (E:Es) (g:Gb) (blk:B):hp (E ++ [(g,blk)])=hp E ++ [blk]:=by simp [hp]
theorem CE (hf:FRel N (gm E) ro fr a) (hr:Rel X E ro w) {t:TypeId} {x y:Operand} {n:Nat} (ho:o.op=.store t x y) (hz:aF P t=some n) (hv:vE fr (hp E) R (.st n (aA x) (aA y))):bQ P o a w X E ro R:=by
 intro next Q hK
 have h1:=aC hf x; have h2:=aC hf y
 simp only [vE] at hv
 split at hv
 case h_2=>exact hv.elim
 rename_i px py hx hy
 rw [hx] at h1; rw [hy] at h2
 have h2':py.rel (gm E) ro (a.eval y):=h2
 have h1':px.rel (gm E) ro (a.eval x):=h1
 obtain ⟨⟨hok,hone,hlen⟩,hv⟩:=hv
 have hcells:=A.cells_rel h2' hok
 generalize hus:(a.eval y).cells.toList=us at hcells
 have hul:us.length=n:=by rw [<-hcells.1]; exact hlen
 have hsize:(a.eval y).cells.size=n:=by rw [<-hul,<-hus]; simp
 have hcs:(a.eval y).cells=us.toArray:=by rw [<-hus]
 have h1o:=yB hcells hone
 have hstore:∀ (b k:Nat) (cur:Array Value) (T:TypeId),a.eval x=.pointer (some ⟨b,k,none⟩)->w.heap[b]? = some (.cells cur T (0,0))->k + us.length<=cur.size->
  (execOp a.eval o).run P w=.ok .skip (w.setRow b (cur.toList.take k ++ us ++ cur.toList.drop (k + us.length)).toArray):=by
  intro b k cur T hp hh hk
  have hs:=run_storeCells_at P b k T us 0 cur w hh (by simpa using hk) h1o
  simp only [Nat.add_zero] at hs
  simp only [execOp,ho,hp]
  simp [Instr.storeAt,Instr.sureAddr,storeVar,aE hz,hcs,hs,hul]
 cases px with
 | pt nm off=>
  simp only at hv
  split at hv
  case h_2=>exact hv.elim
  rename_i cs T hH
  obtain ⟨hle,hR⟩:=hv
  obtain ⟨g,hE⟩:=aR hH
  obtain ⟨hrow,b',hb',hh,hrel⟩:=hr.own nm _ _ hE
  obtain ⟨g',b,k1,k2,k3,k4⟩:=h1'
  have:g'=g:=by have:=aQ hE; rw [k1] at this; exact (bB this)
  subst this
  rw [hb'] at k3
  simp only [aB] at k3
  subst k3
  have hbnd:off + us.length<=g'.vs.toArray.size:=by rw [List.size_toArray,<-hrel.1,<-hcells.1]; exact hle
  have hrun:=hstore b' off _ T k4 hh hbnd
  have hoth:=fun k (hk:k ≠ b')=>setRow_other w b' k ((g'.vs.toArray.toList.take off ++ us ++ g'.vs.toArray.toList.drop (off + us.length)).toArray) hk
  have hnew:=setRow_heap w b' _ (g'.vs.toArray.toList.take off ++ us ++ g'.vs.toArray.toList.drop (off + us.length)).toArray T _ hh
  unfold Oper.wp
  rw [hrun,Oper.upon_skip]
  have hle':g'.le { g' with vs:=g'.vs.take off ++ us ++ g'.vs.drop (off + us.length) }:=⟨rfl,.inl ⟨rfl,rfl,rfl⟩⟩
  have hext:=cE (blk':=.cells (aM cs off py.cells) T) hE hle'
  refine hK .un undef (E.set nm ({ g' with vs:=g'.vs.take off ++ us ++ g'.vs.drop (off + us.length) },.cells (aM cs off py.cells) T)) ro _ (by rw [cR]; exact hR) trivial hext (Ext.refl _)
   (hr.swap hE rfl hle' (by simp [World.setRow]) rfl rfl rfl ⟨hrow,b',hb',by simpa using hnew,?_⟩ (.inl ⟨rfl,fun k hk=>hoth k fun e=>hk (by rw [hb',e])⟩))
  exact eS (hrel.imp fun _ _=>C.rel_mono hext (Ext.refl _)) (hcells.imp fun _ _=>C.rel_mono hext (Ext.refl _))
 | qt nm len sz i j=>
  simp only at hv
  split at hv
  case h_3=>exact hv.elim
  · rename_i xs T sz' hH
    obtain ⟨⟨c0,rfl,hi,hle,hsh⟩,hR⟩:=hv
    obtain ⟨g,b,blk,hE,hb,hv'⟩:=e6 hr h1' (by unfold dK; rw [hH]; exact ⟨c0,rfl⟩)
    have hH2:=g4 hE
    rw [hH] at hH2
    simp only [aB] at hH2
    subst hH2
    have hri:=b5 hi
    have hR:=hR _ hri
    obtain ⟨hrow,hglen,hxl,hshx,⟨hvl,hown⟩,hrel,hpos⟩:=hr.own nm _ _ hE
    rw [hb] at hown
    rcases hown with ⟨hv,hn⟩ | ⟨b2,cap',cur,hv,hg0,hh,hncap,hcm,hsz,htake⟩
    · omega
    obtain ⟨rfl,hcapeq⟩:b=b2/\g.cap=cap':=by simpa [aG] using hv
    subst hcapeq
    have hmul:(i + 1) * sz'<=xs.length * sz':=Nat.mul_le_mul_right _ hi
    have hmul2:xs.length * sz'<=g.cap * sz':=Nat.mul_le_mul_right _ hncap
    rw [Nat.succ_mul] at hmul
    have hxi:(xs[i]).length=sz':=hxl _ (List.getElem_mem hi)
    have hle2:j + us.length<=sz':=by rw [<-hcells.1]; exact hle
    have hrun:=hstore b (i * sz' + j) cur T hv' hh (by rw [hsz]; exact Nat.le_trans (by omega) (Nat.le_trans hmul hmul2))
    have hoth:=fun k (hk:k ≠ b)=>setRow_other w b k ((cur.toList.take (i * sz' + j) ++ us ++ cur.toList.drop (i * sz' + j + us.length)).toArray) hk
    have hnew:=setRow_heap w b cur ((cur.toList.take (i * sz' + j) ++ us ++ cur.toList.drop (i * sz' + j + us.length)).toArray) T _ hh
    unfold Oper.wp
    rw [hrun,Oper.upon_skip]
    have hspl:(aM xs[i] j py.cells).length=sz':=by simp only [aM,List.length_append,List.length_take,List.length_drop]; omega
    have hle':g.le { g with vs:=g.vs.take (i * sz' + j) ++ us ++ g.vs.drop (i * sz' + j + us.length) }:=⟨rfl,.inl ⟨rfl,rfl,rfl⟩⟩
    have hvl2:g.vs.length=xs.length * sz':=hvl
    have hmem:∀ x ∈ xs.set i (aM xs[i] j py.cells),x.length=sz':=by
     intro x hx
     rcases List.mem_or_eq_of_mem_set hx with hx | hx
     · exact hxl x hx
     · rw [hx,hspl]
    have hflat:=kQ hxl hri hle
    refine hK .un undef (E.set nm ({ g with vs:=g.vs.take (i * sz' + j) ++ us ++ g.vs.drop (i * sz' + j + us.length) },.row (xs.set i (aM xs[i] j py.cells)) T sz')) ro _ (by rw [cR]; exact hR) trivial (cE hE hle') (Ext.refl _)
     (hr.swap hE rfl hle' (by simp [World.setRow]) rfl rfl rfl ⟨hrow,by rw [List.length_set]; exact hglen,hmem,?_,⟨?_,.inr ⟨b,g.cap,_,?_,Nat.zero_le _,hnew,?_,hcm,?_,?_⟩⟩,?_,hpos⟩ (.inl ⟨rfl,fun k hk=>hoth k fun e=>hk (by rw [hb,e])⟩))
    · intro c hc
      rw [hflat] at hc
      simp only [aM,List.mem_append] at hc
      rcases hc with (hc | hc) | hc
      · exact hshx c (List.mem_of_mem_take hc)
      · exact hsh c hc
      · exact hshx c (List.mem_of_mem_drop hc)
    · simp only [List.length_append,List.length_take,List.length_drop,List.length_set]; omega
    · rw [List.length_set]; simp [aG,hb]
    · simpa using hncap
    · have:i * sz' + j + us.length<=cur.size:=by rw [hsz]; exact Nat.le_trans (by omega) (Nat.le_trans hmul hmul2)
      simp only [List.size_toArray,List.length_append,List.length_take,List.length_drop,Array.length_toList]
      rw [<-hsz]
      omega
    · rw [List.length_set,<-htake,List.toList_toArray]
      exact kH (by omega) (by simp; rw [hsz]; exact hmul2)
    · rw [hflat]
      refine eS hrel ⟨hcells.1,fun k c u hc hu=>?_⟩
      exact (C.rel_shut (hsh c (dL hc))).1 (hcells.2 k c u hc hu)
  · rename_i xs T sz' hH
    obtain ⟨⟨c0,rfl,hi,hle⟩,hR⟩:=hv
    obtain ⟨g,b,blk,hE,hb,hv'⟩:=e6 hr h1' (by unfold dK; rw [hH]; exact ⟨c0,rfl⟩)
    have hH2:=g4 hE
    rw [hH] at hH2
    simp only [aB] at hH2
    subst hH2
    have hri:=b5 hi
    have hR:=hR _ hri
    obtain ⟨hrow,hglen,hxl,⟨hvl,hown⟩,hrel,hpos⟩:=hr.own nm _ _ hE
    rw [hb] at hown
    rcases hown with ⟨hv,hn⟩ | ⟨b2,cap',cur,hv,hg0,hh,hncap,hcm,hsz,htake⟩
    · omega
    obtain ⟨rfl,hcapeq⟩:b=b2/\g.cap=cap':=by simpa [aG] using hv
    subst hcapeq
    have hmul:(i + 1) * sz'<=xs.length * sz':=Nat.mul_le_mul_right _ hi
    have hmul2:xs.length * sz'<=g.cap * sz':=Nat.mul_le_mul_right _ hncap
    rw [Nat.succ_mul] at hmul
    have hxi:(xs[i]).length=sz':=hxl _ (List.getElem_mem hi)
    have hle2:j + us.length<=sz':=by rw [<-hcells.1]; exact hle
    have hrun:=hstore b (i * sz' + j) cur T hv' hh (by rw [hsz]; exact Nat.le_trans (by omega) (Nat.le_trans hmul hmul2))
    have hoth:=fun k (hk:k ≠ b)=>setRow_other w b k ((cur.toList.take (i * sz' + j) ++ us ++ cur.toList.drop (i * sz' + j + us.length)).toArray) hk
    have hnew:=setRow_heap w b cur ((cur.toList.take (i * sz' + j) ++ us ++ cur.toList.drop (i * sz' + j + us.length)).toArray) T _ hh
    unfold Oper.wp
    rw [hrun,Oper.upon_skip]
    have hspl:(aM xs[i] j py.cells).length=sz':=by simp only [aM,List.length_append,List.length_take,List.length_drop]; omega
    have hle':g.le { g with vs:=g.vs.take (i * sz' + j) ++ us ++ g.vs.drop (i * sz' + j + us.length) }:=⟨rfl,.inl ⟨rfl,rfl,rfl⟩⟩
    have hvl2:g.vs.length=xs.length * sz':=hvl
    have hmem:∀ x ∈ xs.set i (aM xs[i] j py.cells),x.length=sz':=by
     intro x hx
     rcases List.mem_or_eq_of_mem_set hx with hx | hx
     · exact hxl x hx
     · rw [hx,hspl]
    have hflat:=kQ hxl hri hle
    refine hK .un undef (E.set nm ({ g with vs:=g.vs.take (i * sz' + j) ++ us ++ g.vs.drop (i * sz' + j + us.length) },.rowx (xs.set i (aM xs[i] j py.cells)) T sz')) ro _ (by rw [cR]; exact hR) trivial (cE hE hle') (Ext.refl _)
     (hr.swap hE rfl hle' (by simp [World.setRow]) rfl rfl rfl ⟨hrow,by rw [List.length_set]; exact hglen,hmem,⟨?_,.inr ⟨b,g.cap,_,?_,Nat.zero_le _,hnew,?_,hcm,?_,?_⟩⟩,?_,hpos⟩ (.inl ⟨rfl,fun k hk=>hoth k fun e=>hk (by rw [hb,e])⟩))
    · simp only [List.length_append,List.length_take,List.length_drop,List.length_set]; omega
    · rw [List.length_set]; simp [aG,hb]
    · simpa using hncap
    · have:i * sz' + j + us.length<=cur.size:=by rw [hsz]; exact Nat.le_trans (by omega) (Nat.le_trans hmul hmul2)
      simp only [List.size_toArray,List.length_append,List.length_take,List.length_drop,Array.length_toList]
      rw [<-hsz]
      omega
    · rw [List.length_set,<-htake,List.toList_toArray]
      exact kH (by omega) (by simp; rw [hsz]; exact hmul2)
    · rw [hflat]
      have hext:=cE (blk':=.rowx (xs.set i (aM xs[i] j py.cells)) T sz') hE hle'
      exact eS (hrel.imp fun _ _=>C.rel_mono hext (Ext.refl _)) (hcells.imp fun _ _=>C.rel_mono hext (Ext.refl _))
 | _=>exact hv.elim
theorem bE (w:World) (o:Obj):∀ k,k < w.heap.size->(w.alloc o).heap[k]? = w.heap[k]?:=fun k hk=>RowKit.Below.heap_alloc w o k hk
theorem aV (w:World) (o:Obj):w.heap.size<=(w.alloc o).heap.size:=by simp
theorem CR (hr:Rel X E ro w) {t:TypeId} {i:TypeInfo} {z:Value} (ho:o.op=.alloc t) (hi:P.info? t=some i) (hz:i.zero=some z) (hv:vE fr (hp E) R (.al z t)):bQ P o a w X E ro R:=by
 intro next Q hK
 simp only [vE] at hv
 unfold Oper.wp
 have hrun:(execOp a.eval o).run P w=.ok (.value (.pointer (some ⟨w.heap.size,0,none⟩))) (w.alloc (.cells z.cells t)):=by
  simp [execOp,ho,Instr.alloc,zeroValue,typeInfo,hi,hz,newVar,newRow]
 rw [hrun,Oper.upon_value]
 let g:Gb:=⟨some w.heap.size,false,0,0,t,z.cells.toList⟩
 rw [b4] at hv
 refine hK (.va (.c1 (.pt E.length 0))) _ (E ++ [(g,.cells (z.cells.toList.map C.vl) t)]) ro _ (by rw [cQ]; exact hv) ⟨g,w.heap.size,by simp [gm],rfl,rfl,rfl⟩ (bG _) (Ext.refl _) (hr.new (g:=g) (blk:=.cells (z.cells.toList.map C.vl) t) (bE w _) (aV w _) rfl rfl rfl (.inr rfl) ⟨rfl,w.heap.size,rfl,?_,fN _⟩)
 rw [heap_alloc_new]
theorem n1 {α:Type} {sz:Nat}:∀ {xs:List (List α)},(∀ x ∈ xs,x.length=sz)->xs.flatten.length=xs.length * sz
 | [],_=>by simp
 | x :: xs,h=>by
  rw [List.flatten_cons,List.length_append,n1 fun y hy=>h y (List.mem_cons_of_mem _ hy),h x (by simp),List.length_cons,Nat.succ_mul,Nat.add_comm]
theorem nP {α:Type} {sz:Nat}:∀ {xs:List (List α)},(∀ x ∈ xs,x.length=sz)->∀ {i j:Nat},j < sz->xs.flatten[i * sz + j]? = (xs[i]?).bind (·[j]?)
 | [],_,i,j,_=>by simp
 | x :: xs,h,0,j,hj=>by
  have:=h x (by simp)
  rw [List.flatten_cons,Nat.zero_mul,Nat.zero_add,List.getElem?_append_left (by omega)]; rfl
 | x :: xs,h,i + 1,j,hj=>by
  have hx:=h x (by simp)
  rw [List.flatten_cons,Nat.succ_mul,List.getElem?_append_right (by omega),show i * sz + sz + j - x.length=i * sz + j by omega,nP (fun y hy=>h y (List.mem_cons_of_mem _ hy)) hj]
  rfl
theorem uN (z:Array Value) (n:Nat):(madeCells z (n * z.size)).toList=(List.replicate n z.toList).flatten:=by
 refine List.ext_getElem? fun j=>?_
 have hz:∀ x ∈ List.replicate n z.toList,x.length=z.size:=fun x hx=>by rw [List.eq_of_mem_replicate hx]; simp
 by_cases hj:j < n * z.size
 · have hpos:0 < z.size:=by
    rcases Nat.eq_zero_or_pos z.size with h | h
    · rw [h] at hj; omega
    · exact h
   have hi:j / z.size < n:=(Nat.div_lt_iff_lt_mul hpos).2 hj
   have hm:=Nat.mod_lt j hpos
   have h1:=nP hz (i:=j / z.size) (j:=j % z.size) hm
   rw [Nat.mul_comm,Nat.div_add_mod] at h1
   rw [h1]
   simp [madeCells,hj,hi,hm]
 · rw [List.getElem?_eq_none (by simp [madeCells]; omega),List.getElem?_eq_none (by rw [n1 hz,List.length_replicate]; omega)]
theorem Rel.aside {X:Ctx} {E:Es} {ro:RO} {w w':World} (h:Rel X E ro w) (hk:∀ b:Nat,b < w.heap.size->w'.heap[b]? = w.heap[b]?) (hz:w.heap.size<=w'.heap.size) (e1:w'.os=w.os) (e2:w'.tape=w.tape) (e3:w'.output=w.output):Rel X E ro w' where
 own:=fun n g blk hn=>by
  by_cases hl:blk.live=true
  · exact (h.own n g blk hn).same (.refl _) (.refl _) fun b hb=>hk b ((h.own n g blk hn).lt hl hb)
  · cases blk<;>simp [B.live] at hl; trivial
 inj:=h.inj
 apart:=h.apart
 rd:=fun b off v hv=>by
  have h1:=h.rd b off v hv
  have h2:=h.cell_lt hv
  unfold World.cell? at h1 ⊢
  rw [hk b h2]; exact h1
 ro0:=h.ro0
 rob:=h.rob
 par:=h.par
 gx:=h.gx
 sz:=Nat.le_trans h.sz hz
 keep:=fun b hb hp=>by rw [hk b (Nat.lt_of_lt_of_le hb h.sz)]; exact h.keep b hb hp
 os:=e1.trans h.os
 tape:=e2.trans h.tape
 output:=e3.trans h.output
theorem B9 (hf:FRel N (gm E) ro fr a) (hr:Rel X E ro w) {t e:TypeId} {i:TypeInfo} {z:Value} {x y:Operand} (ho:o.op=.makeSlice t x y) (ht:P.underlying t=some (.slice e)) (hi:P.info? e=some i) (hz:i.zero=some z) (hzs:z.cells.size=i.size) (hsz:0 < i.size)
 (hv:vE fr (hp E) R (.mk e i.size i.bytes z.cells.toList (aA x) (aA y))):bQ P o a w X E ro R:=by
 intro next Q hK
 have h1:=aC hf x; have h2:=aC hf y
 simp only [vE] at hv
 split at hv
 case h_2=>exact hv.elim
 rename_i kx k ky m hx hy
 rw [hx] at h1; rw [hy] at h2
 have h1':a.eval x=.int kx k:=h1
 have h2':a.eval y=.int ky m:=h2
 obtain ⟨⟨rfl,c0,c1,c2⟩,hv0,hv1⟩:=hv
 obtain ⟨n,rfl⟩:=Int.eq_ofNat_of_zero_le c0
 have hrun0:=run_make (P:=P) w t e i z ht hi hz kx ky n n (by omega) (Int.le_refl _) (by rw [Int.mul_comm]; omega) (by omega)
 simp only [Int.toNat_natCast] at hrun0
 have hrun:(execOp a.eval o).run P w=.ok (.value (.slice (some ⟨w.heap.size,0,none⟩) n n)) (w.alloc (.cells (madeCells z.cells (n * i.size)) e)):=by
  simp [execOp,ho,h1',h2',hrun0]
 unfold Oper.wp
 rw [hrun,Oper.upon_value]
 rcases Nat.eq_zero_or_pos n with h0 | hpos
 · subst h0
   refine hK _ _ E ro _ (hv0 rfl) ?_ (GExt.refl _) (Ext.refl _) (hr.aside (fun b hb=>bE w _ b hb) (aV w _) rfl rfl rfl)
   exact FzR.mk (ro:=ro) [] 1 none (some ⟨w.heap.size,0,none⟩) (fun h=>absurd rfl h) 0 (fun _=>undef) (by simp) (by simp) (by simp) (by simp) (by simp) (by simp) (by simp)
 · have hv1:=hv1 (by omega)
   rw [b4,Int.toNat_natCast] at hv1
   let g:Gb:=⟨some w.heap.size,true,n,n,e,(madeCells z.cells (n * i.size)).toList⟩
   have hfl:(madeCells z.cells (n * i.size)).toList=(List.replicate n z.cells.toList).flatten:=by rw [<-hzs]; exact uN z.cells n
   have hfx:(List.replicate n (z.cells.toList.map C.vl)).flatten=((List.replicate n z.cells.toList).flatten).map C.vl:=by
    rw [List.map_flatten,List.map_replicate]
   refine hK (.va (.c1 (.sl E.length n))) _ (E ++ [(g,.row (List.replicate n (z.cells.toList.map C.vl)) e i.size)]) ro _ (by rw [cQ]; exact hv1) ⟨g,by simp [gm],rfl,Nat.le_refl _,⟨_,_,_,rfl⟩,fun _=>rfl⟩ (bG _) (Ext.refl _)
    (hr.new (g:=g) (blk:=.row (List.replicate n (z.cells.toList.map C.vl)) e i.size) (bE w _) (aV w _) rfl rfl rfl (.inr rfl) ⟨rfl,by simp [g],fun r hr=>?_,fun c hc=>?_,?_,?_,fun _ _=>hpos⟩)
   · rw [List.eq_of_mem_replicate hr]; simpa using hzs
   · rw [hfx] at hc
     obtain ⟨v,_,rfl⟩:=List.mem_map.1 hc
     rfl
   · have:=World.ownsRow_lit (base:=0) (e:=e) w (madeCells z.cells (n * i.size)) n (Nat.zero_le _) (by unfold maxLen; omega) (size_madeCells _ _)
     rw [List.length_replicate]
     exact this
   · rw [hfx]
     show All2 (C.fv ro) _ (madeCells z.cells (n * i.size)).toList
     rw [hfl]
     refine ⟨by simp,fun k c v h1 h2=>?_⟩
     rw [List.getElem?_map,h2] at h1
     simp at h1; subst h1; rfl
theorem CX (hf:FRel N (gm E) ro fr a) (hr:Rel X E ro w) {t:TypeId} {x:Operand} (ho:o.op=.box t x) (hv:vE fr (hp E) R (.bx t (aA x))):bQ P o a w X E ro R:=by
 intro next Q hK
 have h1:=aC hf x
 simp only [vE] at hv
 split at hv
 case h_2=>exact hv.elim
 rename_i y hy
 rw [hy] at h1
 have h1':y.rel (gm E) ro (a.eval x):=h1
 obtain ⟨hok,hv⟩:=hv
 have hc:=A.cells_rel h1' hok
 unfold Oper.wp
 have hrun:(execOp a.eval o).run P w=.ok (.value (.pointer (some ⟨w.heap.size,0,none⟩))) (w.alloc (.cells (a.eval x).cells t)):=by
  simp [execOp,ho,Instr.box,newVar,newRow]
 rw [hrun,Oper.upon_value]
 let g:Gb:=⟨some w.heap.size,false,0,0,t,(a.eval x).cells.toList⟩
 rw [b4] at hv
 refine hK (.va (.c1 (.pt E.length 0))) _ (E ++ [(g,.cells y.cells t)]) ro _ (by rw [cQ]; exact hv) ⟨g,w.heap.size,by simp [gm],rfl,rfl,rfl⟩ (bG _) (Ext.refl _) (hr.new (g:=g) (blk:=.cells y.cells t) (bE w _) (aV w _) rfl rfl rfl (.inr rfl) ⟨rfl,w.heap.size,rfl,?_,hc.imp fun _ _=>C.rel_mono (bG _) (Ext.refl _)⟩)
 rw [heap_alloc_new]
theorem d3 (hf:FRel N (gm E) ro fr a):∀ {xs:List Operand} {l:List (List C)},rows fr (xs.map aA)=some l->mD fr (xs.map aA)->l.length=xs.length/\∀ (j:Nat) (x:Operand) (y:List C),xs[j]? = some x->l[j]? = some y->All2 (C.rel (gm E) ro) y (a.eval x).cells.toList
 | [],l,h,_=>by simp [rows] at h; subst h; exact ⟨rfl,fun j x y hx=>by simp at hx⟩
 | x :: xs,l,h,hok=>by
  simp only [List.map_cons,rows] at h
  simp only [List.map_cons,mD] at hok
  have h1:=aC hf x
  split at h
  · rename_i y r hy hrs
    simp only [aB] at h
    subst h
    rw [hy] at h1 hok
    have h1':y.rel (gm E) ro (a.eval x):=h1
    obtain ⟨hl,hg⟩:=d3 hf hrs hok.2
    refine ⟨by simp [hl],fun j x' y' hx hy'=>?_⟩
    cases j with
    | zero=>
     simp only [List.getElem?_cons_zero,aB] at hx hy'
     subst hx; subst hy'
     exact A.cells_rel h1' hok.1
    | succ j=>exact hg j x' y' (by simpa using hx) (by simpa using hy')
  · cases h
theorem iO {sz:Nat}:∀ (vs:List Value) (rs:List (List Value)) (k:Nat) (pre rest:List Value),vs.length=rs.length->pre.length=k * sz->rest.length=rs.length * sz->(∀ r ∈ rs,r.length=sz)->
 (∀ (j:Nat) (v:Value) (r:List Value),vs[j]? = some v->rs[j]? = some r->v.cells=r.toArray)->
 Instr.fill (fun i=>some (i * sz,sz)) (pre ++ rest).toArray ((List.range' k vs.length).zip vs)=some (pre ++ rs.flatten).toArray
 | [],rs,k,pre,rest,hl,hp,hrl,hs,hg=>by
  have:rs=[]:=List.eq_nil_of_length_eq_zero (by simpa using hl.symm)
  subst this
  have:rest=[]:=List.eq_nil_of_length_eq_zero (by simpa using hrl)
  subst this
  simp [Instr.fill]
 | v :: vs,[],k,pre,rest,hl,hp,hrl,hs,hg=>by simp at hl
 | v :: vs,r :: rs,k,pre,rest,hl,hp,hrl,hs,hg=>by
  have hr:=hs r (by simp)
  have hv:=hg 0 v r rfl rfl
  simp only [List.length_cons,Nat.succ_mul] at hrl
  have ih:=iO (sz:=sz) vs rs (k + 1) (pre ++ r) (rest.drop sz) (by simpa using hl) (by simp [hp,hr,Nat.succ_mul]) (by simp; omega) (fun y hy=>hs y (by simp [hy]))
   (fun j v' r' h1 h2=>hg (j + 1) v' r' (by simpa using h1) (by simpa using h2))
  simp only [List.length_cons,List.range'_succ,List.zip_cons_cons,Instr.fill,hv]
  rw [if_neg (by simp [hr]; omega)]
  have hfs:=fX (k * sz) r 0 (pre ++ rest) (by simp [hr]; omega)
  simp only [Nat.add_zero,hr] at hfs
  rw [<-Array.foldl_toList,Array.toList_zipIdx,List.toList_toArray,hfs]
  have e1:(pre ++ rest).take (k * sz)=pre:=by rw [List.take_append_of_le_length (by omega),List.take_of_length_le (by omega)]
  have e2:(pre ++ rest).drop (k * sz + sz)=rest.drop sz:=by rw [List.drop_append,List.drop_of_length_le (by omega),hp]; simp
  rw [e1,e2,ih]
  simp
theorem fY {R:C->Value->Prop}:∀ (l:List (List C)) (rs:List (List Value)),l.length=rs.length->(∀ (j:Nat) (y:List C) (r:List Value),l[j]? = some y->rs[j]? = some r->All2 R y r)->All2 R l.flatten rs.flatten
 | [],rs,h,_=>by have:rs=[]:=List.eq_nil_of_length_eq_zero (by simpa using h.symm); subst this; exact .nil
 | y :: l,[],h,_=>by simp at h
 | y :: l,r :: rs,h,hg=>by
  simp only [List.flatten_cons]
  exact (hg 0 y r rfl rfl).app (fY l rs (by simpa using h) fun j y' r' h1 h2=>hg (j + 1) y' r' (by simpa using h1) (by simpa using h2))
theorem BK (hf:FRel N (gm E) ro fr a) (hr:Rel X E ro w) {t e:TypeId} {len:Nat} {parts:Array (Nat × Operand)} {i:TypeInfo} {z:Value} (ho:o.op=.buildSlice t len parts) (ht:P.underlying t=some (.slice e))
 (hi:P.info? e=some i) (hz:i.zero=some z) (hzs:z.cells.size=i.size) (hsz:0 < i.size) (hb:len * i.size<=16777216) (hl0:0 < len) (hlm:len<=maxLen) (hp':parts.toList.map (·.1)=List.range len)
 (hv:vE fr (hp E) R (.bsl e i.size (parts.toList.map fun p=>aA p.2))):bQ P o a w X E ro R:=by
 intro next Q hK
 simp only [vE] at hv
 split at hv
 case h_2=>exact hv.elim
 rename_i l hl
 obtain ⟨⟨hok,hlen,hsh⟩,hv⟩:=hv
 have hmap:(parts.toList.map fun p=>aA p.2)=((parts.toList.map (·.2)).map aA):=by simp
 rw [hmap] at hl hok
 obtain ⟨hll,hg⟩:=d3 hf hl hok
 have hpl:parts.toList.length=len:=by have:=congrArg List.length hp'; simpa using this
 have hll':l.length=len:=by rw [hll]; simpa using hpl
 let rs:List (List Value):=parts.toList.map fun p=>(a.eval p.2).cells.toList
 have hrsl:rs.length=len:=by simpa [rs] using hpl
 have hall:∀ (j:Nat) (y:List C) (r:List Value),l[j]? = some y->rs[j]? = some r->All2 (C.rel (gm E) ro) y r:=by
  intro j y r h1 h2
  simp only [rs,List.getElem?_map] at h2
  cases hpj:parts.toList[j]? with
  | none=>simp [hpj] at h2
  | some p=>simp only [hpj,Option.map_some,aB] at h2; subst h2; exact hg j p.2 y (by simp [hpj]) h1
 have hrs:∀ r ∈ rs,r.length=i.size:=by
  intro r hr
  obtain ⟨j,hj⟩:=List.mem_iff_getElem?.1 hr
  have hjl:j < l.length:=by rw [hll',<-hrsl]; exact (bT.1 hj).1
  have:=(hall j _ r (b5 hjl) hj).1
  rw [<-this]; exact hlen _ (List.getElem_mem hjl)
 have hflr:rs.flatten.length=len * i.size:=by
  have:∀ (q:List (List Value)),(∀ r ∈ q,r.length=i.size)->q.flatten.length=q.length * i.size:=by
   intro q
   induction q with
   | nil=>intro _; simp
   | cons r q ih=>
    intro h
    have h1:=ih (fun y hy=>h y (by simp [hy]))
    rw [List.flatten_cons,List.length_append,h1,h r (by simp),List.length_cons,Nat.succ_mul]; omega
  rw [this rs hrs,hrsl]
 have hzip:(parts.map fun (x:Nat × Operand)=>(x.1,a.eval x.2)).toList=(List.range' 0 (parts.toList.map fun p=>a.eval p.2).length).zip (parts.toList.map fun p=>a.eval p.2):=by
  rw [<-List.range_eq_range',List.length_map,hpl,<-hp']
  simp [List.zip_map']
 have hfill:=iO (sz:=i.size) (parts.toList.map fun p=>a.eval p.2) rs 0 [] ((Array.range (len * i.size)).map (fun j=>z.cells[j % z.cells.size]!)).toList (by simp [rs]) (by simp) (by simp [hrsl]) hrs
  (fun j v r h1 h2=>by
    simp only [rs,List.getElem?_map] at h1 h2
    cases hpj:parts.toList[j]? with
    | none=>simp [hpj] at h1
    | some p=>
     simp only [hpj,Option.map_some,aB] at h1 h2
     subst h1; subst h2
     simp)
 simp only [List.nil_append,Array.toArray_toList] at hfill
 rw [<-hzip] at hfill
 unfold Oper.wp
 have hrun:(execOp a.eval o).run P w=.ok (.value (.slice (some ⟨w.heap.size,0,none⟩) len len)) (w.alloc (.cells rs.flatten.toArray e)):=by
  have h1:¬ (len * i.size > 2 ^ 24):=by omega
  have h2:¬ (len * i.size=0):=by have:=Nat.mul_pos hl0 hsz; omega
  simp only [execOp,ho,Instr.buildSlice]
  simp only [Sem.run_bind,underlying,run_program,Result.andThen_ok,ht,Sem.run_pure,sizeOf,typeInfo,hi,zeroValue,hz,h1,h2,if_false]
  rw [hfill]
  simp [newRow]
 rw [hrun,Oper.upon_value]
 let g:Gb:=⟨some w.heap.size,true,len,len,e,rs.flatten⟩
 rw [b4] at hv
 have hflat:=fY l rs (by rw [hll',hrsl]) hall
 have hshf:∀ c ∈ l.flatten,c.shut=true:=fun c hc=>by
  obtain ⟨r,h1,h2⟩:=List.mem_flatten.1 hc
  exact (hsh r h1 c h2).1
 refine hK (.va (.c1 (.sl E.length l.length))) _ (E ++ [(g,.row l e i.size)]) ro _ (by rw [cQ]; exact hv) ⟨g,by simp [gm],rfl,by rw [hll']; exact Nat.le_refl _,⟨_,_,_,rfl⟩,fun _=>by rw [hll']; rfl⟩ (bG _) (Ext.refl _)
  (hr.new (g:=g) (blk:=.row l e i.size) (bE w _) (aV w _) rfl rfl rfl (.inr rfl) ⟨rfl,hll'.symm,hlen,hshf,⟨by rw [hflr,hll'],.inr ⟨w.heap.size,len,_,by rw [hll']; rfl,Nat.zero_le _,heap_alloc_new w _,by rw [hll']; exact Nat.le_refl _,hlm,?_,?_⟩⟩,?_,fun _ _=>hl0⟩)
 · rw [List.size_toArray,hflr]
 · rw [List.toList_toArray,List.take_of_length_le (by rw [hflr,hll']; exact Nat.le_refl _)]
 · exact ⟨hflat.1,fun k c u h1 h2=>(C.rel_shut (hshf c (dL h1))).1 (hflat.2 k c u h1 h2)⟩
theorem zF (hf:FRel N (gm E) ro fr a) (hr:Rel X E ro w) {t e:TypeId} {len:Nat} {parts:Array (Nat × Operand)} {i:TypeInfo} {z:Value} (ho:o.op=.buildSlice t len parts) (ht:P.underlying t=some (.slice e))
 (hi:P.info? e=some i) (hz:i.zero=some z) (hzs:z.cells.size=i.size) (hsz:0 < i.size) (hb:len * i.size<=16777216) (hl0:0 < len) (hlm:len<=maxLen) (hp':parts.toList.map (·.1)=List.range len)
 (hv:vE fr (hp E) R (.bslx e i.size (parts.toList.map fun p=>aA p.2))):bQ P o a w X E ro R:=by
 intro next Q hK
 simp only [vE] at hv
 split at hv
 case h_2=>exact hv.elim
 rename_i l hl
 obtain ⟨⟨hok,hlen⟩,hv⟩:=hv
 have hmap:(parts.toList.map fun p=>aA p.2)=((parts.toList.map (·.2)).map aA):=by simp
 rw [hmap] at hl hok
 obtain ⟨hll,hg⟩:=d3 hf hl hok
 have hpl:parts.toList.length=len:=by have:=congrArg List.length hp'; simpa using this
 have hll':l.length=len:=by rw [hll]; simpa using hpl
 let rs:List (List Value):=parts.toList.map fun p=>(a.eval p.2).cells.toList
 have hrsl:rs.length=len:=by simpa [rs] using hpl
 have hall:∀ (j:Nat) (y:List C) (r:List Value),l[j]? = some y->rs[j]? = some r->All2 (C.rel (gm E) ro) y r:=by
  intro j y r h1 h2
  simp only [rs,List.getElem?_map] at h2
  cases hpj:parts.toList[j]? with
  | none=>simp [hpj] at h2
  | some p=>simp only [hpj,Option.map_some,aB] at h2; subst h2; exact hg j p.2 y (by simp [hpj]) h1
 have hrs:∀ r ∈ rs,r.length=i.size:=by
  intro r hr
  obtain ⟨j,hj⟩:=List.mem_iff_getElem?.1 hr
  have hjl:j < l.length:=by rw [hll',<-hrsl]; exact (bT.1 hj).1
  have:=(hall j _ r (b5 hjl) hj).1
  rw [<-this]; exact hlen _ (List.getElem_mem hjl)
 have hflr:rs.flatten.length=len * i.size:=by
  have:∀ (q:List (List Value)),(∀ r ∈ q,r.length=i.size)->q.flatten.length=q.length * i.size:=by
   intro q
   induction q with
   | nil=>intro _; simp
   | cons r q ih=>
    intro h
    have h1:=ih (fun y hy=>h y (by simp [hy]))
    rw [List.flatten_cons,List.length_append,h1,h r (by simp),List.length_cons,Nat.succ_mul]; omega
  rw [this rs hrs,hrsl]
 have hzip:(parts.map fun (x:Nat × Operand)=>(x.1,a.eval x.2)).toList=(List.range' 0 (parts.toList.map fun p=>a.eval p.2).length).zip (parts.toList.map fun p=>a.eval p.2):=by
  rw [<-List.range_eq_range',List.length_map,hpl,<-hp']
  simp [List.zip_map']
 have hfill:=iO (sz:=i.size) (parts.toList.map fun p=>a.eval p.2) rs 0 [] ((Array.range (len * i.size)).map (fun j=>z.cells[j % z.cells.size]!)).toList (by simp [rs]) (by simp) (by simp [hrsl]) hrs
  (fun j v r h1 h2=>by
    simp only [rs,List.getElem?_map] at h1 h2
    cases hpj:parts.toList[j]? with
    | none=>simp [hpj] at h1
    | some p=>
     simp only [hpj,Option.map_some,aB] at h1 h2
     subst h1; subst h2
     simp)
 simp only [List.nil_append,Array.toArray_toList] at hfill
 rw [<-hzip] at hfill
 unfold Oper.wp
 have hrun:(execOp a.eval o).run P w=.ok (.value (.slice (some ⟨w.heap.size,0,none⟩) len len)) (w.alloc (.cells rs.flatten.toArray e)):=by
  have h1:¬ (len * i.size > 2 ^ 24):=by omega
  have h2:¬ (len * i.size=0):=by have:=Nat.mul_pos hl0 hsz; omega
  simp only [execOp,ho,Instr.buildSlice]
  simp only [Sem.run_bind,underlying,run_program,Result.andThen_ok,ht,Sem.run_pure,sizeOf,typeInfo,hi,zeroValue,hz,h1,h2,if_false]
  rw [hfill]
  simp [newRow]
 rw [hrun,Oper.upon_value]
 let g:Gb:=⟨some w.heap.size,true,len,len,e,rs.flatten⟩
 rw [b4] at hv
 have hflat:=fY l rs (by rw [hll',hrsl]) hall
 refine hK (.va (.c1 (.sl E.length l.length))) _ (E ++ [(g,.rowx l e i.size)]) ro _ (by rw [cQ]; exact hv) ⟨g,by simp [gm],rfl,by rw [hll']; exact Nat.le_refl _,⟨_,_,_,rfl⟩,fun _=>by rw [hll']; rfl⟩ (bG _) (Ext.refl _)
  (hr.new (g:=g) (blk:=.rowx l e i.size) (bE w _) (aV w _) rfl rfl rfl (.inr rfl) ⟨rfl,hll'.symm,hlen,⟨by rw [hflr,hll'],.inr ⟨w.heap.size,len,_,by rw [hll']; rfl,Nat.zero_le _,heap_alloc_new w _,by rw [hll']; exact Nat.le_refl _,hlm,?_,?_⟩⟩,?_,fun _ _=>hl0⟩)
 · rw [List.size_toArray,hflr]
 · rw [List.toList_toArray,List.take_of_length_le (by rw [hflr,hll']; exact Nat.le_refl _)]
 · exact hflat.imp fun _ _=>C.rel_mono (bG _) (Ext.refl _)
theorem l0 {t ty e:TypeId} {i:TypeInfo} {z:Value} (ht:P.underlying t=some (.slice e)) (hi:P.info? e=some i) (hz:i.zero=some z) (hzs:z.cells.size=i.size) (hsz:0 < i.size)
 {ob:Option Nat} {n cap:Nat} {xs:List Value} (hown:w.ownsRow 0 e i.size (.slice (aG ob 0) n cap) n xs) {ad:Addr} {m c:Nat} {news:List Value} (hl:news.length=m * i.size)
 (hnews:∀ j u,news[j]? = some u->w.cell? (ad.add j)=some u) (h1:∀ u ∈ news,u.oneCell'=true) (hby:0 < i.bytes) (hbytes:(n + m) * i.bytes<=140737488355328) :
 ∃ ob' cap' w',(Builtin.append_ #[t,t] ty #[.slice (aG ob 0) n cap,.slice (some ad) m c]).run P w=.ok (.slice (aG ob' 0) (n + m) cap') w'/\
  w'.ownsRow 0 e i.size (.slice (aG ob' 0) (n + m) cap') (n + m) (xs ++ news)/\w.heap.size<=w'.heap.size/\w'.os=w.os/\w'.tape=w.tape/\w'.output=w.output/\
  ((ob'=ob/\∀ k,some k ≠ ob->w'.heap[k]? = w.heap[k]?)\/(ob'=some w.heap.size/\∀ k,k < w.heap.size->w'.heap[k]? = w.heap[k]?))/\n + m<=cap'/\(m=0->ob'=ob/\cap'=cap):=by
 have hsm:n + m<=140737488355328:=Nat.le_trans (Nat.le_mul_of_pos_right _ hby) hbytes
 have h63:n + m<=maxLen:=by unfold maxLen; omega
 have hlen:(xs ++ news).length=(n + m) * i.size:=by rw [List.length_append,hown.1,hl,Nat.add_mul]
 have grown:∀ (old:Nat),old < n + m->
  (w.drew.alloc (.cells (xs.toArray ++ news.toArray ++ Builtin.zeroCells z.cells (grownCap w (n + m) old e - (n + m))) e)).ownsRow 0 e i.size
    (.slice (aG (some w.heap.size) 0) (n + m) (grownCap w (n + m) old e)) (n + m) (xs ++ news):=by
  intro old ho
  have hge:=grownCap_ge w (n + m) old e
  have hcm:grownCap w (n + m) old e<=maxLen:=grownCap_le_maxLen w (n + m) old e h63
  refine ⟨hlen,.inr ⟨w.heap.size,_,_,rfl,Nat.zero_le _,heap_alloc_new w.drew _,hge,hcm,?_,?_⟩⟩
  · simp only [Array.size_append,List.size_toArray,size_zeroCells,hzs,hown.1,hl,<-Nat.add_mul]
    congr 1
    omega
  · simp only [Array.toList_append,List.append_assoc]
    rw [<-List.append_assoc,<-hlen]
    exact List.take_left
 have hold:∀ (o:Obj) (k:Nat),k < w.heap.size->(w.drew.alloc o).heap[k]? = w.heap[k]?:=fun o k hk=>RowKit.Below.heap_alloc w.drew o k hk
 rcases hown.2 with ⟨hv,hn⟩ | ⟨g,cap0,cur,hv,hbg,hg,hnc,hcm,hcs,htake⟩
 · simp only [Value.slice.injEq] at hv
   obtain ⟨hob,hn0,hc0⟩:=hv
   have hobn:ob=none:=by cases ob<;>simp [aG] at hob; rfl
   subst hobn hn0 hc0
   have hx:xs=[]:=List.eq_nil_of_length_eq_zero (by simpa using hown.1)
   subst hx
   by_cases hm:m=0
   · subst hm
     have hn':news=[]:=List.eq_nil_of_length_eq_zero (by simpa using hl)
     subst hn'
     refine ⟨none,0,w,?_,World.ownsRow_nil w 0 e i.size,Nat.le_refl _,rfl,rfl,rfl,.inl ⟨rfl,fun _ _=>rfl⟩,Nat.le_refl _,fun _=>⟨rfl,rfl⟩⟩
     simp [Builtin.append_,run_underlying ht,sizeOf,typeInfo,hi,Builtin.lenOf,Builtin.firstCells,loadCells,loadCellsFrom,aG]
   · have hr:=run_append_nil (P:=P) w t ty e i z ht hi hz ad m c news hl hnews (by omega) (by omega) (by have hb:=hbytes; simp only [Nat.zero_add] at hb; omega)
     have hgr:=grown 0 (by omega)
     simp only [Nat.zero_add,List.nil_append,Array.empty_append] at hgr ⊢
     refine ⟨some w.heap.size,_,_,hr,hgr,by simp,rfl,rfl,rfl,.inr ⟨rfl,fun k hk=>hold _ k hk⟩,grownCap_ge w m 0 e,fun h=>absurd h hm⟩
 · simp only [Value.slice.injEq,true_and] at hv
   obtain ⟨hob,rfl⟩:=hv
   have hobg:ob=some g:=by cases ob<;>simp [aG] at hob; rw [hob]
   subst hobg
   by_cases hroom:n + m<=cap
   · have hfit:n * i.size + news.length<=cur.size:=by rw [hl,hcs,<-Nat.add_mul]; exact Nat.mul_le_mul_right _ hroom
     have hr:=run_append_room (P:=P) w t ty e i ht hi g n cap cur hg ad m c news hl hnews h1 hroom hfit
     refine ⟨some g,cap,_,hr,⟨hlen,.inr ⟨g,cap,_,rfl,hbg,setRow_heap w g cur _ e _ hg,hroom,hcm,?_,?_⟩⟩,by simp,rfl,rfl,rfl,.inl ⟨rfl,fun k hk=>setRow_other w g k _ (fun e=>hk (by rw [e]))⟩,hroom,fun _=>⟨rfl,rfl⟩⟩
     · simp only [List.size_toArray,List.length_append,List.length_take,List.length_drop,Array.length_toList]
       omega
     · rw [htake,<-hlen]
       exact List.take_left
   · have holds:∀ j u,xs[j]? = some u->w.cell? ((⟨g,0,none⟩:Addr).add j)=some u:=hown.cells (g:=g) rfl
     have hr:=run_append_grow (P:=P) w t ty e i z ht hi hz ⟨g,0,none⟩ n cap xs hown.1 holds ad m c news hl hnews (by omega) (by omega) (growslice_fits (by omega) hbytes)
     have hgr:=grown cap (by omega)
     exact ⟨some w.heap.size,_,_,hr,hgr,by simp,rfl,rfl,rfl,.inr ⟨rfl,fun k hk=>hold _ k hk⟩,grownCap_ge w (n + m) cap e,fun h=>absurd hnc (by omega)⟩
theorem gF {t u ty e:TypeId} {i:TypeInfo} (ht:P.underlying t=some (.slice e)) (hu:P.underlying u=some .string) (hi:P.info? e=some i) (hz:i.zero=some (.int .u8 0)) (hs1:i.size=1) (hb1:i.bytes=1)
 {ob:Option Nat} {n cap:Nat} {xs:List Value} (hown:w.ownsRow 0 e 1 (.slice (aG ob 0) n cap) n xs) (s:ByteArray) (hm:s.size ≠ 0) (hbytes:n + s.size<=140737488355328) :
 ∃ ob' cap' w',(Builtin.append_ #[t,u] ty #[.slice (aG ob 0) n cap,.string s]).run P w=.ok (.slice (aG ob' 0) (n + s.size) cap') w'/\
  w'.ownsRow 0 e 1 (.slice (aG ob' 0) (n + s.size) cap') (n + s.size) (xs ++ Lib.strCells s)/\w.heap.size<=w'.heap.size/\w'.os=w.os/\w'.tape=w.tape/\w'.output=w.output/\
  ((ob'=ob/\∀ k,some k ≠ ob->w'.heap[k]? = w.heap[k]?)\/(ob'=some w.heap.size/\∀ k,k < w.heap.size->w'.heap[k]? = w.heap[k]?))/\n + s.size<=cap':=by
 have h63:n + s.size<=maxLen:=by unfold maxLen; omega
 have hxl:xs.length=n:=by simpa using hown.1
 have hlen:(xs ++ Lib.strCells s).length=(n + s.size) * 1:=by rw [List.length_append,hxl,Lib.strCells_length,Nat.mul_one]
 have grown:∀ (old:Nat),old < n + s.size->
  (w.drew.alloc (.cells (xs.toArray ++ (Lib.strCells s).toArray ++ Builtin.zeroCells (Value.int .u8 0).cells (grownCap w (n + s.size) old e - (n + s.size))) e)).ownsRow 0 e 1
    (.slice (aG (some w.heap.size) 0) (n + s.size) (grownCap w (n + s.size) old e)) (n + s.size) (xs ++ Lib.strCells s):=by
  intro old ho
  have hge:=grownCap_ge w (n + s.size) old e
  have hcm:grownCap w (n + s.size) old e<=maxLen:=grownCap_le_maxLen w (n + s.size) old e h63
  refine ⟨hlen,.inr ⟨w.heap.size,_,_,rfl,Nat.zero_le _,heap_alloc_new w.drew _,hge,hcm,?_,?_⟩⟩
  · have hz1:(Value.int IntKind.u8 0).cells.size=1:=rfl
    simp only [Array.size_append,List.size_toArray,size_zeroCells,hz1,hxl,Lib.strCells_length]
    omega
  · simp only [Array.toList_append,List.append_assoc]
    rw [<-List.append_assoc,<-hlen]
    exact List.take_left
 have hold:∀ (o:Obj) (k:Nat),k < w.heap.size->(w.drew.alloc o).heap[k]? = w.heap[k]?:=fun o k hk=>RowKit.Below.heap_alloc w.drew o k hk
 rcases hown.2 with ⟨hv,hn⟩ | ⟨g,cap0,cur,hv,hbg,hg,hnc,hcm,hcs,htake⟩
 · simp only [Value.slice.injEq] at hv
   obtain ⟨hob,hn0,hc0⟩:=hv
   have hobn:ob=none:=by cases ob<;>simp [aG] at hob; rfl
   subst hobn hn0 hc0
   have hx:xs=[]:=List.eq_nil_of_length_eq_zero hxl
   subst hx
   have hr:=run_append_nil_string (P:=P) w t u ty e i (.int .u8 0) ht hu hi hz s (by omega) (by omega) (by rw [hb1]; omega)
   have hgr:=grown 0 (by omega)
   simp only [Nat.zero_add,List.nil_append,Array.empty_append] at hgr ⊢
   have e1:(s.data.map fun b=>Value.int .u8 b.toNat)=(Lib.strCells s).toArray:=by
    apply Array.ext'
    simp [Lib.strCells]
   rw [e1] at hr
   exact ⟨some w.heap.size,_,_,hr,hgr,by simp,rfl,rfl,rfl,.inr ⟨rfl,fun k hk=>hold _ k hk⟩,grownCap_ge w s.size 0 e⟩
 · simp only [Value.slice.injEq,true_and] at hv
   obtain ⟨hob,rfl⟩:=hv
   have hobg:ob=some g:=by cases ob<;>simp [aG] at hob; rw [hob]
   subst hobg
   by_cases hroom:n + s.size<=cap
   · have hcs':cur.size=cap:=by simpa using hcs
     have hr:=Lib.run_append_room_string (P:=P) w t u ty e i ht hu hi hs1 g n cap cur hg s hroom (by omega)
     refine ⟨some g,cap,_,hr,⟨hlen,.inr ⟨g,cap,_,rfl,hbg,setRow_heap w g cur _ e _ hg,hroom,hcm,?_,?_⟩⟩,by simp,rfl,rfl,rfl,.inl ⟨rfl,fun k hk=>setRow_other w g k _ (fun e=>hk (by rw [e]))⟩,hroom⟩
     · simp only [List.size_toArray,List.length_append,List.length_take,List.length_drop,Array.length_toList,Lib.strCells_length]
       omega
     · have ht':cur.toList.take n=xs:=by simpa using htake
       rw [ht',<-hlen]
       exact List.take_left
   · have holds:∀ j u,xs[j]? = some u->w.cell? ((⟨g,0,none⟩:Addr).add j)=some u:=hown.cells (g:=g) rfl
     have hr:=Lib.run_append_grow_string (P:=P) w t u ty e i (.int .u8 0) ht hu hi hz ⟨g,0,none⟩ n cap xs (by rw [hs1]; simpa using hxl) holds s (by omega) (by omega) (by rw [hb1]; exact growslice_fits (by omega) (by omega))
     have hgr:=grown cap (by omega)
     exact ⟨some w.heap.size,_,_,hr,hgr,by simp,rfl,rfl,rfl,.inr ⟨rfl,fun k hk=>hold _ k hk⟩,grownCap_ge w (n + s.size) cap e⟩
theorem gG {t u ty e:TypeId} {i:TypeInfo} (ht:P.underlying t=some (.slice e)) (hu:P.underlying u=some .string) (hi:P.info? e=some i) {base:Option Addr} {n cap:Nat} (hn:n<=cap) (s:ByteArray) (hm:s.size=0) :
 (Builtin.append_ #[t,u] ty #[.slice base n cap,.string s]).run P w=.ok (.slice base n cap) w:=by
 have hf:=Lib.run_firstCells_string (P:=P) w i.size s
 have hc:Lib.strCells s=[]:=List.eq_nil_of_length_eq_zero (by rw [Lib.strCells_length]; exact hm)
 rw [hm,hc] at hf
 cases base<;>simp [Builtin.append_,run_underlying ht,run_underlying hu,sizeOf,typeInfo,hi,Builtin.lenOf,hm,hf,hn,storeCells]
theorem mR {t ty e:TypeId} {i:TypeInfo} (ht:P.underlying t=some (.slice e)) (hi:P.info? e=some i) {base sa:Option Addr} {n cap c:Nat} (hn:n<=cap) :
 (Builtin.append_ #[t,t] ty #[.slice base n cap,.slice sa 0 c]).run P w=.ok (.slice base n cap) w:=by
 cases base<;>cases sa<;>simp [Builtin.append_,run_underlying ht,sizeOf,typeInfo,hi,Builtin.lenOf,Builtin.firstCells,loadCells,loadCellsFrom,hn,storeCells]
end
section
variable {P:Program} {o:Oper} {N:Nat} {fr:Fr} {a:Act} {E:Es} {ro:RO} {X:Ctx} {w:World} {R:S->Hp->Prop}
structure Src (P:Program) (a:Act) (ro:RO) (w:World) (t t2 ty e:TypeId) (y:Operand) (ys:List (List C)) (sz bytes:Nat) where
 news:List Value
 hl:news.length=ys.length * sz
 hz:∀ r ∈ ys,r.length=sz
 hsh:e8 ys
 hrel:All2 (C.fv ro) ys.flatten news
 zero:ys=[]->∀ (base:Option Addr) (n cap:Nat),n<=cap->(Builtin.append_ #[t,t2] ty #[.slice base n cap,a.eval y]).run P w=.ok (.slice base n cap) w
 told:ys ≠ []->∀ (ob:Option Nat) (n cap:Nat) (xs:List Value),w.ownsRow 0 e sz (.slice (aG ob 0) n cap) n xs->(n + ys.length) * bytes<=140737488355328->
  ∃ ob' cap' w',(Builtin.append_ #[t,t2] ty #[.slice (aG ob 0) n cap,a.eval y]).run P w=.ok (.slice (aG ob' 0) (n + ys.length) cap') w'/\
   w'.ownsRow 0 e sz (.slice (aG ob' 0) (n + ys.length) cap') (n + ys.length) (xs ++ news)/\w.heap.size<=w'.heap.size/\w'.os=w.os/\w'.tape=w.tape/\w'.output=w.output/\
   ((ob'=ob/\∀ k,some k ≠ ob->w'.heap[k]? = w.heap[k]?)\/(ob'=some w.heap.size/\∀ k,k < w.heap.size->w'.heap[k]? = w.heap[k]?))/\n + ys.length<=cap'
theorem yE {ro:RO} {ys:List (List C)} {news:List Value} (hsh:e8 ys) (hrel:All2 (C.fv ro) ys.flatten news):∀ u ∈ news,u.oneCell'=true:=by
 intro u hu
 obtain ⟨j,hj⟩:=List.mem_iff_getElem?.1 hu
 obtain ⟨c,hc,hr⟩:=hrel.get' hj
 obtain ⟨r,h1,h2⟩:=List.mem_flatten.1 (dL hc)
 obtain ⟨h3,h4⟩:=hsh r h1 c h2
 exact C.one_rel (γ:=[]) h4 ((C.rel_shut h3).2 hr)
def Src.slice {t ty e:TypeId} {y:Operand} {i:TypeInfo} {z:Value} (ht:P.underlying t=some (.slice e)) (hi:P.info? e=some i) (hz0:i.zero=some z) (hzs:z.cells.size=i.size) (hsz:0 < i.size) (hby:0 < i.bytes) {ys:List (List C)}
 (sa:Option Addr) (c:Nat) (news:List Value) (hy:a.eval y=.slice sa ys.length c) (hl:news.length=ys.length * i.size) (hz:∀ r ∈ ys,r.length=i.size) (hsh:e8 ys) (hrel:All2 (C.fv ro) ys.flatten news)
 (hc:∀ ad,sa=some ad->∀ (j:Nat) (u:Value),news[j]? = some u->w.cell? (ad.add j)=some u) (hn:sa=none->ys=[]):Src P a ro w t t ty e y ys i.size i.bytes where
 news:=news
 hl:=hl
 hz:=hz
 hsh:=hsh
 hrel:=hrel
 zero:=fun h base n cap hle=>by
  subst h
  rw [hy]
  exact mR ht hi hle
 told:=fun h ob n cap xs hown hb=>by
  cases hsa:sa with
  | none=>exact absurd (hn hsa) h
  | some ad=>
   obtain ⟨ob',cap',w',hrun,r1,r2,r3,r4,r5,r6,r7,_⟩:=l0 (w:=w) (P:=P) (ty:=ty) (c:=c) ht hi hz0 hzs hsz hown hl (hc ad hsa) (yE hsh hrel) hby hb
   exact ⟨ob',cap',w',by rw [hy,hsa]; exact hrun,r1,r2,r3,r4,r5,r6,r7⟩
theorem vH (l:List C):(l.map fun c=>[c]).flatten=l:=by
 induction l with
 | nil=>rfl
 | cons c l ih=>simp only [List.map_cons,List.flatten_cons,ih]; rfl
theorem wA (l:List Value):All2 (C.fv ro) (l.map C.vl) l:=by
 refine ⟨by simp,fun i x y hx hy=>?_⟩
 rw [List.getElem?_map,hy] at hx
 simp at hx; subst hx; rfl
def Src.str {t u ty e:TypeId} {y:Operand} {i:TypeInfo} (ht:P.underlying t=some (.slice e)) (hu:P.underlying u=some .string) (hi:P.info? e=some i) (hz0:i.zero=some (.int .u8 0)) (hs1:i.size=1) (hb1:i.bytes=1)
 (s:ByteArray) (hy:a.eval y=.string s):Src P a ro w t u ty e y ((bl s).map fun c=>[.vl (.int .u8 c.toNat)]) 1 1 where
 news:=Lib.strCells s
 hl:=by rw [Lib.strCells_length,List.length_map,<-dE,Nat.mul_one]
 hz:=fun r hr=>by
  obtain ⟨c,_,rfl⟩:=List.mem_map.1 hr
  rfl
 hsh:=fun r hr c hc=>by
  obtain ⟨d,_,rfl⟩:=List.mem_map.1 hr
  simp only [List.mem_cons,List.not_mem_nil,or_false] at hc
  subst hc
  exact ⟨rfl,rfl⟩
 hrel:=by
  have e1:((bl s).map fun c=>[C.vl (.int .u8 c.toNat)])=((Lib.strCells s).map C.vl).map fun c=>[c]:=by
   simp only [Lib.strCells,bl,List.map_map]; rfl
  rw [e1,vH]
  exact wA _
 zero:=fun h base n cap hle=>by
  rw [hy]
  refine gG ht hu hi hle s ?_
  rw [dE]
  have:=congrArg List.length h
  simpa using this
 told:=fun h ob n cap xs hown hb=>by
  rw [List.length_map,<-dE] at *
  rw [hy]
  exact gF ht hu hi hz0 hs1 hb1 hown s (fun e=>h (by rw [dE] at e; rw [List.eq_nil_of_length_eq_zero e]; rfl)) (by omega)
theorem mE (hf:FRel N (gm E) ro fr a) (hr:Rel X E ro w) {t t2 e:TypeId} {x y:Operand} (ho:o.op=.call { callee:=.builtin .append,args:=#[x,y],argTypes:=#[t,t2] })
 {ys:List (List C)} {sz bytes:Nat} (s:Src P a ro w t t2 o.type e y ys sz bytes)
 (hv:vA fr (hp E) e sz bytes (aA x) ys R):bQ P o a w X E ro R:=by
 intro next Q hK
 have h1:=aC hf x
 have hshf:∀ c ∈ ys.flatten,c.shut=true:=fun c hc=>by
  obtain ⟨r,h1,h2⟩:=List.mem_flatten.1 hc
  exact (s.hsh r h1 c h2).1
 unfold vA at hv
 split at hv
 · rename_i hx
   obtain ⟨hb,hR⟩:=hv
   rw [hx] at h1
   have h1':a.eval x=.slice none 0 0:=h1
   rw [b4] at hR
   by_cases hm:ys=[]
   · subst hm
     have hrun:(execOp a.eval o).run P w=.ok (.value (.slice none 0 0)) w:=by
      have:=s.zero rfl none 0 0 (Nat.le_refl _)
      simp only [execOp,ho,resolve]
      simp [h1',invoke,builtin,this]
     unfold Oper.wp
     rw [hrun,Oper.upon_value]
     let g:Gb:=⟨none,true,0,0,e,[]⟩
     exact hK (.va (.c1 (.sl E.length 0))) _ (E ++ [(g,.row [] e sz)]) ro _ (by rw [cQ]; exact hR) ⟨g,by simp [gm],rfl,Nat.le_refl _,⟨_,_,_,rfl⟩,fun _=>rfl⟩ (bG _) (Ext.refl _)
      (hr.new (g:=g) (blk:=.row [] e sz) (fun _ _=>rfl) (Nat.le_refl _) rfl rfl rfl (.inl rfl) ⟨rfl,rfl,by simp,by simp,World.ownsRow_nil w 0 e sz,.nil,fun b hb=>by simp [g] at hb⟩)
   · have hown:w.ownsRow 0 e sz (.slice (aG none 0) 0 0) 0 []:=World.ownsRow_nil w 0 e sz
     obtain ⟨ob',cap',w',hrun,hown',hszw,e1,e2,e3,hc,hcap⟩:=s.told hm none 0 0 [] hown (by simpa using hb)
     have hob:ob'=none\/ob'=some w.heap.size:=by rcases hc with ⟨h,_⟩ | ⟨h,_⟩<;>simp [h]
     have hkeep:∀ k,k < w.heap.size->w'.heap[k]? = w.heap[k]?:=by
      rcases hc with ⟨_,h⟩ | ⟨_,h⟩
      · exact fun k _=>h k (by simp)
      · exact h
     unfold Oper.wp
     have hrun2:(execOp a.eval o).run P w=.ok (.value (.slice (aG ob' 0) ys.length cap')) w':=by
      have h3:(none:Option Addr)=aG none 0:=rfl
      simp only [Nat.zero_add] at hrun
      rw [h3] at h1'
      simp only [execOp,ho,resolve,Array.map]
      simp [h1',invoke,builtin,hrun]
     rw [hrun2,Oper.upon_value]
     simp only [Nat.zero_add,List.nil_append] at hown' hcap
     let g:Gb:=⟨ob',true,ys.length,cap',e,s.news⟩
     exact hK (.va (.c1 (.sl E.length ys.length))) _ (E ++ [(g,.row ys e sz)]) ro _ (by rw [cQ]; exact hR) ⟨g,by simp [gm],rfl,Nat.le_refl _,⟨_,_,_,rfl⟩,fun _=>rfl⟩ (bG _) (Ext.refl _)
      (hr.new (g:=g) (blk:=.row ys e sz) hkeep hszw e1 e2 e3 hob ⟨rfl,rfl,s.hz,hshf,hown',s.hrel,fun _ _=>Nat.lt_of_lt_of_le (List.length_pos_iff.2 hm) hcap⟩)
 · rename_i n len hx
   rw [hx] at h1
   split at hv
   case h_2=>exact hv.elim
   rename_i xs T1 sz1 hH
   obtain ⟨⟨hxl,rfl,rfl⟩,hb,hR⟩:=hv
   obtain ⟨g,hE⟩:=aR hH
   obtain ⟨hrow,hglen,hxs1,hxsh,hown,hrel,_⟩:=hr.own n _ _ hE
   obtain ⟨g',k1,k2,k3,k4,k5⟩:=h1
   have:g'=g:=by have:=aQ hE; rw [k1] at this; exact (bB this)
   subst this
   have h1':=k5 (by omega)
   have hlecap:len<=g'.cap:=by
    rcases hown.2 with ⟨hv,hn⟩ | ⟨b,cap0,cur,hv,_,_,hnc,_⟩
    · omega
    · simp only [Value.slice.injEq] at hv; omega
   by_cases hm:ys=[]
   · subst hm
     have hrun:(execOp a.eval o).run P w=.ok (.value (.slice (aG g'.ob 0) len g'.cap)) w:=by
      have:=s.zero rfl (aG g'.ob 0) len g'.cap hlecap
      simp only [execOp,ho,resolve]
      simp [h1',invoke,builtin,this]
     unfold Oper.wp
     rw [hrun,Oper.upon_value]
     simp only [List.append_nil,List.length_nil,Nat.add_zero] at hR
     have hset:(hp E).set n (.row xs T1 sz1)=hp E:=by
      apply List.ext_getElem?
      intro j
      rw [List.getElem?_set]
      split
      · rename_i hj; subst hj; rw [if_pos (bT.1 hH).1,hH]
      · rfl
     rw [hset] at hR
     exact hK _ _ E ro _ hR ⟨g',k1,k2,k3,⟨_,_,_,rfl⟩,fun _=>rfl⟩ (GExt.refl _) (Ext.refl _) hr
   · rw [hxl] at hown
     have hpos:0 < ys.length:=List.length_pos_iff.2 hm
     obtain ⟨ob',cap',w',hrun,hown',hszw,e1,e2,e3,hc,hcap⟩:=s.told hm g'.ob len g'.cap g'.vs hown hb
     unfold Oper.wp
     have hrun2:(execOp a.eval o).run P w=.ok (.value (.slice (aG ob' 0) (len + ys.length) cap')) w':=by
      simp only [execOp,ho,resolve]
      simp [h1',invoke,builtin,hrun]
     rw [hrun2,Oper.upon_value]
     let g2:Gb:=⟨ob',true,len + ys.length,cap',T1,g'.vs ++ s.news⟩
     have hle:g'.le g2:=⟨hrow.symm,.inr ⟨hrow,by show g'.len < len + ys.length; omega⟩⟩
     refine hK (.va (.c1 (.sl n (len + ys.length)))) _ (E.set n (g2,.row (xs ++ ys) T1 sz1)) ro _ (by rw [cR]; exact hR) ⟨g2,?_,rfl,Nat.le_refl _,⟨_,_,_,rfl⟩,fun _=>rfl⟩ (cE hE hle) (Ext.refl _)
      (hr.swap (g':=g2) (blk':=.row (xs ++ ys) T1 sz1) hE rfl hle hszw e1 e2 e3 ⟨rfl,?_,?_,?_,?_,?_,fun _ _=>by show 0 < cap'; omega⟩ hc)
     · simp [gm,(bT.1 hE).1]
     · show len + ys.length=_; rw [List.length_append]; omega
     · intro r hr'
       rcases List.mem_append.1 hr' with hr' | hr'
       · exact hxs1 r hr'
       · exact s.hz r hr'
     · intro c hc
       rw [List.flatten_append] at hc
       rcases List.mem_append.1 hc with hc | hc
       · exact hxsh c hc
       · exact hshf c hc
     · rw [List.length_append,hxl]; exact hown'
     · rw [List.flatten_append]; exact hrel.app s.hrel
 · exact hv.elim
theorem CA (hf:FRel N (gm E) ro fr a) (hr:Rel X E ro w) {t e:TypeId} {x y:Operand} {i:TypeInfo} {z:Value} (ho:o.op=.call { callee:=.builtin .append,args:=#[x,y],argTypes:=#[t,t] })
 (ht:P.underlying t=some (.slice e)) (hi:P.info? e=some i) (hz:i.zero=some z) (hzs:z.cells.size=i.size) (hsz:0 < i.size) (hby:0 < i.bytes)
 (hv:vE fr (hp E) R (.ap e i.size i.bytes (aA x) (aA y))):bQ P o a w X E ro R:=by
 have h2:=aC hf y
 simp only [vE] at hv
 split at hv
 · rename_i m k hy
   rw [hy] at h2
   split at hv
   case h_2=>exact hv.elim
   rename_i ys T2 sz2 hH
   obtain ⟨⟨hk,rfl,hsh⟩,hv⟩:=hv
   obtain ⟨g,hE⟩:=aR hH
   obtain ⟨hrow,hglen,hys1,hysh,hown,hrel,_⟩:=hr.own m _ _ hE
   obtain ⟨g',k1,k2,k3,k4,k5⟩:=h2
   have:g'=g:=by have:=aQ hE; rw [k1] at this; exact (bB this)
   subst this
   have h2':=k5 (by omega)
   subst hk
   refine mE hf hr ho (Src.slice ht hi hz hzs hsz hby (aG g'.ob 0) g'.cap g'.vs h2' hown.1 hys1 hsh hrel (fun ad had=>?_) (fun hn=>?_)) hv
   · cases hob:g'.ob with
     | none=>rw [hob] at had; simp [aG] at had
     | some b=>
      rw [hob] at had hown
      simp only [aG,Option.map_some,aB] at had
      subst had
      exact World.ownsRow.cells (h:=hown) (g:=b) rfl
   · rcases hown.2 with ⟨hv,h0⟩ | ⟨b,cap0,cur,hv,_⟩
     · exact List.eq_nil_of_length_eq_zero h0
     · rw [hn] at hv; simp at hv
 · rename_i ys hy
   rw [hy] at h2
   obtain ⟨⟨hys,hsh⟩,hv⟩:=hv
   have h2':FzR ro ys (a.eval y):=h2
   generalize hev:a.eval y=v at h2'
   obtain ⟨_,sz',ob,oa,koa,cap,vs,k1,k2,k3,k4,k5,k6,k7⟩:=h2'
   refine mE hf hr ho (Src.slice ht hi hz hzs hsz hby oa cap ((List.range ys.flatten.length).map vs) hev (by rw [List.length_map,List.length_range,cD _ hys]) hys hsh ⟨by simp,fun j c u h1 h2=>?_⟩ (fun ad had j u hu=>?_) (fun hn=>?_)) hv
   · have hj:j < ys.flatten.length:=(bT.1 h1).1
     rw [List.getElem?_map,List.getElem?_range hj] at h2
     simp only [Option.map_some,aB] at h2
     subst h2
     have hs:=k7 c (dL h1)
     cases c with
     | vl u=>exact k5 _ u h1
     | fz zs=>exact k6 _ zs h1
     | _=>simp [C.shut] at hs
   · have hj:j < ys.flatten.length:=by have:=(bT.1 hu).1; simpa using this
     rw [koa (fun e=>by subst e; simp at hj)] at had
     cases ob with
     | none=>simp [kV] at had
     | some p=>
      simp only [kV,Option.map_some,aB,Nat.add_zero] at had
      subst had
      rw [List.getElem?_map,List.getElem?_range hj] at hu
      simp only [Option.map_some,aB] at hu
      subst hu
      rw [bP]
      exact hr.rd _ _ _ (by simpa using k4 j _ (b5 hj))
   · by_cases hne:ys=[]
     · exact hne
     · rw [koa hne] at hn
       cases ob with
       | none=>have:=k3 hne; simp at this
       | some p=>simp [kV] at hn
 · rename_i u c hy
   rw [hy] at h2
   have h2':a.eval y=.slice u 0 c:=h2
   exact mE hf hr ho (Src.slice ht hi hz hzs hsz hby (ys:=[]) u c [] h2' (by simp) (by simp) (fun r hr=>by simp at hr) .nil (fun ad _ j u hu=>by simp at hu) (fun _=>rfl)) hv
 · exact hv.elim
theorem AX (hf:FRel N (gm E) ro fr a) (hr:Rel X E ro w) {t u e:TypeId} {x y:Operand} {i:TypeInfo} (ho:o.op=.call { callee:=.builtin .append,args:=#[x,y],argTypes:=#[t,u] })
 (ht:P.underlying t=some (.slice e)) (hu:P.underlying u=some .string) (hi:P.info? e=some i) (hz:i.zero=some (.int .u8 0)) (hs1:i.size=1) (hb1:i.bytes=1)
 (hv:vE fr (hp E) R (.aps e (aA x) (aA y))):bQ P o a w X E ro R:=by
 have h2:=aC hf y
 simp only [vE] at hv
 split at hv
 · rename_i s hy
   rw [hy] at h2
   exact mE hf hr ho (Src.str ht hu hi hz hs1 hb1 s h2) hv
 · exact hv.elim
theorem B3 (hf:FRel N (gm E) ro fr a) (hr:Rel X E ro w) {t t' e:TypeId} {x y:Operand} (ho:o.op=.call { callee:=.builtin .unsafeString,args:=#[x,y],argTypes:=#[t,t'] })
 (ht:P.underlying t=some (.pointer e)) (hce:P.cellsOf e=1) (hv:vE fr (hp E) R (.us e (aA x) (aA y))):bQ P o a w X E ro R:=by
 intro next Q hK
 have h1:=aC hf x; have h2:=aC hf y
 simp only [vE] at hv
 split at hv
 case h_2=>exact hv.elim
 rename_i n len k hx hy
 rw [hx] at h1; rw [hy] at h2
 have h2':a.eval y=.int .i64 k:=h2
 split at hv<;>try exact hv.elim
 rename_i xs T sz hH
 obtain ⟨⟨rfl,rfl,hlen,rfl,hby,hbig⟩,hR⟩:=hv
 obtain ⟨g,hE⟩:=aR hH
 obtain ⟨hrow,hgl,hz,hsh,hown,hrel,_⟩:=hr.own n g _ hE
 obtain ⟨g',k1,k2,k3,_,k5⟩:=h1
 have:g'=g:=by have:=aQ hE; rw [k1] at this; exact (bB this)
 subst this
 have h1':=k5 (by omega)
 let l:=lJ xs
 have hll:l.length=len:=by simp [l,lJ,hlen]
 have hcells:∀ (j:Nat) (c:UInt8),l[j]? = some c->g'.vs[j]? = some (.int .u8 c.toNat):=by
  intro j c hj
  have hj2:j < xs.length:=by have:=(bT.1 hj).1; omega
  obtain ⟨c',hc'⟩:=hby _ (List.getElem_mem hj2)
  have hjc:l[j]? = some c':=by
   simp only [l,lJ,List.getElem?_map,b5 hj2,Option.map_some,hc']
   simp [C.gi]
  rw [hjc] at hj
  simp only [aB] at hj
  subst hj
  have hfl:xs.flatten[j]? = some (.vl (.int .u8 c'.toNat)):=by
   have:=dU hz (i:=j) (j:=0) hj2 (by omega)
   simp only [Nat.mul_one,Nat.add_zero] at this
   rw [this,b5 hj2,hc']
   rfl
  obtain ⟨u,hu,hrr⟩:=hrel.get hfl
  have hrr':u=.int .u8 c'.toNat:=hrr
  rw [hu,hrr']
 have dead:∀ {w':World},w.heap.size<=w'.heap.size->w'.os=w.os->w'.tape=w.tape->w'.output=w.output->(∀ k,some k ≠ g'.ob->w'.heap[k]? = w.heap[k]?)->Rel X (E.set n (g',.dead)) ro w':=
  fun h1 h2 h3 h4 h5=>hr.swap (g':=g') (blk':=.dead) hE rfl g'.le_refl h1 h2 h3 h4 trivial (.inl ⟨rfl,h5⟩)
 have fin:∀ {w':World},(execOp a.eval o).run P w=.ok (.value (.string (mk l))) w'->w.heap.size<=w'.heap.size->w'.os=w.os->w'.tape=w.tape->w'.output=w.output->(∀ k,some k ≠ g'.ob->w'.heap[k]? = w.heap[k]?)->o.wp P a w next Q:=by
  intro w' hrun h1 h2 h3 h4 h5
  unfold Oper.wp
  rw [hrun,Oper.upon_value]
  exact hK (tS (mk l)) _ (E.set n (g',.dead)) ro w' (by rw [cR]; exact hR) rfl (cE hE g'.le_refl) (Ext.refl _) (dead h1 h2 h3 h4 h5)
 by_cases h0:len=0
 · subst h0
   have hl0:l=[]:=List.eq_nil_of_length_eq_zero hll
   refine fin (w':=w) ?_ (Nat.le_refl _) rfl rfl rfl (fun _ _=>rfl)
   have hr0:∀ (p:Option Addr),(Builtin.unsafeString_ #[t,t'] o.type #[.pointer p,.int .i64 0]).run P w=.ok (.string .empty) w:=fun p=>by cases p<;>rfl
   simp only [execOp,ho,resolve]
   simp [h1',h2',invoke,builtin,hr0,hl0]
   rfl
 · cases hob:g'.ob with
   | none=>
    rw [hob] at hown
    rcases hown.2 with ⟨_,h⟩ | ⟨b,c',cur,hv,_⟩
    · omega
    · simp [aG] at hv
   | some b=>
    rw [hob] at hown h1'
    rcases hown.2 with ⟨hv,_⟩ | ⟨b2,cap,cur,hv,_,hh,hnc,_,hcs,_⟩
    · simp [aG] at hv
    · simp only [aG,Option.map_some,Value.slice.injEq,aB,Addr.mk.injEq,true_and,and_true] at hv
      obtain ⟨rfl,hcap⟩:=hv
      have hcell:∀ (j:Nat) (c:UInt8),l[j]? = some c->w.cell? ((⟨b,0,none⟩:Addr).add j)=some (.int .u8 c.toNat):=fun j c hj=>World.ownsRow.cells (h:=hown) (g:=b) rfl j _ (hcells j c hj)
      have hus:=Lib.run_unsafeString_row (P:=P) w t t' o.type _ ht hce b cur.size (by simp [World.shape?,hh]) l (fun e=>h0 (by rw [<-hll,e]; rfl)) (by rw [hll,hcs]; omega) (by omega) hcell
      refine fin (w':=w.freeze ⟨b,0,none⟩ l.length) ?_ ?_ ?_ ?_ ?_ ?_
      · rw [hll] at hus
        simp only [execOp,ho,resolve]
        simp only [Array.map,aG,Option.map_some] at h1' ⊢
        simp [h1',h2',invoke,builtin,hus,hll]
        rfl
      · unfold World.freeze; split<;>simp
      · unfold World.freeze; split<;>rfl
      · unfold World.freeze; split<;>rfl
      · unfold World.freeze; split<;>rfl
      · intro k hk
        rw [hob] at hk
        unfold World.freeze
        split
        · rfl
        · simp only [Array.getElem?_modify]
          rw [if_neg (fun e=>hk (by rw [e]))]
theorem B7 (hr:Rel X E ro w) {t kt et:TypeId} {kd:TypeDesc} (ho:o.op=.makeMap t none) (hv:vE fr (hp E) R (.mm kd)):bQ P o a w X E ro R:=by
 intro next Q hK
 simp only [vE] at hv
 unfold Oper.wp
 have hrun:(execOp a.eval o).run P w=.ok (.value (.map (some w.heap.size))) (w.alloc (.map #[] 0)):=by
  simp [execOp,ho,Instr.makeMap]
 rw [hrun,Oper.upon_value]
 let g:Gb:=⟨some w.heap.size,false,0,0,0,[]⟩
 rw [b4] at hv
 refine hK (.va (.c1 (.mp E.length))) _ (E ++ [(g,.map kd [] [])]) ro _ (by rw [cQ]; exact hv) ⟨g,w.heap.size,by simp [gm],rfl,rfl,rfl⟩ (bG _) (Ext.refl _) (hr.new (g:=g) (blk:=.map kd [] []) (bE w _) (aV w _) rfl rfl rfl (.inr rfl) ⟨rfl,fun k hk=>(by cases hk),.nil,w.heap.size, #[],0,rfl,?_,rfl,rfl⟩)
 rw [heap_alloc_new]
theorem uV {α β:Type} {R:α->β->Prop} {l:List α} {m:List β} (h:All2 R l m) (j:Nat) {x:α} {y:β} (hxy:R x y):All2 R (l.set j x) (m.set j y):=by
 refine ⟨by simp [h.1],fun i a b ha hb=>?_⟩
 rw [List.getElem?_set] at ha hb
 split at ha
 · rename_i hj
   rw [if_pos hj] at hb
   split at ha
   · split at hb
     · cases ha; cases hb; exact hxy
     · cases hb
   · cases ha
 · rename_i hj
   rw [if_neg hj] at hb
   exact h.2 i a b ha hb
theorem CV (hf:FRel N (gm E) ro fr a) (hr:Rel X E ro w) {t kt et:TypeId} {kd:TypeDesc} {x k y:Operand} (ho:o.op=.mapUpdate t x k y) (ht:P.underlying t=some (.map kt et)) (hkt:P.underlying kt=some kd)
 (hv:vE fr (hp E) R (.mu kd (aA x) (aA k) (aA y))):bQ P o a w X E ro R:=by
 intro next Q hK
 have h1:=aC hf x; have h2:=aC hf k; have h3:=aC hf y
 simp only [vE] at hv
 split at hv<;>try exact hv.elim
 rename_i n q v hx hk hy
 rw [hx] at h1; rw [hk] at h2; rw [hy] at h3
 have h2':a.eval k=q:=h2
 have h3':v.rel (gm E) ro (a.eval y):=h3
 split at hv<;>try exact hv.elim
 rename_i kd' ks vs hH
 obtain ⟨⟨rfl,hq⟩,hR⟩:=hv
 obtain ⟨g,b,hE,hb,hxv,hks,hvs⟩:=pW hr h1 hH
 obtain ⟨hrow,_,_,b',es,clock,hb',hh,hes,hev⟩:=hr.own n g _ hE
 rw [hb] at hb'
 simp only [aB] at hb'
 subst hb'
 have hmem:∀ e ∈ es.toList,MapKept.IsKey kd' e.key:=fun e he=>hks _ (by rw [<-hes]; exact List.mem_map.2 ⟨e,he,rfl⟩)
 unfold Oper.wp
 have fin:∀ (es':Array MapEntry) (clock':Nat),(execOp a.eval o).run P w=.ok .skip { w with heap:=w.heap.setIfInBounds b (.map es' clock') }->es'.toList.map (·.key)=jW ks q->
  (∃ vs',es'.toList.map (·.val)=vs'/\All2 (A.rel (gm E) ro) (mI ks vs q v) vs')->o.upon P a next Q ((execOp a.eval o).run P w):=by
  intro es' clock' hrun hk' hv'
  obtain ⟨vs',hev',hvs'⟩:=hv'
  rw [hrun,Oper.upon_skip]
  have hset:=MapKept.heap_set (o':=Obj.map es' clock') hh
  refine hK .un undef (E.set n ({ g with vs:=vs' },.map kd' (jW ks q) (mI ks vs q v))) ro _ (by rw [cR]; exact hR) trivial (cE hE ⟨rfl,.inl ⟨rfl,rfl,rfl⟩⟩) (Ext.refl _)
   (hr.swap hE rfl ⟨rfl,.inl ⟨rfl,rfl,rfl⟩⟩ (by simp) rfl rfl rfl ⟨hrow,fun k' hk''=>?_,?_,b,es',clock',hb,hset.1,hk',hev'⟩ (.inl ⟨rfl,fun k' hk''=>hset.2 k' fun e=>hk'' (by rw [hb,e])⟩))
  · unfold jW at hk''
    split at hk''
    · exact hks k' hk''
    · rcases List.mem_append.1 hk'' with h | h
      · exact hks k' h
      · rw [List.mem_singleton.1 h]; exact hq
  · exact hvs'.imp fun _ _=>A.rel_mono (cE (g':={ g with vs:=vs' }) hE ⟨rfl,.inl ⟨rfl,rfl,rfl⟩⟩) (Ext.refl _)
 rcases eT hq es.toList hmem 0 with ⟨h4,h5⟩ | ⟨j,e,h4,h5,h6,h7⟩
 · rw [hes] at h4
   refine fin (es.push { key:=q,val:=a.eval y,born:=clock }) (clock + 1) ?_ ?_ ⟨_,rfl,?_⟩
   · simp [execOp,ho,hxv,h2',Instr.mapUpdate,run_underlying ht,MapKept.run_getObj_map hh,MapKept.run_checkKey hkt hq,MapKept.run_findKey hkt h5,MapKept.run_setObj_map _ hh,Result.andThen]
   · unfold jW; rw [h4]; simp [<-hes]
   · unfold mI; rw [h4]
     simp only [Array.toList_push,List.map_append,List.map_cons,List.map_nil,hev]
     exact hvs.app (.cons h3' .nil)
 · rw [hes] at h4
   have hj:es[j]? = some e:=by simpa using h5
   refine fin (es.modify j fun e=>{ e with key:=q,val:=a.eval y }) clock ?_ ?_ ⟨_,rfl,?_⟩
   · simp [execOp,ho,hxv,h2',Instr.mapUpdate,run_underlying ht,MapKept.run_getObj_map hh,MapKept.run_checkKey hkt hq,MapKept.run_findKey hkt h7,hj,h6,MapKept.run_keyThatStays hq,MapKept.run_setObj_map _ hh,Result.andThen]
   · unfold jW; rw [h4]
     simp only
     rw [<-hes]
     refine List.ext_getElem? fun i=>?_
     simp only [List.getElem?_map,Array.getElem?_toList,Array.getElem?_modify]
     split
     · rename_i hji; subst hji; rw [hj]; simp [h6]
     · rfl
   · unfold mI; rw [h4]
     simp only
     have e1:(es.modify j fun e=>{ e with key:=q,val:=a.eval y }).toList.map (·.val)=(es.toList.map (·.val)).set j (a.eval y):=by
      refine List.ext_getElem? fun i=>?_
      simp only [List.getElem?_map,Array.getElem?_toList,Array.getElem?_modify,List.getElem?_set,List.length_map,Array.length_toList]
      split
      · rename_i hji
        subst hji
        have:=(Array.getElem?_eq_some_iff.1 hj).1
        rw [hj]; simp [this]
      · rfl
     rw [e1,hev]
     exact uV hvs j h3'
theorem tN (hf:FRel N (gm E) ro fr a) (hr:Rel X E ro w) {i:EI} (hi:iY P o.op=some i) (hv:vE fr (hp E) R i.ext) (hna:∀ T sz b x y,i ≠ .ap T sz b x y) (hall:∀ j,iY P o.op=some j->vE fr (hp E) R j->bQ P o a w X E ro R):bQ P o a w X E ro R:=by
 cases i
 case ap T sz b x y=>exact absurd rfl (hna T sz b x y)
 case bsl e sz xs=>
  cases ho:o.op<;>rw [ho] at hi<;>simp only [iY,reduceCtorEq,aB] at hi
  case store t x y=>split at hi<;>simp at hi
  case alloc t=>split at hi<;>simp at hi
  case makeMap t r=>
   split at hi
   · cases hi
   · split at hi<;>simp at hi
  case makeSlice t x y=>
   split at hi<;>try (cases hi; done)
   split at hi<;>try (cases hi; done)
   split at hi<;>try (cases hi; done)
   split at hi<;>simp at hi
  case mapUpdate t m k v=>split at hi<;>simp at hi
  case buildSlice t len parts=>
   split at hi<;>try (cases hi; done)
   rename_i e' ht
   split at hi<;>try (cases hi; done)
   rename_i inf hinf
   split at hi<;>try (cases hi; done)
   rename_i z hz
   split at hi<;>simp only [aB,reduceCtorEq,EI.bsl.injEq] at hi
   rename_i hc
   obtain ⟨c1,c2,c3,c4,c5,c6⟩:=hc
   obtain ⟨rfl,rfl,rfl⟩:=hi
   exact zF hf hr ho ht hinf hz c1 c2 c3 c4 c5 c6 hv
  case call c=>
   obtain ⟨cl,args,ats⟩:=c
   simp only at hi
   split at hi
   · split at hi<;>try (cases hi; done)
     split at hi<;>try (cases hi; done)
     split at hi<;>try (cases hi; done)
     split at hi
     · simp at hi
     · split at hi<;>try (cases hi; done)
       split at hi<;>simp at hi
   · split at hi<;>try (cases hi; done)
     split at hi<;>try (cases hi; done)
     split at hi<;>simp at hi
   · cases hi
 all_goals exact hall _ hi hv
theorem sJ (hf:FRel N (gm E) ro fr a) (hr:Rel X E ro w) {i:EI} (hi:iY P o.op=some i) (hv:vE fr (hp E) R i):bQ P o a w X E ro R:=by
 cases ho:o.op<;>rw [ho] at hi<;>simp only [iY,reduceCtorEq,aB] at hi
 case alloc t=>
  split at hi<;>simp only [aB,reduceCtorEq] at hi
  rename_i z hz
  subst hi
  cases hinf:P.info? t with
  | none=>simp [hinf] at hz
  | some inf=>simp only [hinf,Option.map_some,aB] at hz; exact CR hr ho hinf hz hv
 case box t x=>subst hi; exact CX hf hr ho hv
 case makeSlice t x y=>
  split at hi<;>try (cases hi; done)
  rename_i e ht
  split at hi<;>try (cases hi; done)
  rename_i inf hinf
  split at hi<;>try (cases hi; done)
  rename_i z hz
  split at hi<;>simp only [aB,reduceCtorEq] at hi
  rename_i hc
  subst hi
  exact B9 hf hr ho ht hinf hz hc.1 hc.2 hv
 case makeMap t r=>
  split at hi
  · cases hi
  · rename_i hrn
    cases r with
    | some r=>simp at hrn
    | none=>
     split at hi
     · rename_i k e ht
       simp only [Option.map_eq_some_iff] at hi
       obtain ⟨kd,hk,rfl⟩:=hi
       exact B7 (kt:=k) (et:=e) hr ho hv
     · cases hi
 case mapUpdate t m k v=>
  split at hi
  · rename_i kt e ht
    simp only [Option.map_eq_some_iff] at hi
    obtain ⟨kd,hk,rfl⟩:=hi
    exact CV hf hr ho ht hk hv
  · cases hi
 case store t x y=>
  split at hi<;>simp only [aB,reduceCtorEq] at hi
  rename_i n h1 hn
  subst hi; exact CE hf hr ho hn hv
 case buildSlice t len parts=>
  split at hi<;>try (cases hi; done)
  rename_i e ht
  split at hi<;>try (cases hi; done)
  rename_i inf hinf
  split at hi<;>try (cases hi; done)
  rename_i z hz
  split at hi<;>simp only [aB,reduceCtorEq] at hi
  rename_i hc
  obtain ⟨c1,c2,c3,c4,c5,c6⟩:=hc
  subst hi
  exact BK hf hr ho ht hinf hz c1 c2 c3 c4 c5 c6 hv
 case call c=>
  obtain ⟨cl,args,ats⟩:=c
  simp only at hi
  split at hi
  · rename_i x y t t' ha hat
    obtain rfl:args=#[x,y]:=by rw [<-Array.toArray_toList (xs:=args),ha]
    obtain rfl:ats=#[t,t']:=by rw [<-Array.toArray_toList (xs:=ats),hat]
    split at hi<;>try (cases hi; done)
    rename_i e ht
    split at hi<;>try (cases hi; done)
    rename_i inf hinf
    split at hi<;>try (cases hi; done)
    rename_i z hz
    split at hi
    · rename_i hc
      simp only [aB] at hi
      obtain ⟨c1,c2,rfl,c4⟩:=hc
      subst hi
      exact CA hf hr ho ht hinf hz c1 c2 c4 hv
    · split at hi<;>try (cases hi; done)
      rename_i hc
      obtain ⟨c1,c2,c3⟩:=hc
      split at hi<;>simp only [aB,reduceCtorEq] at hi
      rename_i hu
      subst hi
      exact AX hf hr ho ht hu hinf (by rw [hz,x7 c1]) c2 c3 hv
  · rename_i x y t t' ha hat
    obtain rfl:args=#[x,y]:=by rw [<-Array.toArray_toList (xs:=args),ha]
    obtain rfl:ats=#[t,t']:=by rw [<-Array.toArray_toList (xs:=ats),hat]
    split at hi<;>try (cases hi; done)
    rename_i e ht
    split at hi<;>try (cases hi; done)
    split at hi<;>simp only [aB,reduceCtorEq] at hi
    rename_i hce
    subst hi
    exact B3 hf hr ho ht hce hv
  · cases hi
end
abbrev nJ:=List S->Hp->(S->Hp->Prop)->Prop
def A.flat:A->Prop
 | .c1 (.vl _)=>True
 | .gs cs=>∀ c ∈ cs,∃ v,c=.vl v
 | _=>False
structure Fun where
 pre:List S->Prop
 val:List S->A
 flat:∀ az,pre az->(val az).flat
def Fun.sp (p:Fun):nJ:=fun xs H K=>(p.pre xs/\H=[])/\K (.va (p.val xs)) []
structure Entry where
 sp:nJ
 fn:Option Fun
def Entry.s (s:nJ):Entry:=⟨s,none⟩
def Entry.f (p:Fun):Entry:=⟨p.sp,some p⟩
abbrev bU:=List (FuncId × Entry)
inductive I where
 | q (i:QI)
 | ix (x y:O)
 | l (i:LI)
 | e (i:EI)
 | pick (c x y:O)
 | cl (f:FuncId) (xs:List O) (σ:List Nat)
 | ca (x:O) (xs:List O) (σ:List Nat)
 | cq (f:FuncId) (xs:List O)
structure J where
 d:Option Nat
 g:Option (Nat × Bool)
 i:I
inductive OJ where
 | q (j:J)
 | m (j:J)
 | rc (j:J)
 | fk (a b:J) (ra rb:List J)
inductive PC where
 | skip
 | seq (x y:PC)
 | reg (js:List J)
 | ord (l:List OJ)
 | cond (o:O) (x y:PC)
 | block (id:Nat) (x:PC)
 | loop (x:PC)
 | exit (id:Nat)
 | ret
 | gh (x:PC)
 | no
inductive Ex where
 | n
 | e (id:Nat)
 | r
def O.sl:O->List Nat
 | .t i=>[i]
 | _=>[]
def O.sls:List O->List Nat
 | []=>[]
 | o :: r=>o.sl ++ O.sls r
def O.slo:Option O->List Nat
 | none=>[]
 | some o=>o.sl
def O.slp:List (Nat × Nat × O)->List Nat
 | []=>[]
 | (_,_,o) :: r=>o.sl ++ O.slp r
def QI.sl:QI->List Nat
 | .mv x | .not x | .neg _ x | .cvt _ x | .fa _ x | .fld1 _ x | .fldn _ _ x | .lnS x | .lnL x | .ex x _ | .nc x=>x.sl
 | .b2s x | .cu x | .c4u _ _ x | .usd x=>x.sl
 | .bin _ _ x y | .eqB _ x y | .eqP _ x y | .eqT _ _ x y=>x.sl ++ y.sl
 | .bd _ ps=>O.slp ps
 | .mf _ xs | .mh _ xs=>O.sls xs
 | .mx _ x y | .ixa _ x y=>x.sl ++ y.sl
 | .ss x lo hi=>x.sl ++ (O.slo lo ++ O.slo hi)
 | .sf _ x lo hi=>x.sl ++ (O.slo lo ++ O.slo hi)
def LI.sl:LI->List Nat
 | .ia _ x y=>x.sl ++ y.sl
 | .ld1 x=>x.sl
 | .ldn _ x=>x.sl
 | .lk _ _ _ x k=>x.sl ++ k.sl
 | .lm x=>x.sl
def EI.sl:EI->List Nat
 | .st _ x y=>x.sl ++ y.sl
 | .al _ _=>[]
 | .bx _ x=>x.sl
 | .bsl _ _ xs=>O.sls xs
 | .bslx _ _ xs=>O.sls xs
 | .ap _ _ _ x y=>x.sl ++ y.sl
 | .apz _ _ _ x y=>x.sl ++ y.sl
 | .us _ x y=>x.sl ++ y.sl
 | .aps _ x y=>x.sl ++ y.sl
 | .mm _=>[]
 | .mk _ _ _ _ x y=>x.sl ++ y.sl
 | .mu _ x k y=>x.sl ++ (k.sl ++ y.sl)
def S.st:S->S
 | .cn _ a=>.va a
 | s=>s
def S.gd:S->Prop
 | .cn g _=>g=true
 | _=>True
def fst (fr:Fr):Fr:=fun i=>(fr i).st
def aK (fr:Fr):List Nat->Prop
 | []=>True
 | i :: r=>(fr i).gd/\aK fr r
def S.cnd (g:Bool):S->S
 | .va a=>.cn g a
 | _=>.un
def gv (fr:Fr) (sl:Nat) (want:Bool):Option Bool:=
 match fr sl with
 | .va (.c1 (.vl (.bool b)))=>some (b == want)
 | .cn g (.c1 (.vl (.bool b)))=>some (g && (b == want))
 | .cn false _=>some false
 | _=>none
def gX (b:Bool):A->A->A
 | .c1 (.vl (.bool x)),.c1 (.vl (.bool y))=>.c1 (.vl (.bool (bif b then x else y)))
 | x,y=>bif b then x else y
def dum:S:=.cn false (.c1 .no)
def cK (fr:Fr) (sl:Nat) (want:Bool):Fr:=put fr (some sl) (bS want)
def fW (fr:Fr) (sl:Nat) (want:Bool):Fr:=
 match fr sl with
 | .va (.c1 (.vl (.bool _)))=>put fr (some sl) (bS (!want))
 | _=>fr
def C.ren0 (f:Nat->Option Nat):C->C
 | .pt n off=>match f n with | some m=>.pt m off | none=>.no
 | .sl n l=>match f n with | some m=>.sl m l | none=>.no
 | .qt n l sz i j=>match f n with | some m=>.qt m l sz i j | none=>.no
 | .dp n l=>match f n with | some m=>.dp m l | none=>.no
 | .mp n=>match f n with | some m=>.mp m | none=>.no
 | c=>c
def C.ren (f:Nat->Option Nat):C->C
 | .pt n off=>match f n with | some m=>.pt m off | none=>.no
 | .sl n l=>match f n with | some m=>.sl m l | none=>.no
 | .qt n l sz i j=>match f n with | some m=>.qt m l sz i j | none=>.no
 | .dp n l=>match f n with | some m=>.dp m l | none=>.no
 | .mp n=>match f n with | some m=>.mp m | none=>.no
 | .fn g cs=>.fn g (cs.map fun x=>(x.1,x.2.map (C.ren0 f)))
 | c=>c
def A.ren (f:Nat->Option Nat):A->A
 | .c1 c=>.c1 (c.ren f)
 | .gs cs=>.gs (cs.map (C.ren f))
def S.ren (f:Nat->Option Nat):S->S
 | .va a=>.va (a.ren f)
 | .tu l=>.tu (l.map (A.ren f))
 | .cn g a=>.cn g (a.ren f)
 | .un=>.un
def B.ren (f:Nat->Option Nat):B->B
 | .cells cs T=>.cells (cs.map (C.ren f)) T
 | .row xs T sz=>.row xs T sz
 | .rowx xs T sz=>.rowx (xs.map fun r=>r.map (C.ren f)) T sz
 | .map kd ks vs=>.map kd ks (vs.map (A.ren f))
 | .dead=>.dead
def dB:List Nat->Nat->Option Nat
 | [],_=>none
 | m :: σ,n=>if m=n then some 0 else (dB σ n).map (· + 1)
def back (σ:List Nat) (L:Nat) (j:Nat):Option Nat:=match σ[j]? with | some n=>some n | none=>some (L + (j - σ.length))
def kS (k:Nat) (n:Nat):Option Nat:=if n < k then some n else none
def jV (H:Hp) (σ:List Nat):Hp:=σ.map fun n=>H.getD n .dead
def gP:List Nat->Hp->Hp->Hp
 | [],H,H'=>H ++ H'
 | n :: σ,H,H'=>gP σ (H.set n (H'.headD .dead)) H'.tail
def sp (Γ:bU) (f:FuncId):nJ:=fun az H K=>
 match Γ with
 | []=>False
 | (g,s) :: r=>if g=f then s.sp az H K else sp r f az H K
def kY (Γ:bU) (f:FuncId):Option Fun:=
 match Γ with
 | []=>none
 | (g,s) :: r=>if g=f then s.fn else kY r f
def A.nf:A->A
 | .c1 c=>.c1 c.nf
 | .gs cs=>.gs (cs.map C.nf)
def S.nf:S->S
 | .va a=>.va a.nf
 | .tu l=>.tu (l.map A.nf)
 | .cn g a=>.cn g a.nf
 | .un=>.un
def C.bor0 (H:Hp):C->C
 | .sl n l=>match H[n]? with
  | some (.row xs _ _)=>if l=xs.length then .fz xs else .no
  | _=>.no
 | .pt _ _ | .qt _ _ _ _ _ | .dp _ _ | .mp _=>.no
 | c=>c
def C.bor (H:Hp):C->C
 | .sl n l=>match H[n]? with
  | some (.row xs _ _)=>if l=xs.length then .fz xs else .no
  | _=>.no
 | .pt _ _ | .qt _ _ _ _ _ | .dp _ _ | .mp _=>.no
 | .fn g cs=>.fn g (cs.map fun x=>(x.1,x.2.map (C.bor0 H)))
 | c=>c
def A.bor (H:Hp):A->A
 | .c1 c=>.c1 (c.bor H)
 | .gs cs=>.gs (cs.map (C.bor H))
def S.bor (H:Hp):S->S
 | .va a=>.va (a.bor H)
 | _=>.un
def u4:C:=.vl (.slice none 0 0)
inductive Gh (k0:Nat) (Q:Fr->Hp->Prop):Fr->Hp->Prop
 | done {fr:Fr} {H:Hp}:Q fr H->Gh k0 Q fr H
 | wk {fr:Fr} {H:Hp} (fr':Fr):(∀ i,fr' i=fr i\/fr' i=.un)->Gh k0 Q fr' H->Gh k0 Q fr H
 | cut {fr:Fr} {H:Hp} (k:Nat):k0<=k->Gh k0 Q (fun i=>(fr i).ren (kS k)) ((H.take k).map (B.ren (kS k)))->Gh k0 Q fr H
 | sel {fr:Fr} {H:Hp} (ns:List Nat):ns.Nodup->(∀ n ∈ ns,n < H.length)->ns.take k0=List.range k0->Gh k0 Q (fun i=>(fr i).ren (dB ns)) ((jV H ns).map (B.ren (dB ns)))->Gh k0 Q fr H
 | kill {fr:Fr} {H:Hp} (n:Nat):Gh k0 Q fr (H.set n .dead)->Gh k0 Q fr H
 | nil {fr:Fr} {H:Hp} (sl T sz:Nat):fr sl=.va (.c1 u4)->Gh k0 Q (put fr (some sl) (.va (.c1 (.sl H.length 0)))) (H ++ [.row [] T sz])->Gh k0 Q fr H
 | nilc {fr:Fr} {H:Hp} (nm k T sz:Nat) (cs:List C) (T':TypeId):H[nm]? = some (.cells cs T')->cs[k]? = some u4->Gh k0 Q fr (H.set nm (.cells (cs.set k (.sl H.length 0)) T') ++ [.row [] T sz])->Gh k0 Q fr H
 | nf {fr:Fr} {H:Hp} (sl:Nat):Gh k0 Q (put fr (some sl) (fr sl).nf) H->Gh k0 Q fr H
 | pub {fr:Fr} {H:Hp} (n:Nat) (xs:List (List C)) (T:TypeId) (sz:Nat):H[n]? = some (.row xs T sz)->Gh k0 Q (fun i=>(fr i).pub n xs) (pV n xs H)->Gh k0 Q fr H
 | opn {fr:Fr} {H:Hp} (n:Nat) (xs:List (List C)) (T:TypeId) (sz:Nat):H[n]? = some (.row xs T sz)->Gh k0 Q fr (H.set n (.rowx xs T sz))->Gh k0 Q fr H
 | nfr {fr:Fr} {H:Hp} (n:Nat) (xs:List (List C)) (T:TypeId) (sz:Nat):H[n]? = some (.rowx xs T sz)->Gh k0 Q fr (H.set n (.rowx (xs.map (List.map C.nf)) T sz))->Gh k0 Q fr H
 | shu {fr:Fr} {H:Hp} (n:Nat) (xs:List (List C)) (T:TypeId) (sz:Nat):H[n]? = some (.rowx xs T sz)->(∀ c ∈ xs.flatten,c.shut=true)->Gh k0 Q fr (H.set n (.row xs T sz))->Gh k0 Q fr H
inductive Fin (k0:Nat) (K:S->Hp->Prop):S->Hp->Prop
 | done {r:S} {H:Hp}:K r H->Fin k0 K r H
 | sel {r:S} {H:Hp} (ns:List Nat):ns.Nodup->(∀ n ∈ ns,n < H.length)->ns.take k0=List.range k0->Fin k0 K (r.ren (dB ns)) ((jV H ns).map (B.ren (dB ns)))->Fin k0 K r H
 | kill {r:S} {H:Hp} (n:Nat):Fin k0 K r (H.set n .dead)->Fin k0 K r H
 | nilc {r:S} {H:Hp} (nm k T sz:Nat) (cs:List C) (T':TypeId):H[nm]? = some (.cells cs T')->cs[k]? = some u4->Fin k0 K r (H.set nm (.cells (cs.set k (.sl H.length 0)) T') ++ [.row [] T sz])->Fin k0 K r H
 | pub {r:S} {H:Hp} (n:Nat) (xs:List (List C)) (T:TypeId) (sz:Nat):H[n]? = some (.row xs T sz)->Fin k0 K (r.pub n xs) (pV n xs H)->Fin k0 K r H
 | opn {r:S} {H:Hp} (n:Nat) (xs:List (List C)) (T:TypeId) (sz:Nat):H[n]? = some (.row xs T sz)->Fin k0 K r (H.set n (.rowx xs T sz))->Fin k0 K r H
 | nfr {r:S} {H:Hp} (n:Nat) (xs:List (List C)) (T:TypeId) (sz:Nat):H[n]? = some (.rowx xs T sz)->Fin k0 K r (H.set n (.rowx (xs.map (List.map C.nf)) T sz))->Fin k0 K r H
 | shu {r:S} {H:Hp} (n:Nat) (xs:List (List C)) (T:TypeId) (sz:Nat):H[n]? = some (.rowx xs T sz)->(∀ c ∈ xs.flatten,c.shut=true)->Fin k0 K r (H.set n (.row xs T sz))->Fin k0 K r H
def mT (Γ:bU) (H:Hp) (f:FuncId) (az:List S) (σ:List Nat) (K:S->Hp->Prop):Prop:=
 (σ.Nodup/\∀ n ∈ σ,n < H.length)/\sp Γ f (az.map fun s=>s.nf.ren (dB σ)) ((jV H σ).map (B.ren (dB σ))) (fun r H'=>K (r.ren (back σ H.length)) (gP σ H (H'.map (B.ren (back σ H.length)))))
def vI (Γ:bU) (fr:Fr) (H:Hp) (K:S->Hp->Prop):I->Prop
 | .e i=>aK fr i.sl/\vE (fst fr) H K i
 | .cl f xs σ=>aK fr (O.sls xs)/\mT Γ H f (xs.map fun o=>ev (fst fr) o) σ K
 | .ca x xs σ=>aK fr (x.sl ++ O.sls xs)/\(match ev (fst fr) x with
  | .va (.c1 (.fn f ns))=>mT Γ H f ((xs.map fun o=>ev (fst fr) o) ++ ns.map fun x=>S.va (s0 x)) σ K
  | .va (.c1 (.fm f fs))=>mT Γ H f ((fs.map fun cs=>S.va (.gs cs)) ++ xs.map fun o=>ev (fst fr) o) σ K
  | _=>False)
 | _=>False
def l4 (Γ:bU) (fr:Fr) (H:Hp) (f:FuncId) (xs:List O) (g:Prop) (K:A->Prop):Prop:=
 match kY Γ f with
 | none=>False
 | some p=>(g->aK fr (O.sls xs)/\p.pre (xs.map fun o=>((ev (fst fr) o).bor H).nf))/\K (p.val (xs.map fun o=>((ev (fst fr) o).bor H).nf))
def dO (Γ:bU) (fr:Fr) (H:Hp) (K:Fr->Hp->Prop) (d:Option Nat):I->Prop
 | .q i=>match qv (fst fr) H i with
  | some s=>aK fr i.sl/\qc (fst fr) H i/\K (put fr d s) H
  | none=>False
 | .ix x y=>match ev (fst fr) x,ev (fst fr) y with
  | .va (.c1 (.vl (.string s))),.va (.c1 (.vl (.int _ k)))=>(aK fr (x.sl ++ y.sl)/\0<=k/\k < (bl s).length)/\∀ c:UInt8,(bl s)[k.toNat]? = some c->K (put fr d (iS .u8 c.toNat)) H
  | _,_=>False
 | .l i=>aK fr i.sl/\vL (fst fr) H i fun s=>K (put fr d s) H
 | .pick c x y=>match ev (fst fr) c,ev (fst fr) x,ev (fst fr) y with
  | .va (.c1 (.vl (.bool b))),.va ax,.va ay=>aK fr c.sl/\(b=true->aK fr x.sl)/\(b=false->aK fr y.sl)/\K (put fr d (.va (gX b ax ay))) H
  | _,_,_=>False
 | .cq f xs=>l4 Γ fr H f xs True fun a=>K (put fr d (.va a)) H
 | i=>vI Γ fr H (fun s H'=>K (put fr d s) H') i
def lq (fr:Fr) (H:Hp):LI->Option S
 | .ld1 x=>match ev fr x with
  | .va (.c1 (.pt n off))=>match H[n]? with
   | some (.cells cs _)=>(cs[off]?).map fun c=>.va (.c1 c)
   | _=>none
  | _=>none
 | .ldn n x=>match ev fr x with
  | .va (.c1 (.pt m off))=>match H[m]? with
   | some (.cells cs _)=>if off + n<=cs.length then some (.va (.gs ((cs.drop off).take n))) else none
   | _=>none
  | _=>none
 | _=>none
theorem A3 {fr:Fr} {H:Hp} {i:LI} {s:S} (h:lq fr H i=some s):vL fr H i (· = s):=by
 cases i with
 | ia sz x y=>simp [lq] at h
 | ld1 x=>
  simp only [lq] at h
  simp only [vL]
  split at h<;>try (simp at h; done)
  rename_i n off hx
  split at h<;>try (simp at h; done)
  rename_i cs T hH
  simp only [hx,hH]
  cases hc:cs[off]? with
  | none=>simp [hc] at h
  | some c=>simp [hc] at h; exact h
 | lk kd z ok x k=>simp [lq] at h
 | lm x=>simp [lq] at h
 | ldn n x=>
  simp only [lq] at h
  simp only [vL]
  split at h<;>try (simp at h; done)
  rename_i m off hx
  split at h<;>try (simp at h; done)
  rename_i cs T hH
  simp only [hx,hH]
  split at h
  · rename_i hle; simp at h; exact ⟨hle,h⟩
  · cases h
def cP (Γ:bU) (fr:Fr) (H:Hp) (K:Fr->Hp->Prop) (d:Option Nat) (sl:Nat) (want g:Bool):I->Prop
 | .q i=>match qv (fst fr) H i with
  | some s=>(g=true->aK fr i.sl/\qc (fst fr) H i)/\K (put fr d (s.cnd g)) H
  | none=>g=false/\K (put fr d dum) H
 | .ix x y=>match ev (fst fr) x,ev (fst fr) y with
  | .va (.c1 (.vl (.string s))),.va (.c1 (.vl (.int _ k)))=>(g=true->aK fr (x.sl ++ y.sl)/\0<=k/\k < (bl s).length)/\∀ c:UInt8,(g=true->(bl s)[k.toNat]? = some c)->K (put fr d (.cn g (.c1 (.vl (.int .u8 c.toNat))))) H
  | _,_=>g=false/\K (put fr d dum) H
 | .l i=>match lq (fst fr) H i with
  | some s=>(g=true->aK fr i.sl)/\K (put fr d (s.cnd g)) H
  | none=>(g=true->aK (cK fr sl want) i.sl/\vL (fst (cK fr sl want)) H i fun s=>K (put (cK fr sl want) d s) H)/\(g=false->K (put (fW fr sl want) d dum) H)
 | .pick c x y=>match ev (fst fr) c,ev (fst fr) x,ev (fst fr) y with
  | .va (.c1 (.vl (.bool b))),.va ax,.va ay=>(g=true->aK fr c.sl/\(b=true->aK fr x.sl)/\(b=false->aK fr y.sl))/\K (put fr d (.cn g (gX b ax ay))) H
  | _,_,_=>g=false/\K (put fr d dum) H
 | .cq f xs=>l4 Γ fr H f xs (g=true) fun a=>K (put fr d (.cn g a)) H
 | i=>(g=true->vI Γ (cK fr sl want) H (fun s H'=>K (put (cK fr sl want) d s) H') i)/\(g=false->K (put (fW fr sl want) d dum) H)
def vJ (Γ:bU) (fr:Fr) (H:Hp) (K:Fr->Hp->Prop) (j:J):Prop:=
 match j.g with
 | none=>dO Γ fr H K j.d j.i
 | some (sl,want)=>match gv fr sl want with
  | none=>False
  | some g=>cP Γ fr H K j.d sl want g j.i
def vR (Γ:bU):List J->Fr->Hp->(Fr->Hp->Prop)->Prop
 | [],fr,H,K=>K fr H
 | j :: r,fr,H,K=>vJ Γ fr H (fun fr' H'=>vR Γ r fr' H' K) j
def J.dn (j:J):Nat:=j.d.getD 0
def iT (Γ:bU):List J->Fr->Hp->Prop
 | [],_,_=>True
 | j :: r,fr,H=>vJ Γ fr H (fun fr' _=>fr' j.dn=fr j.dn) j/\iT Γ r fr H
def vO (Γ:bU):List OJ->Fr->Hp->(Fr->Hp->Prop)->Prop
 | [],fr,H,K=>K fr H
 | .q j :: r,fr,H,K=>vJ Γ fr H (fun fr' _=>vO Γ r (put fr j.d (fr' j.dn)) H K) j
 | .m j :: r,fr,H,K=>vJ Γ fr H (fun fr' H'=>vO Γ r fr' H' K) j
 | .rc j :: r,fr,H,K=>vJ Γ fr H (fun fr' _=>fr' j.dn=fr j.dn) j/\vO Γ r fr H K
 | .fk a b ra rb :: r,fr,H,K=>vJ Γ fr H (fun f1 H1=>iT Γ ra f1 H1/\vJ Γ f1 H1 (fun f2 H2=>vO Γ r f2 H2 K) b) a/\vJ Γ fr H (fun f1 H1=>iT Γ rb f1 H1/\vJ Γ f1 H1 (fun f2 H2=>vO Γ r f2 H2 K) a) b
def vc (Γ:bU) (k0:Nat):PC->Fr->Hp->(Ex->Fr->Hp->Prop)->Prop
 | .skip,fr,H,K=>K .n fr H
 | .seq x y,fr,H,K=>vc Γ k0 x fr H (fun e fr' H'=>match e with | .n=>vc Γ k0 y fr' H' K | e=>K e fr' H')
 | .reg js,fr,H,K=>vR Γ js fr H (K .n)
 | .ord l,fr,H,K=>vO Γ l fr H (K .n)
 | .cond o x y,fr,H,K=>match ev (fst fr) o with
  | .va (.c1 (.vl (.bool b)))=>aK fr o.sl/\(b=true->vc Γ k0 x fr H K)/\(b=false->vc Γ k0 y fr H K)
  | _=>False
 | .block id x,fr,H,K=>vc Γ k0 x fr H (fun e fr' H'=>match e with | .e j=>if j=id then K .n fr' H' else K (.e j) fr' H' | e=>K e fr' H')
 | .loop x,fr,H,K=>∃ Inv:Nat->Fr->Hp->Prop,(Gh k0 (fun fr H=>∃ m,Inv m fr H) fr H)/\
  ∀ m fr H,Inv m fr H->vc Γ k0 x fr H (fun e fr' H'=>match e with | .n=>Gh k0 (fun fr'' H''=>∃ m',m' < m/\Inv m' fr'' H'') fr' H' | e=>K e fr' H')
 | .gh x,fr,H,K=>Gh k0 (fun fr' H'=>vc Γ k0 x fr' H' K) fr H
 | .exit id,fr,H,K=>K (.e id) fr H
 | .no,_,_,_=>False
 | .ret,fr,H,K=>K .r fr H
def enters (P:Program) (f:FuncId):Bool:=
 match P.funcs[f]? with
 | some fn=>fn.body.isSome && !(fn.name == "runtime.NumGoroutine")
 | none=>false
inductive CH where
 | own (σ:List Nat)
 | q
structure Hint where
 σ:Nat->Nat->CH
 gh:Nat->Bool
def cW (P:Program) (nw:Bool) (σ:CH) (op:Op):Option I:=
 match qC P nw op with
 | some i=>some (.q i)
 | none=>match xP P op with
  | some i=>some (.l i)
  | none=>match xA P op with
   | some (x,y)=>some (.ix x y)
   | none=>match iY P op with
    | some i=>some (.e (match σ with | .q=>i.ext | .own _=>i))
    | none=>match op with
     | .pick c x y=>some (.pick (aA c) (aA x) (aA y))
     | .call c=>match c.callee with
      | .value (.func f)=>some (match σ with | .own l=>.cl f (c.args.toList.map aA) l | .q=>.cq f (c.args.toList.map aA))
      | .value (.tmp t)=>match σ with
       | .own l=>some (.ca (.t t) (c.args.toList.map aA) l)
       | .q=>none
      | _=>none
     | _=>none
def dC (ops:Array Oper):Option (Nat × Bool)->Option (Option (Nat × Bool))
 | none=>some none
 | some (j,want)=>match (ops[j]?).bind (·.dst) with
  | some d=>some (some (d,want))
  | none=>none
def gZ (P:Program) (nw:Bool) (N:Nat) (ops:Array Oper) (σ:CH) (o:Oper):Option J:=
 match cW P nw σ o.op,dC ops o.guard with
 | some i,some g=>match o.dst with
  | some d=>if d < N then some ⟨o.dst,g,i⟩ else none
  | none=>some ⟨o.dst,g,i⟩
 | _,_=>none
def dM (P:Program) (nw:Bool) (N:Nat) (ops:Array Oper) (h:Nat->CH):Nat->List Oper->Option (List J)
 | _,[]=>some []
 | k,o :: r=>match gZ P nw N ops (h k) o,dM P nw N ops h (k + 1) r with
  | some j,some js=>some (j :: js)
  | _,_=>none
def J.quiet (j:J):Bool:=
 match j.i with
 | .q _ | .ix _ _ | .l _ | .pick _ _ _=>true
 | _=>false
def J.quietC (j:J):Bool:=
 match j.i with
 | .q _ | .ix _ _ | .l _ | .pick _ _ _ | .cq _ _=>true
 | _=>false
def bZ:List J->Nat
 | []=>0
 | j :: r=>if j.quiet then bZ r + 1 else 0
def aT:List J->Nat
 | []=>0
 | j :: r=>if j.quietC then aT r + 1 else 0
def jG (P:Program) (o:Oper):Bool:=
 o.guard.isNone && match o.op with
  | .move _ | .assign _=>true
  | .binOp .add t _ _ _ | .binOp .sub t _ _ _=>(match P.underlying t with | some (.int _)=>true | _=>false)
  | _=>false
def lU (ops:Array Oper) (n:Nat):Nat->List Nat->List Nat
 | 0,acc=>acc
 | i + 1,acc=>lU ops n i (if (List.range (n + 1)).all fun j=>!(decide (i < j) && Region.waitsFor .any ops j i) || acc.contains j then i :: acc else acc)
def eR (ops:Array Oper) (n:Nat):List Nat:=lU ops n n []
def gB (ops:Array Oper) (n:Nat):List Nat:=(List.range n).filter fun i=>!(eR ops n).contains i
def mN (ls:List Nat) (l:Array Bool):Array Bool:=ls.foldl (fun l i=>l.setIfInBounds i true) l
def j8 (ops:Array Oper):List Nat->Array Bool->Bool
 | [],_=>true
 | k :: r,l=>(Region.ready .any ops l).contains k && Region.free .any ops l k && j8 ops r (l.setIfInBounds k true)
def lP (ops:Array Oper) (n:Nat):List Nat->Array Bool->Bool
 | [],l=>Region.seqB .any ops (ops.size - n) n l
 | k :: r,l=>decide (k < n) && (Region.ready .any ops l).contains k && Region.free .any ops l k && lP ops n r (l.setIfInBounds k true)
def iR (ops:Array Oper) (n:Nat) (ls:List Nat):Bool:=
 (List.range n).all fun i=>ls.contains i || (List.range (n + 1)).any fun j=>decide (i < j) && !ls.contains j && Region.waitsFor .any ops j i
def oK (P:Program) (ops:Array Oper) (n:Nat):Bool:=
 Region.noSelect ops && decide (n < ops.size) && iR ops n (eR ops n) && Region.chainB .any ops n && j8 ops (eR ops n) (Array.replicate ops.size false) &&
  lP ops n (gB ops n) (mN (eR ops n) (Array.replicate ops.size false)) && (eR ops n).all (fun i=>match ops[i]? with | some o=>jG P o | none=>false) &&
  decide ((eR ops n).length + ((gB ops n).length + (ops.size - n))=ops.size)
def bV {α:Type} (l:List α) (is:List Nat):List α:=is.filterMap (l[·]?)
def mC (ops:Array Oper) (js:List J):List J:=bV js (eR ops (aT js)) ++ (bV js (gB ops (aT js)) ++ js.drop (aT js))
def s7 (P:Program):Op->Bool
 | .buildSlice t _ _=>match P.underlying t with
  | some (.slice e)=>match P.info? e with
   | some i=>i.zero.isSome
   | none=>false
  | _=>false
 | _=>false
def mQ (P:Program) (ops:Array Oper) (n:Nat):Bool:=
 Region.noSelect ops && decide (n + 1 < ops.size) && Region.chainB .any ops n && Region.chainB .any ops (n + 1) && iR ops (n + 1) [] && lP ops n (List.range n) (Array.replicate ops.size false) &&
  (match ops[n]? with
  | some on=>on.guard.isNone && s7 P on.op && (List.range n).all fun j=>!Region.waitsFor .any ops j n && (Region.waitsFor .any ops n j || (match ops[j]? with
   | some oj=>on.apart ops oj
   | none=>true))
  | none=>false)
def I.sl:I->List Nat
 | .q i=>i.sl
 | .ix x y=>x.sl ++ y.sl
 | .l i=>i.sl
 | .e i=>i.sl
 | .pick c x y=>c.sl ++ (x.sl ++ y.sl)
 | .cl _ xs _=>O.sls xs
 | .ca x xs _=>x.sl ++ O.sls xs
 | .cq _ xs=>O.sls xs
def J.rds (j:J):List Nat:=(match j.g with | some (sl,_)=>[sl] | none=>[]) ++ j.i.sl
def J.gix (j:J):Bool:=match j.g,j.i with
 | some _,.ix _ _=>true
 | _,_=>false
def B2 (j:J) (o:Oper):Bool:=j.quiet && !j.gix && j.d.isSome && (match o.op with | .assign _=>false | _=>true)
structure Mk where
 cs:List Value
 T:TypeId
 sz:Option Nat
def cN:EI->Option Mk
 | .al z T=>some ⟨z.cells.toList,T,none⟩
 | .bsl T sz [.k v]=>if v.cells.size=sz then some ⟨v.cells.toList,T,some sz⟩ else none
 | _=>none
def BX (j:J):Bool:=match j with
 | ⟨some _,none,.e i⟩=>(cN i).isSome
 | _=>false
def bK (ops:Array Oper) (js:List J) (i:Nat):Bool:=match js[i]?,ops[i]? with
 | some j,some o=>B2 j o
 | _,_=>false
def cY (js:List J) (i:Nat):Bool:=match js[i]? with
 | some j=>BX j
 | none=>false
def fC (js:List J) (i:Nat):Option Nat:=(js[i]?).bind (·.d)
def iV (js:List J) (i:Nat):List Nat:=match js[i]? with
 | some j=>j.rds
 | none=>[]
def s6 (ops:Array Oper):List Nat->List Nat->List Nat
 | [],s=>s
 | k :: r,s=>s6 ops r (if s.any fun t=>Region.waitsFor .any ops t k then k :: s else s)
def cG (ops:Array Oper) (i:Nat):List Nat:=s6 ops (List.range ops.size).reverse [i]
def qE (ops:Array Oper) (pre:List Nat) (i:Nat):Bool:=!pre.contains i && (List.range ops.size).all fun k=>!Region.waitsFor .any ops i k || pre.contains k
def oL (ops:Array Oper) (js:List J):Nat->List Nat->List Nat
 | 0,_=>[]
 | f + 1,pre=>match (List.range ops.size).find? (fun i=>qE ops pre i && bK ops js i) with
  | some i=>i :: oL ops js f (pre ++ [i])
  | none=>match (List.range ops.size).find? (fun i=>qE ops pre i && !cY js i) with
   | some i=>i :: oL ops js f (pre ++ [i])
   | none=>match (List.range ops.size).find? (qE ops pre) with
    | some i=>i :: oL ops js f (pre ++ [i])
    | none=>[]
def c9 (ops:Array Oper) (js:List J):List Nat:=oL ops js ops.size []
def eD (ops:Array Oper) (js:List J) (i:Nat):List Nat->Bool
 | [k]=>!bK ops js i && !cY js i && !bK ops js k && !cY js k && !Region.waitsFor .any ops i k && !Region.waitsFor .any ops k i
 | _=>false
def hO (ops:Array Oper) (js:List J):List Nat->Option (List Nat)
 | []=>none
 | [i,k]=>if eD ops js i [k] then some [k,i] else none
 | i :: r=>(hO ops js r).map (i :: ·)
def v5 (ops:Array Oper) (js:List J) (pre:List Nat) (i:Nat) (r:List Nat):Bool:=
 decide (i < ops.size) && !pre.contains i && (match ops[i]? with | some o=>o.after.all fun e=>!Region.binds .any e || pre.contains e.on | none=>false) &&
 (!(bK ops js i || cY js i) || pre.all fun k=>!(iV js k).any fun s=>fC js i == some s) &&
 (pre.all fun k=>!(iV js i).any (fun s=>fC js k == some s) || !(bK ops js k) || (cG ops i).contains k) &&
 (match fC js i with
   | some d=>pre.all fun k=>!(fC js k == some d)
   | none=>true) &&
 (!(bK ops js i) || !(iV js i).any fun s=>fC js i == some s) &&
 (bK ops js i || eD ops js i r || r.all fun j=>cY js j || Region.waitsFor .any ops j i || r.any fun k=>!cY js k && Region.waitsFor .any ops j k) &&
 (!(cY js i) || pre.all fun k=>!cY js k)
def eB (ops:Array Oper) (js:List J):List Nat->List Nat->Bool
 | _,[]=>true
 | pre,i :: r=>v5 ops js pre i r && eB ops js (pre ++ [i]) r
def i5 (ops:Array Oper) (js:List J):Bool:=Region.noSelect ops && decide ((c9 ops js).length=ops.size) && eB ops js [] (c9 ops js) && (match hO ops js (c9 ops js) with | some l=>eB ops js [] l | none=>true)
def oD (js:List J) (qs kd:List Nat):List J:=qs.filterMap fun k=>if kd.contains k then none else js[k]?
def iX (js:List J) (qs kd:List Nat):List OJ:=(oD js qs kd).map OJ.rc
def bX (ops:Array Oper) (js:List J):List Nat->List Nat->List Nat->List OJ
 | _,_,[]=>[]
 | qs,kd,i :: r=>match js[i]? with
  | none=>[]
  | some j=>if bK ops js i then .q j :: bX ops js (qs ++ [i]) kd r else if eD ops js i r then (match r with
   | [k]=>(match js[k]? with
    | some jk=>.fk j jk (oD js qs (kd ++ cG ops i)) (oD js qs (kd ++ cG ops k)) :: iX js qs (kd ++ cG ops i ++ cG ops k)
    | none=>[])
   | _=>[]) else .m j :: (iX js qs (kd ++ cG ops i) ++ bX ops js qs (kd ++ cG ops i) r)
def tr (P:Program) (nw:Bool) (N:Nat) (h:Hint):Code->Option PC
 | .skip=>some .skip
 | .seq x y=>match tr P nw N h x,tr P nw N h y with
  | some x,some y=>some (.seq x y)
  | _,_=>none
 | .region id ops draw=>match dM P nw N ops (h.σ id) 0 ops.toList with
  | some js=>if draw then
   (if P.follows .mixedOrders && (if js.all J.quietC then Region.lexB .any ops else Region.lexTailB .any ops (bZ js)) then some (if h.gh id then .gh (.reg js) else .reg js)
   else if P.follows .mixedOrders && oK P ops (aT js) then some (if h.gh id then .gh (.reg (mC ops js)) else .reg (mC ops js))
   else if P.follows .mixedOrders && mQ P ops (bZ js) then some (if h.gh id then .gh (.reg js) else .reg js)
   else if P.follows .mixedOrders && i5 ops js then some (if h.gh id then .gh (.ord (bX ops js [] [] (c9 ops js))) else .ord (bX ops js [] [] (c9 ops js))) else none)
   else some (if h.gh id then .gh (.reg js) else .reg js)
  | none=>none
 | .cond o x y=>match tr P nw N h x,tr P nw N h y with
  | some x,some y=>some (.cond (aA o) x y)
  | _,_=>none
 | .block id x=>match tr P nw N h x with
  | some x=>some (.block id x)
  | none=>none
 | .loop x=>match tr P nw N h x with
  | some x=>some (.loop x)
  | none=>none
 | .exit id=>some (.exit id)
 | .refuse _=>some .no
 | .ret=>some .ret
 | _=>none
theorem aD {fr fr2:Fr} {o:O} (h:∀ i ∈ o.sl,fr i=fr2 i):ev fr o=ev fr2 o:=by
 cases o with
 | t i=>exact h i (by simp [O.sl])
 | k v=>rfl
 | f n=>rfl
theorem n8 {fr fr2:Fr}:∀ {ps:List (Nat × Nat × O)} {cs:List C},(∀ i ∈ O.slp ps,fr i=fr2 i)->lZ fr cs ps=lZ fr2 cs ps
 | [],_,_=>rfl
 | (off,n,o) :: r,cs,h=>by
  have h1:ev fr o=ev fr2 o:=aD fun i hi=>h i (by simp [O.slp,hi])
  simp only [lZ,h1]
  split
  · exact n8 fun i hi=>h i (by simp [O.slp,hi])
  · rfl
theorem oE {fr fr2:Fr} {len:Nat}:∀ {ps:List (Nat × Nat × O)},(∀ i ∈ O.slp ps,fr i=fr2 i)->nU fr len ps=nU fr2 len ps
 | [],_=>rfl
 | (off,n,o) :: r,h=>by
  have h1:ev fr o=ev fr2 o:=aD fun i hi=>h i (by simp [O.slp,hi])
  simp only [nU,h1]
  rw [oE fun i hi=>h i (by simp [O.slp,hi])]
theorem f7 {fr fr2:Fr} {d:Int} {o:Option O} (h:∀ i ∈ O.slo o,fr i=fr2 i):cZ fr d o=cZ fr2 d o:=by
 cases o with
 | none=>rfl
 | some o=>simp only [cZ,aD h]
theorem mA {fr fr2:Fr}:∀ {xs:List O},(∀ i ∈ O.sls xs,fr i=fr2 i)->gH fr xs=gH fr2 xs
 | [],_=>rfl
 | o :: r,h=>by
  simp only [gH]
  rw [aD (fr:=fr) (fr2:=fr2) (o:=o) fun i hi=>h i (by simp [O.sls,hi]),mA (xs:=r) fun i hi=>h i (by simp [O.sls,hi])]
theorem kP {fr fr2:Fr}:∀ {xs:List O},(∀ i ∈ O.sls xs,fr i=fr2 i)->eP fr xs=eP fr2 xs
 | [],_=>rfl
 | o :: r,h=>by
  simp only [eP]
  rw [aD (fr:=fr) (fr2:=fr2) (o:=o) (fun i hi=>h i (by simp [O.sls,hi])),kP (xs:=r) (fun i hi=>h i (by simp [O.sls,hi]))]
theorem jX {fr fr2:Fr} {H:Hp} {i:QI} (h:∀ j ∈ i.sl,fr j=fr2 j):qv fr H i=qv fr2 H i/\qc fr H i=qc fr2 H i:=by
 have e2:∀ {x y:O},(∀ j ∈ x.sl ++ y.sl,fr j=fr2 j)->ev fr x=ev fr2 x/\ev fr y=ev fr2 y:=fun h=>⟨aD fun i hi=>h i (by simp [hi]),aD fun i hi=>h i (by simp [hi])⟩
 cases i<;>simp only [QI.sl] at h
 case bd zero ps=>simp only [qv,qc,n8 h,oE h]; exact ⟨trivial,trivial⟩
 case mf f xs=>simp only [qv,qc,mA h]; exact ⟨trivial,trivial⟩
 case mh f xs=>simp only [qv,qc,kP h]; exact ⟨trivial,trivial⟩
 case ss x lo hi=>
  have h1:ev fr x=ev fr2 x:=aD fun i hi=>h i (by simp [hi])
  have h2:∀ d,cZ fr d lo=cZ fr2 d lo:=fun d=>f7 fun i hi=>h i (by simp [hi])
  have h3:∀ d,cZ fr d hi=cZ fr2 d hi:=fun d=>f7 fun i hi=>h i (by simp [hi])
  simp only [qv,qc,h1,h2,h3]; exact ⟨trivial,trivial⟩
 case sf sz x lo hi=>
  have h1:ev fr x=ev fr2 x:=aD fun i hi=>h i (by simp [hi])
  have h2:∀ d,cZ fr d lo=cZ fr2 d lo:=fun d=>f7 fun i hi=>h i (by simp [hi])
  have h3:∀ d,cZ fr d hi=cZ fr2 d hi:=fun d=>f7 fun i hi=>h i (by simp [hi])
  simp only [qv,qc,h1,h2,h3]; exact ⟨trivial,trivial⟩
 all_goals first
  | (have h1:=aD h; simp only [qv,qc,h1]; exact ⟨trivial,trivial⟩)
  | (obtain ⟨h1,h2⟩:=e2 h; simp only [qv,qc,h1,h2]; exact ⟨trivial,trivial⟩)
theorem g5 {fr fr2:Fr} {H:Hp} {K:S->Prop} {i:LI} (h:∀ j ∈ i.sl,fr j=fr2 j):vL fr H i K=vL fr2 H i K:=by
 cases i<;>simp only [LI.sl] at h
 case ia sz x y=>
  have h1:ev fr x=ev fr2 x:=aD fun i hi=>h i (by simp [hi])
  have h2:ev fr y=ev fr2 y:=aD fun i hi=>h i (by simp [hi])
  simp only [vL,h1,h2]
 case lk kd z ok x y=>
  have h1:ev fr x=ev fr2 x:=aD fun i hi=>h i (by simp [hi])
  have h2:ev fr y=ev fr2 y:=aD fun i hi=>h i (by simp [hi])
  simp only [vL,h1,h2]
 all_goals (have h1:=aD h; simp only [vL,h1])
theorem iH {fr fr2:Fr}:∀ {xs:List O},(∀ i ∈ O.sls xs,fr i=fr2 i)->rows fr xs=rows fr2 xs/\mD fr xs=mD fr2 xs
 | [],_=>⟨rfl,rfl⟩
 | o :: r,h=>by
  have h1:ev fr o=ev fr2 o:=aD fun i hi=>h i (by simp [O.sls,hi])
  obtain ⟨h2,h3⟩:=iH (xs:=r) fun i hi=>h i (by simp [O.sls,hi])
  exact ⟨by simp only [rows,h1,h2],by simp only [mD,h1,h3]⟩
theorem rA {fr fr2:Fr} {H:Hp} {K:S->Hp->Prop} {i:EI} (h:∀ j ∈ i.sl,fr j=fr2 j):vE fr H K i=vE fr2 H K i:=by
 have e2:∀ {x y:O},(∀ j ∈ x.sl ++ y.sl,fr j=fr2 j)->ev fr x=ev fr2 x/\ev fr y=ev fr2 y:=fun h=>⟨aD fun i hi=>h i (by simp [hi]),aD fun i hi=>h i (by simp [hi])⟩
 cases i<;>simp only [EI.sl] at h
 case bsl T sz xs=>obtain ⟨h1,h2⟩:=iH h; simp only [vE,h1,h2]
 case bslx T sz xs=>obtain ⟨h1,h2⟩:=iH h; simp only [vE,h1,h2]
 case al=>rfl
 case bx=>have h1:=aD h; simp only [vE,h1]
 case st=>obtain ⟨h1,h2⟩:=e2 h; simp only [vE,h1,h2]
 case ap=>obtain ⟨h1,h2⟩:=e2 h; simp only [vE,vA,h1,h2]
 case aps=>obtain ⟨h1,h2⟩:=e2 h; simp only [vE,vA,h1,h2]
 case apz=>obtain ⟨h1,h2⟩:=e2 h; simp only [vE,vZ,h1,h2]
 case us=>obtain ⟨h1,h2⟩:=e2 h; simp only [vE,h1,h2]
 case mm=>rfl
 case mk=>obtain ⟨h1,h2⟩:=e2 h; simp only [vE,h1,h2]
 case mu kd x k y=>
  have h1:ev fr x=ev fr2 x:=aD fun i hi=>h i (by simp [hi])
  have h2:ev fr k=ev fr2 k:=aD fun i hi=>h i (by simp [hi])
  have h3:ev fr y=ev fr2 y:=aD fun i hi=>h i (by simp [hi])
  simp only [vE,h1,h2,h3]
section
variable {γ γ':List Gb} {ro ro':RO} {f:Nat->Option Nat}
theorem k8 {g:C->C} (hi:∀ c v,C.rel0 γ ro c v->C.rel0 γ' ro' (g c) v) {x:Bool × List C} {v:Value} (h:lC γ ro x v):lC γ' ro' (x.1,x.2.map g) v:=by
 obtain ⟨b,cs⟩:=x
 cases b with
 | false=>
  match cs,h with
  | [c],h=>exact hi c v h
 | true=>
  obtain ⟨vs,h1,h2⟩:=h
  exact ⟨vs,h1,h2.map (f:=g) hi⟩
theorem C.rel0_ren (hf:∀ (n m:Nat) (g:Gb),f n=some m->γ[n]? = some g->γ'[m]? = some g) {c:C} {v:Value} (h:c.rel0 γ ro v):(c.ren0 f).rel0 γ' ro v:=by
 cases c with
 | no=>trivial
 | vl u=>exact h
 | pt n off=>
  simp only [C.ren0]
  split
  · rename_i m hm; obtain ⟨g,b,h1,h2⟩:=h; exact ⟨g,b,hf n m g hm h1,h2⟩
  · trivial
 | sl n len=>
  simp only [C.ren0]
  split
  · rename_i m hm; obtain ⟨g,h1,h2⟩:=h; exact ⟨g,hf n m g hm h1,h2⟩
  · trivial
 | qt n len sz i j=>
  simp only [C.ren0]
  split
  · rename_i m hm; obtain ⟨g,h1,h2⟩:=h; exact ⟨g,hf n m g hm h1,h2⟩
  · trivial
 | fz xs=>exact h
 | fp r j=>exact h
 | dp n len=>
  simp only [C.ren0]
  split
  · rename_i m hm; obtain ⟨g,h1,h2⟩:=h; exact ⟨g,hf n m g hm h1,h2⟩
  · trivial
 | mp n=>
  simp only [C.ren0]
  split
  · rename_i m hm; obtain ⟨g,b,h1,h2⟩:=h; exact ⟨g,b,hf n m g hm h1,h2⟩
  · trivial
 | fn g cs=>exact h.elim
 | fm g cs=>exact h
theorem C.rel_ren (hf:∀ (n m:Nat) (g:Gb),f n=some m->γ[n]? = some g->γ'[m]? = some g) {c:C} {v:Value} (h:c.rel γ ro v):(c.ren f).rel γ' ro v:=by
 cases c with
 | no=>trivial
 | vl u=>exact h
 | pt n off=>
  simp only [C.ren]
  split
  · rename_i m hm; obtain ⟨g,b,h1,h2⟩:=h; exact ⟨g,b,hf n m g hm h1,h2⟩
  · trivial
 | sl n len=>
  simp only [C.ren]
  split
  · rename_i m hm; obtain ⟨g,h1,h2⟩:=h; exact ⟨g,hf n m g hm h1,h2⟩
  · trivial
 | qt n len sz i j=>
  simp only [C.ren]
  split
  · rename_i m hm; obtain ⟨g,h1,h2⟩:=h; exact ⟨g,hf n m g hm h1,h2⟩
  · trivial
 | fz xs=>exact h
 | fp r j=>exact h
 | dp n len=>
  simp only [C.ren]
  split
  · rename_i m hm; obtain ⟨g,h1,h2⟩:=h; exact ⟨g,hf n m g hm h1,h2⟩
  · trivial
 | mp n=>
  simp only [C.ren]
  split
  · rename_i m hm; obtain ⟨g,b,h1,h2⟩:=h; exact ⟨g,b,hf n m g hm h1,h2⟩
  · trivial
 | fn g cs=>
  obtain ⟨vs,h1,h2⟩:=h
  exact ⟨vs,h1,h2.map (f:=fun x=>(x.1,x.2.map (C.ren0 f))) fun _ _=>k8 fun _ _=>C.rel0_ren hf⟩
 | fm g cs=>exact h
theorem A.rel_ren (hf:∀ (n m:Nat) (g:Gb),f n=some m->γ[n]? = some g->γ'[m]? = some g) {a:A} {v:Value} (h:a.rel γ ro v):(a.ren f).rel γ' ro v:=by
 cases a with
 | c1 c=>exact C.rel_ren hf h
 | gs cs=>obtain ⟨vs,h1,h2⟩:=h; exact ⟨vs,h1,h2.map (f:=C.ren f) fun _ _=>C.rel_ren hf⟩
theorem S.rel_ren (hf:∀ (n m:Nat) (g:Gb),f n=some m->γ[n]? = some g->γ'[m]? = some g) {s:S} {v:Value} (h:s.rel γ ro v):(s.ren f).rel γ' ro v:=by
 cases s with
 | va a=>exact A.rel_ren hf h
 | tu l=>obtain ⟨vs,h1,h2⟩:=h; exact ⟨vs,h1,h2.map (f:=A.ren f) fun _ _=>A.rel_ren hf⟩
 | cn g a=>exact ⟨fun e=>A.rel_ren hf (h.1 e),h.2⟩
 | un=>trivial
theorem B.On_ren (hf:∀ (n m:Nat) (g:Gb),f n=some m->γ[n]? = some g->γ'[m]? = some g) {w:World} {g:Gb} {blk:B} (h:blk.On γ ro w g):(blk.ren f).On γ' ro w g:=by
 cases blk with
 | cells cs T=>obtain ⟨h1,b,h2,h3,h4⟩:=h; exact ⟨h1,b,h2,h3,h4.map (f:=C.ren f) fun _ _=>C.rel_ren hf⟩
 | row xs T sz=>exact h
 | rowx xs T sz=>
  obtain ⟨h1,h2,h3,h4,h5,h6⟩:=h
  refine ⟨h1,by rw [List.length_map]; exact h2,fun x hx=>?_,by rw [List.length_map]; exact h4,?_,h6⟩
  · obtain ⟨y,hy,rfl⟩:=List.mem_map.1 hx
    rw [List.length_map]; exact h3 y hy
  · rw [<-List.map_flatten]
    exact h5.map (f:=C.ren f) fun _ _=>C.rel_ren hf
 | map kd ks vs=>obtain ⟨h1,h2,h3,h4⟩:=h; exact ⟨h1,h2,h3.map (f:=A.ren f) fun _ _=>A.rel_ren hf,h4⟩
 | dead=>trivial
theorem B.live_ren (f:Nat->Option Nat) (blk:B):(blk.ren f).live=blk.live:=by cases blk<;>rfl
theorem FzR.nil (ro:RO):FzR ro [] (.slice none 0 0):=
 .mk [] 0 none none (fun h=>absurd rfl h) 0 (fun _=>undef) (by simp) (Nat.le_refl _) (by simp) (by simp) (by simp) (by simp) (by simp)
theorem C.rel_nf {c:C} {v:Value} (h:c.rel γ ro v):c.nf.rel γ ro v:=by
 unfold C.nf
 split
 · have h':v=.slice none 0 0:=h
   subst h'
   exact FzR.nil ro
 · exact h
theorem A.rel_nf {a:A} {v:Value} (h:a.rel γ ro v):a.nf.rel γ ro v:=by
 cases a with
 | c1 c=>exact C.rel_nf h
 | gs cs=>obtain ⟨vs,h1,h2⟩:=h; exact ⟨vs,h1,h2.map (f:=C.nf) fun _ _=>C.rel_nf⟩
theorem S.rel_nf {s:S} {v:Value} (h:s.rel γ ro v):s.nf.rel γ ro v:=by
 cases s with
 | va a=>exact A.rel_nf h
 | tu l=>obtain ⟨vs,h1,h2⟩:=h; exact ⟨vs,h1,h2.map (f:=A.nf) fun _ _=>A.rel_nf⟩
 | cn g a=>exact ⟨fun e=>A.rel_nf (h.1 e),h.2⟩
 | un=>trivial
theorem C.rel0_pub {n:Nat} {g:Gb} {xs:List (List C)} (hext:Ext ro ro') (hn:γ[n]? = some g) (hl:g.len=xs.length) (hfz:FzR ro' xs (.slice (aG g.ob 0) xs.length g.cap)) {c:C} {v:Value} (h:c.rel0 γ ro v):(c.pub0 n xs).rel0 γ ro' v:=by
 have hm:=C.rel0_mono (GExt.refl γ) hext h
 cases c with
 | sl m l=>
  simp only [C.pub0]
  split
  · rename_i he
    subst he
    split
    · rename_i hlen
      obtain ⟨g',h1,h2,h3,h4,h5⟩:=h
      rw [hn] at h1
      simp only [aB] at h1
      subst h1
      have:=h5 (by omega)
      subst this
      show FzR ro' xs _
      rw [hlen]
      exact hfz
    · trivial
  · exact hm
 | qt m l sz i j=>
  simp only [C.pub0]
  split
  · trivial
  · exact hm
 | dp m l=>
  simp only [C.pub0]
  split
  · trivial
  · exact hm
 | fn f cs=>exact h.elim
 | _=>exact hm
theorem C.rel_pub {n:Nat} {g:Gb} {xs:List (List C)} (hext:Ext ro ro') (hn:γ[n]? = some g) (hl:g.len=xs.length) (hfz:FzR ro' xs (.slice (aG g.ob 0) xs.length g.cap)) {c:C} {v:Value} (h:c.rel γ ro v):(c.pub n xs).rel γ ro' v:=by
 have hm:=C.rel_mono (GExt.refl γ) hext h
 cases c with
 | sl m l=>
  simp only [C.pub]
  split
  · rename_i he
    subst he
    split
    · rename_i hlen
      obtain ⟨g',h1,h2,h3,h4,h5⟩:=h
      rw [hn] at h1
      simp only [aB] at h1
      subst h1
      have:=h5 (by omega)
      subst this
      show FzR ro' xs _
      rw [hlen]
      exact hfz
    · trivial
  · exact hm
 | qt m l sz i j=>
  simp only [C.pub]
  split
  · trivial
  · exact hm
 | dp m l=>
  simp only [C.pub]
  split
  · trivial
  · exact hm
 | fn f cs=>
  obtain ⟨vs,h1,h2⟩:=h
  exact ⟨vs,h1,h2.map (f:=fun x=>(x.1,x.2.map (C.pub0 n xs))) fun _ _=>k8 fun _ _=>C.rel0_pub hext hn hl hfz⟩
 | _=>exact hm
theorem A.rel_pub {n:Nat} {g:Gb} {xs:List (List C)} (hext:Ext ro ro') (hn:γ[n]? = some g) (hl:g.len=xs.length) (hfz:FzR ro' xs (.slice (aG g.ob 0) xs.length g.cap)) {a:A} {v:Value} (h:a.rel γ ro v):(a.pub n xs).rel γ ro' v:=by
 cases a with
 | c1 c=>exact C.rel_pub hext hn hl hfz h
 | gs cs=>obtain ⟨vs,h1,h2⟩:=h; exact ⟨vs,h1,h2.map (f:=C.pub n xs) fun _ _=>C.rel_pub hext hn hl hfz⟩
theorem S.rel_pub {n:Nat} {g:Gb} {xs:List (List C)} (hext:Ext ro ro') (hn:γ[n]? = some g) (hl:g.len=xs.length) (hfz:FzR ro' xs (.slice (aG g.ob 0) xs.length g.cap)) {s:S} {v:Value} (h:s.rel γ ro v):(s.pub n xs).rel γ ro' v:=by
 cases s with
 | va a=>exact A.rel_pub hext hn hl hfz h
 | tu l=>obtain ⟨vs,h1,h2⟩:=h; exact ⟨vs,h1,h2.map (f:=A.pub n xs) fun _ _=>A.rel_pub hext hn hl hfz⟩
 | cn g a=>exact ⟨fun e=>A.rel_pub hext hn hl hfz (h.1 e),h.2⟩
 | un=>trivial
end
def uJ:Gb:=⟨none,false,0,0,0,[]⟩
def b7 (E:Es) (σ:List Nat):Es:=σ.map fun n=>E.getD n (uJ,.dead)
theorem sA (E:Es) (σ:List Nat):hp (b7 E σ)=jV (hp E) σ:=by
 simp only [hp,b7,jV,List.map_map]
 apply List.map_congr_left
 intro n _
 simp only [Function.comp,List.getD_eq_getElem?_getD,List.getElem?_map]
 cases E[n]?<;>rfl
theorem pE:∀ {σ:List Nat} {n j:Nat},dB σ n=some j->σ[j]? = some n
 | [],n,j,h=>by simp [dB] at h
 | m :: σ,n,j,h=>by
  simp only [dB] at h
  split at h
  · rename_i he; simp only [aB] at h; subst h; subst he; rfl
  · simp only [Option.map_eq_some_iff] at h
    obtain ⟨k,hk,rfl⟩:=h
    simpa using pE hk
theorem qH {E:Es} {σ:List Nat} (n m:Nat) (g:Gb) (h:dB σ n=some m) (hg:(gm E)[n]? = some g):(gm (b7 E σ))[m]? = some g:=by
 have hs:=pE h
 obtain ⟨blk,hE⟩:=jK hg
 simp [gm,b7,hs,hE]
def aP (f:B->B) (E:Es):Es:=E.map fun e=>(e.1,f e.2)
theorem dJ (f:B->B) (E:Es):gm (aP f E)=gm E:=by simp [gm,aP,List.map_map,Function.comp_def]
theorem fQ (f:B->B) (E:Es):hp (aP f E)=(hp E).map f:=by simp [hp,aP,List.map_map,Function.comp_def]
section
variable {N:Nat} {fr:Fr} {a:Act} {E:Es} {ro:RO} {X:Ctx} {w:World}
theorem Rel.sub (h:Rel X E ro w) {E':Es} (μ:Nat->Nat) (hg:∀ (n:Nat) (g:Gb) (blk:B),E'[n]? = some (g,blk)->blk.live=true->∃ bk,E[μ n]? = some (g,bk)/\bk.live=true/\(bk.On (gm E) ro w g->blk.On (gm E') ro w g))
 (hi:∀ (n m:Nat),n < E'.length->m < E'.length->μ n=μ m->n=m) (gx:GExt X.g0 (gm E')):Rel X E' ro w:=by
 have lt:∀ {n:Nat} {e:Gb × B},E'[n]? = some e->n < E'.length:=fun h=>(bT.1 h).1
 refine ⟨fun n g blk hn=>?_,fun n m gn gm bn bm b hn hm en em ln lm=>?_,fun b off c hc n g blk hn en=>?_,h.rd,h.ro0,h.rob,fun n b g blk hn en ln=>?_,gx,h.sz,h.keep,h.os,h.tape,h.output⟩
 · by_cases hl:blk.live=true
   · obtain ⟨bk,h1,h2,h3⟩:=hg n g blk hn hl
     exact h3 (h.own _ g bk h1)
   · cases blk<;>simp [B.live] at hl; trivial
 · obtain ⟨bk,h1,h2,_⟩:=hg n _ _ hn ln
   obtain ⟨bk',k1,k2,_⟩:=hg m _ _ hm lm
   exact hi n m (lt hn) (lt hm) (h.inj _ _ gn gm bk bk' b h1 k1 en em h2 k2)
 · by_cases hl:blk.live=true
   · obtain ⟨bk,h1,h2,_⟩:=hg n g blk hn hl
     have:=h.apart b off c hc _ g bk h1 en
     rw [h2] at this; cases this
   · simpa using hl
 · obtain ⟨bk,h1,h2,_⟩:=hg n g blk hn ln
   exact h.par _ b g bk h1 en h2
theorem Rel.cut (h:Rel X E ro w) {k:Nat} (hk:X.g0.length<=k):Rel X (aP (B.ren (kS k)) (E.take k)) ro w:=by
 have hren:∀ (n m:Nat) (g:Gb),kS k n=some m->(gm E)[n]? = some g->(gm (aP (B.ren (kS k)) (E.take k)))[m]? = some g:=by
  intro n m g h1 h2
  unfold kS at h1
  split at h1
  · rename_i hlt
    simp only [aB] at h1
    subst h1
    rw [dJ,gm,List.map_take,List.getElem?_take,if_pos hlt]
    exact h2
  · cases h1
 refine h.sub id (fun n g blk hn hl=>?_) (fun n m _ _ e=>e) ?_
 · simp only [aP,List.getElem?_map,List.getElem?_take] at hn
   split at hn
   · cases hE:E[n]? with
     | none=>simp [hE] at hn
     | some e=>
      simp only [hE,Option.map_some,aB,Prod.mk.injEq] at hn
      obtain ⟨rfl,rfl⟩:=hn
      exact ⟨e.2,hE,by rw [B.live_ren] at hl; exact hl,B.On_ren hren⟩
   · simp at hn
 · intro n g hn
   obtain ⟨g',h1,h2⟩:=h.gx n g hn
   have hlt:n < k:=Nat.lt_of_lt_of_le (bT.1 hn).1 hk
   exact ⟨g',hren n n g' (by simp [kS,hlt]) h1,h2⟩
theorem Rel.kill (h:Rel X E ro w) {n:Nat} {g0:Gb} {bk0:B} (hn:E[n]? = some (g0,bk0)):Rel X (E.set n (g0,.dead)) ro w:=by
 have hgm:gm (E.set n (g0,.dead))=gm E:=by
  apply List.ext_getElem?
  intro j
  simp only [gm,List.getElem?_map,List.getElem?_set]
  split
  · rename_i hj; subst hj; rw [if_pos (bT.1 hn).1,hn]; rfl
  · rfl
 refine h.sub id (fun m g blk hm hl=>?_) (fun n m _ _ e=>e) (by rw [hgm]; exact h.gx)
 rw [List.getElem?_set] at hm
 split at hm
 · rw [if_pos (by rename_i e; subst e; exact (bT.1 hn).1)] at hm; simp only [aB,Prod.mk.injEq] at hm; rw [<-hm.2] at hl; simp [B.live] at hl
 · exact ⟨blk,hm,hl,fun h=>by rw [hgm]; exact h⟩
theorem dI {n:Nat} {g0:Gb} {bk0 blk:B} (hn:E[n]? = some (g0,bk0)):gm (E.set n (g0,blk))=gm E:=by
 apply List.ext_getElem?
 intro j
 simp only [gm,List.getElem?_map,List.getElem?_set]
 split
 · rename_i hj; subst hj; rw [if_pos (bT.1 hn).1,hn]; rfl
 · rfl
theorem Rel.sel (h:Rel X E ro w) {ns:List Nat} (hd:ns.Nodup) (hlt:∀ n ∈ ns,n < E.length) (gx:GExt X.g0 (gm (b7 E ns))):Rel X (aP (B.ren (dB ns)) (b7 E ns)) ro w:=by
 refine h.sub (fun n=>ns.getD n 0) (fun n g blk hn hl=>?_) (fun n m hn hm e=>?_) (by rw [dJ]; exact gx)
 · simp only [aP,List.getElem?_map,b7] at hn
   cases hns:ns[n]? with
   | none=>simp [hns] at hn
   | some m=>
    simp only [hns,Option.map_some,aB,Prod.mk.injEq,List.getD_eq_getElem?_getD] at hn
    obtain ⟨h1,h2⟩:=hn
    cases hE:E[m]? with
    | none=>have:=hlt m (dL hns); rw [List.getElem?_eq_none_iff] at hE; omega
    | some e=>
     rw [hE] at h1 h2
     simp only [Option.getD_some] at h1 h2
     subst h1 h2
     refine ⟨e.2,by simp [hns,hE],by rw [B.live_ren] at hl; exact hl,fun ho=>B.On_ren (fun n m g k1 k2=>?_) ho⟩
     rw [dJ]; exact qH n m g k1 k2
 · simp only [aP,b7,List.length_map] at hn hm
   simp only [List.getD_eq_getElem?_getD,b5 hn,b5 hm,Option.getD_some] at e
   exact (List.getElem_inj hd).1 e
theorem Rel.push (h:Rel X E ro w) (T sz:Nat):Rel X (E ++ [(⟨none,true,0,0,T,[]⟩,.row [] T sz)]) ro w:=
 h.new (fun k _=>rfl) (Nat.le_refl _) rfl rfl rfl (.inl rfl) ⟨rfl,rfl,fun x hx=>by simp at hx,by simp,World.ownsRow_nil w 0 T sz,.nil,fun b hb=>by simp at hb⟩
theorem p9 (h:Rel X E ro w) {n:Nat} {g:Gb} {xs:List (List C)} {T sz:Nat} (hn:E[n]? = some (g,.row xs T sz)) {ro':RO} (hext:Ext ro ro') (hro:∀ b,g.ob=some b->∀ off v,g.vs[off]? = some v->ro' b off=some v) :
 FzR ro' xs (.slice (aG g.ob 0) xs.length g.cap):=by
 obtain ⟨hrow,hglen,hxl,hsh,⟨hfl,hown⟩,hrel,_⟩:=h.own n _ _ hn
 have hob:kV (g.ob.map fun b=>(b,0)) 0=aG g.ob 0:=by cases g.ob<;>simp [kV,aG]
 rw [<-hob]
 have hne:xs ≠ []->g.ob.isSome=true/\True:=fun hne=>by
  rcases hown with ⟨_,h0⟩ | ⟨b,cap',cur,hv,_⟩
  · exact absurd (List.eq_nil_of_length_eq_zero h0) hne
  · cases hgo:g.ob with
    | none=>rw [hgo] at hv; simp [aG] at hv
    | some b=>simp
 refine .mk xs sz _ _ (fun _=>rfl) g.cap (fun k=>g.vs.getD k undef) hxl ?_ (fun h=>by have:=(hne h).1; cases hg:g.ob<;>simp [hg] at this ⊢) (fun k c hk=>?_) (fun k v hk=>?_) (fun k ys hk=>?_) hsh
 · rcases hown with ⟨hv,h0⟩ | ⟨b,cap',cur,hv,_,_,hnc,_⟩
   · omega
   · simp only [Value.slice.injEq] at hv; omega
 · obtain ⟨v,hv,_⟩:=hrel.get hk
   have hs:=(hne (fun e=>by subst e; simp at hk)).1
   cases hgo:g.ob with
   | none=>rw [hgo] at hs; simp at hs
   | some b=>simp [hv,hro b hgo k v hv]
 · obtain ⟨u,hu,hr⟩:=hrel.get hk
   have hr':u=v:=hr
   simp [hu,hr']
 · obtain ⟨u,hu,hr⟩:=hrel.get hk
   have hr':FzR ro ys u:=hr
   simp only [List.getD_eq_getElem?_getD,hu,Option.getD_some]
   exact hr'.mono hext
theorem Rel.pubR2 (h:Rel X E ro w) {n:Nat} {g:Gb} {xs:List (List C)} {T sz:Nat} (hn:E[n]? = some (g,.row xs T sz)) :
 ∃ ro',Ext ro ro'/\FzR ro' xs (.slice (aG g.ob 0) xs.length g.cap)/\g.len=xs.length/\(∀ b,g.ob=some b->(∀ off v,ro' b off=some v->g.vs[off]? = some v)/\∀ (j:Nat) (gj:Gb) (blk:B),(aP (B.pub n xs) (E.set n (g,.dead)))[j]? = some (gj,blk)->gj.ob=some b->blk.live=false)/\Rel X (aP (B.pub n xs) (E.set n (g,.dead))) ro' w:=by
 obtain ⟨hrow,hglen,hxl,hsh,hown,hrel,_⟩:=h.own n _ _ hn
 have hk:=h.kill hn
 let ro':RO:=fun b' off=>if g.ob=some b' then g.vs[off]? else ro b' off
 have hnb:∀ b,g.ob=some b->∀ off c,ro b off ≠ some c:=fun b hb off c hc=>by have:=h.apart b off c hc n g _ hn hb; simp [B.live] at this
 have hext:Ext ro ro':=by
  intro b' off c hc
  simp only [ro']
  rw [if_neg (fun e=>hnb b' e off c hc)]
  exact hc
 have hro:∀ b,g.ob=some b->∀ off v,g.vs[off]? = some v->ro' b off=some v:=fun b hb off v hv=>by simp only [ro',hb,if_true]; exact hv
 have hfz:=p9 h hn hext hro
 have hcell:∀ b,g.ob=some b->∀ off v,g.vs[off]? = some v->w.cell? ⟨b,off,none⟩=some v:=by
  intro b hb off v hv
  rw [hb] at hown
  have:=World.ownsRow.cells (h:=hown) (g:=b) rfl off v hv
  rwa [bP,Nat.zero_add] at this
 have hgm:gm (aP (B.pub n xs) (E.set n (g,.dead)))=gm E:=by rw [dJ,dI hn]
 have hgn:(gm E)[n]? = some g:=aQ hn
 have hlt:n < E.length:=(bT.1 hn).1
 have get:∀ (j:Nat) (gj:Gb) (blk:B),(aP (B.pub n xs) (E.set n (g,.dead)))[j]? = some (gj,blk)->blk.live=true->j ≠ n/\∃ bk,E[j]? = some (gj,bk)/\blk=bk.pub n xs/\bk.live=true:=by
  intro j gj blk hj hl
  simp only [aP,List.getElem?_map,List.getElem?_set] at hj
  split at hj
  · rename_i e
    subst e
    simp only [Option.map_some,aB,Prod.mk.injEq,B.pub] at hj
    rw [<-hj.2] at hl; simp [B.live] at hl
  · rename_i e
    cases hE:E[j]? with
    | none=>simp [hE] at hj
    | some y=>
     simp only [hE,Option.map_some,aB,Prod.mk.injEq] at hj
     obtain ⟨rfl,rfl⟩:=hj
     exact ⟨fun e2=>e e2.symm,y.2,rfl,rfl,by cases hy:y.2<;>simp_all [B.pub,B.live]⟩
 have hout:∀ b,g.ob=some b->(∀ off v,ro' b off=some v->g.vs[off]? = some v)/\∀ (j:Nat) (gj:Gb) (blk:B),(aP (B.pub n xs) (E.set n (g,.dead)))[j]? = some (gj,blk)->gj.ob=some b->blk.live=false:=by
  intro b hb
  refine ⟨fun off v hv=>by simpa only [ro',hb,if_true] using hv,fun j gj blk hj ej=>?_⟩
  by_cases hl:blk.live=true
  · obtain ⟨hne,bk,h1,_,h3⟩:=get j gj blk hj hl
    exact absurd (h.inj n j g gj _ bk b hn h1 hb ej rfl h3).symm hne
  · simpa using hl
 refine ⟨ro',hext,hfz,hglen,hout,⟨fun j gj blk hj=>?_,fun j m gj gm' bj bm b hj hm ej em lj lm=>?_,fun b off c hc j gj blk hj ej=>?_,fun b off c hc=>?_,h.ro0.trans hext,fun b off c hc=>?_,fun j b gj blk hj ej lj=>?_,by rw [hgm]; exact h.gx,h.sz,h.keep,h.os,h.tape,h.output⟩⟩
 · by_cases hl:blk.live=true
   · obtain ⟨_,bk,h1,rfl,h3⟩:=get j gj blk hj hl
     have:=h.own j gj bk h1
     rw [hgm]
     cases bk with
     | cells cs T=>
      obtain ⟨q1,b,q2,q3,q4⟩:=this
      exact ⟨q1,b,q2,q3,q4.map (f:=C.pub n xs) fun _ _=>C.rel_pub hext hgn hglen hfz⟩
     | row ys T' sz'=>
      obtain ⟨q0,q1,q2,q3,q4,q5,q6⟩:=this
      exact ⟨q0,q1,q2,q3,q4,q5.imp fun _ _=>C.fv_mono hext,q6⟩
     | rowx ys T' sz'=>
      obtain ⟨h1,h2,h3,h4,h5,h6⟩:=this
      refine ⟨h1,by rw [List.length_map]; exact h2,fun x hx=>?_,by rw [List.length_map]; exact h4,?_,h6⟩
      · obtain ⟨y,hy,rfl⟩:=List.mem_map.1 hx
        rw [List.length_map]; exact h3 y hy
      · rw [<-List.map_flatten]
        exact h5.map (f:=C.pub n xs) fun _ _=>C.rel_pub hext hgn hglen hfz
     | map kd ks vs=>
      obtain ⟨q0,q1,q2,q3⟩:=this
      exact ⟨q0,q1,q2.map (f:=A.pub n xs) fun _ _=>A.rel_pub hext hgn hglen hfz,q3⟩
     | dead=>trivial
   · cases blk<;>simp [B.live] at hl; trivial
 · obtain ⟨_,bk,h1,_,h3⟩:=get j _ _ hj lj
   obtain ⟨_,bk',k1,_,k3⟩:=get m _ _ hm lm
   exact h.inj j m gj gm' bk bk' b h1 k1 ej em h3 k3
 · by_cases hl:blk.live=true
   · obtain ⟨hne,bk,h1,_,h3⟩:=get j gj blk hj hl
     simp only [ro'] at hc
     split at hc
     · rename_i he
       exact absurd (h.inj n j g gj _ bk b hn h1 he ej rfl h3).symm hne
     · have:=h.apart b off c hc j gj bk h1 ej
       rw [h3] at this; cases this
   · simpa using hl
 · simp only [ro'] at hc
   split at hc
   · rename_i he; exact hcell b he off c hc
   · exact h.rd b off c hc
 · simp only [ro'] at hc
   split at hc
   · rename_i he; exact .inr (h.par n b g _ hn he rfl)
   · exact h.rob b off c hc
 · obtain ⟨_,bk,h1,_,h3⟩:=get j _ _ hj lj
   exact h.par j b gj bk h1 ej h3
theorem Rel.pubR (h:Rel X E ro w) {n:Nat} {g:Gb} {xs:List (List C)} {T sz:Nat} (hn:E[n]? = some (g,.row xs T sz)) :
 ∃ ro',Ext ro ro'/\FzR ro' xs (.slice (aG g.ob 0) xs.length g.cap)/\g.len=xs.length/\Rel X (aP (B.pub n xs) (E.set n (g,.dead))) ro' w:=by
 obtain ⟨ro',h1,h2,h3,_,h5⟩:=h.pubR2 hn
 exact ⟨ro',h1,h2,h3,h5⟩
theorem Rel.opn (h:Rel X E ro w) {n:Nat} {g:Gb} {xs:List (List C)} {T sz:Nat} (hn:E[n]? = some (g,.row xs T sz)):Rel X (E.set n (g,.rowx xs T sz)) ro w:=by
 obtain ⟨h1,h2,h3,h4,h5,h6,h7⟩:=h.own n _ _ hn
 exact h.swap (w':=w) hn rfl g.le_refl (Nat.le_refl _) rfl rfl rfl ⟨h1,h2,h3,h5,⟨h6.1,fun k c u hc hu=>(C.rel_shut (h4 c (dL hc))).2 (h6.2 k c u hc hu)⟩,h7⟩ (.inl ⟨rfl,fun _ _=>rfl⟩)
theorem Rel.shu (h:Rel X E ro w) {n:Nat} {g:Gb} {xs:List (List C)} {T sz:Nat} (hn:E[n]? = some (g,.rowx xs T sz)) (hs:∀ c ∈ xs.flatten,c.shut=true):Rel X (E.set n (g,.row xs T sz)) ro w:=by
 obtain ⟨h1,h2,h3,h5,h6,h7⟩:=h.own n _ _ hn
 exact h.swap (w':=w) hn rfl g.le_refl (Nat.le_refl _) rfl rfl rfl ⟨h1,h2,h3,hs,h5,⟨h6.1,fun k c u hc hu=>(C.rel_shut (hs c (dL hc))).1 (h6.2 k c u hc hu)⟩,h7⟩ (.inl ⟨rfl,fun _ _=>rfl⟩)
theorem Rel.nfr (h:Rel X E ro w) {n:Nat} {g:Gb} {xs:List (List C)} {T sz:Nat} (hn:E[n]? = some (g,.rowx xs T sz)):Rel X (E.set n (g,.rowx (xs.map (List.map C.nf)) T sz)) ro w:=by
 obtain ⟨h1,h2,h3,h5,h6,h7⟩:=h.own n _ _ hn
 have hfl:(xs.map (List.map C.nf)).flatten=xs.flatten.map C.nf:=by rw [List.map_flatten]
 exact h.swap (w':=w) hn rfl g.le_refl (Nat.le_refl _) rfl rfl rfl ⟨h1,by rw [List.length_map]; exact h2,fun x hx=>by
  obtain ⟨y,hy,rfl⟩:=List.mem_map.1 hx
  rw [List.length_map]; exact h3 y hy,by rw [List.length_map]; exact h5,by
  rw [hfl]
  refine ⟨by rw [List.length_map]; exact h6.1,fun k c u hc hu=>?_⟩
  rw [List.getElem?_map] at hc
  cases hx:xs.flatten[k]? with
  | none=>rw [hx] at hc; cases hc
  | some d=>
   rw [hx] at hc
   obtain rfl:=bB hc
   rw [dI hn]; exact C.rel_nf (h6.2 k d u hx hu),h7⟩ (.inl ⟨rfl,fun _ _=>rfl⟩)
theorem hp_kill {n:Nat} {g:Gb}:hp (E.set n (g,.dead))=(hp E).set n .dead:=cR E n g .dead
theorem x8 {n:Nat} (h:E[n]? = none):(hp E).set n .dead=hp E:=by
 rw [List.set_eq_of_length_le]
 rw [b4]; exact List.getElem?_eq_none_iff.1 h
theorem iM {k0:Nat} (hk0:X.g0.length=k0) {H:Hp} {Q:Fr->Hp->Prop} (h:Gh k0 Q fr H):∀ {E:Es} {ro:RO},H=hp E->FRel N (gm E) ro fr a->Rel X E ro w->∃ fr' E' ro',Q fr' (hp E')/\FRel N (gm E') ro' fr' a/\Rel X E' ro' w:=by
 induction h with
 | done h=>intro E ro he hf hr; subst he; exact ⟨_,_,_,h,hf,hr⟩
 | wk fr' hw _ ih=>
  intro E ro he hf hr
  refine ih he ⟨hf.size,fun i=>?_,hf.defers⟩ hr
  rcases hw i with e | e
  · rw [e]; exact hf.slot i
  · rw [e]; trivial
 | cut k hk _ ih=>
  intro E ro he hf hr
  subst he
  refine ih (E:=aP (B.ren (kS k)) (E.take k)) (by rw [fQ]; simp [hp,List.map_take]) ⟨hf.size,fun i=>?_,hf.defers⟩ (hr.cut (by omega))
  refine S.rel_ren (fun n m g h1 h2=>?_) (hf.slot i)
  unfold kS at h1
  split at h1
  · rename_i hlt
    simp only [aB] at h1
    subst h1
    rw [dJ,gm,List.map_take,List.getElem?_take,if_pos hlt]
    exact h2
  · cases h1
 | sel ns hd hl hk _ ih=>
  intro E ro he hf hr
  subst he
  refine ih (E:=aP (B.ren (dB ns)) (b7 E ns)) (by rw [fQ,sA]) ⟨hf.size,fun i=>S.rel_ren (fun n m g h1 h2=>by rw [dJ]; exact qH n m g h1 h2) (hf.slot i),hf.defers⟩ (hr.sel hd (fun n hn=>by have:=hl n hn; rwa [b4] at this) fun n g hn=>?_)
  obtain ⟨g',h1,h2⟩:=hr.gx n g hn
  refine ⟨g',?_,h2⟩
  have hlt:n < k0:=by rw [<-hk0]; exact (bT.1 hn).1
  have hns:ns[n]? = some n:=by
   have:=congrArg (·[n]?) hk
   simpa [List.getElem?_take,hlt,List.getElem?_range] using this
  obtain ⟨blk,hE⟩:=jK h1
  simp [gm,b7,hns,hE]
 | kill n _ ih=>
  intro E ro he hf hr
  subst he
  cases hE:E[n]? with
  | none=>exact ih (x8 hE) hf hr
  | some y=>
   obtain ⟨g,blk⟩:=y
   exact ih (E:=E.set n (g,.dead)) hp_kill.symm (by rw [dI hE]; exact hf) (hr.kill hE)
 | nil sl T sz hsl _ ih=>
  intro E ro he hf hr
  subst he
  refine ih (E:=E ++ [((⟨none,true,0,0,T,[]⟩:Gb),B.row [] T sz)]) (by rw [cQ]) ⟨hf.size,fun i=>?_,hf.defers⟩ (hr.push T sz)
  simp only [W.put]
  split
  · rename_i hi
    subst hi
    have:=hf.slot i
    rw [hsl] at this
    have h':a.tmps.getD i undef=.slice none 0 0:=this
    rw [h']
    exact ⟨⟨none,true,0,0,T,[]⟩,by simp [gm,b4],rfl,Nat.le_refl _,⟨_,_,_,rfl⟩,fun _=>rfl⟩
  · exact S.rel_mono (bG _) (Ext.refl _) (hf.slot i)
 | @nilc fr H nm k T sz cs T' hnm hk _ ih=>
  intro E ro he hf hr
  subst he
  obtain ⟨g,hE⟩:=aR hnm
  have hp1:=hr.push T sz
  have hlt:=(bT.1 hE).1
  have hE1:(E ++ [((⟨none,true,0,0,T,[]⟩:Gb),B.row [] T sz)])[nm]? = some (g,.cells cs T'):=by rw [List.getElem?_append_left hlt]; exact hE
  obtain ⟨q1,b,q2,q3,q4⟩:=hp1.own nm _ _ hE1
  have hle:=cE (E:=E ++ [((⟨none,true,0,0,T,[]⟩:Gb),B.row [] T sz)]) (blk':=.cells (cs.set k (.sl (hp E).length 0)) T') hE1 g.le_refl
  have hgm:=dI (E:=E ++ [((⟨none,true,0,0,T,[]⟩:Gb),B.row [] T sz)]) (blk:=.cells (cs.set k (.sl (hp E).length 0)) T') hE1
  have h2:=hp1.swap (w':=w) (blk':=.cells (cs.set k (.sl (hp E).length 0)) T') hE1 rfl g.le_refl (Nat.le_refl _) rfl rfl rfl (by
   rw [hgm]
   refine ⟨q1,b,q2,q3,by rw [List.length_set]; exact q4.1,fun i c v h1 h2=>?_⟩
   rw [List.getElem?_set] at h1
   split at h1
   · rename_i hi
     subst hi
     rw [if_pos (bT.1 hk).1] at h1
     simp only [aB] at h1
     subst h1
     have h':v=.slice none 0 0:=q4.2 k _ v hk h2
     subst h'
     exact ⟨⟨none,true,0,0,T,[]⟩,by simp [gm,b4],rfl,Nat.le_refl _,⟨_,_,_,rfl⟩,fun _=>rfl⟩
   · exact q4.2 i c v h1 h2) (.inl ⟨rfl,fun _ _=>rfl⟩)
  refine ih (E:=(E ++ [((⟨none,true,0,0,T,[]⟩:Gb),B.row [] T sz)]).set nm (g,.cells (cs.set k (.sl (hp E).length 0)) T')) ?_ (by rw [hgm]; exact hf.mono (bG _) (Ext.refl _)) h2
  rw [cR,cQ,List.set_append_left _ _ (by rw [b4]; exact hlt)]
 | nf sl _ ih=>
  intro E ro he hf hr
  refine ih he ⟨hf.size,fun i=>?_,hf.defers⟩ hr
  simp only [W.put]
  split
  · rename_i hi; subst hi; exact S.rel_nf (hf.slot i)
  · exact hf.slot i
 | pub n xs T sz hn _ ih=>
  intro E ro he hf hr
  subst he
  obtain ⟨g,hE⟩:=aR hn
  obtain ⟨ro',hext,hfz,hglen,hr'⟩:=hr.pubR hE
  refine ih (E:=aP (B.pub n xs) (E.set n (g,.dead))) (by rw [fQ,hp_kill]; rfl) ⟨hf.size,fun i=>?_,hf.defers⟩ hr'
  rw [dJ,dI hE]
  exact S.rel_pub hext (aQ hE) hglen hfz (hf.slot i)
 | opn n xs T sz hn _ ih=>
  intro E ro he hf hr
  subst he
  obtain ⟨g,hE⟩:=aR hn
  exact ih (E:=E.set n (g,.rowx xs T sz)) (by rw [cR]) (by rw [dI hE]; exact hf) (hr.opn hE)
 | nfr n xs T sz hn _ ih=>
  intro E ro he hf hr
  subst he
  obtain ⟨g,hE⟩:=aR hn
  exact ih (E:=E.set n (g,.rowx (xs.map (List.map C.nf)) T sz)) (by rw [cR]) (by rw [dI hE]; exact hf) (hr.nfr hE)
 | shu n xs T sz hn hs _ ih=>
  intro E ro he hf hr
  subst he
  obtain ⟨g,hE⟩:=aR hn
  exact ih (E:=E.set n (g,.row xs T sz)) (by rw [cR]) (by rw [dI hE]; exact hf) (hr.shu hE hs)
end
def cC (E:Es):List Nat:=E.filterMap fun e=>if e.2.live then e.1.ob else none
theorem dV {E:Es} {b:Nat}:b ∈ cC E ↔ ∃ (n:Nat) (g:Gb) (blk:B),E[n]? = some (g,blk)/\g.ob=some b/\B.live blk=true:=by
 unfold cC
 rw [List.mem_filterMap]
 constructor
 · rintro ⟨⟨g,blk⟩,hm,he⟩
   simp only at he
   split at he
   · rename_i hl
     obtain ⟨n,hn⟩:=List.mem_iff_getElem?.1 hm
     exact ⟨n,g,blk,hn,he,hl⟩
   · cases he
 · rintro ⟨n,g,blk,hn,hb,hl⟩
   exact ⟨(g,blk),dL hn,by simp [hl,hb]⟩
def sL:List (String × Array Value):=[("internal/strconv.uint64pow10",((List.range 20).map fun i=>Value.int .u64 ((10 ^ i:Nat):Int)).toArray)]
def GR (P:Program) (ro:RO) (w:World):Prop:=∀ x ∈ sL,∀ g,P.globalNamed x.1=some g->(∃ v,ro g 0=some v)/\w.var? P x.1=some x.2
theorem GR.mono {P:Program} {ro ro':RO} {w:World} (h:GR P ro w) (he:Ext ro ro'):GR P ro' w:=fun x hx g hg=>⟨(h x hx g hg).1.imp fun _ hv=>he _ _ _ hv,(h x hx g hg).2⟩
theorem y4 {P:Program} {w:World} {n:String} {g:Nat} {cs:Array Value} (hg:P.globalNamed n=some g) (h:w.var? P n=some cs):g < w.heap.size:=by
 unfold World.var? at h
 rw [hg,Option.bind_some] at h
 rcases kK g w.heap.size with h1 | h1
 · exact h1
 · rw [Array.getElem?_eq_none h1] at h; cases h
def Meets (P:Program) (f:FuncId) (s:nJ):Prop:=
 enters P f=true/\∀ (az:List S) (vs:List Value) (E:Es) (ro:RO) (w:World) (K:S->Hp->Prop),az.length=vs.length->(∀ (i:Nat) (x:S) (v:Value),az[i]? = some x->vs[i]? = some v->x.rel (gm E) ro v)->
  Rel ⟨w,cC E,ro,gm E⟩ E ro w->s az (hp E) K->GR P ro w->
  Calls P f vs.toArray w (fun e w'=>∃ r v E' ro',e=.returned v/\S.rel (gm E') ro' r v/\K r (hp E')/\Rel ⟨w,cC E,ro,gm E⟩ E' ro' w')
def v6 (P:Program) (Γ:bU):Prop:=∀ f s,(f,s) ∈ Γ->Meets P f s.sp/\∀ p,s.fn=some p->Meets P f p.sp
structure MeetsIn (P:Program) (X:Ctx) (Γ:bU):Prop where
 g:GR P X.ro0 X.w0
 nb:∀ x ∈ sL,∀ g,P.globalNamed x.1=some g->g ∉ X.pb
 m:v6 P Γ
theorem MeetsIn.at {P:Program} {X:Ctx} {Γ:bU} {E:Es} {ro:RO} {w:World} (h:MeetsIn P X Γ) (hr:Rel X E ro w):GR P ro w:=fun x hx g hg=>by
 obtain ⟨⟨v,hv⟩,h2⟩:=h.g x hx g hg
 refine ⟨⟨v,hr.ro0 _ _ _ hv⟩,?_⟩
 have hk:=hr.keep g (y4 hg h2) (h.nb x hx g hg)
 unfold World.var? at h2 ⊢
 rw [hg,Option.bind_some] at h2 ⊢
 rw [hk]; exact h2
theorem GR.nb {P:Program} {X:Ctx} {E:Es} {ro:RO} {w:World} (h:GR P ro w) (hr:Rel X E ro w):∀ x ∈ sL,∀ g,P.globalNamed x.1=some g->g ∉ cC E:=fun x hx g hg hb=>by
 obtain ⟨⟨v,hv⟩,_⟩:=h x hx g hg
 obtain ⟨n,gb,blk,h1,h2,h3⟩:=dV.1 hb
 rw [hr.apart _ _ _ hv n gb blk h1 h2] at h3
 cases h3
theorem MeetsIn.here {P:Program} {X:Ctx} {Γ:bU} {E:Es} {ro:RO} {w:World} (h:MeetsIn P X Γ) (hr:Rel X E ro w):MeetsIn P ⟨w,cC E,ro,gm E⟩ Γ:=⟨h.at hr,(h.at hr).nb hr,h.m⟩
theorem uI {f:FuncId} {az:List S} {H:Hp} {K:S->Hp->Prop}:∀ {Γ:bU},sp Γ f az H K->∃ s,(f,s) ∈ Γ/\s.sp az H K
 | [],h=>h.elim
 | (g,s) :: r,h=>by
  simp only [sp] at h
  split at h
  · rename_i hg; subst hg; exact ⟨s,by simp,h⟩
  · obtain ⟨s',h1,h2⟩:=uI h; exact ⟨s',by simp [h1],h2⟩
theorem pP {f:FuncId} {p:Fun}:∀ {Γ:bU},kY Γ f=some p->∃ s,(f,s) ∈ Γ/\s.fn=some p
 | [],h=>by simp [kY] at h
 | (g,s) :: r,h=>by
  simp only [kY] at h
  split at h
  · rename_i hg; subst hg; exact ⟨s,by simp,h⟩
  · obtain ⟨s',h1,h2⟩:=pP h; exact ⟨s',by simp [h1],h2⟩
def res (fr:Fr):Fr:=fun i=>match fr i with | .cn g a=>bif g then .va a else .un | s=>s
section
variable {P:Program} {o:Oper} {N:Nat} {fr:Fr} {a:Act} {E:Es} {γ:List Gb} {ro:RO} {X:Ctx} {w:World} {nw:Bool} {Γ:bU} {ops:Array Oper}
theorem FRel.res (h:FRel N γ ro fr a):FRel N γ ro (res fr) a:=by
 refine ⟨h.size,fun i=>?_,h.defers⟩
 have:=h.slot i
 unfold W.res
 split
 · rename_i g y he
   rw [he] at this
   cases g
   · trivial
   · exact this.1 rfl
 · exact this
theorem r9:∀ {l:List Nat},aK fr l->∀ j ∈ l,(fr j).gd
 | [],_,j,hj=>by simp at hj
 | i :: r,h,j,hj=>by
  rcases List.mem_cons.1 hj with rfl | hj
  · exact h.1
  · exact r9 h.2 j hj
theorem bH {l:List Nat} (h:aK fr l):∀ j ∈ l,fst fr j=res fr j:=by
 intro j hj
 have:=r9 h j hj
 unfold W.fst W.res S.st
 cases hfr:fr j with
 | cn g y=>rw [hfr] at this; simp only [S.gd] at this; subst this; rfl
 | va y=>rfl
 | tu l=>rfl
 | un=>rfl
theorem nF (hf:FRel N γ ro fr a) {sl:Nat} {want g:Bool} (hg:gv fr sl want=some g) {k:Nat} (hk:(ops[k]?).bind (·.dst)=some sl):(yielded ops a.tmps k == some want)=g/\(g=true->a.tmps.getD sl undef=.bool want)/\
 (g=false->∀ b,fr sl=bS b->a.tmps.getD sl undef=.bool (!want)):=by
 have hs:=hf.slot sl
 have key:∀ b:Bool,a.tmps.getD sl undef=.bool b->a.tmps[sl]? = some (.bool b):=by
  intro b hb
  rw [Array.getD_eq_getD_getElem?] at hb
  cases h:a.tmps[sl]? with
  | none=>rw [h] at hb; simp [undef] at hb
  | some v=>rw [h] at hb; simp at hb; rw [hb]
 have hfalse:∀ x:A,fr sl=.cn false x->(yielded ops a.tmps k == some want)=false/\(false=true->a.tmps.getD sl undef=.bool want)/\(false=false->∀ b,fr sl=bS b->a.tmps.getD sl undef=.bool (!want)):=by
  intro x he
  rw [he] at hs
  have hu:a.tmps.getD sl undef=undef:=hs.2 rfl
  have:∀ b:Bool,a.tmps[sl]? ≠ some (.bool b):=by
   intro b hb
   rw [Array.getD_eq_getD_getElem?,hb] at hu
   simp [undef] at hu
  refine ⟨?_,by simp,fun h b' hb'=>by rw [he] at hb'; cases hb'⟩
  unfold yielded
  rw [hk]
  simp only [Option.bind_some]
  cases h:a.tmps[sl]? with
  | none=>rfl
  | some v=>
   cases v with
   | bool b=>exact absurd h (this b)
   | _=>rfl
 unfold gv at hg
 split at hg<;>simp only [aB,reduceCtorEq] at hg
 · rename_i b he
   rw [he] at hs
   have hs':a.tmps.getD sl undef=.bool b:=hs
   unfold yielded
   rw [hk]
   simp only [Option.bind_some]
   rw [key b hs']
   subst hg
   refine ⟨by cases b<;>cases want<;>rfl,fun h=>?_,fun h b' hb'=>?_⟩
   · rw [hs']; simp at h; rw [h]
   · rw [hs']; cases b<;>cases want<;>simp_all
 · rename_i g0 b he
   cases g0 with
   | true=>
    rw [he] at hs
    have hs':a.tmps.getD sl undef=.bool b:=hs.1 rfl
    unfold yielded
    rw [hk]
    simp only [Option.bind_some]
    rw [key b hs']; subst hg
    refine ⟨by cases b<;>cases want<;>rfl,fun h=>?_,fun h b' hb'=>?_⟩
    · rw [hs']; simp at h; rw [h]
    · rw [he] at hb'; cases hb'
   | false=>
    subst hg
    rw [Bool.false_and]
    exact hfalse _ he
 · rename_i x _ he
   subst hg
   exact hfalse _ he
theorem rY (hf:FRel N γ ro fr a) {sl:Nat} {s:S} (h:s.rel γ ro (a.tmps.getD sl undef)):FRel N γ ro (put fr (some sl) s) a:=by
 refine ⟨hf.size,fun i=>?_,hf.defers⟩
 simp only [W.put]
 split
 · rename_i hi; subst hi; exact h
 · exact hf.slot i
theorem rN (hf:FRel N γ ro fr a) {sl:Nat} {want:Bool} (h:a.tmps.getD sl undef=.bool want):FRel N γ ro (cK fr sl want) a:=rY hf h
theorem rR (hf:FRel N γ ro fr a) {sl:Nat} {want:Bool} (h:∀ b,fr sl=bS b->a.tmps.getD sl undef=.bool (!want)):FRel N γ ro (fW fr sl want) a:=by
 unfold fW
 split
 · rename_i b he; exact rY hf (h b he)
 · exact hf
theorem eH {σ:CH} {j:J} (h:gZ P nw N ops σ o=some j):cW P nw σ o.op=some j.i/\dC ops o.guard=some j.g/\j.d=o.dst/\∀ k,o.dst=some k->k < N:=by
 unfold gZ at h
 split at h
 · rename_i i g hi hg
   split at h
   · rename_i d hd
     split at h
     · rename_i hlt; simp only [aB] at h; subst h; exact ⟨hi,hg,rfl,fun k hk=>by rw [hd] at hk; simp only [aB] at hk; rw [<-hk]; exact hlt⟩
     · cases h
   · rename_i hd
     simp only [aB] at h; subst h; exact ⟨hi,hg,rfl,fun k hk=>by rw [hd] at hk; cases hk⟩
 · cases h
theorem xM {σ:CH} {op:Op} {i:QI} (h:cW P nw σ op=some (.q i)):qC P nw op=some i:=by
 unfold cW at h
 split at h
 · rename_i h1; simp only [aB,I.q.injEq] at h; rw [<-h]; exact h1
 · repeat' (split at h)
   all_goals first | (simp at h; done) | (cases σ<;>simp at h; done)
theorem tC {σ:CH} {op:Op} {i:LI} (h:cW P nw σ op=some (.l i)):xP P op=some i:=by
 unfold cW at h
 split at h
 · simp at h
 · split at h
   · rename_i h1; simp only [aB,I.l.injEq] at h; rw [<-h]; exact h1
   · repeat' (split at h)
     all_goals first | (simp at h; done) | (cases σ<;>simp at h; done)
theorem tJ {σ:CH} {op:Op} {x y:O} (h:cW P nw σ op=some (.ix x y)):xA P op=some (x,y):=by
 unfold cW at h
 split at h
 · simp at h
 · split at h
   · simp at h
   · split at h
     · rename_i h1; simp only [aB,I.ix.injEq] at h; obtain ⟨rfl,rfl⟩:=h; exact h1
     · repeat' (split at h)
       all_goals first | (simp at h; done) | (cases σ<;>simp at h; done)
theorem w3 {σ:CH} {op:Op} {i:EI} (h:cW P nw σ op=some (.e i)):∃ i0,iY P op=some i0/\(i=i0\/i=i0.ext):=by
 unfold cW at h
 split at h
 · simp at h
 · split at h
   · simp at h
   · split at h
     · simp at h
     · split at h
       · rename_i i0 h1
         simp only [aB,I.e.injEq] at h
         refine ⟨i0,h1,?_⟩
         rw [<-h]
         cases σ with
         | own l=>exact .inl rfl
         | q=>exact .inr rfl
       · repeat' (split at h)
         all_goals first | (simp at h; done) | (cases σ<;>simp at h; done)
theorem v9 {σ:CH} {op:Op} {c x y:O} (h:cW P nw σ op=some (.pick c x y)):∃ c' x' y',op=.pick c' x' y'/\c=aA c'/\x=aA x'/\y=aA y':=by
 unfold cW at h
 repeat' (split at h)
 all_goals first
  | (simp only [aB,I.pick.injEq] at h; exact ⟨_,_,_,rfl,h.1.symm,h.2.1.symm,h.2.2.symm⟩)
  | (simp at h; done)
  | (cases σ<;>simp at h; done)
theorem zN {σ:CH} {σ':List Nat} {op:Op} {f:FuncId} {xs:List O} (h:cW P nw σ op=some (.cl f xs σ')):∃ c:Call,op=.call c/\c.callee=.value (.func f)/\xs=c.args.toList.map aA:=by
 unfold cW at h
 split at h
 · simp at h
 · split at h
   · simp at h
   · split at h
     · simp at h
     · split at h
       · simp at h
       · split at h
         · simp at h
         · rename_i c _ _ _ _
           split at h
           · rename_i g hcal
             cases σ with
             | own l=>
              simp only [aB,I.cl.injEq] at h
              obtain ⟨rfl,rfl,rfl⟩:=h
              exact ⟨c,rfl,hcal,rfl⟩
             | q=>simp at h
           · cases σ<;>simp at h
           · cases h
         · cases h
theorem zY {σ:CH} {σ':List Nat} {op:Op} {x:O} {xs:List O} (h:cW P nw σ op=some (.ca x xs σ')):∃ (c:Call) (t:Nat),op=.call c/\c.callee=.value (.tmp t)/\x=.t t/\xs=c.args.toList.map aA:=by
 unfold cW at h
 split at h
 · simp at h
 · split at h
   · simp at h
   · split at h
     · simp at h
     · split at h
       · simp at h
       · split at h
         · simp at h
         · rename_i c _ _ _ _
           split at h
           · cases σ<;>simp at h
           · rename_i t hcal
             cases σ with
             | own l=>
              simp only [aB,I.ca.injEq] at h
              obtain ⟨rfl,rfl,rfl⟩:=h
              exact ⟨c,t,rfl,hcal,rfl,rfl⟩
             | q=>simp at h
           · cases h
         · cases h
theorem zQ {σ:CH} {op:Op} {f:FuncId} {xs:List O} (h:cW P nw σ op=some (.cq f xs)):∃ c:Call,op=.call c/\c.callee=.value (.func f)/\xs=c.args.toList.map aA:=by
 unfold cW at h
 split at h
 · simp at h
 · split at h
   · simp at h
   · split at h
     · simp at h
     · split at h
       · simp at h
       · split at h
         · simp at h
         · rename_i c _ _ _ _
           split at h
           · rename_i g hcal
             cases σ with
             | own l=>simp at h
             | q=>
              simp only [aB,I.cq.injEq] at h
              obtain ⟨rfl,rfl⟩:=h
              exact ⟨c,rfl,hcal,rfl⟩
           · cases σ<;>simp at h
           · cases h
         · cases h
theorem bC (h:o.guard=none) (y:Nat->Option Bool):Region.wanted o y=true:=by simp [Region.wanted,h]
theorem yO {b:Bool} {x y:A} {u v:Value} (hx:b=true->x.rel γ ro u) (hy:b=false->y.rel γ ro v):(gX b x y).rel γ ro (if b then u else v):=by
 cases b with
 | true=>
  have:=hx rfl
  unfold gX
  split
  · exact this
  · exact this
 | false=>
  have:=hy rfl
  unfold gX
  split
  · exact this
  · exact this
def QJ (P:Program) (N:Nat) (o:Oper) (a:Act) (E:Es) (ro:RO) (X:Ctx) (K:Fr->Hp->Prop):Prop:=
 ∃ fr',K fr' (hp E)/\∃ v,FRel N (gm E) ro fr' (a.put o.dst v)/\∀ w,Rel X E ro w->(execOp a.eval o).run P w=.ok (.value v) w
theorem QOk.qj {s:S} (h:QOk P o E ro a s) (hf:FRel N (gm E) ro fr a) (hN:∀ k,o.dst=some k->k < N) {K:Fr->Hp->Prop} (hK:K (put fr o.dst s) (hp E)):QJ P N o a E ro X K:=by
 obtain ⟨v,h1,h2⟩:=h
 exact ⟨_,hK,v,hf.put hN h1,fun w hr=>h2 X w hr⟩
theorem BN (hf:FRel N (gm E) ro fr a) (hr0:Rel X E ro w) {σ:CH} {i:I} (hi:cW P nw σ o.op=some i) (hN:∀ k,o.dst=some k->k < N) (hq:(J.mk o.dst none i).quiet=true) {K:Fr->Hp->Prop} (hv:dO Γ fr (hp E) K o.dst i):QJ P N o a E ro X K:=by
 cases i with
 | q q=>
  simp only [dO] at hv
  split at hv
  · rename_i s hs
    obtain ⟨h1,h2,hK⟩:=hv
    obtain ⟨e1,e2⟩:=jX (H:=hp E) (i:=q) (fr:=fst fr) (fr2:=W.res fr) (bH h1)
    rw [e1] at hs
    rw [e2] at h2
    exact (sI hf.res hr0 (xM hi) hs h2).qj hf hN hK
  · exact hv.elim
 | ix x y=>
  simp only [dO] at hv
  split at hv
  · rename_i s k n hx hy
    obtain ⟨⟨hg,h0,h1⟩,hK⟩:=hv
    have hfr:=bH hg
    have hx':ev (W.res fr) x=tS s:=by rw [<-aD (fr:=fst fr) (fun j hj=>hfr j (by simp [hj]))]; exact hx
    have hy':ev (W.res fr) y=iS k n:=by rw [<-aD (fr:=fst fr) (fun j hj=>hfr j (by simp [hj]))]; exact hy
    obtain ⟨c,hc,hq⟩:=sG hf.res (tJ hi) hx' hy' ⟨h0,h1⟩
    exact hq.qj hf hN (hK c hc)
  · exact hv.elim
 | l i=>
  obtain ⟨hg,hv⟩:=hv
  rw [g5 (bH hg)] at hv
  obtain ⟨s,hK,hq⟩:=m7 hf.res hr0 (tC hi) hv
  exact hq.qj hf hN hK
 | pick c x y=>
  simp only [dO] at hv
  split at hv
  · rename_i b ax ay hc hx hy
    obtain ⟨hgc,hgx,hgy,hK⟩:=hv
    obtain ⟨c',x',y',ho,rfl,rfl,rfl⟩:=v9 hi
    have hc2:a.eval c'=.bool b:=by
     have:=aC hf.res c'
     rw [<-aD (fr:=fst fr) (bH hgc),hc] at this
     exact this
    have hq:QOk P o E ro a (.va (gX b ax ay)):=by
     refine ⟨if b then a.eval x' else a.eval y',yO (fun hb=>?_) (fun hb=>?_),fun X w _=>by simp [execOp,ho,hc2,asBool]⟩
     · have:=aC hf.res x'
       rw [<-aD (fr:=fst fr) (bH (hgx hb)),hx] at this
       exact this
     · have:=aC hf.res y'
       rw [<-aD (fr:=fst fr) (bH (hgy hb)),hy] at this
       exact this
    exact hq.qj hf hN hK
  · exact hv.elim
 | e i=>simp [J.quiet] at hq
 | cl f xs σ=>simp [J.quiet] at hq
 | ca f xs σ=>simp [J.quiet] at hq
 | cq f xs=>simp [J.quiet] at hq
theorem jY {g:Bool} {s:S} {v:Value} (h:g=true->s.rel γ ro v) (h2:g=false->v=undef):(s.cnd g).rel γ ro v:=by
 cases s with
 | va y=>exact ⟨h,h2⟩
 | _=>trivial
theorem rH:dum.rel γ ro undef:=⟨fun h=>(by cases h),fun _=>rfl⟩
theorem fV (hf:FRel N (gm E) ro fr a) (hr0:Rel X E ro w) {σ:CH} {j:J} (hj:gZ P nw N ops σ o=some j) (hq:j.quiet=true) {K:Fr->Hp->Prop} (hv:vJ Γ fr (hp E) K j) :
 if Region.wanted o (yielded ops a.tmps)=true then QJ P N o a E ro X K else ∃ fr',K fr' (hp E)/\FRel N (gm E) ro fr' (a.put o.dst undef):=by
 obtain ⟨hi,hg,hd,hN⟩:=eH hj
 obtain ⟨d,jg,i⟩:=j
 simp only at hi hg hd
 subst hd
 unfold vJ at hv
 cases hgd:o.guard with
 | none=>
  rw [hgd] at hg
  simp only [dC,aB] at hg
  subst hg
  simp only at hv
  rw [if_pos (bC hgd _)]
  exact BN hf hr0 hi hN hq hv
 | some gw=>
  obtain ⟨k,want⟩:=gw
  rw [hgd] at hg
  simp only [dC] at hg
  split at hg
  · rename_i sl hsl
    simp only [aB] at hg
    subst hg
    simp only at hv
    split at hv
    · exact hv.elim
    · rename_i g hgv
      obtain ⟨hwant,hgt,hgf⟩:=nF hf hgv hsl
      have hw:Region.wanted o (yielded ops a.tmps)=g:=by simp only [Region.wanted,hgd]; exact hwant
      rw [hw]
      have dm:∀ {fr2:Fr},FRel N (gm E) ro fr2 a->K (put fr2 o.dst dum) (hp E)->∃ fr',K fr' (hp E)/\FRel N (gm E) ro fr' (a.put o.dst undef):=fun h hK=>⟨_,hK,h.put hN rH⟩
      cases i with
      | q q=>
       simp only [cP] at hv
       split at hv
       · rename_i s hs
         obtain ⟨h1,hK⟩:=hv
         cases g with
         | true=>
          rw [if_pos rfl]
          obtain ⟨hg1,h2⟩:=h1 rfl
          obtain ⟨e1,e2⟩:=jX (H:=hp E) (i:=q) (fr:=fst fr) (fr2:=W.res fr) (bH hg1)
          rw [e1] at hs
          rw [e2] at h2
          obtain ⟨v,k1,k2⟩:=sI hf.res hr0 (xM hi) hs h2
          exact ⟨_,hK,v,hf.put hN (jY (fun _=>k1) (fun h=>by cases h)),fun w hr=>k2 X w hr⟩
         | false=>
          rw [if_neg (by simp)]
          exact ⟨_,hK,hf.put hN (jY (fun h=>by cases h) (fun _=>rfl))⟩
       · obtain ⟨rfl,hK⟩:=hv
         rw [if_neg (by simp)]
         exact dm hf hK
      | ix x y=>
       simp only [cP] at hv
       split at hv
       · rename_i s k n hx hy
         obtain ⟨h1,hK⟩:=hv
         cases g with
         | true=>
          rw [if_pos rfl]
          obtain ⟨hg1,h2,h3⟩:=h1 rfl
          have hfr:=bH hg1
          have hx':ev (W.res fr) x=tS s:=by rw [<-aD (fr:=fst fr) (fun j hj=>hfr j (by simp [hj]))]; exact hx
          have hy':ev (W.res fr) y=iS k n:=by rw [<-aD (fr:=fst fr) (fun j hj=>hfr j (by simp [hj]))]; exact hy
          obtain ⟨c,hc,v,k1,k2⟩:=sG hf.res (tJ hi) hx' hy' ⟨h2,h3⟩
          exact ⟨_,hK c fun _=>hc,v,hf.put hN ⟨fun _=>k1,fun h=>by cases h⟩,fun w hr=>k2 X w hr⟩
         | false=>
          rw [if_neg (by simp)]
          exact ⟨_,hK 0 (fun h=>by cases h),hf.put hN (s:=.cn false _) ⟨fun h=>(by cases h),fun _=>rfl⟩⟩
       · obtain ⟨rfl,hK⟩:=hv
         rw [if_neg (by simp)]
         exact dm hf hK
      | l i=>
       simp only [cP] at hv
       split at hv
       · rename_i s hs
         obtain ⟨h1,hK⟩:=hv
         cases g with
         | true=>
          rw [if_pos rfl]
          have h3:=A3 hs
          rw [g5 (bH (h1 rfl))] at h3
          obtain ⟨s',rfl,v,k1,k2⟩:=m7 hf.res hr0 (tC hi) h3
          exact ⟨_,hK,v,hf.put hN (jY (fun _=>k1) (fun h=>by cases h)),fun w hr=>k2 X w hr⟩
         | false=>
          rw [if_neg (by simp)]
          exact ⟨_,hK,hf.put hN (jY (fun h=>by cases h) (fun _=>rfl))⟩
       obtain ⟨h1,h2⟩:=hv
       cases g with
       | true=>
        rw [if_pos rfl]
        obtain ⟨hg1,h3⟩:=h1 rfl
        have hf2:=rN hf (hgt rfl)
        rw [g5 (bH hg1)] at h3
        obtain ⟨s,hK,hq⟩:=m7 hf2.res hr0 (tC hi) h3
        exact hq.qj hf2 hN hK
       | false=>
        rw [if_neg (by simp)]
        exact dm (rR hf (hgf rfl)) (h2 rfl)
      | pick c x y=>
       simp only [cP] at hv
       split at hv
       · rename_i b ax ay hc hx hy
         obtain ⟨h1,hK⟩:=hv
         cases g with
         | true=>
          rw [if_pos rfl]
          obtain ⟨hgc,hgx,hgy⟩:=h1 rfl
          have h0:dO Γ fr (hp E) (fun fr' H=>∃ s,fr'=put fr o.dst s/\s=.va (gX b ax ay)/\True) o.dst (.pick c x y):=by
           simp only [dO,hc,hx,hy]
           exact ⟨hgc,hgx,hgy,_,rfl,rfl,trivial⟩
          obtain ⟨fr',⟨s,rfl,rfl,_⟩,v,k1,k2⟩:=BN hf hr0 hi hN rfl h0
          refine ⟨_,hK,v,⟨k1.size,fun i=>?_,k1.defers⟩,k2⟩
          have:=k1.slot i
          cases hd:o.dst with
          | none=>rw [hd] at this; simpa [W.put] using this
          | some d=>
           rw [hd] at this
           simp only [W.put] at this ⊢
           split
           · rename_i he; rw [if_pos he] at this; exact ⟨fun _=>this,fun h=>by cases h⟩
           · rename_i he; rw [if_neg he] at this; exact this
         | false=>
          rw [if_neg (by simp)]
          exact ⟨_,hK,hf.put hN ⟨fun h=>(by cases h),fun _=>rfl⟩⟩
       · obtain ⟨rfl,hK⟩:=hv
         rw [if_neg (by simp)]
         exact dm hf hK
      | e i=>simp [J.quiet] at hq
      | cl f xs σ=>simp [J.quiet] at hq
      | ca f xs σ=>simp [J.quiet] at hq
      | cq f xs=>simp [J.quiet] at hq
  · cases hg
end
def bL:List Nat->Es->Es->Es
 | [],E,E'=>E ++ E'
 | n :: σ,E,E'=>bL σ (E.set n (E'.headD (uJ,.dead))) E'.tail
theorem pB:∀ (σ:List Nat) (E E':Es),hp (bL σ E E')=gP σ (hp E) (hp E')
 | [],E,E'=>by simp [bL,gP,hp]
 | n :: σ,E,E'=>by
  simp only [bL,gP]
  rw [pB σ]
  congr 1
  · cases E'<;>simp [hp,List.map_set]
  · cases E'<;>simp [hp]
theorem iI:∀ (σ:List Nat) (E E':Es) {n:Nat},n ∉ σ->n < E.length->(bL σ E E')[n]? = E[n]?
 | [],E,E',n,h,hl=>by simp only [bL]; rw [List.getElem?_append_left hl]
 | k :: σ,E,E',n,h,hl=>by
  simp only [List.mem_cons,not_or] at h
  simp only [bL]
  rw [iI σ _ _ h.2 (by rw [List.length_set]; exact hl),List.getElem?_set,if_neg (fun e=>h.1 e.symm)]
theorem l9:∀ (σ:List Nat) (E E':Es),σ.Nodup->(∀ n ∈ σ,n < E.length)->σ.length<=E'.length->∀ (j:Nat) (e:Gb × B),E'[j]? = some e->∃ n,back σ E.length j=some n/\(bL σ E E')[n]? = some e
 | [],E,E',_,_,_,j,e,hj=>⟨E.length + j,by simp [back],by simp only [bL]; rw [List.getElem?_append_right (by omega)]; simpa using hj⟩
 | k :: σ,E,[],_,_,hl,j,e,hj=>by simp at hl
 | k :: σ,E,e0 :: E',hd,hlt,hl,j,e,hj=>by
  simp only [List.nodup_cons] at hd
  simp only [bL,List.headD_cons,List.tail_cons]
  cases j with
  | zero=>
   simp only [List.getElem?_cons_zero,aB] at hj
   subst hj
   have hk:=hlt k (by simp)
   exact ⟨k,by simp [back],by rw [iI σ _ _ hd.1 (by rw [List.length_set]; exact hk),List.getElem?_set,if_pos rfl,if_pos hk]⟩
  | succ j=>
   obtain ⟨n,h1,h2⟩:=l9 σ (E.set k e0) E' hd.2 (fun n hn=>by rw [List.length_set]; exact hlt n (by simp [hn])) (by simpa using hl) j e (by simpa using hj)
   refine ⟨n,?_,h2⟩
   rw [List.length_set] at h1
   rw [<-h1]
   simp [back]
theorem mH:∀ (σ:List Nat) (E E':Es) (n:Nat) (e:Gb × B),(bL σ E E')[n]? = some e->
 (n ∉ σ/\n < E.length/\E[n]? = some e)\/(∃ j,E'[j]? = some e/\some n=back σ E.length j)\/e=(uJ,.dead)
 | [],H,H',n,e,h=>by
  simp only [bL,List.getElem?_append] at h
  split at h
  · exact .inl ⟨by simp,by assumption,h⟩
  · exact .inr (.inl ⟨_,h,by simp [back]; omega⟩)
 | k :: σ,H,H',n,e,h=>by
  simp only [bL] at h
  have ih:=mH σ _ _ n e h
  rw [List.length_set] at ih
  rcases ih with ⟨h1,h2,h3⟩ | ⟨j,h1,h2⟩ | h1
  · rw [List.getElem?_set] at h3
    split at h3
    · rename_i hk
      subst hk
      have h4:H'.headD (uJ,.dead)=e:=by
       have h3':some (H'.headD (uJ,.dead))=some e:=by simpa [h2] using h3
       exact bB h3'
      cases H' with
      | nil=>exact .inr (.inr h4.symm)
      | cons y r=>exact .inr (.inl ⟨0,by simpa using h4,rfl⟩)
    · rename_i hk
      exact .inl ⟨by simp; exact ⟨fun e=>hk e.symm,h1⟩,h2,h3⟩
  · refine .inr (.inl ⟨j + 1,?_,?_⟩)
    · cases H' with
      | nil=>simp at h1
      | cons y r=>simpa using h1
    · rw [h2]; simp [back]
  · exact .inr (.inr h1)
section
variable {P:Program} {o:Oper} {N:Nat} {fr:Fr} {a:Act} {E:Es} {γ:List Gb} {ro:RO} {X:Ctx} {w:World} {nw:Bool} {Γ:bU} {ops:Array Oper}
theorem Rel.here (h:Rel X E ro w):Rel ⟨w,cC E,ro,gm E⟩ E ro w:=
 ⟨h.own,h.inj,h.apart,h.rd,Ext.refl _,fun _ _ _ h=>.inl h,fun n b g blk hn en hl=>.inr (dV.2 ⟨n,g,blk,hn,en,hl⟩),GExt.refl _,Nat.le_refl _,fun _ _ _=>rfl,rfl,rfl,rfl⟩
theorem Rel.back (h:Rel X E ro w) {σ:List Nat} (hnd:σ.Nodup) (hlt:∀ n ∈ σ,n < E.length) {El E':Es} (hEl:El=aP (B.ren (dB σ)) (b7 E σ)) {ro':RO} {w':World}
 (k:Rel ⟨w,cC El,ro,gm El⟩ E' ro' w'):Rel X (bL σ E (aP (B.ren (W.back σ E.length)) E')) ro' w'/\GExt (gm E) (gm (bL σ E (aP (B.ren (W.back σ E.length)) E')))/\
   ∀ (n m:Nat) (g:Gb),W.back σ E.length n=some m->(gm E')[n]? = some g->(gm (bL σ E (aP (B.ren (W.back σ E.length)) E')))[m]? = some g:=by
 have hEll:El.length=σ.length:=by rw [hEl]; simp [aP,b7]
 have hel:∀ (j n:Nat),σ[j]? = some n->∃ g blk,E[n]? = some (g,blk)/\El[j]? = some (g,blk.ren (dB σ)):=by
  intro j n hj
  have hn:=hlt n (dL hj)
  refine ⟨(E[n]).1,(E[n]).2,by rw [b5 hn],?_⟩
  rw [hEl]
  simp [aP,b7,hj,b5 hn]
 have hbl:∀ b,b ∈ cC El->∃ (n:Nat) (g:Gb) (blk:B),n ∈ σ/\E[n]? = some (g,blk)/\g.ob=some b/\B.live blk=true:=by
  intro b hb
  obtain ⟨j,g,blk,hj,hgb,hl⟩:=dV.1 hb
  have hjl:j < σ.length:=by rw [<-hEll]; exact (bT.1 hj).1
  obtain ⟨g',blk',h1,h2⟩:=hel j _ (b5 hjl)
  rw [h2] at hj
  simp only [aB,Prod.mk.injEq] at hj
  obtain ⟨rfl,rfl⟩:=hj
  exact ⟨_,_,blk',List.getElem_mem hjl,h1,hgb,by rw [B.live_ren] at hl; exact hl⟩
 have hlen':σ.length<=E'.length:=by
  rcases kK E'.length σ.length with hc | hc
  · have hg:=(hel _ _ (b5 hc))
    obtain ⟨g,blk,_,h2⟩:=hg
    obtain ⟨g',h3,_⟩:=k.gx _ g (aQ h2)
    have:=(bT.1 h3).1
    rw [AF] at this
    omega
  · exact hc
 have hlenb:σ.length<=(aP (B.ren (W.back σ E.length)) E').length:=by simpa [aP] using hlen'
 have fwd:∀ (n m:Nat) (g:Gb),W.back σ E.length n=some m->(gm E')[n]? = some g->(gm (bL σ E (aP (B.ren (W.back σ E.length)) E')))[m]? = some g:=by
  intro n m g h1 h2
  obtain ⟨blk,h3⟩:=jK h2
  obtain ⟨n',h4,h5⟩:=l9 σ E (aP (B.ren (W.back σ E.length)) E') hnd hlt hlenb n (g,blk.ren (W.back σ E.length)) (by simp [aP,h3])
  rw [h1] at h4
  simp only [aB] at h4
  subst h4
  exact aQ h5
 have gx2:GExt (gm E) (gm (bL σ E (aP (B.ren (W.back σ E.length)) E'))):=by
  intro n g hn
  obtain ⟨blk,hE⟩:=jK hn
  by_cases hs:n ∈ σ
  · obtain ⟨j,hj⟩:=List.mem_iff_getElem?.1 hs
    obtain ⟨g1,b1,h1,h2⟩:=hel j n hj
    rw [hE] at h1
    simp only [aB,Prod.mk.injEq] at h1
    obtain ⟨rfl,rfl⟩:=h1
    obtain ⟨g',h3,h4⟩:=k.gx j g (aQ h2)
    exact ⟨g',fwd j n g' (by simp [W.back,hj]) h3,h4⟩
  · exact ⟨g,by simp only [gm,List.getElem?_map]; rw [iI σ _ _ hs (bT.1 hE).1,hE]; rfl,g.le_refl⟩
 have hlb:∀ (n b:Nat) (g:Gb) (blk:B),n ∈ σ->E[n]? = some (g,blk)->g.ob=some b->B.live blk=true->b ∈ cC El:=by
  intro n b g blk hn hE hb hl
  obtain ⟨j,hj⟩:=List.mem_iff_getElem?.1 hn
  obtain ⟨g1,b1,h1,h2⟩:=hel j n hj
  rw [hE] at h1
  simp only [aB,Prod.mk.injEq] at h1
  obtain ⟨rfl,rfl⟩:=h1
  exact dV.2 ⟨j,g,_,h2,hb,by rw [B.live_ren]; exact hl⟩
 have hold:∀ (n b:Nat) (g:Gb) (blk:B),n ∉ σ->E[n]? = some (g,blk)->g.ob=some b->B.live blk=true->b < w.heap.size/\b ∉ cC El:=by
  intro n b g blk hn hE hgb hl
  refine ⟨(h.own n _ blk hE).lt hl hgb,fun hb=>?_⟩
  obtain ⟨m,gm',bk,hm,hEm,hgm,hlm⟩:=hbl b hb
  have:=h.inj n m g gm' blk bk b hE hEm hgb hgm hl hlm
  subst this
  exact hn hm
 have hget:∀ (n:Nat) (g:Gb) (blk:B),(bL σ E (aP (B.ren (W.back σ E.length)) E'))[n]? = some (g,blk)->blk.live=true->
  (n ∉ σ/\E[n]? = some (g,blk))\/(∃ (j:Nat) (bk:B),E'[j]? = some (g,bk)/\bk.live=true/\blk=bk.ren (W.back σ E.length)/\some n=W.back σ E.length j):=by
  intro n g blk hn hl
  rcases mH _ _ _ _ _ hn with ⟨h1,_,h2⟩ | ⟨j,h1,h2⟩ | h1
  · exact .inl ⟨h1,h2⟩
  · simp only [aP,List.getElem?_map] at h1
    cases hj:E'[j]? with
    | none=>rw [hj] at h1; cases h1
    | some y=>
     rw [hj] at h1
     simp only [Option.map_some,aB,Prod.mk.injEq] at h1
     obtain ⟨h1a,h1b⟩:=h1
     subst h1b
     exact .inr ⟨j,y.2,by rw [hj,<-h1a],by rw [B.live_ren] at hl; exact hl,rfl,h2⟩
  · simp only [Prod.mk.injEq] at h1; rw [h1.2] at hl; cases hl
 have hext:Ext ro ro':=k.ro0
 refine ⟨⟨fun n g blk hn=>?_,fun n m gn gm' bn bm b hn hm en em ln lm=>?_,fun b off c hc n g blk hn en=>?_,k.rd,h.ro0.trans hext,fun b off c hc=>?_,fun n b g blk hn en hl=>?_,h.gx.trans gx2,Nat.le_trans h.sz k.sz,fun b hb hp=>?_,k.os.trans h.os,k.tape.trans h.tape,k.output.trans h.output⟩,gx2,fwd⟩
 · by_cases hl:blk.live=true
   · rcases hget n g blk hn hl with ⟨h1,h2⟩ | ⟨j,bk,h1,h2,rfl,h4⟩
     · refine (h.own n g blk h2).same gx2 hext fun b hb=>?_
       obtain ⟨h3,h4⟩:=hold n b g blk h1 h2 hb hl
       exact k.keep b h3 h4
     · exact B.On_ren fwd (k.own j g bk h1)
   · cases blk<;>simp [B.live] at hl; trivial
 · rcases hget n _ bn hn ln with ⟨h1,h2⟩ | ⟨j,bk,h1,h2,h3,h4⟩<;>rcases hget m _ bm hm lm with ⟨k1,k2⟩ | ⟨j',bk',k1,k2,k3,k4⟩
   · exact h.inj n m gn gm' bn bm b h2 k2 en em ln lm
   · obtain ⟨q1,q2⟩:=hold n b gn bn h1 h2 en ln
     rcases k.par j' b gm' bk' k1 em k2 with q | q
     · simp only at q; omega
     · exact absurd q q2
   · obtain ⟨q1,q2⟩:=hold m b gm' bm k1 k2 em lm
     rcases k.par j b gn bk h1 en h2 with q | q
     · simp only at q; omega
     · exact absurd q q2
   · have:=k.inj j j' gn gm' bk bk' b h1 k1 en em h2 k2
     subst this
     rw [<-k4] at h4
     exact bB h4
 · by_cases hl:blk.live=true
   · rcases hget n _ blk hn hl with ⟨h1,h2⟩ | ⟨j,bk,h1,h2,h3,h4⟩
     · obtain ⟨q1,q2⟩:=hold n b g blk h1 h2 en hl
       rcases k.rob b off c hc with q | q | q
       · have:=h.apart b off c q n g blk h2 en; rw [hl] at this; cases this
       · simp only at q; omega
       · exact absurd q q2
     · have:=k.apart b off c hc j g bk h1 en; rw [h2] at this; cases this
   · simpa using hl
 · rcases k.rob b off c hc with q | q | q
   · exact h.rob b off c q
   · simp only at q; have:=h.sz; exact .inr (.inl (by omega))
   · obtain ⟨n,g,blk,hn,hE,hgb,hl⟩:=hbl b q
     exact .inr (h.par n b g blk hE hgb hl)
 · rcases hget n _ blk hn hl with ⟨h1,h2⟩ | ⟨j,bk,h1,h2,h3,h4⟩
   · exact h.par n b g blk h2 en hl
   · rcases k.par j b g bk h1 en h2 with q | q
     · simp only at q; have:=h.sz; exact .inl (by omega)
     · obtain ⟨n',g',blk',hn',hE,hgb,hl'⟩:=hbl b q
       exact h.par n' b g' blk' hE hgb hl'
 · rw [k.keep b (by have:=h.sz; simp only; omega) (fun hb'=>?_)]
   · exact h.keep b hb hp
   · obtain ⟨n,g,blk,hn,hE,hgb,hl⟩:=hbl b hb'
     rcases h.par n b g blk hE hgb hl with q | q
     · omega
     · exact hp q
theorem f5 {f:FuncId} (he:enters P f=true) (args:Array Value) (w:World):(callFunc f args).run P w=.ok (.enter f args) w:=by
 unfold enters at he
 cases hf:P.funcs[f]? with
 | none=>simp [hf] at he
 | some fn=>
  simp only [hf,Bool.and_eq_true,Bool.not_eq_true'] at he
  cases hb:fn.body with
  | none=>simp [hb] at he
  | some c=>
   have hn:=he.2
   simp only [callFunc,Sem.run_bind,run_program,Result.andThen_ok,hf,hn,hb]
   simp
theorem jS (hr:Rel X E ro w) (hm:MeetsIn P X Γ) {f:FuncId} {az:List S} {vs:List Value} (hl:az.length=vs.length) (hrel:∀ (i:Nat) (x:S) (v:Value),az[i]? = some x->vs[i]? = some v->x.rel (gm E) ro v)
 (hrun:enters P f=true->(execOp a.eval o).run P w=.ok (.enter f vs.toArray) w) {σ:List Nat} {R:S->Hp->Prop} (hv:mT Γ (hp E) f az σ R):bQ P o a w X E ro R:=by
 intro next Q hK
 obtain ⟨⟨hnd,hlt⟩,hsp⟩:=hv
 obtain ⟨s,hmem,hs⟩:=uI hsp
 rw [b4] at hlt
 have gxl:∀ (n m:Nat) (g:Gb),dB σ n=some m->(gm E)[n]? = some g->(gm (aP (B.ren (dB σ)) (b7 E σ)))[m]? = some g:=fun n m g h1 h2=>by rw [dJ]; exact qH n m g h1 h2
 have hloc:Rel ⟨w,cC (aP (B.ren (dB σ)) (b7 E σ)),ro,gm (aP (B.ren (dB σ)) (b7 E σ))⟩ (aP (B.ren (dB σ)) (b7 E σ)) ro w:=by
  have h0:Rel ⟨w,cC E,ro,[]⟩ E ro w:=⟨hr.own,hr.inj,hr.apart,hr.rd,Ext.refl _,fun _ _ _ h=>.inl h,fun n b g blk hn en hl=>.inr (dV.2 ⟨n,g,blk,hn,en,hl⟩),fun n g hn=>by simp at hn,Nat.le_refl _,fun _ _ _=>rfl,rfl,rfl,rfl⟩
  exact (h0.sel hnd hlt (fun n g hn=>by simp at hn)).here
 obtain ⟨hent,hmeets⟩:=(hm.m f s hmem).1
 have hcall:=hmeets (az.map fun s=>s.nf.ren (dB σ)) vs (aP (B.ren (dB σ)) (b7 E σ)) ro w _ (by simpa using hl) (fun i x v hx hv=>by
  rw [List.getElem?_map] at hx
  cases hi:az[i]? with
  | none=>rw [hi] at hx; cases hx
  | some y=>
   rw [hi] at hx
   simp only [Option.map_some,aB] at hx
   subst hx
   exact S.rel_ren gxl (S.rel_nf (hrel i y v hi hv))) hloc (by rw [fQ,sA]; exact hs) (hm.at hr)
 unfold Oper.wp
 rw [hrun hent,Oper.upon_enter]
 refine hcall.mono ?_
 rintro e w' ⟨r,v,E',ro',rfl,hrv,hR,hrel'⟩
 obtain ⟨q1,q2,q3⟩:=hr.back hnd hlt rfl hrel'
 refine hK _ v _ ro' w' ?_ (S.rel_ren q3 hrv) q2 hrel'.ro0 q1
 rw [pB,fQ]
 rw [b4] at hR
 exact hR
theorem rI:∀ {xs:List O},aK fr (O.sls xs)->∀ x ∈ xs,aK fr x.sl
 | [],_,x,hx=>by simp at hx
 | y :: r,h,x,hx=>by
  simp only [O.sls] at h
  have hsplit:∀ {l1 l2:List Nat},aK fr (l1 ++ l2)->aK fr l1/\aK fr l2:=by
   intro l1
   induction l1 with
   | nil=>intro l2 h; exact ⟨trivial,h⟩
   | cons i r ih=>intro l2 h; exact ⟨⟨h.1,(ih h.2).1⟩,(ih h.2).2⟩
  rcases List.mem_cons.1 hx with rfl | hx
  · exact (hsplit h).1
  · exact rI (hsplit h).2 x hx
theorem r8:∀ {l1 l2:List Nat},aK fr (l1 ++ l2)->aK fr l1/\aK fr l2
 | [],l2,h=>⟨trivial,h⟩
 | i :: r,l2,h=>by obtain ⟨h1,h2⟩:=r8 (l1:=r) h.2; exact ⟨⟨h.1,h1⟩,h2⟩
theorem kD (hf:FRel N γ ro fr a) {xs:List Operand} (hg:aK fr (O.sls (xs.map aA))):∀ (i:Nat) (x:S) (v:Value),((xs.map aA).map fun o=>ev (fst fr) o)[i]? = some x->(xs.map a.eval)[i]? = some v->x.rel γ ro v:=by
 intro i x v hx hv
 rw [List.map_map,List.getElem?_map] at hx
 rw [List.getElem?_map] at hv
 cases hi:xs[i]? with
 | none=>rw [hi] at hx; cases hx
 | some y=>
  rw [hi] at hx hv
  simp only [Option.map_some,Function.comp,aB] at hx hv
  subst hx; subst hv
  have hgy:=rI hg (aA y) (List.mem_map.2 ⟨y,dL hi,rfl⟩)
  rw [aD (bH hgy)]
  exact aC hf.res y
theorem wM (hf:FRel N (gm E) ro fr a) (hr:Rel X E ro w) (hm:MeetsIn P X Γ) {f:FuncId} {c:Call} (ho:o.op=.call c) (hc:c.callee=.value (.func f)) {σ:List Nat} {R:S->Hp->Prop}
 (hv:vI Γ fr (hp E) R (.cl f (c.args.toList.map aA) σ)):bQ P o a w X E ro R:=by
 obtain ⟨hg,hv⟩:=hv
 refine jS (vs:=c.args.toList.map a.eval) hr hm (by simp) (kD hf hg) (fun hent=>?_) hv
 have he':=f5 hent (c.args.map a.eval) w
 have harr:c.args.map a.eval=(c.args.toList.map a.eval).toArray:=by rw [<-Array.toList_map,Array.toArray_toList]
 rw [harr] at he'
 simp [execOp,ho,resolve,hc,Act.eval,Deferred.ofValue,invoke,harr,he']
theorem vG {γ:List Gb} {ro:RO} {x:Bool × List C} {v:Value} (h:lC γ ro x v):(s0 x).rel γ ro v:=by
 obtain ⟨b,cs⟩:=x
 cases b with
 | false=>
  match cs,h with
  | [c],h=>exact C.rel_of0 h
 | true=>
  obtain ⟨vs,h1,h2⟩:=h
  exact ⟨vs,h1,h2.imp fun _ _=>C.rel_of0⟩
theorem uT (hf:FRel N (gm E) ro fr a) (hr:Rel X E ro w) (hm:MeetsIn P X Γ) {t:Nat} {c:Call} (ho:o.op=.call c) (hc:c.callee=.value (.tmp t)) {σ:List Nat} {R:S->Hp->Prop}
 (hv:vI Γ fr (hp E) R (.ca (.t t) (c.args.toList.map aA) σ)):bQ P o a w X E ro R:=by
 obtain ⟨hg,hv⟩:=hv
 obtain ⟨hg1,hg2⟩:=r8 hg
 split at hv
 · rename_i f ns hx
   have h1:(C.fn f ns).rel (gm E) ro (a.eval (.tmp t)):=by
    have:=aC hf.res (.tmp t)
    simp only [aA] at this
    rw [<-aD (fr:=fst fr) (bH hg1),hx] at this
    exact this
   obtain ⟨bs,h2,h3⟩:=h1
   refine jS (vs:=c.args.toList.map a.eval ++ bs) hr hm (by simp [h3.1]) (fun i x v hxx hvv=>?_) (fun hent=>?_) hv
   · rw [List.getElem?_append] at hxx hvv
     simp only [List.length_map] at hxx hvv
     split at hxx
     · rename_i hlt
       rw [if_pos hlt] at hvv
       exact kD hf hg2 i x v hxx hvv
     · rename_i hlt
       rw [if_neg hlt] at hvv
       rw [List.getElem?_map] at hxx
       cases hn:ns[i - c.args.toList.length]? with
       | none=>rw [hn] at hxx; cases hxx
       | some n=>
        rw [hn] at hxx
        simp only [Option.map_some,aB] at hxx
        subst hxx
        exact vG (h3.2 _ n v hn hvv)
   · have harr:c.args.map a.eval ++ bs.toArray=(c.args.toList.map a.eval ++ bs).toArray:=by
      apply Array.ext'; simp
     have he':=f5 hent (c.args.map a.eval ++ bs.toArray) w
     simp only [Act.eval] at h2
     rw [<-harr]
     simp [execOp,ho,resolve,hc,Act.eval,h2,Deferred.ofValue,invoke] at he' ⊢
     exact he'
 · rename_i f fs hx
   have h1:(C.fm f fs).rel (gm E) ro (a.eval (.tmp t)):=by
    have:=aC hf.res (.tmp t)
    simp only [aA] at this
    rw [<-aD (fr:=fst fr) (bH hg1),hx] at this
    exact this
   obtain ⟨bs,h2,h3⟩:=h1
   refine jS (vs:=bs ++ c.args.toList.map a.eval) hr hm (by simp [h3.1]) (fun i x v hxx hvv=>?_) (fun hent=>?_) hv
   · rw [List.getElem?_append] at hxx hvv
     simp only [List.length_map,<-h3.1] at hxx hvv
     split at hxx
     · rename_i hlt
       rw [if_pos hlt] at hvv
       rw [List.getElem?_map] at hxx
       cases hn:fs[i]? with
       | none=>rw [hn] at hxx; cases hxx
       | some n=>
        rw [hn] at hxx
        simp only [Option.map_some,aB] at hxx
        subst hxx
        obtain ⟨us,k1,k2⟩:=h3.2 _ n v hn hvv
        exact ⟨us,k1,k2.imp fun _ _=>C.rel_fv⟩
     · rename_i hlt
       rw [if_neg hlt] at hvv
       exact kD hf hg2 _ x v hxx hvv
   · have harr:bs.toArray ++ c.args.map a.eval=(bs ++ c.args.toList.map a.eval).toArray:=by
      apply Array.ext'; simp
     have he':=f5 hent (bs.toArray ++ c.args.map a.eval) w
     simp only [Act.eval] at h2
     rw [<-harr]
     simp [execOp,ho,resolve,hc,Act.eval,h2,Deferred.ofValue,invoke] at he' ⊢
     exact he'
 · exact hv.elim
end
section
variable {P:Program} {o:Oper} {N:Nat} {fr:Fr} {a:Act} {E:Es} {ro:RO} {X:Ctx} {w:World} {R:S->Hp->Prop}
theorem Rel.more (h:Rel X E ro w) {b:Nat} {vs:List Value} (hb:X.w0.heap.size<=b\/b ∈ X.pb) (hn:∀ (n:Nat) (g:Gb) (blk:B),E[n]? = some (g,blk)->g.ob=some b->blk.live=false)
 (hcell:∀ off v,vs[off]? = some v->w.cell? ⟨b,off,none⟩=some v) (hro:∀ off v,ro b off=some v->vs[off]? = some v) :
 ∃ ro',Ext ro ro'/\(∀ off v,vs[off]? = some v->ro' b off=some v)/\Rel X E ro' w:=by
 let ro':RO:=fun b' off=>if b'=b then vs[off]? else ro b' off
 have hext:Ext ro ro':=by
  intro b' off c hc
  simp only [ro']
  by_cases e:b'=b
  · subst e; rw [if_pos rfl]; exact hro off c hc
  · rw [if_neg e]; exact hc
 refine ⟨ro',hext,fun off v hv=>by simp only [ro',if_true]; exact hv,⟨fun n g blk hn'=>?_,h.inj,fun b' off c hc n g blk hn' e=>?_,fun b' off c hc=>?_,h.ro0.trans hext,fun b' off c hc=>?_,h.par,h.gx,h.sz,h.keep,h.os,h.tape,h.output⟩⟩
 · exact (h.own n g blk hn').same (GExt.refl _) hext fun _ _=>rfl
 · simp only [ro'] at hc
   split at hc
   · rename_i e2; subst e2; exact hn n g blk hn' e
   · exact h.apart b' off c hc n g blk hn' e
 · simp only [ro'] at hc
   split at hc
   · rename_i e2; subst e2; exact hcell off c hc
   · exact h.rd b' off c hc
 · simp only [ro'] at hc
   split at hc
   · rename_i e2; subst e2; exact .inr hb
   · exact h.rob b' off c hc
theorem Rel.move (h:Rel X E ro w) {w':World} {ob:Option Nat} (hsz:w.heap.size<=w'.heap.size) (h1:w'.os=w.os) (h2:w'.tape=w.tape) (h3:w'.output=w.output)
 (hk:∀ k,k < w.heap.size->some k ≠ ob->w'.heap[k]? = w.heap[k]?) (hl:∀ b,ob=some b->∀ (n:Nat) (g:Gb) (blk:B),E[n]? = some (g,blk)->g.ob=some b->blk.live=false)
 (hrd:∀ b,ob=some b->∀ off v,ro b off=some v->w'.cell? ⟨b,off,none⟩=some v) (hp:∀ b,ob=some b->X.w0.heap.size<=b\/b ∈ X.pb):Rel X E ro w':=by
 refine ⟨fun n g blk hn=>?_,h.inj,h.apart,fun b off c hc=>?_,h.ro0,h.rob,h.par,h.gx,Nat.le_trans h.sz hsz,fun b hb hpb=>?_,h1.trans h.os,h2.trans h.tape,h3.trans h.output⟩
 · by_cases hlv:blk.live=true
   · refine (h.own n g blk hn).same (GExt.refl _) (Ext.refl _) fun k hk'=>hk k ((h.own n g blk hn).lt hlv hk') fun e=>?_
     have:=hl k e.symm n g blk hn hk'
     rw [hlv] at this; cases this
   · cases blk<;>simp [B.live] at hlv; trivial
 · by_cases e:some b=ob
   · exact hrd b e.symm off c hc
   · have:=h.rd b off c hc
     rw [<-this]
     simp only [World.cell?,hk b (h.cell_lt hc) e]
 · rw [hk b (by have:=h.sz; omega) fun e=>by rcases hp b e.symm with h4 | h4; omega; exact hpb h4]
   exact h.keep b hb hpb
theorem BC {ro ro':RO} {ob:Option Nat} {cap sz:Nat} {xs:List (List C)} {vs:List Value} (hxl:∀ x ∈ xs,x.length=sz) (hsh:∀ c ∈ xs.flatten,c.shut=true) (hrel:All2 (C.fv ro) xs.flatten vs) (hext:Ext ro ro')
 (hcap:xs.length<=cap) (hob:xs ≠ []->ob.isSome=true) (hro:∀ b,ob=some b->∀ off v,vs[off]? = some v->ro' b off=some v):FzR ro' xs (.slice (aG ob 0) xs.length cap):=by
 have hob2:kV (ob.map fun b=>(b,0)) 0=aG ob 0:=by cases ob<;>simp [kV,aG]
 rw [<-hob2]
 refine .mk xs sz _ _ (fun _=>rfl) cap (fun k=>vs.getD k undef) hxl hcap (fun h=>by have:=hob h; cases hg:ob<;>simp [hg] at this ⊢) (fun k c hk=>?_) (fun k v hk=>?_) (fun k ys hk=>?_) hsh
 · obtain ⟨v,hv,_⟩:=hrel.get hk
   have hs:=hob (fun e=>by subst e; simp at hk)
   cases hgo:ob with
   | none=>rw [hgo] at hs; simp at hs
   | some b=>simp [hv,hro b hgo k v hv]
 · obtain ⟨u,hu,hr⟩:=hrel.get hk
   have hr':u=v:=hr
   simp [hu,hr']
 · obtain ⟨u,hu,hr⟩:=hrel.get hk
   have hr':FzR ro ys u:=hr
   simp only [List.getD_eq_getElem?_getD,hu,Option.getD_some]
   exact hr'.mono hext
theorem sH {c:C} (h:c.shut=true):c.nf.shut=true:=by
 unfold C.nf
 split
 · rfl
 · exact h
theorem AO {ro:RO} {c:C} {v:Value} (hs:c.shut=true) (h:c.fv ro v):c.nf.fv ro v:=
 (C.rel_shut (γ:=[]) (sH hs)).1 (C.rel_nf ((C.rel_shut hs).2 h))
theorem yK (hf:FRel N (gm E) ro fr a) (hr:Rel X E ro w) {t t2 e:TypeId} {x y:Operand} (ho:o.op=.call { callee:=.builtin .append,args:=#[x,y],argTypes:=#[t,t2] })
 {ys:List (List C)} {sz bytes:Nat} (s:Src P a ro w t t2 o.type e y ys sz bytes)
 (hv:vZ fr (hp E) e sz bytes (aA x) ys R):bQ P o a w X E ro R:=by
 intro next Q hK
 have h1:=aC hf x
 have hshf:∀ c ∈ ys.flatten,c.shut=true:=fun c hc=>by
  obtain ⟨r,h1,h2⟩:=List.mem_flatten.1 hc
  exact (s.hsh r h1 c h2).1
 unfold vZ at hv
 split at hv
 case h_2=>exact hv.elim
 rename_i n len hx
 rw [hx] at h1
 split at hv
 case h_2=>exact hv.elim
 rename_i xs T1 sz1 hH
 obtain ⟨⟨hxl,rfl,rfl,hpos⟩,hb,hR⟩:=hv
 obtain ⟨g,hE⟩:=aR hH
 obtain ⟨hrow,hglen,hxs1,hxsh,hown,hrel,_⟩:=hr.own n _ _ hE
 obtain ⟨g',k1,k2,k3,k4,k5⟩:=h1
 have:g'=g:=by have:=aQ hE; rw [k1] at this; exact (bB this)
 subst this
 have h1':=k5 (by omega)
 have hm:ys ≠ []:=List.length_pos_iff.1 hpos
 rw [hxl] at hown
 obtain ⟨ob',cap',w',hrun,hown',hszw,e1,e2,e3,hc,hcap⟩:=s.told hm g'.ob len g'.cap g'.vs hown hb
 unfold Oper.wp
 have hrun2:(execOp a.eval o).run P w=.ok (.value (.slice (aG ob' 0) (len + ys.length) cap')) w':=by
  simp only [execOp,ho,resolve]
  simp [h1',invoke,builtin,hrun]
 rw [hrun2,Oper.upon_value]
 obtain ⟨ro1,hx1,_,_,hout,hr1⟩:=hr.pubR2 hE
 generalize hE1:aP (B.pub n xs) (E.set n (g',.dead))=E1 at hout hr1
 have hhp:hp E1=pV n xs (hp E):=by rw [<-hE1,fQ,cR]; rfl
 have hgm:gm E1=gm E:=by rw [<-hE1,dJ,dI hE]
 have hpar:∀ b,g'.ob=some b->X.w0.heap.size<=b\/b ∈ X.pb:=fun b hb=>hr.par n b g' _ hE hb rfl
 have hcells:∀ b,ob'=some b->∀ off v,(g'.vs ++ s.news)[off]? = some v->w'.cell? ⟨b,off,none⟩=some v:=by
  intro b hb off v hv
  rw [hb] at hown'
  have:=World.ownsRow.cells (h:=hown') (g:=b) rfl off v hv
  rwa [bP,Nat.zero_add] at this
 have hr2:Rel X E1 ro1 w':=by
  refine hr1.move (ob:=g'.ob) hszw e1 e2 e3 (fun k hk hne=>?_) (fun b hb=>(hout b hb).2) (fun b hb off v hv=>?_) hpar
  · rcases hc with ⟨_,h⟩ | ⟨_,h⟩
    · exact h k hne
    · exact h k hk
  · rcases hc with ⟨h,_⟩ | ⟨_,h⟩
    · have h4:=(hout b hb).1 off v hv
      exact hcells b (h.trans hb) off v (by rw [List.getElem?_append_left (bT.1 h4).1]; exact h4)
    · have:=hr1.rd b off v hv
      rw [<-this]
      simp only [World.cell?,h b (hr1.cell_lt hv)]
 cases hob:ob' with
 | none=>
  exfalso
  rw [hob] at hown'
  rcases hown'.2 with ⟨_,h0⟩ | ⟨b,cap0,cur,hv,_⟩
  · omega
  · simp [aG] at hv
 | some b'=>
  obtain ⟨ro2,hx2,hro2,hr3⟩:=hr2.more (b:=b') (vs:=g'.vs ++ s.news) (by
   rcases hc with ⟨h,_⟩ | ⟨h,_⟩
   · exact hpar b' (by rw [<-h,hob])
   · rw [hob] at h; cases h; exact .inl hr.sz) (fun j gj blk hj ej=>by
   rcases hc with ⟨h,_⟩ | ⟨h,_⟩
   · exact (hout b' (by rw [<-h,hob])).2 j gj blk hj ej
   · rw [hob] at h; cases h
     by_cases hl:blk.live=true
     · have:=(hr1.own j gj blk hj).lt hl ej; omega
     · simpa using hl) (hcells b' hob) (fun off v hv=>by
   rcases hc with ⟨h,_⟩ | ⟨h,_⟩
   · have h4:=(hout b' (by rw [<-h,hob])).1 off v hv
     rw [List.getElem?_append_left (bT.1 h4).1]; exact h4
   · rw [hob] at h; cases h
     have:=hr1.cell_lt hv; omega)
  have hnl:(ys.map (List.map C.nf)).length=ys.length:=by rw [List.length_map]
  have hfz:FzR ro2 (xs ++ ys.map (List.map C.nf)) (.slice (aG ob' 0) (xs ++ ys.map (List.map C.nf)).length cap'):=by
   refine BC (ro:=ro) (sz:=sz1) (vs:=g'.vs ++ s.news) (fun r hr'=>?_) (fun c hc=>?_) ?_ (hx1.trans hx2) ?_ (fun _=>by rw [hob]; rfl) (fun b hb off v hv=>?_)
   · rcases List.mem_append.1 hr' with hr' | hr'
     · exact hxs1 r hr'
     · obtain ⟨q,hq,rfl⟩:=List.mem_map.1 hr'
       rw [List.length_map]; exact s.hz q hq
   · rw [List.flatten_append] at hc
     rcases List.mem_append.1 hc with hc | hc
     · exact hxsh c hc
     · rw [<-List.map_flatten] at hc
       obtain ⟨d,hd,rfl⟩:=List.mem_map.1 hc
       exact sH (hshf d hd)
   · rw [List.flatten_append,<-List.map_flatten]
     exact hrel.app ⟨by rw [List.length_map]; exact s.hrel.1,fun k c v hc hv=>by
      rw [List.getElem?_map] at hc
      cases hd:ys.flatten[k]? with
      | none=>rw [hd] at hc; cases hc
      | some d=>
       rw [hd] at hc
       obtain rfl:=bB hc
       exact AO (hshf d (dL hd)) (s.hrel.2 k d v hd hv)⟩
   · rw [List.length_append,hxl,hnl]; exact hcap
   · rw [hob] at hb; cases hb; exact hro2 off v hv
  rw [<-hob]
  refine hK (.va (.c1 (.fz (xs ++ ys.map (List.map C.nf))))) _ E1 ro2 _ (by rw [hhp]; exact hR) ?_ (by rw [hgm]; exact GExt.refl _) (hx1.trans hx2) hr3
  show FzR ro2 (xs ++ ys.map (List.map C.nf)) (.slice (aG ob' 0) (len + ys.length) cap')
  rw [show len + ys.length=(xs ++ ys.map (List.map C.nf)).length by rw [List.length_append,hxl,hnl]]
  exact hfz
theorem A4 (hf:FRel N (gm E) ro fr a) (hr:Rel X E ro w) {t e:TypeId} {x y:Operand} {i:TypeInfo} {z:Value} (ho:o.op=.call { callee:=.builtin .append,args:=#[x,y],argTypes:=#[t,t] })
 (ht:P.underlying t=some (.slice e)) (hi:P.info? e=some i) (hz:i.zero=some z) (hzs:z.cells.size=i.size) (hsz:0 < i.size) (hby:0 < i.bytes)
 (hv:vE fr (hp E) R (.apz e i.size i.bytes (aA x) (aA y))):bQ P o a w X E ro R:=by
 have h2:=aC hf y
 simp only [vE] at hv
 split at hv
 · rename_i m k hy
   rw [hy] at h2
   split at hv
   case h_2=>exact hv.elim
   rename_i ys T2 sz2 hH
   obtain ⟨⟨hk,rfl,hsh⟩,hv⟩:=hv
   obtain ⟨g,hE⟩:=aR hH
   obtain ⟨hrow,hglen,hys1,hysh,hown,hrel,_⟩:=hr.own m _ _ hE
   obtain ⟨g',k1,k2,k3,k4,k5⟩:=h2
   have:g'=g:=by have:=aQ hE; rw [k1] at this; exact (bB this)
   subst this
   have h2':=k5 (by omega)
   subst hk
   refine yK hf hr ho (Src.slice ht hi hz hzs hsz hby (aG g'.ob 0) g'.cap g'.vs h2' hown.1 hys1 hsh hrel (fun ad had=>?_) (fun hn=>?_)) hv
   · cases hob:g'.ob with
     | none=>rw [hob] at had; simp [aG] at had
     | some b=>
      rw [hob] at had hown
      simp only [aG,Option.map_some,aB] at had
      subst had
      exact World.ownsRow.cells (h:=hown) (g:=b) rfl
   · rcases hown.2 with ⟨hv,h0⟩ | ⟨b,cap0,cur,hv,_⟩
     · exact List.eq_nil_of_length_eq_zero h0
     · rw [hn] at hv; simp at hv
 · exact hv.elim
theorem zV {op:Op} {T:TypeId} {sz b:Nat} {x0 y0:O} (hi:iY P op=some (.ap T sz b x0 y0)):∃ (x y:Operand) (t:TypeId) (i:TypeInfo) (z:Value),op=.call { callee:=.builtin .append,args:=#[x,y],argTypes:=#[t,t] }/\P.underlying t=some (.slice T)/\P.info? T=some i/\i.zero=some z/\z.cells.size=i.size/\0 < i.size/\0 < i.bytes/\sz=i.size/\b=i.bytes/\x0=aA x/\y0=aA y:=by
 cases op<;>simp only [iY,reduceCtorEq,aB] at hi
 case store t x y=>split at hi<;>simp at hi
 case alloc t=>split at hi<;>simp at hi
 case makeMap t r=>
  split at hi
  · cases hi
  · split at hi<;>simp at hi
 case makeSlice t x y=>
  split at hi<;>try (cases hi; done)
  split at hi<;>try (cases hi; done)
  split at hi<;>try (cases hi; done)
  split at hi<;>simp at hi
 case mapUpdate t m k v=>split at hi<;>simp at hi
 case buildSlice t len parts=>
  split at hi<;>try (cases hi; done)
  split at hi<;>try (cases hi; done)
  split at hi<;>try (cases hi; done)
  split at hi<;>simp at hi
 case call c=>
  obtain ⟨cl,args,ats⟩:=c
  simp only at hi
  split at hi
  · rename_i x y t t' ha hat
    obtain rfl:args=#[x,y]:=by rw [<-Array.toArray_toList (xs:=args),ha]
    obtain rfl:ats=#[t,t']:=by rw [<-Array.toArray_toList (xs:=ats),hat]
    split at hi<;>try (cases hi; done)
    rename_i e ht
    split at hi<;>try (cases hi; done)
    rename_i inf hinf
    split at hi<;>try (cases hi; done)
    rename_i z hz
    split at hi
    · rename_i hc
      simp only [aB,EI.ap.injEq] at hi
      obtain ⟨c1,c2,rfl,c4⟩:=hc
      obtain ⟨rfl,rfl,rfl,rfl,rfl⟩:=hi
      exact ⟨x,y,t,inf,z,rfl,ht,hinf,hz,c1,c2,c4,rfl,rfl,rfl,rfl⟩
    · split at hi<;>try (cases hi; done)
      split at hi<;>simp at hi
  · split at hi<;>try (cases hi; done)
    split at hi<;>try (cases hi; done)
    split at hi<;>simp at hi
  · cases hi
theorem tL (hf:FRel N (gm E) ro fr a) (hr:Rel X E ro w) {i:EI} (hi:iY P o.op=some i) (hv:vE fr (hp E) R i.ext):bQ P o a w X E ro R:=by
 by_cases hap:∃ T sz b x y,i=.ap T sz b x y
 · obtain ⟨T,sz,b,x0,y0,rfl⟩:=hap
   obtain ⟨x,y,t,inf,z,ho,ht,hinf,hz,c1,c2,c3,rfl,rfl,rfl,rfl⟩:=zV hi
   exact A4 hf hr ho ht hinf hz c1 c2 c3 hv
 · exact tN hf hr hi hv (fun T sz b x y e=>hap ⟨T,sz,b,x,y,e⟩) fun j hj hvj=>sJ hf hr hj hvj
end
def C.pv:C->Value
 | .vl v=>v
 | _=>undef
def A.fval:A->Value
 | .c1 c=>c.pv
 | .gs cs=>.agg (cs.map C.pv).toArray
theorem lF {γ:List Gb} {ro:RO} {x:A} (h:x.flat) {v:Value}:x.rel γ ro v ↔ v=x.fval:=by
 cases x with
 | c1 c=>
  cases c with
  | vl u=>exact Iff.rfl
  | _=>exact h.elim
 | gs cs=>
  constructor
  · rintro ⟨vs,rfl,h2⟩
    simp only [A.fval]
    congr 2
    apply List.ext_getElem?
    intro i
    rw [List.getElem?_map]
    cases hi:cs[i]? with
    | none=>
     have:vs[i]? = none:=by rw [List.getElem?_eq_none_iff] at hi ⊢; rw [<-h2.1]; exact hi
     rw [this]; rfl
    | some c=>
     obtain ⟨u,hu,hr⟩:=h2.get hi
     obtain ⟨p,rfl⟩:=h c (dL hi)
     rw [hu]
     exact congrArg some hr
  · rintro rfl
    refine ⟨_,rfl,by simp,fun i c v h1 h2=>?_⟩
    rw [List.getElem?_map,h1] at h2
    obtain ⟨p,rfl⟩:=h c (dL h1)
    simp only [Option.map_some,aB,C.pv] at h2
    exact h2.symm
section
variable {P:Program} {o:Oper} {N:Nat} {fr:Fr} {a:Act} {E:Es} {γ:List Gb} {ro:RO} {X:Ctx} {w:World} {nw:Bool} {Γ:bU} {ops:Array Oper}
noncomputable def iW (E:Es) (ro:RO):RO:=fun b off=>
 open Classical in
 if h:∃ v,ro b off=some v\/∃ (n:Nat) (g:Gb) (xs:List (List C)) (T sz:Nat),E[n]? = some (g,.row xs T sz)/\g.ob=some b/\g.vs[off]? = some v then some (Classical.choose h) else none
theorem lK (h:Rel X E ro w):Ext ro (iW E ro)/\(∀ (n:Nat) (g:Gb) (xs:List (List C)) (T sz:Nat),E[n]? = some (g,.row xs T sz)->∀ b,g.ob=some b->∀ off v,g.vs[off]? = some v->iW E ro b off=some v)/\
 ∀ b off v,iW E ro b off=some v->w.cell? ⟨b,off,none⟩=some v:=by
 have key:∀ b off (v v':Value),(ro b off=some v\/∃ (n:Nat) (g:Gb) (xs:List (List C)) (T sz:Nat),E[n]? = some (g,.row xs T sz)/\g.ob=some b/\g.vs[off]? = some v)->
  (ro b off=some v'\/∃ (n:Nat) (g:Gb) (xs:List (List C)) (T sz:Nat),E[n]? = some (g,.row xs T sz)/\g.ob=some b/\g.vs[off]? = some v')->v=v':=by
  intro b off v v' h1 h2
  rcases h1 with h1 | ⟨n,g,xs,T,sz,h1,h1b,h1'⟩<;>rcases h2 with h2 | ⟨m,g2,ys,T',sz',h2,h2b,h2'⟩
  · rw [h1] at h2; exact bB h2
  · have:=h.apart b off v h1 m _ _ h2 h2b; simp [B.live] at this
  · have:=h.apart b off v' h2 n _ _ h1 h1b; simp [B.live] at this
  · have:=h.inj n m _ _ _ _ b h1 h2 h1b h2b rfl rfl
    subst this
    rw [h1] at h2
    simp only [aB,Prod.mk.injEq] at h2
    rw [<-h2.1,h1'] at h2'
    exact bB h2'
 have put:∀ b off v,(ro b off=some v\/∃ (n:Nat) (g:Gb) (xs:List (List C)) (T sz:Nat),E[n]? = some (g,.row xs T sz)/\g.ob=some b/\g.vs[off]? = some v)->iW E ro b off=some v:=by
  intro b off v hc
  unfold iW
  rw [dif_pos ⟨v,hc⟩]
  exact congrArg some (key b off _ _ (Classical.choose_spec (p:=fun v=>ro b off=some v\/∃ (n:Nat) (g:Gb) (xs:List (List C)) (T sz:Nat),E[n]? = some (g,.row xs T sz)/\g.ob=some b/\g.vs[off]? = some v) ⟨v,hc⟩) hc)
 refine ⟨fun b off v hc=>put b off v (.inl hc),fun n g xs T sz hn b hb off v hv=>put b off v (.inr ⟨n,g,xs,T,sz,hn,hb,hv⟩),fun b off v hc=>?_⟩
 unfold iW at hc
 split at hc
 · rename_i hex
   simp only [aB] at hc
   have hs:=Classical.choose_spec hex
   rw [hc] at hs
   rcases hs with hs | ⟨n,g,xs,T,sz,hn,hb,hv⟩
   · exact h.rd b off v hs
   · obtain ⟨_,_,_,_,hown,_,_⟩:=h.own n _ _ hn
     rw [hb] at hown
     have:=World.ownsRow.cells (h:=hown) (g:=b) rfl off v hv
     rwa [bP,Nat.zero_add] at this
 · cases hc
theorem C.rel0_bor (h:Rel X E ro w) {c:C} {v:Value} (hc:c.rel0 (gm E) ro v):(c.bor0 (hp E)).rel0 [] (iW E ro) v:=by
 obtain ⟨h1,h2,_⟩:=lK h
 cases c with
 | no=>trivial
 | vl u=>exact hc
 | pt n off=>trivial
 | qt n l sz i j=>trivial
 | dp n l=>trivial
 | sl n l=>
  simp only [C.bor0]
  split
  · rename_i xs T sz hH
    split
    · rename_i hl
      obtain ⟨g,hE⟩:=aR hH
      obtain ⟨_,hgl,_⟩:=h.own n g _ hE
      obtain ⟨g',k1,k2,k3,k4,k5⟩:=hc
      have:g'=g:=by have:=aQ hE; rw [k1] at this; exact (bB this)
      subst this
      have:=k5 (by omega)
      subst this
      show FzR _ xs _
      rw [hl]
      exact p9 h hE h1 (h2 n g' xs T sz hE)
    · trivial
  · trivial
 | fz xs=>exact FzR.mono h1 hc
 | fp r j=>obtain ⟨b,off,k1,k2⟩:=hc; exact ⟨b,off,k1,fun k c hk=>by obtain ⟨u,p,q⟩:=k2 k c hk; exact ⟨u,h1 _ _ _ p,C.fv_mono h1 q⟩⟩
 | mp n=>trivial
 | fn f cs=>exact hc.elim
 | fm f cs=>obtain ⟨vs,k1,k2⟩:=hc; exact ⟨vs,k1,k2.imp fun _ _ ⟨us,q1,q2⟩=>⟨us,q1,q2.imp fun _ _=>C.fv_mono h1⟩⟩
theorem C.rel_bor (h:Rel X E ro w) {c:C} {v:Value} (hc:c.rel (gm E) ro v):(c.bor (hp E)).rel [] (iW E ro) v:=by
 obtain ⟨h1,h2,_⟩:=lK h
 cases c with
 | no=>trivial
 | vl u=>exact hc
 | pt n off=>trivial
 | qt n l sz i j=>trivial
 | dp n l=>trivial
 | sl n l=>
  simp only [C.bor]
  split
  · rename_i xs T sz hH
    split
    · rename_i hl
      obtain ⟨g,hE⟩:=aR hH
      obtain ⟨_,hgl,_⟩:=h.own n g _ hE
      obtain ⟨g',k1,k2,k3,k4,k5⟩:=hc
      have:g'=g:=by have:=aQ hE; rw [k1] at this; exact (bB this)
      subst this
      have:=k5 (by omega)
      subst this
      show FzR _ xs _
      rw [hl]
      exact p9 h hE h1 (h2 n g' xs T sz hE)
    · trivial
  · trivial
 | fz xs=>exact FzR.mono h1 hc
 | fp r j=>obtain ⟨b,off,k1,k2⟩:=hc; exact ⟨b,off,k1,fun k c hk=>by obtain ⟨u,p,q⟩:=k2 k c hk; exact ⟨u,h1 _ _ _ p,C.fv_mono h1 q⟩⟩
 | mp n=>trivial
 | fn f cs=>
  obtain ⟨vs,k1,k2⟩:=hc
  exact ⟨vs,k1,k2.map (f:=fun x=>(x.1,x.2.map (C.bor0 (hp E)))) fun _ _=>k8 fun _ _=>C.rel0_bor h⟩
 | fm f cs=>obtain ⟨vs,k1,k2⟩:=hc; exact ⟨vs,k1,k2.imp fun _ _ ⟨us,q1,q2⟩=>⟨us,q1,q2.imp fun _ _=>C.fv_mono h1⟩⟩
theorem S.rel_bor (h:Rel X E ro w) {s:S} {v:Value} (hs:s.rel (gm E) ro v):(s.bor (hp E)).rel [] (iW E ro) v:=by
 cases s with
 | va a=>
  cases a with
  | c1 c=>exact C.rel_bor h hs
  | gs cs=>obtain ⟨vs,h1,h2⟩:=hs; exact ⟨vs,h1,h2.map (f:=C.bor (hp E)) fun _ _=>C.rel_bor h⟩
 | tu l=>trivial
 | cn g a=>trivial
 | un=>trivial
theorem Rel.grown (h:Rel X E ro w) {w':World} (hk:∀ k,k < w.heap.size->w'.heap[k]? = w.heap[k]?) (hsz:w.heap.size<=w'.heap.size) (h1:w'.os=w.os) (h2:w'.tape=w.tape) (h3:w'.output=w.output):Rel X E ro w':=by
 refine ⟨fun n g blk hn=>?_,h.inj,h.apart,fun b off c hc=>?_,h.ro0,h.rob,h.par,h.gx,Nat.le_trans h.sz hsz,fun b hb hp=>?_,h1.trans h.os,h2.trans h.tape,h3.trans h.output⟩
 · by_cases hl:blk.live=true
   · exact (h.own n g blk hn).same (GExt.refl _) (Ext.refl _) fun k hk'=>hk k ((h.own n g blk hn).lt hl hk')
   · cases blk<;>simp [B.live] at hl; trivial
 · have:=h.rd b off c hc
   rw [<-this]
   simp only [World.cell?,hk b (h.cell_lt hc)]
 · rw [hk b (by have:=h.sz; omega)]; exact h.keep b hb hp
theorem x4 (hf:FRel N (gm E) ro fr a) (hm:MeetsIn P X Γ) {f:FuncId} {c:Call} (ho:o.op=.call c) (hc:c.callee=.value (.func f)) {p:Fun} (hp':kY Γ f=some p) (hg:aK fr (O.sls (c.args.toList.map aA)))
 (hr:Rel X E ro w) (hpre:p.pre ((c.args.toList.map aA).map fun o=>((ev (fst fr) o).bor (hp E)).nf)) :
 (execOp a.eval o).run P w=.ok (.enter f (c.args.map a.eval)) w/\Calls P f (c.args.map a.eval) w (fun e w'=>e=.returned (p.val ((c.args.toList.map aA).map fun o=>((ev (fst fr) o).bor (hp E)).nf)).fval/\Rel X E ro w'):=by
 obtain ⟨s,hmem,hfn⟩:=pP hp'
 obtain ⟨hent,hmeets⟩:=(hm.m f s hmem).2 p hfn
 have hrun:(execOp a.eval o).run P w=.ok (.enter f (c.args.map a.eval)) w:=by
  have he':=f5 hent (c.args.map a.eval) w
  simp [execOp,ho,resolve,hc,Act.eval,Deferred.ofValue,invoke,he']
 refine ⟨hrun,?_⟩
 have harr:c.args.map a.eval=(c.args.toList.map a.eval).toArray:=by rw [<-Array.toList_map,Array.toArray_toList]
 rw [harr]
 obtain ⟨hxr,_,hrd⟩:=lK hr
 have hloc:Rel ⟨w,cC [],iW E ro,gm []⟩ [] (iW E ro) w:=⟨fun n g blk hn=>by simp at hn,fun n m gn gm bn bm b hn=>by simp at hn,fun b off v hc n g blk hn=>by simp at hn,hrd,Ext.refl _,fun _ _ _ h=>.inl h,
  fun n b g blk hn=>by simp at hn,GExt.refl _,Nat.le_refl _,fun _ _ _=>rfl,rfl,rfl,rfl⟩
 refine (hmeets _ (c.args.toList.map a.eval) [] (iW E ro) w (fun r _=>r=.va (p.val ((c.args.toList.map aA).map fun o=>((ev (fst fr) o).bor (hp E)).nf))) (by simp) ?_ hloc ⟨⟨hpre,rfl⟩,rfl⟩ ((hm.at hr).mono hxr)).mono ?_
 · intro i x v hx hv
   rw [List.map_map,List.getElem?_map] at hx
   cases hi:c.args.toList[i]? with
   | none=>rw [hi] at hx; cases hx
   | some z=>
    rw [hi] at hx
    simp only [Option.map_some,Function.comp,aB] at hx
    subst hx
    have:=kD hf hg i (ev (fst fr) (aA z)) v (by rw [List.map_map,List.getElem?_map,hi]; rfl) hv
    exact S.rel_nf (S.rel_bor hr this)
 · rintro e w' ⟨r,v,E',ro',rfl,hrv,rfl,hrel⟩
   have hv:=(lF (p.flat _ hpre)).1 hrv
   subst hv
   exact ⟨rfl,hr.grown (fun k hk=>hrel.keep k hk (by simp [cC])) hrel.sz hrel.os hrel.tape hrel.output⟩
theorem uX (hf:FRel N (gm E) ro fr a) (hr:Rel X E ro w) (hm:MeetsIn P X Γ) {σ:CH} {i:I} (hi:cW P nw σ o.op=some i) (hq:(J.mk none none i).quietC=false) {R:S->Hp->Prop}
 (hv:vI Γ fr (hp E) R i):bQ P o a w X E ro R:=by
 cases i with
 | q q=>simp [J.quietC] at hq
 | ix x y=>simp [J.quietC] at hq
 | l i=>simp [J.quietC] at hq
 | pick c x y=>simp [J.quietC] at hq
 | cq f xs=>simp [J.quietC] at hq
 | e i=>
  obtain ⟨hg,hv⟩:=hv
  rw [rA (bH hg)] at hv
  obtain ⟨i0,h0,rfl | rfl⟩:=w3 hi
  · exact sJ hf.res hr h0 hv
  · exact tL hf.res hr h0 hv
 | cl f xs σ'=>
  obtain ⟨c,ho,hc,rfl⟩:=zN hi
  exact wM hf hr hm ho hc hv
 | ca x xs σ'=>
  obtain ⟨c,t,ho,hc,rfl,rfl⟩:=zY hi
  exact uT hf hr hm ho hc hv
theorem jH (hf:FRel N (gm E) ro fr a) (hm:MeetsIn P X Γ) (hr0:Rel X E ro w) {σ:CH} {j:J} (hj:gZ P nw N ops σ o=some j) (hq:j.quietC=true) {K:Fr->Hp->Prop} (hv:vJ Γ fr (hp E) K j) :
 ∃ fr',K fr' (hp E)/\(if Region.wanted o (yielded ops a.tmps)=true then ∃ v,FRel N (gm E) ro fr' (a.put o.dst v)/\∀ w,Rel X E ro w->o.quietAt P a (Rel X E ro) w v else FRel N (gm E) ro fr' (a.put o.dst undef)):=by
 by_cases hq':j.quiet=true
 · have h:=fV hf hr0 hj hq' hv
   split at h
   · rename_i hw
     obtain ⟨fr',hK,v,h1,h2⟩:=h
     refine ⟨fr',hK,?_⟩
     rw [if_pos hw]
     refine ⟨v,h1,fun w hr=>?_⟩
     unfold Oper.quietAt
     rw [h2 w hr]
     exact ⟨rfl,rfl⟩
   · rename_i hw
     obtain ⟨fr',hK,h1⟩:=h
     refine ⟨fr',hK,?_⟩
     rw [if_neg hw]
     exact h1
 · obtain ⟨hi,hg,hd,hN⟩:=eH hj
   obtain ⟨d,jg,i⟩:=j
   simp only at hi hg hd
   subst hd
   cases i with
   | q q=>exact absurd rfl hq'
   | ix x y=>exact absurd rfl hq'
   | l i=>exact absurd rfl hq'
   | pick c x y=>exact absurd rfl hq'
   | e i=>simp [J.quietC] at hq
   | cl f xs σ=>simp [J.quietC] at hq
   | ca f xs σ=>simp [J.quietC] at hq
   | cq f xs=>
    obtain ⟨c,ho,hc,rfl⟩:=zQ hi
    have key:∀ {g:Prop} {K:A->Prop},l4 Γ fr (hp E) f (c.args.toList.map aA) g K->∃ y,K y/\(g->y.flat/\∀ w,Rel X E ro w->o.quietAt P a (Rel X E ro) w y.fval):=by
     intro g K hv
     unfold l4 at hv
     split at hv
     · exact hv.elim
     · rename_i p hp'
       obtain ⟨hg,hK⟩:=hv
       refine ⟨_,hK,fun hgt=>?_⟩
       obtain ⟨hgd,hpre⟩:=hg hgt
       refine ⟨p.flat _ hpre,fun w hr=>?_⟩
       obtain ⟨k1,k2⟩:=x4 hf hm ho hc hp' hgd hr hpre
       unfold Oper.quietAt
       rw [k1]
       exact ⟨rfl,k2⟩
    unfold vJ at hv
    cases hgd:o.guard with
    | none=>
     rw [hgd] at hg
     simp only [dC,aB] at hg
     subst hg
     simp only [dO] at hv
     obtain ⟨y,hK,hy⟩:=key hv
     refine ⟨_,hK,?_⟩
     rw [if_pos (bC hgd _)]
     exact ⟨y.fval,hf.put hN ((lF (hy trivial).1).2 rfl),(hy trivial).2⟩
    | some gw=>
     obtain ⟨k,want⟩:=gw
     rw [hgd] at hg
     simp only [dC] at hg
     split at hg
     · rename_i sl hsl
       simp only [aB] at hg
       subst hg
       simp only at hv
       split at hv
       · exact hv.elim
       · rename_i g hgv
         have hwant:Region.wanted o (yielded ops a.tmps)=g:=by
          simp only [Region.wanted,hgd]
          exact (nF hf hgv hsl).1
         simp only [cP] at hv
         obtain ⟨y,hK,hy⟩:=key hv
         refine ⟨_,hK,?_⟩
         rw [hwant]
         cases g with
         | true=>rw [if_pos rfl]; exact ⟨y.fval,hf.put hN (s:=.cn true y) ⟨fun _=>(lF (hy rfl).1).2 rfl,fun h=>(by cases h)⟩,(hy rfl).2⟩
         | false=>rw [if_neg (by simp)]; exact hf.put hN (s:=.cn false y) ⟨fun h=>(by cases h),fun _=>rfl⟩
     · cases hg
theorem nH (hf:FRel N (gm E) ro fr a) (hr:Rel X E ro w) (hm:MeetsIn P X Γ) {σ:CH} {j:J} (hj:gZ P nw N ops σ o=some j) {K:Fr->Hp->Prop} (hv:vJ Γ fr (hp E) K j)
 {next:Act->World->Prop} {Q:Exit->Act->World->Prop} (hK:∀ fr' E' ro' a' w',K fr' (hp E')->FRel N (gm E') ro' fr' a'->Rel X E' ro' w'->next a' w') :
 if Region.wanted o (yielded ops a.tmps)=true then o.wp P a w next Q else next (a.put o.dst undef) w:=by
 by_cases hq:j.quietC=true
 · obtain ⟨fr',hK',h⟩:=jH hf hm hr hj hq hv
   split
   · rename_i hw
     simp only [hw,if_true] at h
     obtain ⟨v,hf',hrun⟩:=h
     refine Oper.wp_of_quiet (C:=Rel X E ro) (K:=fun a'=>FRel N (gm E) ro fr' a') hr ?_ ⟨v,hrun,hf'⟩
     exact fun a' w' hr' hf''=>hK _ _ _ _ _ hK' hf'' hr'
   · rename_i hw
     rw [if_neg hw] at h
     exact hK _ _ _ _ _ hK' h hr
 · obtain ⟨hi,hg,hd,hN⟩:=eH hj
   obtain ⟨d,jg,i⟩:=j
   simp only at hi hg hd
   subst hd
   have hni:(J.mk none none i).quietC=false:=by cases i<;>first | rfl | exact absurd rfl hq
   have key:∀ {fr2:Fr} {R:S->Hp->Prop},FRel N (gm E) ro fr2 a->vI Γ fr2 (hp E) R i->(∀ s H',R s H'->K (W.put fr2 o.dst s) H')->o.wp P a w next Q:=by
    intro fr2 R hf2 hv hR
    exact uX hf2 hr hm hi hni hv next Q fun s v E' ro' w' h1 h2 g1 g2 h3=>hK _ _ _ _ _ (hR _ _ h1) ((hf2.mono g1 g2).put hN h2) h3
   unfold vJ at hv
   cases hgd:o.guard with
   | none=>
    rw [hgd] at hg
    simp only [dC,aB] at hg
    subst hg
    rw [if_pos (bC hgd _)]
    cases i with
    | q q=>exact absurd rfl hq
    | ix x y=>exact absurd rfl hq
    | l i=>exact absurd rfl hq
    | pick c x y=>exact absurd rfl hq
    | cq f xs=>exact absurd rfl hq
    | e i=>exact key hf hv fun _ _ h=>h
    | cl f xs σ=>exact key hf hv fun _ _ h=>h
    | ca f xs σ=>exact key hf hv fun _ _ h=>h
   | some gw=>
    obtain ⟨k,want⟩:=gw
    rw [hgd] at hg
    simp only [dC] at hg
    split at hg
    · rename_i sl hsl
      simp only [aB] at hg
      subst hg
      simp only at hv
      split at hv
      · exact hv.elim
      · rename_i g hgv
        obtain ⟨hwant,hgt,hgf⟩:=nF hf hgv hsl
        have hw:Region.wanted o (yielded ops a.tmps)=g:=by simp only [Region.wanted,hgd]; exact hwant
        rw [hw]
        have h2:(g=true->vI Γ (cK fr sl want) (hp E) (fun s H'=>K (W.put (cK fr sl want) o.dst s) H') i)/\(g=false->K (W.put (fW fr sl want) o.dst dum) (hp E)):=by
         cases i with
         | q q=>exact absurd rfl hq
         | ix x y=>exact absurd rfl hq
         | l i=>exact absurd rfl hq
         | pick c x y=>exact absurd rfl hq
         | cq f xs=>exact absurd rfl hq
         | e i=>exact hv
         | cl f xs σ=>exact hv
         | ca f xs σ=>exact hv
        cases g with
        | true=>rw [if_pos rfl]; exact key (rN hf (hgt rfl)) (h2.1 rfl) fun _ _ h=>h
        | false=>rw [if_neg (by simp)]; exact hK _ _ _ _ _ (h2.2 rfl) ((rR hf (hgf rfl)).put hN rH) hr
    · cases hg
theorem eG {h:Nat->CH} {k:Nat} {o:Oper} {r:List Oper} {js:List J} (hj:dM P nw N ops h k (o :: r)=some js):∃ j js',js=j :: js'/\gZ P nw N ops (h k) o=some j/\dM P nw N ops h (k + 1) r=some js':=by
 simp only [dM] at hj
 split at hj
 · rename_i j js' h1 h2; simp only [aB] at hj; exact ⟨j,js',hj.symm,h1,h2⟩
 · cases hj
theorem gN (hm:MeetsIn P X Γ) {h:Nat->CH} {Q:Exit->Act->World->Prop} {K:Fr->Hp->Prop} (hQ:∀ fr E ro a w,K fr (hp E)->FRel N (gm E) ro fr a->Rel X E ro w->Q .normal a w) :
 ∀ (l:List Oper) (k:Nat) (js:List J),dM P nw N ops h k l=some js->∀ (fr:Fr) (E:Es) (ro:RO) (a:Act) (w:World),FRel N (gm E) ro fr a->Rel X E ro w->vR Γ js fr (hp E) K->wpList P ops Q l a w
 | [],k,js,hj,fr,E,ro,a,w,hf,hr,hv=>by
  simp only [dM,aB] at hj
  subst hj
  exact hQ _ _ _ _ _ hv hf hr
 | o :: l,k,js,hj,fr,E,ro,a,w,hf,hr,hv=>by
  obtain ⟨j,js',rfl,h1,h2⟩:=eG hj
  have:=nH (Q:=Q) (next:=wpList P ops Q l) hf hr hm h1 hv fun fr' E' ro' a' w' hK hf' hr'=>gN hm hQ l (k + 1) js' h2 fr' E' ro' a' w' hf' hr' hK
  simp only [wpList]
  split
  · rename_i hw; rw [if_pos hw] at this; exact .inl this
  · rename_i hw; rw [if_neg hw] at this; exact this
theorem iD {h:Nat->CH} {L:Act->Prop} {w:World} {Y:Ctx}:∀ (l:List Oper) (k:Nat) (js rest:List J),dM P nw N ops h k l=some js->(∀ j ∈ js,j.quiet=true)->∀ (fr:Fr) (E:Es) (ro:RO) (a:Act) (K:Fr->Hp->Prop),FRel N (gm E) ro fr a->Rel Y E ro w->
 vR Γ (js ++ rest) fr (hp E) K->(∀ fr' a',FRel N (gm E) ro fr' a'->vR Γ rest fr' (hp E) K->L a')->wpStill P ops w L l a
 | [],k,js,rest,hj,hq,fr,E,ro,a,K,hf,hr,hv,hL=>by
  simp only [dM,aB] at hj
  subst hj
  exact hL _ _ hf hv
 | o :: l,k,js,rest,hj,hq,fr,E,ro,a,K,hf,hr,hv,hL=>by
  obtain ⟨j,js',rfl,h1,h2⟩:=eG hj
  simp only [List.cons_append,vR] at hv
  have hs:=fV hf hr h1 (hq j (by simp)) hv
  simp only [wpStill]
  split
  · rename_i hw
    rw [if_pos hw] at hs
    obtain ⟨fr',hK,v,hf',hrun⟩:=hs
    unfold Oper.still
    rw [hrun w hr,Oper.stillUpon_value]
    exact iD l (k + 1) js' rest h2 (fun y hy=>hq y (by simp [hy])) fr' E ro _ K hf' hr hK hL
  · rename_i hw
    rw [if_neg hw] at hs
    obtain ⟨fr',hK,hs⟩:=hs
    exact iD l (k + 1) js' rest h2 (fun y hy=>hq y (by simp [hy])) fr' E ro _ K hs hr hK hL
theorem gJ (hm:MeetsIn P X Γ) (w0:World) {h:Nat->CH} {L:Act->Prop}:∀ (l:List Oper) (k:Nat) (js:List J),dM P nw N ops h k l=some js->(∀ j ∈ js,j.quietC=true)->∀ (fr:Fr) (E:Es) (ro:RO) (a:Act) (K:Fr->Hp->Prop),FRel N (gm E) ro fr a->Rel X E ro w0->
 vR Γ js fr (hp E) K->(∀ fr' a',FRel N (gm E) ro fr' a'->K fr' (hp E)->L a')->wpQuiet P ops (Rel X E ro) L l a
 | [],k,js,hj,hq,fr,E,ro,a,K,hf,hr0,hv,hL=>by
  simp only [dM,aB] at hj
  subst hj
  exact hL _ _ hf hv
 | o :: l,k,js,hj,hq,fr,E,ro,a,K,hf,hr0,hv,hL=>by
  obtain ⟨j,js',rfl,h1,h2⟩:=eG hj
  obtain ⟨fr',hK,hs⟩:=jH hf hm hr0 h1 (hq j (by simp)) hv
  simp only [wpQuiet]
  split
  · rename_i hw
    simp only [hw,if_true] at hs
    obtain ⟨v,hf',hrun⟩:=hs
    exact ⟨v,hrun,gJ hm w0 l (k + 1) js' h2 (fun y hy=>hq y (by simp [hy])) fr' E ro _ K hf' hr0 hK hL⟩
  · rename_i hw
    rw [if_neg hw] at hs
    exact gJ hm w0 l (k + 1) js' h2 (fun y hy=>hq y (by simp [hy])) fr' E ro _ K hs hr0 hK hL
end
section
variable {P:Program} {N:Nat} {nw:Bool} {X:Ctx} {Γ:bU} {ops:Array Oper} {o:Oper} {fr:Fr} {a:Act} {E:Es} {ro:RO} {w:World}
theorem uR (hf:FRel N (gm E) ro fr a) (hr0:Rel X E ro w) {σ:CH} {j:J} (hj:gZ P nw N ops σ o=some j) (hpu:jG P o=true) {K:Fr->Hp->Prop} (hv:vJ Γ fr (hp E) K j) :
 ∃ fr' v,K fr' (hp E)/\FRel N (gm E) ro fr' (a.put o.dst v)/\∀ w,(execOp a.eval o).run P w=.ok (.value v) w:=by
 obtain ⟨hi,hg,hd,hN⟩:=eH hj
 unfold jG at hpu
 rw [Bool.and_eq_true] at hpu
 obtain ⟨hgn,hop⟩:=hpu
 have hgn':o.guard=none:=by simpa using hgn
 rw [hgn'] at hg
 simp only [dC,aB] at hg
 have run:j.quiet=true->∃ fr',K fr' (hp E)/\∃ v,FRel N (gm E) ro fr' (a.put o.dst v)/\∀ w,Rel X E ro w->(execOp a.eval o).run P w=.ok (.value v) w:=fun hq=>by
  have h:=fV hf hr0 hj hq hv
  rwa [if_pos (bC hgn' _)] at h
 have bin:∀ (op:BinOp) (t:TypeId) (x y:Operand) (t':TypeId) (k0:IntKind),o.op=.binOp op t x y t'->P.underlying t=some (.int k0)->(op=.add\/op=.sub)->
  ∃ fr' v,K fr' (hp E)/\FRel N (gm E) ro fr' (a.put o.dst v)/\∀ w,(execOp a.eval o).run P w=.ok (.value v) w:=fun op t x y t' k0 ho ht hops=>by
  have hji:j.i=.q (.bin op nw (aA x) (aA y)):=by
   rw [ho] at hi
   simpa [cW,qC,ht] using hi.symm
  obtain ⟨fr',hK,v,hf',hrun⟩:=run (by unfold J.quiet; rw [hji])
  refine ⟨fr',v,hK,hf',?_⟩
  unfold vJ at hv
  rw [<-hg] at hv
  simp only [hji,dO,qv] at hv
  have hw:=hrun w hr0
  have step:∀ (f:∀ (w:World),∃ v',(∀ w,(execOp a.eval o).run P w=.ok (.value v') w)),∀ w,(execOp a.eval o).run P w=.ok (.value v) w:=fun f=>by
   obtain ⟨v',h'⟩:=f w
   rw [h' w] at hw
   simp only [Result.ok.injEq,Next.value.injEq,and_true] at hw
   subst hw
   exact h'
  split at hv
  case h_2=>exact hv.elim
  rename_i s hs
  obtain ⟨hgd,hc,_⟩:=hv
  have e1:ev (fst fr) (aA x)=ev (res fr) (aA x):=aD fun i hi=>bH hgd i (by simp [QI.sl,hi])
  have e2:ev (fst fr) (aA y)=ev (res fr) (aA y):=aD fun i hi=>bH hgd i (by simp [QI.sl,hi])
  simp only [qc] at hc
  rw [e1,e2] at hs hc
  have r1:=aC hf.res x; have r2:=aC hf.res y
  split at hs
  · rename_i k m k' n hx hy
    rw [hx] at r1; rw [hy] at r2
    rw [hx,hy] at hc
    have r1':a.eval x=.int k m:=r1
    have r2':a.eval y=.int k' n:=r2
    obtain ⟨v',_,hr⟩:=p7 (P:=P) (t:=t) hs hc
    exact step fun _=>⟨v',fun w=>by simp only [execOp,ho,r1',r2']; simp [hr,eqGuard]⟩
  · rename_i m n hx hy
    rw [hx] at r1; rw [hy] at r2
    rw [hx,hy] at hc
    have r1':a.eval x=.string m:=r1
    have r2':a.eval y=.string n:=r2
    obtain ⟨v',_,hr⟩:=qB (P:=P) (t:=t) hs hc
    exact step fun _=>⟨v',fun w=>by simp only [execOp,ho,r1',r2']; simp [hr,eqGuard]⟩
  · cases hs
 split at hop
 · rename_i x ho
   have hji:j.i=.q (.mv (aA x)):=by rw [ho] at hi; simpa [cW,qC] using hi.symm
   obtain ⟨fr',hK,v,hf',hrun⟩:=run (by unfold J.quiet; rw [hji])
   have hw:=hrun w hr0
   simp [execOp,ho] at hw
   subst hw
   exact ⟨fr',_,hK,hf',fun w=>by simp [execOp,ho]⟩
 · rename_i x ho
   have hji:j.i=.q (.mv (aA x)):=by rw [ho] at hi; simpa [cW,qC] using hi.symm
   obtain ⟨fr',hK,v,hf',hrun⟩:=run (by unfold J.quiet; rw [hji])
   have hw:=hrun w hr0
   simp [execOp,ho] at hw
   subst hw
   exact ⟨fr',_,hK,hf',fun w=>by simp [execOp,ho]⟩
 · rename_i t x y t' ho
   split at hop
   · rename_i k0 ht; exact bin .add t x y t' k0 ho ht (.inl rfl)
   · cases hop
 · rename_i t x y t' ho
   split at hop
   · rename_i k0 ht; exact bin .sub t x y t' k0 ho ht (.inr rfl)
   · cases hop
 · cases hop
theorem jL {n:Nat} {ls:List Nat} {l:Array Bool} (hs:iR ops n ls=true) (hc:Region.chainB .any ops n=true) (hn:n < ops.size) (inv:HeadInv .any ops n l) (hls:∀ i ∈ ls,l.getD i false=true) :
 ∀ (d i:Nat),n - i<=d->i < n->l.getD i true=false->∀ t,n<=t->t ∉ Region.ready .any ops l:=by
 intro d
 induction d with
 | zero=>intro i h1 h2; omega
 | succ d ih=>
  intro i hd hi hun t ht hr
  have hni:l.getD i false=false:=getD_both hun
  have hil:ls.contains i=false:=by
   cases hq:ls.contains i with
   | false=>rfl
   | true=>have:=hls i (by simpa using hq); rw [hni] at this; cases this
  obtain ⟨_,ot,hot,hall⟩:=mem_ready.1 hr
  have htlt:t < ops.size:=(Array.getElem?_eq_some_iff.1 hot).1
  rcases kK n t with hnt | hnt
  · have h1:=List.all_eq_true.1 hc t (List.mem_range.2 htlt)
    simp only [Bool.or_eq_true,decide_eq_true_eq] at h1
    have h2:Region.waitsFor .any ops t (t - 1)=true:=by
     rcases h1 with h | h
     · omega
     · exact h
    obtain ⟨o',ho',e,he,hb,hon⟩:=Region.waitsFor_spec h2
    cases hot.symm.trans ho'
    have:=hall e he hb
    rw [hon,getD_both (inv.tail (t - 1) (by omega) (by omega))] at this
    cases this
  · obtain rfl:t=n:=by omega
    have h1:=List.all_eq_true.1 hs i (List.mem_range.2 hi)
    rw [hil,Bool.false_or] at h1
    obtain ⟨j,hj,hj2⟩:=List.any_eq_true.1 h1
    simp only [Bool.and_eq_true,decide_eq_true_eq] at hj2
    obtain ⟨⟨hij,hjl⟩,hw⟩:=hj2
    obtain ⟨oj,hoj,e,he,hb,hon⟩:=Region.waitsFor_spec hw
    have hjle:j<=t:=by have:=List.mem_range.1 hj; omega
    rcases kK j t with hjt | hjt
    · cases hlj:l.getD j false with
      | true=>have:=inv.closed j oj hoj hlj e he hb; rw [hon,hni] at this; cases this
      | false=>exact ih j (by omega) hjt (getD_in (by rw [inv.size]; omega) hlj) t (Nat.le_refl _) hr
    · obtain rfl:j=t:=by omega
      cases hoj.symm.trans hot
      have:=hall e he hb
      rw [hon,hni] at this; cases this
def gS (P:Program) (ops:Array Oper) (C:World->Prop) (n:Nat) (L:Array Bool->Act->Prop):Nat->Array Bool->Act->Prop
 | 0,l,a=>L l a
 | f + 1,l,a=>Region.ready .any ops l ≠ []/\∀ i ∈ Region.ready .any ops l,i < n/\qOp P ops C i (gS P ops C n L f (l.setIfInBounds i true)) a
theorem kM {n g:Nat} {C:World->Prop} {L:Array Bool->Act->Prop} {Q':Exit->Act->World->Prop} (hL:∀ l a w,C w->L l a->wpAny P .any ops Q' g l a w) :
 ∀ (f:Nat) (l:Array Bool) (a:Act) (w:World),C w->gS P ops C n L f l a->wpAny P .any ops Q' (f + g) l a w
 | 0,l,a,w,hw,h=>by rw [Nat.zero_add]; exact hL _ _ _ hw h
 | f + 1,l,a,w,hw,h=>by
  rw [show f + 1 + g=(f + g) + 1 by omega]
  exact ⟨fun h0=>absurd h0 h.1,fun i hi=>wpOp_of_qOp hw (fun a' w' hw' h'=>kM hL f _ a' w' hw' h') (h.2 i hi).2⟩
theorem tA {n i:Nat} {ls:List Nat} {oi:Oper} {v:Value} {C:World->Prop} {L:Array Bool->Act->Prop} (hi:ops[i]? = some oi) (hsel:∀ (j:Nat) (o:Oper) cs b,ops[j]? = some o->o.op ≠ .select cs b)
 (hs:iR ops n ls=true) (hc:Region.chainB .any ops n=true) (hn:n < ops.size) (hin:i < n) (hL:∀ l a,L l a->∀ j ∈ Region.ready .any ops l,n<=j) :
 ∀ (f:Nat) (l:Array Bool) (a:Act),HeadInv .any ops n l->(∀ k ∈ ls,l.getD k false=true)->
  (∀ j oj,ops[j]? = some oj->j ≠ i->l.getD j true=false->(∀ e ∈ oj.after,Region.binds .any e=true->e.on ≠ i)->oi.apart ops oj=true)->
  i ∈ Region.ready .any ops l->YieldsIn P ops C oi v a->gS P ops C n L f (l.setIfInBounds i true) (a.put oi.dst v)->gS P ops C n L (f + 1) l a:=by
 intro f
 induction f with
 | zero=>
  intro l a inv hls _ hr hy H
  have hun:=(mem_ready.1 hr).1
  refine ⟨fun h=>(by rw [h] at hr; cases hr),fun j hj=>?_⟩
  have hjn:j < n:=Nat.lt_of_not_le fun h=>jL hs hc hn inv hls _ i (Nat.le_refl _) hin hun j h hj
  by_cases hji:j=i
  · subst hji; exact ⟨hjn,hy.qOp hi H⟩
  · have:=hL _ _ H j (ready_mono hj hji); omega
 | succ f ih=>
  intro l a inv hls hfree hr hy H
  have hun:=(mem_ready.1 hr).1
  refine ⟨fun h=>(by rw [h] at hr; cases hr),fun j hj=>?_⟩
  have hjn:j < n:=Nat.lt_of_not_le fun h=>jL hs hc hn inv hls _ i (Nat.le_refl _) hin hun j h hj
  by_cases hji:j=i
  · subst hji; exact ⟨hjn,hy.qOp hi H⟩
  · obtain ⟨hjun,oj,hoj,hall⟩:=mem_ready.1 hj
    have hno:∀ e ∈ oj.after,Region.binds .any e=true->e.on ≠ i:=fun e he hb heq=>by
     have:=hall e he hb
     rw [heq,getD_both hun] at this; cases this
    have hnext:=qOp_put hoj (hfree j oj hoj hji hjun hno) (fun cs b=>hsel i oi cs b hi) (fun cs b=>hsel j oj cs b hoj) hy (H.2 j (ready_mono hj hji)).2
    refine ⟨hjn,qOp_mono (fun a' h3=>ih (l.setIfInBounds j true) a' (inv.set hj hjn) (fun k hk=>getD_set_true (hls k hk)) (fun k ok hk hki hku hkn=>hfree k ok hk hki ?_ hkn) (ready_mono hr (Ne.symm hji)) h3.1 ?_) hnext⟩
    · by_cases hjk:j=k
      · subst hjk; exact hjun
      · rwa [getD_set_ne true hjk] at hku
    · rw [Array.setIfInBounds_comm _ _ hji]; exact h3.2
theorem pC {n:Nat} {ls:List Nat} {C:World->Prop} {Lq:Act->Prop} (hsel:Region.noSelect ops=true) (hs:iR ops n ls=true) (hc:Region.chainB .any ops n=true) (hn:n < ops.size) :
 ∀ (is:List Nat) (l:Array Bool) (a:Act),HeadInv .any ops n l->(∀ k ∈ ls,l.getD k false=true)->lP ops n is l=true->wpQuiet P ops C Lq (bV ops.toList is) a->
  gS P ops C n (fun l' a'=>Region.seqB .any ops (ops.size - n) n l'=true/\Lq a') is.length l a
 | [],l,a,_,_,hB,h=>⟨hB,h⟩
 | k :: is,l,a,inv,hls,hB,h=>by
  simp only [lP,Bool.and_eq_true,decide_eq_true_eq] at hB
  obtain ⟨⟨⟨hkn,hr⟩,hfr⟩,hB'⟩:=hB
  have hr':k ∈ Region.ready .any ops l:=by simpa using hr
  have h0:ops[k]? = some ops[k]:=Array.getElem?_eq_getElem (by omega)
  have hpk:bV ops.toList (k :: is)=ops[k] :: bV ops.toList is:=by
   unfold bV
   rw [List.filterMap_cons]
   simp [show k < ops.size by omega]
  rw [hpk] at h
  have hst:qOp P ops C k (wpQuiet P ops C Lq (bV ops.toList is)) a:=by unfold qOp; simp only [h0]; exact h
  obtain ⟨v,hy,hK⟩:=yieldsIn_of_qOp h0 hst
  exact tA h0 (Region.noSelect_spec hsel) hs hc hn hkn (fun l' a' hL=>seqB_ready hL.1) is.length l a inv hls (Region.free_spec h0 hfr) hr' hy
   (pC hsel hs hc hn is _ _ (inv.set hr' hkn) (fun k hk=>getD_set_true (hls k hk)) hB' hK)
def sY (P:Program) (nw:Bool) (N:Nat) (ops:Array Oper) (is:List Nat) (js:List J):Prop:=All2 (fun i j=>∃ o σ,ops[i]? = some o/\gZ P nw N ops σ o=some j) is js
theorem gK (hm:MeetsIn P X Γ) {L:Act->Prop} {w0:World}:∀ (is:List Nat) (js rest:List J),sY P nw N ops is js->(∀ j ∈ js,j.quietC=true)->∀ (fr:Fr) (a:Act) (K:Fr->Hp->Prop),FRel N (gm E) ro fr a->Rel X E ro w0->
 vR Γ (js ++ rest) fr (hp E) K->(∀ fr' a',FRel N (gm E) ro fr' a'->vR Γ rest fr' (hp E) K->L a')->wpQuiet P ops (Rel X E ro) L (bV ops.toList is) a
 | [],js,rest,ht,_,fr,a,K,hf,hr,hv,hL=>by
  obtain rfl:=All2.nil_inv ht
  exact hL _ _ hf hv
 | i :: is,js,rest,ht,hq,fr,a,K,hf,hr,hv,hL=>by
  obtain ⟨j,js',rfl,⟨o,σ,ho,h1⟩,h2⟩:=All2.cons_inv ht
  have hpk:bV ops.toList (i :: is)=o :: bV ops.toList is:=by
   unfold bV
   rw [List.filterMap_cons]
   simp [ho]
  rw [hpk]
  simp only [List.cons_append,vR] at hv
  obtain ⟨fr',hK,hs⟩:=jH hf hm hr h1 (hq j (by simp)) hv
  simp only [wpQuiet]
  split
  · rename_i hw
    simp only [hw,if_true] at hs
    obtain ⟨v,hf',hrun⟩:=hs
    exact ⟨v,hrun,gK hm is js' rest h2 (fun y hy=>hq y (by simp [hy])) fr' _ K hf' hr hK hL⟩
  · rename_i hw
    rw [if_neg hw] at hs
    exact gK hm is js' rest h2 (fun y hy=>hq y (by simp [hy])) fr' _ K hs hr hK hL
theorem kL {Q':Exit->Act->World->Prop} (hnp:∀ c a w,¬ Q' (.panic c) a w) (hsel:Region.noSelect ops=true) {Y:Ctx} {f:Nat}:∀ (is:List Nat) (js rest:List J) (l:Array Bool),sY P nw N ops is js->(∀ i ∈ is,∀ o,ops[i]? = some o->jG P o=true)->
 j8 ops is l=true->∀ (fr:Fr) (a:Act) (K:Fr->Hp->Prop),FRel N (gm E) ro fr a->Rel Y E ro w->vR Γ (js ++ rest) fr (hp E) K->
 (∀ fr' a',FRel N (gm E) ro fr' a'->vR Γ rest fr' (hp E) K->wpAny P .any ops Q' f (mN is l) a' w)->wpAny P .any ops Q' (is.length + f) l a w
 | [],js,rest,l,ht,_,_,fr,a,K,hf,hr,hv,hL=>by
  obtain rfl:=All2.nil_inv ht
  rw [List.length_nil,Nat.zero_add]
  exact hL _ _ hf hv
 | i :: is,js,rest,l,ht,hpu,hB,fr,a,K,hf,hr,hv,hL=>by
  obtain ⟨j,js',rfl,⟨o,σ,ho,h1⟩,h2⟩:=All2.cons_inv ht
  simp only [j8,Bool.and_eq_true] at hB
  obtain ⟨⟨hrd,hfr⟩,hB'⟩:=hB
  simp only [List.cons_append,vR] at hv
  obtain ⟨fr',v,hK,hf',hrun⟩:=uR hf hr h1 (hpu i (by simp) o ho) hv
  have hgn:o.guard=none:=by
   have:=hpu i (by simp) o ho
   unfold jG at this
   rw [Bool.and_eq_true] at this
   simpa using this.1
  rw [List.length_cons,show is.length + 1 + f=(is.length + f) + 1 by omega]
  exact wpAny_take ho hsel hfr hrd (fun c a w h=>absurd h (hnp _ _ _)) (.inl ⟨bC hgn _,hrun⟩)
   (kL hnp hsel is js' rest _ h2 (fun k hk=>hpu k (by simp [hk])) hB' fr' _ K hf' hr hK hL)
end
section
variable {P:Program} {ops:Array Oper} {C:World->Prop}
def sOp (P:Program) (ops:Array Oper) (C:World->Prop) (i:Nat) (K:Act->Prop) (a:Act):Prop:=
 match ops[i]? with
 | none=>K a
 | some o=>if Region.wanted o (yielded ops a.tmps) then ∃ v,(∀ w,C w->(execOp a.eval o).run P w=.ok (.value v) w)/\K (a.put o.dst v) else K (a.put o.dst undef)
def SYields (P:Program) (ops:Array Oper) (C:World->Prop) (o:Oper) (v:Value) (a:Act):Prop:=
 (Region.wanted o (yielded ops a.tmps)=true/\∀ w,C w->(execOp a.eval o).run P w=.ok (.value v) w)\/
 (Region.wanted o (yielded ops a.tmps)=false/\v=undef)
theorem SYields.sOp {i:Nat} {o:Oper} {v:Value} {a:Act} (hi:ops[i]? = some o) (hy:SYields P ops C o v a) {K:Act->Prop} (h:K (a.put o.dst v)):sOp P ops C i K a:=by
 unfold W.sOp
 simp only [hi]
 rcases hy with ⟨hw,hv⟩ | ⟨hw,rfl⟩
 · simp only [hw,if_true]; exact ⟨v,hv,h⟩
 · simp only [hw,Bool.false_eq_true,if_false]; exact h
theorem mY {i:Nat} {o:Oper} {a:Act} {K:Act->Prop} (hi:ops[i]? = some o) (h:sOp P ops C i K a):∃ v,SYields P ops C o v a/\K (a.put o.dst v):=by
 unfold sOp at h
 simp only [hi] at h
 by_cases hw:Region.wanted o (yielded ops a.tmps)=true
 · simp only [hw,if_true] at h
   obtain ⟨v,h1,h2⟩:=h
   exact ⟨v,.inl ⟨hw,h1⟩,h2⟩
 · simp only [hw] at h
   exact ⟨undef,.inr ⟨by simpa using hw,rfl⟩,h⟩
theorem SYields.of_same {o:Oper} {v:Value} {a a':Act} (hy:SYields P ops C o v a) (he:execOp a'.eval o=execOp a.eval o)
 (hw:Region.wanted o (yielded ops a'.tmps)=Region.wanted o (yielded ops a.tmps)):SYields P ops C o v a':=by
 unfold SYields at *
 rw [he,hw]
 exact hy
theorem wH {i:Nat} {a:Act} {K K':Act->Prop} (h:∀ a,K a->K' a) (hh:sOp P ops C i K a):sOp P ops C i K' a:=by
 unfold sOp at *
 split
 · exact h _ (by simpa [*] using hh)
 · rename_i o ho
   simp only [ho] at hh
   split
   · rename_i hw; simp only [hw,if_true] at hh; obtain ⟨v,h1,h2⟩:=hh; exact ⟨v,h1,h _ h2⟩
   · rename_i hw; simp only [hw] at hh; exact h _ hh
theorem kU {i:Nat} {a:Act} {K:Act->Prop} {K':Act->World->Prop} {Q':Exit->Act->World->Prop} {w:World} (hC:C w) (h:∀ a,K a->K' a w) (hh:sOp P ops C i K a):wpOp P ops Q' i K' a w:=by
 unfold sOp at hh
 unfold wpOp
 split
 · rename_i ho; simp only [ho] at hh; exact h _ hh
 · rename_i o ho
   simp only [ho] at hh
   split
   · rename_i hw
     simp only [hw,if_true] at hh
     obtain ⟨v,h1,h2⟩:=hh
     refine .inl ?_
     unfold Oper.wp
     rw [h1 w hC]
     exact h _ h2
   · rename_i hw; simp only [hw] at hh; exact h _ hh
theorem xZ {j:Nat} {oi oj:Oper} {v:Value} (hj:ops[j]? = some oj) (hap:oi.apart ops oj=true)
 (hsi:∀ cs b,oi.op ≠ .select cs b) (hsj:∀ cs b,oj.op ≠ .select cs b) {K:Act->Prop} {a:Act}
 (hy:SYields P ops C oi v a) (h:sOp P ops C j K (a.put oi.dst v)) :
 sOp P ops C j (fun a'=>SYields P ops C oi v a'/\K (a'.put oi.dst v)) a:=by
 obtain ⟨h1,h2,h3⟩:=Oper.apart_spec hap
 have keep:∀ (a:Act),SYields P ops C oi v a->∀ u,SYields P ops C oi v (a.put oj.dst u):=fun a hy u=>
  hy.of_same (execOp_put oi hsi a oj.dst u h3) (wanted_put oi a oj.dst u h3)
 unfold sOp at *
 simp only [hj] at *
 rw [wanted_put oj a oi.dst v h1] at h
 split
 · rename_i hw
   simp only [hw,if_true] at h
   obtain ⟨u,hu,hn⟩:=h
   refine ⟨u,fun w hw'=>?_,keep a hy u,by rw [<-Act.put_comm a v u h2]; exact hn⟩
   have:=hu w hw'
   rwa [execOp_put oj hsj a oi.dst v h1] at this
 · rename_i hw
   simp only [hw] at h
   exact ⟨keep a hy _,by rw [<-Act.put_comm a v undef h2]; exact h⟩
theorem wB {j:Nat} {oi oj:Oper} {v:Value} (hj:ops[j]? = some oj) (hap:oi.apart ops oj=true) (hsj:∀ cs b,oj.op ≠ .select cs b) {K:Act->Prop} {a:Act}
 (h:sOp P ops C j K a):sOp P ops C j (fun a'=>∃ a0,a'=a0.put oi.dst v/\K a0/\∃ u,a0=a.put oj.dst u) (a.put oi.dst v):=by
 obtain ⟨h1,h2,h3⟩:=Oper.apart_spec hap
 unfold sOp at *
 simp only [hj] at *
 rw [wanted_put oj a oi.dst v h1]
 split
 · rename_i hw
   simp only [hw,if_true] at h
   obtain ⟨u,hu,hn⟩:=h
   refine ⟨u,fun w hw'=>?_,_,Act.put_comm a v u h2,hn,u,rfl⟩
   rw [execOp_put oj hsj a oi.dst v h1]
   exact hu w hw'
 · rename_i hw
   simp only [hw] at h
   exact ⟨_,Act.put_comm a v undef h2,h,undef,rfl⟩
def f6 (P:Program) (ops:Array Oper) (C:World->Prop) (n:Nat) (L:Array Bool->Act->Prop):Nat->Array Bool->Act->Prop
 | 0,l,a=>L l a
 | f + 1,l,a=>(∃ i ∈ Region.ready .any ops l,i < n)/\∀ i ∈ Region.ready .any ops l,i < n->sOp P ops C i (f6 P ops C n L f (l.setIfInBounds i true)) a
theorem qU {n i:Nat} {oi:Oper} {v:Value} {L:Array Bool->Act->Prop} (hi:ops[i]? = some oi) (hsel:∀ (j:Nat) (o:Oper) cs b,ops[j]? = some o->o.op ≠ .select cs b)
 (hin:i < n) (hL:∀ l a,L l a->∀ j ∈ Region.ready .any ops l,n<=j) :
 ∀ (f:Nat) (l:Array Bool) (a:Act),
  (∀ j oj,ops[j]? = some oj->j ≠ i->l.getD j true=false->(∀ e ∈ oj.after,Region.binds .any e=true->e.on ≠ i)->oi.apart ops oj=true)->
  i ∈ Region.ready .any ops l->SYields P ops C oi v a->f6 P ops C n L f (l.setIfInBounds i true) (a.put oi.dst v)->f6 P ops C n L (f + 1) l a:=by
 intro f
 induction f with
 | zero=>
  intro l a _ hr hy H
  refine ⟨⟨i,hr,hin⟩,fun j hj hjn=>?_⟩
  by_cases hji:j=i
  · subst hji; exact hy.sOp hi H
  · have:=hL _ _ H j (ready_mono hj hji); omega
 | succ f ih=>
  intro l a hfree hr hy H
  have hun:=(mem_ready.1 hr).1
  refine ⟨⟨i,hr,hin⟩,fun j hj hjn=>?_⟩
  by_cases hji:j=i
  · subst hji; exact hy.sOp hi H
  · obtain ⟨hjun,oj,hoj,hall⟩:=mem_ready.1 hj
    have hno:∀ e ∈ oj.after,Region.binds .any e=true->e.on ≠ i:=fun e he hb heq=>by
     have:=hall e he hb
     rw [heq,getD_both hun] at this; cases this
    have hnext:=xZ hoj (hfree j oj hoj hji hjun hno) (fun cs b=>hsel i oi cs b hi) (fun cs b=>hsel j oj cs b hoj) hy (H.2 j (ready_mono hj hji) hjn)
    refine wH (fun a' h3=>ih (l.setIfInBounds j true) a' (fun k ok hk hki hku hkn=>hfree k ok hk hki ?_ hkn) (ready_mono hr (Ne.symm hji)) h3.1 ?_) hnext
    · by_cases hjk:j=k
      · subst hjk; exact hjun
      · rwa [getD_set_ne true hjk] at hku
    · rw [Array.setIfInBounds_comm _ _ hji]; exact h3.2
def w7 (P:Program) (ops:Array Oper) (C:World->Prop) (L:Act->Prop):List Nat->Act->Prop
 | [],a=>L a
 | i :: is,a=>sOp P ops C i (w7 P ops C L is) a
theorem n2 {n:Nat} {Lq:Act->Prop} (hsel:Region.noSelect ops=true) (hn:n < ops.size) :
 ∀ (is:List Nat) (l:Array Bool) (a:Act),lP ops n is l=true->w7 P ops C Lq is a->
  f6 P ops C n (fun l' a'=>Region.seqB .any ops (ops.size - n) n l'=true/\Lq a') is.length l a
 | [],l,a,hB,h=>⟨hB,h⟩
 | k :: is,l,a,hB,h=>by
  simp only [lP,Bool.and_eq_true,decide_eq_true_eq] at hB
  obtain ⟨⟨⟨hkn,hr⟩,hfr⟩,hB'⟩:=hB
  have hr':k ∈ Region.ready .any ops l:=by simpa using hr
  have h0:ops[k]? = some ops[k]:=Array.getElem?_eq_getElem (by omega)
  obtain ⟨v,hy,hK⟩:=mY h0 h
  exact qU h0 (Region.noSelect_spec hsel) hkn (fun l' a' hL=>seqB_ready hL.1) is.length l a (Region.free_spec h0 hfr) hr' hy
   (n2 hsel hn is _ _ hB' hK)
theorem nX {n:Nat} {on:Oper} {L:Array Bool->Act->Prop} (hsel:∀ (j:Nat) (o:Oper) cs b,ops[j]? = some o->o.op ≠ .select cs b) (hon:ops[n]? = some on)
 (hap:∀ j oj,ops[j]? = some oj->j < n->(∀ e ∈ on.after,Region.binds .any e=true->e.on ≠ j)->on.apart ops oj=true) :
 ∀ (f:Nat) (l:Array Bool) (a:Act),n ∈ Region.ready .any ops l->f6 P ops C n L f l a->∃ l' a',L l' a'/\execOp a'.eval on=execOp a.eval on
 | 0,l,a,_,h=>⟨l,a,h,rfl⟩
 | f + 1,l,a,hr,⟨⟨i,hi,hin⟩,h⟩=>by
  obtain ⟨hun,oi,hoi,_⟩:=mem_ready.1 hi
  obtain ⟨_,on',hon',hall⟩:=mem_ready.1 hr
  cases hon.symm.trans hon'
  have hno:∀ e ∈ on.after,Region.binds .any e=true->e.on ≠ i:=fun e he hb heq=>by
   have:=hall e he hb
   rw [heq,getD_both hun] at this; cases this
  obtain ⟨_,_,h3⟩:=Oper.apart_spec (hap i oi hoi hin hno)
  obtain ⟨v,_,hK⟩:=mY hoi (h i hi hin)
  obtain ⟨l',a',h4,h5⟩:=nX hsel hon hap f _ _ (ready_mono hr (by omega)) hK
  exact ⟨l',a',h4,h5.trans (execOp_put on (fun cs b=>hsel n on cs b hon) a oi.dst v h3)⟩
theorem tK {n g:Nat} {on:Oper} {L:Array Bool->Act->Prop} {Q':Exit->Act->World->Prop} {v:Value} {w1:World} {S0:Sem Next} (hsel:∀ (j:Nat) (o:Oper) cs b,ops[j]? = some o->o.op ≠ .select cs b) (hon:ops[n]? = some on)
 (hap:∀ j oj,ops[j]? = some oj->j < n->(∀ e ∈ on.after,Region.binds .any e=true->e.on ≠ j)->on.apart ops oj=true)
 (hnw:∀ j oj,ops[j]? = some oj->j < n->∀ e ∈ oj.after,Region.binds .any e=true->e.on ≠ n)
 (hs:iR ops (n + 1) []=true) (hc:Region.chainB .any ops (n + 1)=true) (hn:n + 1 < ops.size) (hC1:C w1)
 (hL1:∀ l a,L l a->execOp a.eval on=S0->wpAny P .any ops Q' g (l.setIfInBounds n true) (a.put on.dst v) w1) :
 ∀ (f:Nat) (l:Array Bool) (a:Act),HeadInv .any ops (n + 1) (l.setIfInBounds n true)->n ∈ Region.ready .any ops l->f6 P ops C n L f l a->execOp a.eval on=S0->wpAny P .any ops Q' (f + g) (l.setIfInBounds n true) (a.put on.dst v) w1
 | 0,l,a,_,_,h,he=>by rw [Nat.zero_add]; exact hL1 l a h he
 | f + 1,l,a,inv,hr,⟨⟨i,hi,hin⟩,h⟩,he=>by
  rw [show f + 1 + g=(f + g) + 1 by omega]
  have hi':=ready_mono (i:=n) hi (by omega)
  refine ⟨fun h0=>(by rw [h0] at hi'; cases hi'),fun j hj=>?_⟩
  obtain ⟨hjun,oj,hoj,hall⟩:=mem_ready.1 hj
  rcases Nat.lt_trichotomy j n with hjn | hjn | hjn
  · have hjun':l.getD j true=false:=by rwa [getD_set_ne true (by omega)] at hjun
    have hjl:j ∈ Region.ready .any ops l:=mem_ready.2 ⟨hjun',oj,hoj,fun e he' hb=>by
     have:=hall e he' hb
     rwa [getD_set_ne false (Ne.symm (hnw j oj hoj hjn e he' hb))] at this⟩
    obtain ⟨_,on',hon',halln⟩:=mem_ready.1 hr
    cases hon.symm.trans hon'
    have hno:∀ e ∈ on.after,Region.binds .any e=true->e.on ≠ j:=fun e he' hb heq=>by
     have:=halln e he' hb
     rw [heq,getD_both hjun'] at this; cases this
    have hap':=hap j oj hoj hjn hno
    obtain ⟨_,_,h3⟩:=Oper.apart_spec hap'
    refine kU hC1 ?_ (wB hoj hap' (fun cs b=>hsel j oj cs b hoj) (h j hjl hjn))
    rintro a' ⟨a0,rfl,h4,u,rfl⟩
    have hcm:(l.setIfInBounds n true).setIfInBounds j true=(l.setIfInBounds j true).setIfInBounds n true:=Array.setIfInBounds_comm _ _ (by omega)
    rw [hcm]
    refine tK hsel hon hap hnw hs hc hn hC1 hL1 f _ _ ?_ (ready_mono hr (by omega)) h4 ((execOp_put on (fun cs b=>hsel n on cs b hon) a oj.dst u h3).trans he)
    rw [<-hcm]
    exact inv.set hj (by omega)
  · subst hjn
    exfalso
    rcases kK j l.size with h' | h'<;>simp [h'] at hjun
  · exact absurd hj (jL hs hc hn inv (fun k hk=>by cases hk) _ i (Nat.le_refl _) (by omega) (mem_ready.1 hi').1 j hjn)
theorem tO {n g:Nat} {on:Oper} {L:Array Bool->Act->Prop} {Q':Exit->Act->World->Prop} (hQ:∀ c a w,¬ Q' (.panic c) a w) (hsel:∀ (j:Nat) (o:Oper) cs b,ops[j]? = some o->o.op ≠ .select cs b) (hon:ops[n]? = some on) (hgd:on.guard=none)
 (hap:∀ j oj,ops[j]? = some oj->j < n->(∀ e ∈ on.after,Region.binds .any e=true->e.on ≠ j)->on.apart ops oj=true)
 (hnw:∀ j oj,ops[j]? = some oj->j < n->∀ e ∈ oj.after,Region.binds .any e=true->e.on ≠ n)
 (hs:iR ops (n + 1) []=true) (hc0:Region.chainB .any ops n=true) (hc:Region.chainB .any ops (n + 1)=true) (hn:n + 1 < ops.size)
 (hgrow:∀ (a:Act) w r w1,C w->(execOp a.eval on).run P w=.ok r w1->(∃ v,r=.value v)/\C w1)
 (hL0:∀ l a w,C w->L l a->wpAny P .any ops Q' (g + 1) l a w)
 (hL2:∀ l a w,C w->L l a->on.wp P a w (fun a' w'=>wpAny P .any ops Q' g (l.setIfInBounds n true) a' w') Q') :
 ∀ (f:Nat) (l:Array Bool) (a:Act) (w:World),C w->HeadInv .any ops n l->f6 P ops C n L f l a->wpAny P .any ops Q' (f + (g + 1)) l a w
 | 0,l,a,w,hw,_,h=>by rw [Nat.zero_add]; exact hL0 l a w hw h
 | f + 1,l,a,w,hw,inv,hH=>by
  obtain ⟨⟨i,hi,hin⟩,h⟩:=id hH
  rw [show f + 1 + (g + 1)=(f + (g + 1)) + 1 by omega]
  refine ⟨fun h0=>(by rw [h0] at hi; cases hi),fun j hj=>?_⟩
  obtain ⟨hjun,oj,hoj,hall⟩:=mem_ready.1 hj
  rcases Nat.lt_trichotomy j n with hjn | hjn | hjn
  · exact kU hw (fun a' h'=>tO hQ hsel hon hgd hap hnw hs hc0 hc hn hgrow hL0 hL2 f _ a' w hw (inv.set hj hjn) h') (h j hj hjn)
  · subst hjn
    cases hon.symm.trans hoj
    unfold wpOp
    simp only [hoj]
    rw [if_pos (bC hgd _)]
    refine .inl ?_
    obtain ⟨l',a',h4,h5⟩:=nX hsel hon hap (f + 1) l a hj hH
    have h6:=hL2 l' a' w hw h4
    unfold Oper.wp at h6 ⊢
    rw [h5] at h6
    cases hrun:(execOp a.eval on).run P w with
    | ok r w1=>
     obtain ⟨⟨v,rfl⟩,hw1⟩:=hgrow a w r w1 hw hrun
     have inv2:HeadInv .any ops (j + 1) (l.setIfInBounds j true):=HeadInv.set ⟨inv.size,inv.closed,fun t ht=>inv.tail t (by omega)⟩ hj (by omega)
     have:=tK (g:=g) (v:=v) (w1:=w1) (S0:=execOp a.eval on) hsel hon hap hnw hs hc hn hw1 (fun l2 a2 h7 h8=>by
      have h9:=hL2 l2 a2 w hw h7
      unfold Oper.wp at h9
      rw [h8,hrun] at h9
      exact h9) (f + 1) l a inv2 hj hH rfl
     rw [show f + 1 + g=f + (g + 1) by omega] at this
     exact this
    | halt x w1=>
     rw [hrun] at h6
     cases x<;>simp only [Oper.upon] at h6 ⊢
     case panic u=>exact absurd h6 (hQ _ _ _)
  · exfalso
    have h1:=List.all_eq_true.1 hc0 j (List.mem_range.2 (Array.getElem?_eq_some_iff.1 hoj).1)
    simp only [Bool.or_eq_true,decide_eq_true_eq] at h1
    have h2:Region.waitsFor .any ops j (j - 1)=true:=by
     rcases h1 with h | h
     · omega
     · exact h
    obtain ⟨o',ho',e,he,hb,hon'⟩:=Region.waitsFor_spec h2
    cases hoj.symm.trans ho'
    have:=hall e he hb
    rw [hon',getD_both (inv.tail (j - 1) (by omega) (by have:=(Array.getElem?_eq_some_iff.1 hoj).1; omega))] at this
    cases this
end
theorem FRel.weak {N:Nat} {γ:List Gb} {ro:RO} {fr fr2:Fr} {a:Act} (h:FRel N γ ro fr a) (hw:∀ i,fr2 i=fr i\/fr2 i=.un):FRel N γ ro fr2 a:=
 ⟨h.size,fun i=>by rcases hw i with e | e<;>rw [e]; exact h.slot i; trivial,h.defers⟩
theorem bJ {f1 f2:Fr}:∀ {l:List Nat},(∀ i ∈ l,f1 i=f2 i)->aK f1 l=aK f2 l
 | [],_=>rfl
 | i :: r,h=>by
  simp only [aK]
  rw [h i (by simp),bJ (l:=r) fun k hk=>h k (by simp [hk])]
theorem dD {f1 f2:Fr} {l:List Nat} (h:∀ i ∈ l,f1 i=f2 i):∀ i ∈ l,fst f1 i=fst f2 i:=fun i hi=>by
 unfold fst; rw [h i hi]
theorem wC {f1 f2:Fr} {H:Hp} {i:LI} (h:∀ j ∈ i.sl,f1 j=f2 j):lq f1 H i=lq f2 H i:=by
 cases i with
 | ia sz x y=>rfl
 | lk kd z ok x k=>rfl
 | lm x=>rfl
 | ld1 x=>simp only [lq,aD (o:=x) (fun j hj=>h j hj)]
 | ldn n x=>simp only [lq,aD (o:=x) (fun j hj=>h j hj)]
section
variable {Γ:bU} {H:Hp} {j:J} {K1 K2:Fr->Hp->Prop}
theorem vY {i:I} {f1 f2:Fr} {R1 R2:S->Hp->Prop} (h:∀ k ∈ i.sl,f1 k=f2 k) (hR:R1=R2):vI Γ f1 H R1 i=vI Γ f2 H R2 i:=by
 subst hR
 cases i with
 | e i=>
  simp only [vI]
  rw [show aK f1 i.sl=aK f2 i.sl from bJ h,rA (dD h)]
 | cl f xs σ=>
  simp only [vI]
  have e:(xs.map fun o=>ev (fst f1) o)=xs.map fun o=>ev (fst f2) o:=by
   refine List.map_congr_left fun o ho=>aD fun k hk=>dD h k ?_
   simp only [I.sl]
   clear h
   induction xs with
   | nil=>cases ho
   | cons x r ih=>
    simp only [O.sls,List.mem_append]
    rcases List.mem_cons.1 ho with rfl | ho
    · exact .inl hk
    · exact .inr (ih ho)
  rw [show aK f1 (O.sls xs)=aK f2 (O.sls xs) from bJ h,e]
 | ca x xs σ=>
  simp only [vI]
  have e:(xs.map fun o=>ev (fst f1) o)=xs.map fun o=>ev (fst f2) o:=by
   refine List.map_congr_left fun o ho=>aD fun k hk=>dD h k ?_
   simp only [I.sl,List.mem_append]
   clear h
   induction xs with
   | nil=>cases ho
   | cons x r ih=>
    simp only [O.sls,List.mem_append]
    rcases List.mem_cons.1 ho with rfl | ho
    · exact .inr (.inl hk)
    · rcases ih ho with h | h
      · exact .inl h
      · exact .inr (.inr h)
  have ex:ev (fst f1) x=ev (fst f2) x:=aD fun k hk=>dD h k (by simp only [I.sl,List.mem_append]; exact .inl hk)
  rw [bJ (l:=x.sl ++ O.sls xs) h,e,ex]
 | _=>rfl
theorem sE {o:O}:∀ {xs:List O},o ∈ xs->∀ k ∈ o.sl,k ∈ O.sls xs
 | [],ho,_,_=>by cases ho
 | x :: r,ho,k,hk=>by
  simp only [O.sls,List.mem_append]
  rcases List.mem_cons.1 ho with rfl | ho
  · exact .inl hk
  · exact .inr (sE ho k hk)
theorem nW {f:FuncId} {xs:List O} {g:Prop} {f1 f2:Fr} {R1 R2:A->Prop} (h:∀ k ∈ O.sls xs,f1 k=f2 k) (hR:R1=R2):l4 Γ f1 H f xs g R1=l4 Γ f2 H f xs g R2:=by
 subst hR
 have e:(xs.map fun o=>((ev (fst f1) o).bor H).nf)=xs.map fun o=>((ev (fst f2) o).bor H).nf:=
  List.map_congr_left fun o ho=>by rw [aD fun k hk=>dD h k (sE ho k hk)]
 unfold l4
 rw [e,bJ h]
theorem tW (R:Fr->Fr->Prop) (hA:∀ f1 f2,R f1 f2->∀ i ∈ j.rds,f1 i=f2 i)
 (hP:∀ f1 f2 sl s,(∃ w,j.g=some (sl,w))->R f1 f2->R (put f1 (some sl) s) (put f2 (some sl) s))
 (hK:∀ f1 f2 s H',R f1 f2->K1 (put f1 j.d s) H'=K2 (put f2 j.d s) H') {f1 f2:Fr} (h:R f1 f2):vJ Γ f1 H K1 j=vJ Γ f2 H K2 j:=by
 obtain ⟨d,g,i⟩:=j
 simp only [J.rds] at hA
 simp only at hP hK
 have hs:∀ {f1 f2:Fr},R f1 f2->∀ k ∈ i.sl,f1 k=f2 k:=fun hR k hk=>hA _ _ hR k (List.mem_append_right _ hk)
 have hI:∀ {f1 f2:Fr},R f1 f2->vI Γ f1 H (fun s H'=>K1 (put f1 d s) H') i=vI Γ f2 H (fun s H'=>K2 (put f2 d s) H') i:=fun {f1 f2} hR=>
  vY (hs hR) (funext fun s=>funext fun H'=>hK f1 f2 s H' hR)
 have hsl:=hs h
 have hfs:=dD hsl
 have hgd:=bJ hsl
 unfold vJ
 cases g with
 | none=>
  simp only
  cases i with
  | q i=>
   obtain ⟨e1,e2⟩:=jX (H:=H) (i:=i) hfs
   simp only [dO,e1,e2]
   rw [show aK f1 i.sl=aK f2 i.sl from hgd]
   split
   · rw [hK _ _ _ _ h]
   · rfl
  | ix x y=>
   have ex:ev (fst f1) x=ev (fst f2) x:=aD fun k hk=>hfs k (List.mem_append_left _ hk)
   have ey:ev (fst f1) y=ev (fst f2) y:=aD fun k hk=>hfs k (List.mem_append_right _ hk)
   simp only [dO,ex,ey]
   rw [show aK f1 (x.sl ++ y.sl)=aK f2 (x.sl ++ y.sl) from hgd]
   split
   · simp only [hK _ _ _ _ h]
   · rfl
  | l i=>
   simp only [dO]
   rw [show aK f1 i.sl=aK f2 i.sl from hgd,g5 hfs]
   simp only [hK _ _ _ _ h]
  | pick c x y=>
   have ec:ev (fst f1) c=ev (fst f2) c:=aD fun k hk=>hfs k (List.mem_append_left _ hk)
   have ex:ev (fst f1) x=ev (fst f2) x:=aD fun k hk=>hfs k (List.mem_append_right _ (List.mem_append_left _ hk))
   have ey:ev (fst f1) y=ev (fst f2) y:=aD fun k hk=>hfs k (List.mem_append_right _ (List.mem_append_right _ hk))
   simp only [dO,ec,ex,ey]
   rw [bJ (l:=c.sl) fun k hk=>hsl k (List.mem_append_left _ hk),bJ (l:=x.sl) fun k hk=>hsl k (List.mem_append_right _ (List.mem_append_left _ hk)),bJ (l:=y.sl) fun k hk=>hsl k (List.mem_append_right _ (List.mem_append_right _ hk))]
   split
   · rw [hK _ _ _ _ h]
   · rfl
  | cq f xs=>exact nW hsl (funext fun a=>hK _ _ _ _ h)
  | e i=>exact hI h
  | cl f xs σ=>exact hI h
  | ca x xs σ=>exact hI h
 | some gw=>
  obtain ⟨sl,want⟩:=gw
  simp only
  have hg0:f1 sl=f2 sl:=hA _ _ h sl (by simp)
  have hgv:gv f1 sl want=gv f2 sl want:=by unfold gv; rw [hg0]
  have hn:R (cK f1 sl want) (cK f2 sl want):=hP _ _ _ _ ⟨_,rfl⟩ h
  have hf:R (fW f1 sl want) (fW f2 sl want):=by
   unfold fW
   rw [hg0]
   split
   · exact hP _ _ _ _ ⟨_,rfl⟩ h
   · exact h
  rw [hgv]
  split
  · rfl
  · rename_i b hb
    have hIf:((b=true->vI Γ (cK f1 sl want) H (fun s H'=>K1 (put (cK f1 sl want) d s) H') i)/\(b=false->K1 (put (fW f1 sl want) d dum) H))=((b=true->vI Γ (cK f2 sl want) H (fun s H'=>K2 (put (cK f2 sl want) d s) H') i)/\(b=false->K2 (put (fW f2 sl want) d dum) H)):=by
     rw [hI hn,hK _ _ _ _ hf]
    cases i with
    | q i=>
     obtain ⟨e1,e2⟩:=jX (H:=H) (i:=i) hfs
     simp only [cP,e1,e2]
     rw [show aK f1 i.sl=aK f2 i.sl from hgd]
     split<;>rw [hK _ _ _ _ h]
    | ix x y=>
     have ex:ev (fst f1) x=ev (fst f2) x:=aD fun k hk=>hfs k (List.mem_append_left _ hk)
     have ey:ev (fst f1) y=ev (fst f2) y:=aD fun k hk=>hfs k (List.mem_append_right _ hk)
     simp only [cP,ex,ey]
     rw [show aK f1 (x.sl ++ y.sl)=aK f2 (x.sl ++ y.sl) from hgd]
     split<;>simp only [hK _ _ _ _ h]
    | l i=>
     simp only [cP]
     rw [wC hfs,show aK f1 i.sl=aK f2 i.sl from hgd]
     split
     · rw [hK _ _ _ _ h]
     · have e1:aK (cK f1 sl want) i.sl=aK (cK f2 sl want) i.sl:=bJ (hs hn)
       rw [e1,g5 (dD (hs hn)),hK _ _ _ _ hf]
       simp only [hK _ _ _ _ hn]
    | pick c x y=>
     have ec:ev (fst f1) c=ev (fst f2) c:=aD fun k hk=>hfs k (List.mem_append_left _ hk)
     have ex:ev (fst f1) x=ev (fst f2) x:=aD fun k hk=>hfs k (List.mem_append_right _ (List.mem_append_left _ hk))
     have ey:ev (fst f1) y=ev (fst f2) y:=aD fun k hk=>hfs k (List.mem_append_right _ (List.mem_append_right _ hk))
     simp only [cP,ec,ex,ey]
     rw [bJ (l:=c.sl) fun k hk=>hsl k (List.mem_append_left _ hk),bJ (l:=x.sl) fun k hk=>hsl k (List.mem_append_right _ (List.mem_append_left _ hk)),bJ (l:=y.sl) fun k hk=>hsl k (List.mem_append_right _ (List.mem_append_right _ hk))]
     split<;>rw [hK _ _ _ _ h]
    | cq f xs=>exact nW hsl (funext fun a=>hK _ _ _ _ h)
    | e i=>exact hIf
    | cl f xs σ=>exact hIf
    | ca x xs σ=>exact hIf
end
theorem sK {fr:Fr} {H:Hp} {i:LI} {Φ:S->Prop} (h:vL fr H i Φ):∃ s,Φ s/\vL fr H i (fun s'=>s'=s):=by
 cases i with
 | ia sz x y=>
  simp only [vL] at h ⊢
  split at h
  · exact ⟨_,h.2,h.1,rfl⟩
  · rename_i xs _ k hx hy
    obtain ⟨⟨h1,h2⟩,h3⟩:=h
    have hk:xs[k.toNat]? = some xs[k.toNat]:=b5 (by omega)
    exact ⟨_,h3 _ hk,⟨h1,h2⟩,fun r hr=>by rw [hk] at hr; rw [bB hr]⟩
  · exact h.elim
 | lk kd z ok x k=>
  simp only [vL] at h ⊢
  split at h
  · split at h
    · exact ⟨_,h.2,h.1,rfl⟩
    · exact h.elim
  · exact h.elim
 | lm x=>
  simp only [vL] at h ⊢
  split at h
  · split at h
    · exact ⟨_,h,rfl⟩
    · exact h.elim
  · exact h.elim
 | ld1 x=>
  simp only [vL] at h ⊢
  split at h
  · split at h
    · split at h
      · exact ⟨_,h,rfl⟩
      · exact h.elim
    · exact h.elim
  · split at h
    · rename_i xs T sz' hH
      obtain ⟨h1,h3⟩:=h
      have hk:=b5 h1.2.2
      have:=h3 _ hk
      split at this
      · rename_i c hc
        refine ⟨_,this,h1,fun r hr=>?_⟩
        rw [hk] at hr
        rw [<-bB hr,hc]
      · exact this.elim
    · rename_i xs T sz' hH
      obtain ⟨h1,h3⟩:=h
      have hk:=b5 h1.2.2
      have:=h3 _ hk
      split at this
      · rename_i c hc
        refine ⟨_,this,h1,fun r hr=>?_⟩
        rw [hk] at hr
        rw [<-bB hr,hc]
      · exact this.elim
    · exact h.elim
  · split at h
    · exact ⟨_,h,rfl⟩
    · exact h.elim
  · exact h.elim
 | ldn n x=>
  simp only [vL] at h ⊢
  split at h
  · split at h
    · exact ⟨_,h.2,h.1,rfl⟩
    · exact h.elim
  · split at h
    · obtain ⟨h1,h3⟩:=h
      have hk:=b5 h1.2.2
      obtain ⟨h4,h5⟩:=h3 _ hk
      refine ⟨_,h5,h1,fun r hr=>?_⟩
      rw [hk] at hr
      rw [<-bB hr]
      exact ⟨h4,rfl⟩
    · obtain ⟨h1,h3⟩:=h
      have hk:=b5 h1.2.2
      obtain ⟨h4,h5⟩:=h3 _ hk
      refine ⟨_,h5,h1,fun r hr=>?_⟩
      rw [hk] at hr
      rw [<-bB hr]
      exact ⟨h4,rfl⟩
    · exact h.elim
  · exact ⟨_,h.2,h.1,rfl⟩
  · exact h.elim
theorem bM (fr:Fr) (d:Nat) (s:S):put fr (some d) s d=s:=by simp [put]
theorem yI {Γ:bU} {fr:Fr} {H:Hp} {j:J} {d:Nat} (hd:j.d=some d) (hq:j.quiet=true) (hx:j.gix=false) {Φ:S->Prop} (h:vJ Γ fr H (fun fr' _=>Φ (fr' d)) j):∃ s,Φ s/\vJ Γ fr H (fun fr' _=>fr' d=s) j:=by
 obtain ⟨d',g,i⟩:=j
 simp only at hd
 subst hd
 unfold vJ at h ⊢
 cases g with
 | none=>
  simp only at h ⊢
  cases i with
  | q i=>
   simp only [dO] at h ⊢
   split at h
   · rename_i s hs
     obtain ⟨h1,h2,h3⟩:=h
     rw [bM] at h3
     exact ⟨s,h3,h1,h2,bM _ _ _⟩
   · exact h.elim
  | ix x y=>
   simp only [dO] at h ⊢
   split at h
   · rename_i s _ k hx hy
     obtain ⟨⟨h0,h1,h2⟩,h3⟩:=h
     have hk:(bl s)[k.toNat]? = some (bl s)[k.toNat]:=b5 (by omega)
     have:=h3 _ hk
     rw [bM] at this
     exact ⟨_,this,⟨h0,h1,h2⟩,fun c hc=>by rw [hk] at hc; rw [<-bB hc,bM]⟩
   · exact h.elim
  | l i=>
   simp only [dO,bM] at h ⊢
   obtain ⟨s,h1,h2⟩:=sK h.2
   exact ⟨s,h1,h.1,h2⟩
  | pick c x y=>
   simp only [dO,bM] at h ⊢
   split at h
   · obtain ⟨h1,h2,h3,h4⟩:=h
     exact ⟨_,h4,h1,h2,h3,rfl⟩
   · exact h.elim
  | e i=>simp [J.quiet] at hq
  | cl f xs σ=>simp [J.quiet] at hq
  | ca f xs σ=>simp [J.quiet] at hq
  | cq f xs=>simp [J.quiet] at hq
 | some gw=>
  obtain ⟨sl,want⟩:=gw
  simp only at h ⊢
  split at h
  · exact h.elim
  · rename_i b hb
    cases i with
    | q i=>
     simp only [cP,bM] at h ⊢
     split at h
     · exact ⟨_,h.2,h.1,rfl⟩
     · exact ⟨_,h.2,h.1,rfl⟩
    | ix x y=>simp [J.gix] at hx
    | l i=>
     simp only [cP,bM] at h ⊢
     split at h
     · exact ⟨_,h.2,h.1,rfl⟩
     · obtain ⟨h1,h2⟩:=h
       cases b with
       | true=>
        obtain ⟨h3,h4⟩:=h1 rfl
        obtain ⟨s,h5,h6⟩:=sK h4
        exact ⟨s,h5,fun _=>⟨h3,h6⟩,fun h=>by cases h⟩
       | false=>exact ⟨_,h2 rfl,fun h=>(by cases h),fun _=>rfl⟩
    | pick c x y=>
     simp only [cP,bM] at h ⊢
     split at h
     · exact ⟨_,h.2,h.1,rfl⟩
     · exact ⟨_,h.2,h.1,rfl⟩
    | e i=>simp [J.quiet] at hq
    | cl f xs σ=>simp [J.quiet] at hq
    | ca f xs σ=>simp [J.quiet] at hq
    | cq f xs=>simp [J.quiet] at hq
section
variable {X:Ctx} {E E':Es} {ro ro':RO} {w w':World}
theorem Rel.thru (h:Rel X E ro w) (k:Rel ⟨w,cC E,ro,gm E⟩ E' ro' w'):Rel X E' ro' w':=by
 have hin:∀ b,b ∈ cC E->X.w0.heap.size<=b\/b ∈ X.pb:=fun b hb=>by
  obtain ⟨n,g,blk,h1,h2,h3⟩:=dV.1 hb
  exact h.par n b g blk h1 h2 h3
 refine ⟨k.own,k.inj,k.apart,k.rd,h.ro0.trans k.ro0,fun b off v hv=>?_,fun n b g blk h1 h2 h3=>?_,h.gx.trans k.gx,Nat.le_trans h.sz k.sz,fun b hb hp=>?_,k.os.trans h.os,k.tape.trans h.tape,k.output.trans h.output⟩
 · rcases k.rob b off v hv with e | e | e
   · exact h.rob b off v e
   · exact .inr (.inl (Nat.le_trans h.sz e))
   · exact .inr (hin b e)
 · rcases k.par n b g blk h1 h2 h3 with e | e
   · exact .inl (Nat.le_trans h.sz e)
   · exact hin b e
 · have hlt:b < w.heap.size:=Nat.lt_of_lt_of_le hb h.sz
   refine (k.keep b hlt fun hbk=>?_).trans (h.keep b hb hp)
   rcases hin b hbk with e | e
   · omega
   · exact hp e
def Mk.g (m:Mk) (b:Nat):Gb:=match m.sz with
 | none=>⟨some b,false,0,0,m.T,m.cs⟩
 | some _=>⟨some b,true,1,1,m.T,m.cs⟩
def Mk.B (m:Mk):B:=match m.sz with
 | none=>.cells (m.cs.map C.vl) m.T
 | some sz=>.row [m.cs.map C.vl] m.T sz
def Mk.s (m:Mk) (n:Nat):S:=match m.sz with
 | none=>.va (.c1 (.pt n 0))
 | some _=>.va (.c1 (.sl n 1))
def Mk.v (m:Mk) (b:Nat):Value:=match m.sz with
 | none=>.pointer (some ⟨b,0,none⟩)
 | some _=>.slice (some ⟨b,0,none⟩) 1 1
def Mk.ok (m:Mk):Prop:=∀ sz,m.sz=some sz->m.cs.length=sz
theorem Mk.ob (m:Mk) (b:Nat):(m.g b).ob=some b:=by unfold Mk.g; split<;>rfl
theorem Mk.on {m:Mk} (hm:m.ok) {γ:List Gb} {b:Nat} (hb:w.heap[b]? = some (.cells m.cs.toArray m.T (0,0))):m.B.On γ ro w (m.g b):=by
 unfold Mk.B Mk.g
 cases h:m.sz with
 | none=>exact ⟨rfl,b,rfl,hb,fN _⟩
 | some sz=>
  have hl:=hm sz h
  have h2:=fN (γ:=γ) (ro:=ro) m.cs
  refine ⟨rfl,rfl,fun x hx=>?_,fun c hc=>?_,⟨by simp [hl],.inr ⟨b,1,_,rfl,Nat.zero_le _,hb,Nat.le_refl _,by decide,?_,?_⟩⟩,?_,fun _ _=>Nat.one_pos⟩
  · rw [List.mem_singleton.1 hx,List.length_map,hl]
  · rw [List.flatten_cons,List.flatten_nil,List.append_nil] at hc
    obtain ⟨v,_,rfl⟩:=List.mem_map.1 hc
    rfl
  · simp [hl]
  · rw [List.toList_toArray,List.take_of_length_le (by simp [hl])]
  · rw [List.flatten_cons,List.flatten_nil,List.append_nil]
    refine ⟨h2.1,fun k c u h1 h3=>(C.rel_shut (γ:=γ) ?_).1 (h2.2 k c u h1 h3)⟩
    rw [List.getElem?_map] at h1
    cases hk:m.cs[k]? with
    | none=>rw [hk] at h1; cases h1
    | some v=>rw [hk] at h1; cases h1; rfl
theorem Mk.rel (m:Mk) {γ:List Gb} {n b:Nat} (h:γ[n]? = some (m.g b)):(m.s n).rel γ ro (m.v b):=by
 unfold Mk.s Mk.v
 unfold Mk.g at h
 cases hs:m.sz with
 | none=>rw [hs] at h; exact ⟨_,b,h,rfl,rfl,rfl⟩
 | some sz=>rw [hs] at h; exact ⟨_,h,rfl,Nat.le_refl _,⟨_,_,_,rfl⟩,fun _=>rfl⟩
structure Ea (X:Ctx) (E:Es) (ro:RO) (w:World) (m:Mk) (b:Nat):Prop where
 hb:w.heap[b]? = some (.cells m.cs.toArray m.T (0,0))
 lo:X.w0.heap.size<=b
 liv:∀ (n:Nat) (g:Gb) (blk:B),E[n]? = some (g,blk)->blk.live=true->g.ob ≠ some b
 ro:∀ off v,ro b off ≠ some v
theorem Ea.lt {m:Mk} {b:Nat} (h:Ea X E ro w m b):b < w.heap.size:=by
 rcases kK b w.heap.size with e | e
 · exact e
 · have:=h.hb; rw [Array.getElem?_eq_none e] at this; cases this
theorem Ea.keep {m:Mk} {b:Nat} (h:Ea X E ro w m b) (k:Rel ⟨w,cC E,ro,gm E⟩ E' ro' w'):Ea X E' ro' w' m b:=by
 have hlt:=h.lt
 have hbk:b ∉ cC E:=fun hb=>by
  obtain ⟨n,g,blk,h1,h2,h3⟩:=dV.1 hb
  exact h.liv n g blk h1 h3 h2
 refine ⟨(k.keep b hlt hbk).trans h.hb,h.lo,fun n g blk h1 h2 h3=>?_,fun off v hv=>?_⟩
 · rcases k.par n b g blk h1 h3 h2 with e | e
   · exact absurd hlt (Nat.not_lt.2 e)
   · exact hbk e
 · rcases k.rob b off v hv with e | e | e
   · exact h.ro off v e
   · exact absurd hlt (Nat.not_lt.2 e)
   · exact hbk e
theorem Rel.admE (h:Rel X E ro w) {q:Mk} (hq:q.ok) {b:Nat} (e:Ea X E ro w q b) :
 Rel X (E ++ [(q.g b,q.B)]) ro w:=by
 have hext:GExt (gm E) (gm (E ++ [(q.g b,q.B)])):=bG _
 have hget:∀ (n:Nat) (y:Gb × B),(E ++ [(q.g b,q.B)])[n]? = some y->(n=E.length/\y=(q.g b,q.B))\/(n < E.length/\E[n]? = some y):=by
  intro n y hy
  rw [List.getElem?_append] at hy
  split at hy
  · exact .inr ⟨by assumption,hy⟩
  · rename_i hge
    have:n - E.length=0:=by
     rcases Nat.eq_zero_or_pos (n - E.length) with h0 | h0
     · exact h0
     · rw [List.getElem?_eq_none (by simp; omega)] at hy; cases hy
    rw [this] at hy
    exact .inl ⟨by omega,by simpa using hy.symm⟩
 refine ⟨fun n g' bk hy=>?_,fun n m gn gm bn bm k hy hz en em ln lm=>?_,fun k off c hc n gn bk hy en=>?_,h.rd,h.ro0,h.rob,fun n k gn bk hy en ln=>?_,h.gx.trans hext,h.sz,h.keep,h.os,h.tape,h.output⟩
 · rcases hget n _ hy with ⟨rfl,he⟩ | ⟨hlt,hy'⟩
   · simp only [Prod.mk.injEq] at he
     obtain ⟨rfl,rfl⟩:=he
     exact Mk.on hq e.hb
   · by_cases hlv:bk.live=true
     · exact (h.own n g' bk hy').same hext (Ext.refl _) fun k hk=>rfl
     · cases bk<;>simp [B.live] at hlv; trivial
 · rcases hget n _ hy with ⟨rfl,he⟩ | ⟨hlt,hy'⟩<;>rcases hget m _ hz with ⟨rfl,he2⟩ | ⟨hlt2,hz'⟩
   · rfl
   · simp only [Prod.mk.injEq] at he; obtain ⟨rfl,rfl⟩:=he
     simp only [Mk.ob,aB] at en
     subst en
     exact absurd em (e.liv m gm bm hz' lm)
   · simp only [Prod.mk.injEq] at he2; obtain ⟨rfl,rfl⟩:=he2
     simp only [Mk.ob,aB] at em
     subst em
     exact absurd en (e.liv n gn bn hy' ln)
   · exact h.inj n m gn gm bn bm k hy' hz' en em ln lm
 · rcases hget n _ hy with ⟨rfl,he⟩ | ⟨hlt,hy'⟩
   · simp only [Prod.mk.injEq] at he; obtain ⟨rfl,rfl⟩:=he
     simp only [Mk.ob,aB] at en
     subst en
     exact absurd hc (e.ro off c)
   · exact h.apart k off c hc n gn bk hy' en
 · rcases hget n _ hy with ⟨rfl,he⟩ | ⟨hlt,hy'⟩
   · simp only [Prod.mk.injEq] at he; obtain ⟨rfl,rfl⟩:=he
     simp only [Mk.ob,aB] at en
     subst en
     exact .inl e.lo
   · exact h.par n k gn bk hy' en ln
end
def Dn (l:Array Bool) (i:Nat):Prop:=l.getD i false=true
theorem nL {ops:Array Oper} {p:Nat->Prop} (hcl:∀ i k,p i->Region.waitsFor .any ops i k=true->p k):∀ (ks s:List Nat),(∀ t ∈ s,p t)->∀ t ∈ s6 ops ks s,p t
 | [],s,h=>h
 | k :: r,s,h=>by
  refine nL hcl r _ fun t ht=>?_
  split at ht
  · rename_i hany
    obtain ⟨u,hu,hw⟩:=List.any_eq_true.1 hany
    rcases List.mem_cons.1 ht with rfl | ht
    · exact hcl u t (h u hu) hw
    · exact h t ht
  · exact h t ht
theorem nK {ops:Array Oper} {p:Nat->Prop} (hcl:∀ i k,p i->Region.waitsFor .any ops i k=true->p k) {i:Nat} (hi:p i):∀ t ∈ cG ops i,p t:=
 nL hcl _ _ fun t ht=>by rw [List.mem_singleton.1 ht]; exact hi
structure Ck (ops:Array Oper) (js:List J) (pre:List Nat) (i:Nat) (r:List Nat):Prop where
 lt:i < ops.size
 new:i ∉ pre
 wt:∀ o,ops[i]? = some o->∀ e ∈ o.after,Region.binds .any e=true->e.on ∈ pre
 q1:(bK ops js i=true\/cY js i=true)->∀ k ∈ pre,∀ s ∈ iV js k,fC js i ≠ some s
 rd:∀ k ∈ pre,∀ s ∈ iV js i,fC js k=some s->bK ops js k=true->k ∈ cG ops i
 ds:∀ d,fC js i=some d->∀ k ∈ pre,fC js k ≠ some d
 own:bK ops js i=true->∀ s ∈ iV js i,fC js i ≠ some s
 hd:bK ops js i=false->eD ops js i r=false->∀ j ∈ r,cY js j=false->Region.waitsFor .any ops j i=true\/∃ k ∈ r,cY js k=false/\Region.waitsFor .any ops j k=true
 a1:cY js i=true->∀ k ∈ pre,cY js k=false
theorem BG {ops:Array Oper} {js:List J} {pre:List Nat} {i:Nat} {r:List Nat} (h:v5 ops js pre i r=true):Ck ops js pre i r:=by
 unfold v5 at h
 simp only [Bool.and_eq_true,decide_eq_true_eq] at h
 obtain ⟨⟨⟨⟨⟨⟨⟨⟨h1,h2⟩,h3⟩,h4⟩,h5⟩,h6⟩,h7⟩,h8⟩,h9⟩:=h
 refine ⟨h1,by simpa using h2,fun o ho e he hb=>?_,fun hq k hk s hs heq=>?_,fun k hk s hs heq hq=>?_,fun d hd k hk heq=>?_,fun hq s hs heq=>?_,fun hq hnf j hj ha=>?_,fun ha k hk=>?_⟩
 · rw [ho] at h3
   have:=Array.all_eq_true_iff_forall_mem.1 h3 e he
   simpa [hb] using this
 · have hq':(bK ops js i || cY js i)=true:=by rw [Bool.or_eq_true]; exact hq
   rw [hq'] at h4
   have h':∀ k ∈ pre,∀ s ∈ iV js k,¬ fC js i=some s:=by simpa using h4
   exact h' k hk s hs heq
 · have:=List.all_eq_true.1 h5 k hk
   have h':((iV js i).any fun s=>fC js k == some s)=true:=List.any_eq_true.2 ⟨s,hs,by simp [heq]⟩
   rw [h',hq] at this
   simpa using this
 · rw [hd] at h6
   have:=List.all_eq_true.1 h6 k hk
   simp [heq] at this
 · rw [hq] at h7
   have h':((iV js i).any fun s=>fC js i == some s)=true:=List.any_eq_true.2 ⟨s,hs,by simp [heq]⟩
   rw [h'] at h7; cases h7
 · rw [hq,hnf,Bool.false_or,Bool.false_or] at h8
   have:=List.all_eq_true.1 h8 j hj
   rw [ha,Bool.false_or,Bool.or_eq_true] at this
   rcases this with h | h
   · exact .inl h
   · obtain ⟨k,hk,h⟩:=List.any_eq_true.1 h
     simp only [Bool.and_eq_true,Bool.not_eq_true'] at h
     exact .inr ⟨k,hk,h.1,h.2⟩
 · rw [ha] at h9
   have h':∀ k ∈ pre,cY js k=false:=by simpa using h9
   exact h' k hk
theorem fM {ops:Array Oper} {js:List J}:∀ (l pre p:List Nat) (i:Nat) (r:List Nat),eB ops js pre l=true->l=p ++ i :: r->Ck ops js (pre ++ p) i r
 | [],_,p,i,r,_,h=>by cases p<;>cases h
 | x :: l,pre,[],i,r,hB,h=>by
  simp only [eB,Bool.and_eq_true] at hB
  obtain ⟨rfl,rfl⟩:x=i/\l=r:=by simpa using h
  rw [List.append_nil]; exact BG hB.1
 | x :: l,pre,y :: p,i,r,hB,h=>by
  simp only [eB,Bool.and_eq_true] at hB
  obtain ⟨rfl,rfl⟩:x=y/\l=p ++ i :: r:=by simpa using h
  have:=fM _ (pre ++ [x]) p i r hB.2 rfl
  simpa using this
theorem dW:∀ (n:Nat) (l:List Nat),l.Nodup->(∀ k ∈ l,k < n)->l.length<=n
 | 0,l,_,h=>by
  cases l with
  | nil=>exact Nat.le_refl _
  | cons x l=>exact absurd (h x (by simp)) (by omega)
 | n + 1,l,hn,h=>by
  by_cases hm:n ∈ l
  · have h1:=dW n (l.erase n) (hn.erase n) fun k hk=>by
     obtain ⟨h2,h3⟩:=(hn.mem_erase_iff).1 hk
     have:=h k h3
     omega
    have h2:=List.length_erase_of_mem hm
    omega
  · have:=dW n l hn fun k hk=>by
     have h3:=h k hk
     have:k ≠ n:=fun e=>hm (e ▸ hk)
     omega
    omega
theorem y3 {ops:Array Oper} {js:List J} {π:List Nat} (hC:eB ops js [] π=true) (hl:π.length=ops.size):∀ i,i < ops.size->i ∈ π:=by
 have hck:∀ (p:List Nat) (i:Nat) (r:List Nat),π=p ++ i :: r->i < ops.size/\i ∉ p:=fun p i r e=>by
  have:=fM π [] p i r hC e
  exact ⟨this.lt,by simpa using this.new⟩
 have hnd:π.Nodup:=by
  have key:∀ (q p:List Nat),π=p ++ q->p.Nodup->(p ++ q).Nodup:=fun q=>by
   induction q with
   | nil=>intro p _ hp; simpa using hp
   | cons x q ih=>
    intro p e hp
    have h1:=(hck p x q e).2
    have:=ih (p ++ [x]) (by rw [e]; simp) (by
     rw [List.nodup_append]
     exact ⟨hp,List.nodup_cons.2 ⟨by simp,List.nodup_nil⟩,fun a ha b hb=>by rw [List.mem_singleton.1 hb]; rintro rfl; exact h1 ha⟩)
    simpa using this
  have:=key π [] rfl List.nodup_nil
  simpa using this
 have hlt:∀ i ∈ π,i < ops.size:=fun i hi=>by
  obtain ⟨p,r,e⟩:=List.append_of_mem hi
  exact (hck p i r e).1
 intro i hi
 refine Classical.byContradiction fun hn=>?_
 have:=dW ops.size (i :: π) (List.nodup_cons.2 ⟨hn,hnd⟩) fun k hk=>by
  rcases List.mem_cons.1 hk with rfl | hk
  · exact hi
  · exact hlt k hk
 rw [List.length_cons,hl] at this
 omega
def cnt (n:Nat) (l:Array Bool):Nat:=((List.range n).filter fun i=>!l.getD i false).length
theorem g6 {p q:Nat->Bool} (h:∀ i,q i=true->p i=true) {k:Nat} (hp:p k=true) (hq:q k=false):∀ (l:List Nat),k ∈ l->(l.filter q).length < (l.filter p).length
 | [],hk=>by cases hk
 | x :: l,hk=>by
  have hle:(l.filter q).length<=(l.filter p).length:=by
   clear hk
   induction l with
   | nil=>exact Nat.le_refl _
   | cons y l ih=>
    simp only [List.filter_cons]
    cases hy:q y with
    | true=>rw [h y hy]; simpa using ih
    | false=>cases p y<;>simp<;>omega
  simp only [List.filter_cons]
  rcases List.mem_cons.1 hk with rfl | hk
  · rw [hp,hq]; simp; omega
  · have:=g6 h hp hq l hk
    cases hx:q x with
    | true=>rw [h x hx]; simpa using this
    | false=>cases p x<;>simp<;>omega
theorem bF {l:Array Bool} {k i:Nat} (h:Dn l i):Dn (l.setIfInBounds k true) i:=getD_set_true h
theorem cT {l:Array Bool} {k:Nat} (h:k < l.size):Dn (l.setIfInBounds k true) k:=by simp [Dn,h]
theorem aU {l:Array Bool} {k i:Nat} (h:Dn (l.setIfInBounds k true) i):Dn l i\/i=k:=by
 by_cases e:k=i
 · exact .inr e.symm
 · unfold Dn at h; rw [getD_set_ne false e] at h; exact .inl h
theorem fO {n:Nat} {l:Array Bool} {k:Nat} (hk:k < n) (hs:l.size=n) (hu:¬ Dn l k):cnt n (l.setIfInBounds k true) < cnt n l:=by
 refine g6 (fun i hi=>?_) (k:=k) (by simpa [Dn] using hu) ?_ _ (List.mem_range.2 hk)
 · cases hd:l.getD i false with
   | false=>rfl
   | true=>have:=bF (k:=k) (show Dn l i from hd); unfold Dn at this; rw [this] at hi; cases hi
 · have:=cT (l:=l) (k:=k) (by omega); unfold Dn at this; rw [this]; rfl
theorem kX {n:Nat} {l:Array Bool} (h:cnt n l=0):∀ i,i < n->Dn l i:=fun i hi=>by
 have:(List.range n).filter (fun i=>!l.getD i false)=[]:=List.eq_nil_of_length_eq_zero h
 have:=List.filter_eq_nil_iff.1 this i (List.mem_range.2 hi)
 simpa [Dn] using this
def dP (ov:Nat->Option S) (fr:Fr):Fr:=fun i=>match ov i with
 | some s=>s
 | none=>fr i
theorem eU {ov:Nat->Option S} {fr:Fr} {i:Nat} (h:ov i=none):dP ov fr i=fr i:=by unfold dP; rw [h]
theorem jM {ov:Nat->Option S} {fr:Fr} {i:Nat} {s:S} (h:ov i=some s):dP ov fr i=s:=by unfold dP; rw [h]
theorem x2 {js:List J} {kd qs:List Nat} {j:J}:j ∈ oD js qs kd ↔ ∃ k ∈ qs,k ∉ kd/\js[k]? = some j:=by
 unfold oD
 rw [List.mem_filterMap]
 refine ⟨fun ⟨k,h1,h2⟩=>?_,fun ⟨k,h1,h2,h3⟩=>⟨k,h1,?_⟩⟩
 · split at h2
   · cases h2
   · rename_i hc
     exact ⟨k,h1,fun hk=>hc (by simpa using hk),h2⟩
 · rw [if_neg (by simpa using h2)]; exact h3
theorem uF {js:List J} {kd kd' qs:List Nat} (h:∀ k,k ∈ kd ↔ k ∈ kd'):oD js qs kd=oD js qs kd':=by
 unfold oD
 have:∀ k,kd.contains k=kd'.contains k:=fun k=>by
  rw [Bool.eq_iff_iff]; simpa using h k
 simp only [this]
theorem rS {Γ:bU} {fr:Fr} {H:Hp}:∀ {l:List J},iT Γ l fr H ↔ ∀ j ∈ l,vJ Γ fr H (fun fr' _=>fr' j.dn=fr j.dn) j
 | []=>by simp [iT]
 | j :: r=>by simp only [iT,rS (l:=r),List.forall_mem_cons]
theorem p6 {Γ:bU} {fr:Fr} {H:Hp} {K:Fr->Hp->Prop} {r:List OJ}:∀ {l:List J},vO Γ (l.map OJ.rc ++ r) fr H K ↔ iT Γ l fr H/\vO Γ r fr H K
 | []=>by simp [iT]
 | j :: l=>by simp only [List.map_cons,List.cons_append,vO,iT,p6 (l:=l),and_assoc]
theorem pN {Γ:bU} {js:List J} {kd:List Nat} {fr:Fr} {H:Hp} {K:Fr->Hp->Prop} {r:List OJ} {qs:List Nat} (h:vO Γ (iX js qs kd ++ r) fr H K) :
 (∀ k ∈ qs,k ∉ kd->∀ j,js[k]? = some j->vJ Γ fr H (fun fr' _=>fr' j.dn=fr j.dn) j)/\vO Γ r fr H K:=by
 obtain ⟨h1,h2⟩:=p6.1 h
 exact ⟨fun k hk hn j hj=>rS.1 h1 j (x2.2 ⟨k,hk,hn,hj⟩),h2⟩
theorem mX {ops:Array Oper} {js:List J}:∀ (l p:List Nat) (i k:Nat),l=p ++ [i,k]->eD ops js i [k]=true->hO ops js l=some (p ++ [k,i])
 | _,[],i,k,e,h=>by subst e; simp [hO,h]
 | _,[x],i,k,e,h=>by subst e; simp [hO,h]
 | _,x :: y :: p,i,k,e,h=>by
  subst e
  have:=mX _ (y :: p) i k rfl h
  cases p with
  | nil=>simp only [List.cons_append,List.nil_append] at this ⊢; rw [hO,this]; rfl; intro a b; simp at b
  | cons z p=>simp only [List.cons_append] at this ⊢; rw [hO,this]; rfl; intro a b; simp at b
theorem lT {ops:Array Oper} {js:List J} {i:Nat} {r:List Nat} (h:eD ops js i r=true):∃ k,r=[k]/\bK ops js i=false/\cY js i=false/\bK ops js k=false/\cY js k=false/\eD ops js k [i]=true:=by
 unfold eD at h
 split at h
 · rename_i k
   simp only [Bool.and_eq_true,Bool.not_eq_true'] at h
   obtain ⟨⟨⟨⟨⟨h1,h2⟩,h3⟩,h4⟩,h5⟩,h6⟩:=h
   exact ⟨k,rfl,h1,h2,h3,h4,by simp [eD,h1,h2,h3,h4,h5,h6]⟩
 · cases h
end Go.W
