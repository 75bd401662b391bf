/- Lemmas and walks for the proof. -/
import Derived.Test.YthpbnmebjocbeaaGreatKc
import Derived.Shelf.Slices.Clone
import Derived.Test.YthpbnmebjocbeaaGreatProg
import Derived.Shelf.Small.Strs
set_option maxRecDepth 100000
set_option maxHeartbeats 8000000
namespace Go.Proofs
open Go.Shelf
def Tryz.lays16_ren:Go.Shelf.Ren:=⟨fun | 16=>147 | n=>n,fun | 24=>116 | n=>n,fun | n=>n⟩
theorem Tryz.lays16:Go.Proofs.Lays2.n16 Tryz.prog Tryz.lays16_ren:={
 mixed:=by kernel_rfl
 f16:=Tryz.func147.trans (congrArg some (by kernel_rfl))
 t4:=Tryz.underlying4
 a4:=Tryz.isAgg4
 z4:=Tryz.sizeOf4
 v4:=Tryz.zeroValue4
 t9:=Tryz.underlying9
 a9:=Tryz.isAgg9
 z9:=Tryz.sizeOf9
 v9:=Tryz.zeroValue9
 t24:=Tryz.underlying116
 a24:=Tryz.isAgg116
 z24:=Tryz.sizeOf116
 v24:=Tryz.zeroValue116
 i9:=by kernel_rfl }
def Tryz.lays15_ren:Go.Shelf.Ren:=⟨fun | 15=>148 | n=>n,fun | 22=>64 | n=>n,fun | n=>n⟩
theorem Tryz.lays15:Go.Proofs.Lays2.n15 Tryz.prog Tryz.lays15_ren:={
 mixed:=by kernel_rfl
 f15:=Tryz.func148.trans (congrArg some (by kernel_rfl))
 t3:=Tryz.underlying3
 a3:=Tryz.isAgg3
 z3:=Tryz.sizeOf3
 v3:=Tryz.zeroValue3
 t4:=Tryz.underlying4
 a4:=Tryz.isAgg4
 z4:=Tryz.sizeOf4
 v4:=Tryz.zeroValue4
 t22:=Tryz.underlying64
 a22:=Tryz.isAgg64
 z22:=Tryz.sizeOf64
 v22:=Tryz.zeroValue64
 i3:=by kernel_rfl }
end Go.Proofs
namespace Go.Proofs.YthpbnmebjocbeaaGreat
open Go.W Go.RowKit
theorem VZ {X:Ctx} {E:Es} {ro:RO} {w w':World} (h:Rel X E ro w) {blk:B} {g:Gb} (hb:∀ k,k < w.heap.size->w'.heap[k]? = w.heap[k]?) (hsz:w.heap.size<=w'.heap.size)
 (h1:w'.os=w.os) (h2:w'.tape=w.tape) (h3:w'.output=w.output) (hob:∀ b,g.ob=some b->w.heap.size<=b) (hon:blk.On (gm (E ++ [(g,blk)])) ro w' g):Rel X (E ++ [(g,blk)]) ro w':=by
 have hext:GExt (gm E) (gm (E ++ [(g,blk)])):=b6 _
 have hget:∀ (n:Nat) (y:Gb × B),(E ++ [(g,blk)])[n]? = some y->(n=E.length/\y=(g,blk))\/(n < E.length/\E[n]? = some y):=by
  intro n y hy
  rw [List.getElem?_append] at hy
  split at hy
  · exact .inr ⟨by assumption,hy⟩
  · have:n - E.length=0:=by
     rcases Nat.eq_zero_or_pos (n - E.length) with h0 | h0
     · exact h0
     · rw [List.getElem?_eq_none (by simp; omega)] at hy; cases hy
    rw [this] at hy
    exact .inl ⟨by omega,by simpa using hy.symm⟩
 have old:∀ (n k:Nat) (gn:Gb) (bk:B),E[n]? = some (gn,bk)->gn.ob=some k->bk.live=true->k < w.heap.size:=fun n k gn bk hy hk hl=>(h.own n _ bk hy).lt hl hk
 refine ⟨fun n g' bk hy=>?_,fun n m gn gm bn bm k hy hz en em ln lm=>?_,fun k off c hc n gn bk hy en=>?_,fun k off c hc=>?_,h.ro0,h.rob,fun n k gn bk hy en ln=>?_,h.gx.trans hext,Nat.le_trans h.sz hsz,fun k hk hp=>?_,by rw [h1]; exact h.os,by rw [h2]; exact h.tape,by rw [h3]; exact h.output⟩
 · rcases hget n _ hy with ⟨rfl,he⟩ | ⟨hlt,hy'⟩
   · simp only [Prod.mk.injEq] at he; obtain ⟨rfl,rfl⟩:=he; exact hon
   · by_cases hlv:bk.live=true
     · exact (h.own n g' bk hy').same hext (Ext.refl _) fun k hk=>hb k (old n k g' bk hy' hk hlv)
     · cases bk<;>simp [B.live] at hlv; trivial
 · rcases hget n _ hy with ⟨rfl,he⟩ | ⟨hlt,hy'⟩<;>rcases hget m _ hz with ⟨rfl,he2⟩ | ⟨hlt2,hz'⟩
   · rfl
   · simp only [Prod.mk.injEq] at he; obtain ⟨rfl,rfl⟩:=he; have:=old m k gm bm hz' em lm; have:=hob k en; omega
   · simp only [Prod.mk.injEq] at he2; obtain ⟨rfl,rfl⟩:=he2; have:=old n k gn bn hy' en ln; have:=hob k em; omega
   · exact h.inj n m gn gm bn bm k hy' hz' en em ln lm
 · rcases hget n _ hy with ⟨rfl,he⟩ | ⟨hlt,hy'⟩
   · simp only [Prod.mk.injEq] at he; obtain ⟨rfl,rfl⟩:=he; have:=h.cell_lt hc; have:=hob k en; omega
   · exact h.apart k off c hc n gn bk hy' en
 · have:=h.rd k off c hc
   rw [<-this]
   simp only [World.cell?,hb k (h.cell_lt hc)]
 · rcases hget n _ hy with ⟨rfl,he⟩ | ⟨hlt,hy'⟩
   · simp only [Prod.mk.injEq] at he; obtain ⟨rfl,rfl⟩:=he; have:=hob k en; have:=h.sz; exact .inl (by omega)
   · exact h.par n k gn bk hy' en ln
 · rw [hb k (by have:=h.sz; omega)]
   exact h.keep k hk hp
theorem HV {X:Ctx} {ro:RO} {w w':World} (h:Rel X [] ro w) (hX:X.g0.length=0) {T:TypeId} {v:Value} {cs:List Value} (hne:cs ≠ []) (_hone:∀ u ∈ cs,u.oneCell'=true) (ho:w'.ownsRow w.heap.size T 1 v cs.length cs) (hb:Below w.heap.size w w') {K:S->Hp->Prop} (hK:K (.va (.c1 (.fz (cs.map fun u=>[C.vl u])))) []) :
 ∃ r' E' ro',K r' (hp E')/\r'.rel (gm E') ro' v/\Rel X E' ro' w':=by
 have hlen:0 < cs.length:=List.length_pos_iff.2 hne
 obtain ⟨h1,h2⟩:=ho
 rcases h2 with ⟨_,h0⟩ | ⟨b,cap,cur,rfl,hbb,hcell,hcap,hmax,hcs,htk⟩
 · omega
 have hfl:(cs.map fun u=>[C.vl u]).flatten=cs.map C.vl:=by
  clear h1 hlen hcap htk hK hne _hone
  induction cs with
  | nil=>rfl
  | cons x l ih=>rw [List.map_cons,List.flatten_cons,ih]; rfl
 let g:Gb:=⟨some b,true,cs.length,cap,T,cs⟩
 have hR:Rel X ([] ++ [(g,.row (cs.map fun u=>[C.vl u]) T 1)]) ro w':=by
  refine VZ h (fun k hk=>hb.block k hk) hb.size hb.os hb.tape hb.output (fun b' hb'=>by cases hb'; exact hbb) ⟨rfl,by simp [g],fun x hx=>?_,fun c hc=>?_,⟨by simp [g],.inr ⟨b,cap,cur,?_,Nat.zero_le _,hcell,by simp; exact hcap,hmax,hcs,?_⟩⟩,?_,fun b' _=>(by show 0 < cap; omega)⟩
  · obtain ⟨y,_,rfl⟩:=List.mem_map.1 hx; rfl
  · rw [hfl] at hc; obtain ⟨y,_,rfl⟩:=List.mem_map.1 hc; rfl
  · simp [a7,g]
  · rw [List.length_map]; exact htk
  · rw [hfl]
    refine ⟨by simp [g],fun i x y hx hy=>?_⟩
    rw [List.getElem?_map] at hx
    have hy:cs[i]? = some y:=hy
    rw [hy] at hx
    cases hx; rfl
 refine BA (X:=X) (k0:=0) hX (r:=.va (.c1 (.sl 0 (cs.map fun u=>[C.vl u]).length))) (.pub 0 _ T 1 (by rfl) (.sel [] (by simp) (by simp [cG]) rfl (.done ?_))) rfl ?_ hR
 · simp -dsimp only [go_sem,cG]; simpa using hK
 · refine ⟨g,rfl,rfl,by simp [g],⟨_,_,_,rfl⟩,fun _=>?_⟩
   simp [g,a7]
theorem l6 {X:Ctx} {ro:RO} {w w':World} (h:Rel X [] ro w) {o:Option Addr} {c:Nat} (hb:Below w.heap.size w w') {K:S->Hp->Prop} (hK:K (.va (.c1 (.fz []))) []) :
 ∃ r' E' ro',K r' (hp E')/\r'.rel (gm E') ro' (.slice o 0 c)/\Rel X E' ro' w':=
 ⟨.va (.c1 (.fz [])),[],ro,hK,FzR.mk (ro:=ro) [] 1 none o (fun h=>absurd rfl h) c (fun _=>undef) (by simp) (Nat.zero_le _) (by simp) (by simp) (by simp) (by simp) (by simp),h.aside (fun k hk=>hb.block k hk) hb.size hb.os hb.tape hb.output⟩
def RT:W.Spec:=fun av H K=>∃ l:List ByteArray,av=[.va (.c1 (.fz (l.map bZ)))]/\H=[]/\l.length<=1000000000/\K (.va (.c1 (.fz (l.map bZ)))) []
theorem X3 {l:List ByteArray} {K:S->Hp->Prop} (h:l.length<=1000000000) (hK:K (.va (.c1 (.fz (l.map bZ)))) []):RT [.va (.c1 (.fz (l.map bZ)))] [] K:=⟨l,rfl,rfl,h,hK⟩
theorem N5 (l:List ByteArray):(l.map bZ).flatten=(l.map Value.string).map C.vl:=by
 induction l with
 | nil=>rfl
 | cons x l ih=>rw [List.map_cons,List.flatten_cons,ih]; rfl
theorem NV (l:List ByteArray):(l.map Value.string).map (fun u=>[C.vl u])=l.map bZ:=by rw [List.map_map]; rfl
theorem aNQ:Meets Tryz.prog 147 RT:=by
 refine ⟨by kernel_rfl,fun av vs E ro w K hlen hrel hR hs _=>?_⟩
 obtain ⟨l,rfl,hH,hl,hK⟩:=hs
 match E,hH with
 | [],_=>
  match vs,hlen with
  | [v0],_=>
   have r0:FzR ro (l.map bZ) v0:=hrel 0 _ _ rfl rfl
   cases hl0:l with
   | nil=>
    subst hl0
    generalize hx:([]:List ByteArray).map bZ=xs at r0
    cases r0 with
    | mk xs sz o oa hoa cap us hz hc ho h1 h2 h3 h4=>
     subst hx
     have hK:K (.va (.c1 (.fz []))) []:=hK
     cases oa with
     | none=>
      refine (Any.slices_Clone_string_nil Tryz.lays16 0 cap w).mono ?_
      rintro e w' ⟨rfl,rfl⟩
      obtain ⟨r',E',ro',a1,a2,a3⟩:=l6 (o:=none) (c:=0) hR (Below.refl _ _) hK
      exact ⟨r',_,E',ro',rfl,a2,a1,a3⟩
     | some a=>
      refine (Any.slices_Clone_string_zero Tryz.lays16 a cap w).mono ?_
      rintro e w' ⟨v',rfl,hown,_,hb⟩
      obtain ⟨o',c',rfl⟩:∃ o' c',v'=.slice o' 0 c':=by
       rcases hown.2 with ⟨rfl,_⟩ | ⟨b,c',cur,rfl,_⟩
       · exact ⟨none,0,rfl⟩
       · exact ⟨_,c',rfl⟩
      obtain ⟨r',E',ro',a1,a2,a3⟩:=l6 (o:=o') (c:=c') hR hb hK
      exact ⟨r',_,E',ro',rfl,a2,a1,a3⟩
   | cons x0 lt=>
    have hne:l ≠ []:=by rw [hl0]; exact List.cons_ne_nil _ _
    clear hl0
    generalize hx:l.map bZ=xs at r0
    cases r0 with
    | mk xs sz o oa hoa cap us hz hc ho h1 h2 h3 h4=>
     subst hx
     have hne2:l.map bZ ≠ []:=by simpa using hne
     obtain ⟨⟨b,off⟩,rfl⟩:=Option.isSome_iff_exists.1 (ho hne2)
     obtain rfl:=hoa hne2
     have hcell:∀ j,j < l.length->w.cell? ⟨b,off + j,none⟩=some (Value.string (l.getD j ByteArray.empty)):=fun j hj=>by
      have hf:(l.map bZ).flatten[j]? = some (.vl (Value.string (l.getD j ByteArray.empty))):=by
       rw [N5,List.getElem?_map,List.getElem?_map,aV hj]
       simp [hj]
      have e1:=h1 j _ hf
      have e2:=h2 j _ hf
      rw [e2] at e1
      exact hR.rd b (off + j) _ e1
     have key:=Any.slices_Clone_string Tryz.lays16 b off l.length cap l w (Nat.le_refl _) (by omega) hcell
     rw [List.take_length] at key
     rw [List.length_map]
     refine key.mono ?_
     rintro e w' ⟨v',rfl,hown,_,hb⟩
     rw [<-List.length_map (f:=Value.string)] at hown
     obtain ⟨r',E',ro',a1,a2,a3⟩:=HV hR rfl (cs:=l.map Value.string) (by simpa using hne) (fun u hu=>by obtain ⟨y,_,rfl⟩:=List.mem_map.1 hu; rfl) hown hb (by rw [NV]; exact hK)
     exact ⟨r',_,E',ro',rfl,a2,a1,a3⟩
def UD:W.Spec:=fun av H K=>∃ l:List Int,av=[.va (.c1 (.fz (l.map eH)))]/\H=[]/\l.length<=1000000000/\K (.va (.c1 (.fz (l.map eH)))) []
theorem VT {l:List Int} {K:S->Hp->Prop} (h:l.length<=1000000000) (hK:K (.va (.c1 (.fz (l.map eH)))) []):UD [.va (.c1 (.fz (l.map eH)))] [] K:=⟨l,rfl,rfl,h,hK⟩
theorem QM (l:List Int):(l.map eH).flatten=(l.map (Value.int .i64)).map C.vl:=by
 induction l with
 | nil=>rfl
 | cons x l ih=>rw [List.map_cons,List.flatten_cons,ih]; rfl
theorem QC (l:List Int):(l.map (Value.int .i64)).map (fun u=>[C.vl u])=l.map eH:=by rw [List.map_map]; rfl
theorem aNW:Meets Tryz.prog 148 UD:=by
 refine ⟨by kernel_rfl,fun av vs E ro w K hlen hrel hR hs _=>?_⟩
 obtain ⟨l,rfl,hH,hl,hK⟩:=hs
 match E,hH with
 | [],_=>
  match vs,hlen with
  | [v0],_=>
   have r0:FzR ro (l.map eH) v0:=hrel 0 _ _ rfl rfl
   cases hl0:l with
   | nil=>
    subst hl0
    generalize hx:([]:List Int).map eH=xs at r0
    cases r0 with
    | mk xs sz o oa hoa cap us hz hc ho h1 h2 h3 h4=>
     subst hx
     have hK:K (.va (.c1 (.fz []))) []:=hK
     cases oa with
     | none=>
      refine (Any.slices_Clone_int_nil Tryz.lays15 0 cap w).mono ?_
      rintro e w' ⟨rfl,rfl⟩
      obtain ⟨r',E',ro',a1,a2,a3⟩:=l6 (o:=none) (c:=0) hR (Below.refl _ _) hK
      exact ⟨r',_,E',ro',rfl,a2,a1,a3⟩
     | some a=>
      refine (Any.slices_Clone_int_zero Tryz.lays15 a cap w).mono ?_
      rintro e w' ⟨v',rfl,hown,_,hb⟩
      obtain ⟨o',c',rfl⟩:∃ o' c',v'=.slice o' 0 c':=by
       rcases hown.2 with ⟨rfl,_⟩ | ⟨b,c',cur,rfl,_⟩
       · exact ⟨none,0,rfl⟩
       · exact ⟨_,c',rfl⟩
      obtain ⟨r',E',ro',a1,a2,a3⟩:=l6 (o:=o') (c:=c') hR hb hK
      exact ⟨r',_,E',ro',rfl,a2,a1,a3⟩
   | cons x0 lt=>
    have hne:l ≠ []:=by rw [hl0]; exact List.cons_ne_nil _ _
    clear hl0
    generalize hx:l.map eH=xs at r0
    cases r0 with
    | mk xs sz o oa hoa cap us hz hc ho h1 h2 h3 h4=>
     subst hx
     have hne2:l.map eH ≠ []:=by simpa using hne
     obtain ⟨⟨b,off⟩,rfl⟩:=Option.isSome_iff_exists.1 (ho hne2)
     obtain rfl:=hoa hne2
     have hcell:∀ j,j < l.length->w.cell? ⟨b,off + j,none⟩=some (Value.int .i64 (l.getD j 0)):=fun j hj=>by
      have hf:(l.map eH).flatten[j]? = some (.vl (Value.int .i64 (l.getD j 0))):=by
       rw [QM,List.getElem?_map,List.getElem?_map,aV hj]
       simp [hj]
      have e1:=h1 j _ hf
      have e2:=h2 j _ hf
      rw [e2] at e1
      exact hR.rd b (off + j) _ e1
     have key:=Any.slices_Clone_int Tryz.lays15 b off l.length cap l w (Nat.le_refl _) (by omega) hcell
     rw [List.take_length] at key
     rw [List.length_map]
     refine key.mono ?_
     rintro e w' ⟨v',rfl,hown,_,hb⟩
     rw [<-List.length_map (f:=(Value.int .i64))] at hown
     obtain ⟨r',E',ro',a1,a2,a3⟩:=HV hR rfl (cs:=l.map (Value.int .i64)) (by simpa using hne) (fun u hu=>by obtain ⟨y,_,rfl⟩:=List.mem_map.1 hu; rfl) hown hb (by rw [QC]; exact hK)
     exact ⟨r',_,E',ro',rfl,a2,a1,a3⟩
end Go.Proofs.YthpbnmebjocbeaaGreat
namespace Go.Proofs.YthpbnmebjocbeaaGreat
open Go.W
theorem E4:Meets Tryz.prog 113 S5:=by
 refine aD Tryz.func113 aF8 2 (by rw [Tryz.ntmps113]; decide) (aC aNQ (aC aNW (aB _))) (fun av H K h=>by obtain ⟨_,_,rfl,_⟩:=h; rfl) ?_
 rintro av H K ⟨s,n,rfl,rfl,hs,hK⟩
 rw [<-IE] at hK
 have hl:=hs.ok.le
 simp -dsimp only [go_sem,aJ,UL,UH]
 refine aU (α:=Nat) (fun i=>[(1,tS n),(2,.va (.c1 (.pt 0 0))),(4,.va (.c1 (.pt 1 0))),(9,.va (.c1 (.fz (s.es.map a6)))),(10,iS .i64 s.es.length),(11,iS .i64 i)]) (fun _=>[.cells (aJ s) 25,.cells [.vl (.string (mk [])),.vl (.slice none 0 0),.vl (.slice none 0 0)] 118])
  (fun i=>i<=s.es.length/\eN (s.es.drop i) n=eN s.es n) (fun i=>s.es.length - i) 0 2 ⟨Nat.zero_le _,rfl⟩ ?_ ?_ ?_
 · simp [go_sem]
 · simp [go_sem,aJ]
 rintro i ⟨hi,ho⟩
 rcases a8 i s.es.length with hlt | hge
 · have hg:decide ((i:Int) < (s.es.length:Int))=true:=by simp; omega
   obtain ⟨t,hx⟩:∃ e,s.es[i]? = some e:=⟨_,aV hlt⟩
   have q2:=aY (row:=a6) hx
   have htm:=b5 hx
   rw [eN,lK hx] at ho
   cases hc:decide (t.nm=n) with
   | true=>
    rw [hc,bI] at ho
    rw [<-ho] at hK
    simp (maxSteps:=1000000) -dsimp only [go_sem,hg,↓q2,a6,aJ,eL,hc]
    refine ⟨by omega,X3 (hs.en t htm).1 ?_⟩
    simp (maxSteps:=1000000) -dsimp only [go_sem]
    refine VT (hs.en t htm).2 ?_
    simp (maxSteps:=1000000) -dsimp only [go_sem]
    exact .sel [] (by simp) (by simp) rfl (.done (by simpa [go_sem,a6] using hK))
   | false=>
    rw [hc,aX] at ho
    simp (maxSteps:=1000000) -dsimp only [go_sem,hg,↓q2,a6,aJ,eL,hc]
    refine ⟨by omega,by omega,aE (i + 1) 2 ⟨by omega,ho⟩ (by omega) ?_ ?_⟩
    · simp [go_sem]
    · simp [go_sem,aJ]
 · have hg:decide ((i:Int) < (s.es.length:Int))=false:=by simp; omega
   obtain rfl:i=s.es.length:=by omega
   rw [List.drop_length] at ho
   rw [<-ho] at hK
   simp -dsimp only [go_sem,hg,aJ]
   exact .sel [] (by simp) (by simp) rfl (.done (by simpa [go_sem,eN,X2] using hK))
noncomputable def eqB {α:Type} (a b:α):Bool:=@decide (a=b) (Classical.propDecidable _)
def CK (N:Nat):List S->Prop:=fun av=>match av with
 | [.va (.gs r),.va (.gs q)]=>mC r/\p8 q/\(C.ty q).h<=N
 | _=>False
theorem kG {N:Nat} {av:List S} (h:CK N av):∃ s t,av=[.va (.gs (aJ s)),.va (.gs (aW t))]/\s.fit/\TyOk t/\t.h<=N:=by
 unfold CK at h
 split at h
 · obtain ⟨⟨a,rfl,ha⟩,⟨b,rfl,hb⟩,hh⟩:=h
   rw [pU] at hh
   exact ⟨a,b,rfl,ha,hb,hh⟩
 · exact h.elim
noncomputable def JT:List S->A:=fun av=>match av with
 | [.va (.gs r),.va (.gs q)]=>bA (valF (C.sc r).ss (C.sc r).es (C.ty q))
 | _=>.gs []
noncomputable def J6 (N:Nat):Fun:=⟨CK N,JT,fun av h=>by obtain ⟨a,b,rfl,_⟩:=kG h; trivial⟩
theorem NT {N:Nat}:∀ av H K,(J6 N).sp av H K->av.length=2:=fun av H K h=>by obtain ⟨a,b,rfl,_⟩:=kG h.1.1; rfl
attribute [go_sem] J6 CK JT
def CJ:List S->Prop:=fun av=>match av with
 | [.va (.gs r),.va (.gs q)]=>mC r/\p8 q
 | _=>False
theorem vH {av:List S} (h:CJ av):∃ s t,av=[.va (.gs (aJ s)),.va (.gs (aW t))]/\s.fit/\TyOk t:=by
 unfold CJ at h
 split at h
 · obtain ⟨⟨a,rfl,ha⟩,⟨b,rfl,hb⟩⟩:=h
   exact ⟨a,b,rfl,ha,hb⟩
 · exact h.elim
noncomputable def r0Fn:Fun:=⟨CJ,JT,fun av h=>by obtain ⟨a,b,rfl,_⟩:=vH h; trivial⟩
attribute [go_sem] r0Fn CJ
mutual
def aO7:Ty->List ByteArray
 | .mk k _ n e=>bif k == 6 || k == 7 then [n] else QT e
def QT:List Ty->List ByteArray
 | []=>[]
 | t :: r=>aO7 t ++ QT r
end
def j1 (x:ByteArray):Bool->List ByteArray->List ByteArray
 | d,[]=>bif d then [] else [x]
 | d,y :: r=>bif !d && (Op.bytesLess (bl x) (bl y) || bl x == bl y) then (bif Op.bytesLess (bl x) (bl y) then x :: y :: j1 x true r else y :: j1 x true r) else y :: j1 x d r
abbrev BH (a b:ByteArray):Prop:=bl a < bl b
theorem YM (x:List UInt8):∀ y:List UInt8,Op.bytesLess x y=decide (x < y):=by
 induction x with
 | nil=>intro y; cases y<;>simp [Op.bytesLess]
 | cons a x ih=>
  intro y
  cases y with
  | nil=>simp [Op.bytesLess]
  | cons b y=>
   have:=ih y
   rw [Op.bytesLess,this,Bool.eq_iff_iff]
   simp [List.cons_lt_cons_iff]
theorem TY (a b:ByteArray):Op.bytesLess (bl a) (bl b)=decide (BH a b):=YM _ _
theorem kF (a:ByteArray):¬ BH a a:=List.lt_irrefl _
theorem BC {a b c:ByteArray} (h:BH a b) (h2:BH b c):BH a c:=List.lt_trans h h2
theorem LH {a b:ByteArray} (h:¬ BH a b) (h2:a ≠ b):BH b a:=by
 have h3:bl b<=bl a:=List.not_lt.1 h
 exact Std.lt_of_le_of_ne h3 (fun e=>h2 (iL e.symm))
def Asc (l:List ByteArray):Prop:=l.Pairwise BH
theorem GZ:∀ {a b:List ByteArray},Asc a->Asc b->(∀ x,x ∈ a ↔ x ∈ b)->a=b
 | [],[],_,_,_=>rfl
 | [],y :: b,_,_,h=>by have:=(h y).2 List.mem_cons_self; cases this
 | x :: a,[],_,_,h=>by have:=(h x).1 List.mem_cons_self; cases this
 | x :: a,y :: b,h1,h2,h=>by
  obtain ⟨p1,p2⟩:=List.pairwise_cons.1 h1
  obtain ⟨p3,p4⟩:=List.pairwise_cons.1 h2
  have e:x=y:=by
   rcases List.mem_cons.1 ((h x).1 List.mem_cons_self) with e | e
   · exact e
   · rcases List.mem_cons.1 ((h y).2 List.mem_cons_self) with e2 | e2
     · exact e2.symm
     · exact absurd (BC (p1 y e2) (p3 x e)) (kF x)
  subst e
  rw [GZ p2 p4 fun z=>?_]
  constructor
  · intro hz
    rcases List.mem_cons.1 ((h z).1 (List.mem_cons_of_mem _ hz)) with e | e
    · exact absurd (p1 z hz) (by rw [e]; exact kF x)
    · exact e
  · intro hz
    rcases List.mem_cons.1 ((h z).2 (List.mem_cons_of_mem _ hz)) with e | e
    · exact absurd (p3 z hz) (by rw [e]; exact kF x)
    · exact e
theorem Asc.nodup {l:List ByteArray} (h:Asc l):l.Nodup:=by
 unfold List.Nodup
 refine List.Pairwise.imp ?_ h
 intro a b h e
 subst e
 exact kF a h
theorem qC (x:ByteArray):∀ l,j1 x true l=l
 | []=>rfl
 | y :: r=>by rw [j1,qC x r]; rfl
theorem kW {x z:ByteArray}:∀ {l:List ByteArray},z ∈ j1 x false l ↔ z=x\/z ∈ l
 | []=>by simp [j1]
 | y :: r=>by
  rw [j1,qC]
  cases c1:Op.bytesLess (bl x) (bl y) with
  | true=>simp
  | false=>
   cases c2:bl x == bl y with
   | true=>
    have:x=y:=iL (by simpa using c2)
    subst this
    simp
   | false=>
    have:=kW (x:=x) (z:=z) (l:=r)
    simp [this]
    constructor
    · rintro (h | h | h)
      · exact .inr (.inl h)
      · exact .inl h
      · exact .inr (.inr h)
    · rintro (h | h | h)
      · exact .inr (.inl h)
      · exact .inl h
      · exact .inr (.inr h)
theorem EH {x:ByteArray}:∀ {l:List ByteArray},Asc l->Asc (j1 x false l)
 | [],_=>by simp [j1,Asc]
 | y :: r,h=>by
  obtain ⟨p1,p2⟩:=List.pairwise_cons.1 h
  rw [j1,qC]
  cases c1:Op.bytesLess (bl x) (bl y) with
  | true=>
   rw [TY] at c1
   have c1:=of_decide_eq_true c1
   simp only [Bool.not_false,Bool.true_or,Bool.and_true,bI]
   refine List.pairwise_cons.2 ⟨fun z hz=>?_,h⟩
   rcases List.mem_cons.1 hz with rfl | hz
   · exact c1
   · exact BC c1 (p1 z hz)
  | false=>
   cases c2:bl x == bl y with
   | true=>exact h
   | false=>
    rw [TY] at c1
    have c1:=of_decide_eq_false c1
    have c2:x ≠ y:=fun e=>by subst e; simp at c2
    simp only [Bool.not_false,Bool.true_and,Bool.or_self,aX]
    refine List.pairwise_cons.2 ⟨fun z hz=>?_,EH p2⟩
    rcases kW.1 hz with rfl | hz
    · exact LH c1 c2
    · exact p1 z hz
theorem PJ {l:List ByteArray} (h:l.Nodup):Asc (dF l):=by
 have h1:((l.map bl).mergeSort fun x y=>decide (x<=y)).Pairwise fun a b=>decide (a<=b)=true:=
  List.pairwise_mergeSort (le:=fun (x y:List UInt8)=>decide (x<=y)) (fun (a b c:List UInt8) h1 h2=>decide_eq_true (List.le_trans (of_decide_eq_true h1) (of_decide_eq_true h2))) (fun (a b:List UInt8)=>by
   rcases List.le_total a b with h | h<;>simp [h]) _
 have h2:((l.map bl).mergeSort fun x y=>decide (x<=y)).Nodup:=by
  rw [(List.mergeSort_perm _ _).nodup_iff]
  exact List.Pairwise.map bl (fun a b (hab:a ≠ b) e=>hab (iL e)) h
 unfold dF Asc
 rw [List.pairwise_map]
 refine List.Pairwise.imp₂ (fun a b h1 h2=>?_) h1 h2
 exact Std.lt_of_le_of_ne (of_decide_eq_true h1) h2
theorem L1 (ss:List St) (n:ByteArray):Asc (dW ss n):=PJ (p5 ss n)
structure UI (ss:List St) (n:ByteArray) (i:Nat) (todo o:List ByteArray):Prop where
 hd:∃ r,todo=n :: r/\r.Nodup/\∀ x,x ∈ o ↔ x ∈ r
 rc:∀ x ∈ o,Reach ss n x
 dn:∀ j a,j < i->todo[j]? = some a->∀ y,c9 ss a y->y ∈ o
 asc:Asc o
theorem K0 {ss:List St} {es:List En} (g:Gd ss es) {n:ByteArray} {l:List ByteArray} (h:l.Nodup) (hr:∀ x ∈ l,Reach ss n x):l.length<=32:=Nat.le_trans (qB h fun x hx=>(f6 ss n x).2 (hr x hx)) (g.vlen n)
theorem UI.len {ss:List St} {es:List En} (g:Gd ss es) {n:ByteArray} {i:Nat} {todo o:List ByteArray} (h:UI ss n i todo o):todo.length<=33/\o.length<=32:=by
 obtain ⟨r,rfl,h1,h2⟩:=h.hd
 have:=K0 g h1 fun x hx=>h.rc x ((h2 x).2 hx)
 have:=K0 g h.asc.nodup h.rc
 simp only [List.length_cons]; omega
theorem UI.add {ss:List St} {n:ByteArray} {i:Nat} {todo o:List ByteArray} (h:UI ss n i todo o) {y:ByteArray} (hr:Reach ss n y) (hy:y ∉ o) (hi:i<=todo.length):UI ss n i (todo ++ [y]) (j1 y false o):=by
 obtain ⟨r,rfl,h1,h2⟩:=h.hd
 refine ⟨⟨r ++ [y],by simp,?_,fun x=>?_⟩,fun x hx=>?_,fun j a hj ha z hz=>?_,EH h.asc⟩
 · rw [List.nodup_append]
   exact ⟨h1,by simp,fun a ha b hb=>by simp at hb; subst hb; exact fun e=>hy ((h2 b).2 (e ▸ ha))⟩
 · rw [kW,h2]; simp [or_comm]
 · rcases kW.1 hx with rfl | hx
   · exact hr
   · exact h.rc x hx
 · rw [List.getElem?_append_left (by omega)] at ha
   exact kW.2 (.inr (h.dn j a hj ha z hz))
theorem UI.next {ss:List St} {n:ByteArray} {i:Nat} {todo o:List ByteArray} (h:UI ss n i todo o) {a:ByteArray} (ha:todo[i]? = some a) (hy:∀ y,c9 ss a y->y ∈ o):UI ss n (i + 1) todo o:=by
 refine ⟨h.hd,h.rc,fun j b hj hb y hyb=>?_,h.asc⟩
 rcases a8 j i with h4 | h4
 · exact h.dn j b h4 hb y hyb
 · obtain rfl:j=i:=by omega
   rw [ha] at hb; obtain rfl:=bT hb
   exact hy y hyb
theorem UI.fin {ss:List St} {n:ByteArray} {todo o:List ByteArray} (h:UI ss n todo.length todo o):o=dW ss n:=by
 refine GZ h.asc (L1 ss n) fun x=>?_
 rw [AL]
 refine ⟨h.rc x,fun hx=>?_⟩
 obtain ⟨r,e,h1,h2⟩:=h.hd
 have hn:∀ y,c9 ss n y->y ∈ o:=h.dn 0 n (by rw [e]; simp) (by rw [e]; rfl)
 induction hx with
 | one h=>exact hn _ h
 | more _ h3 ih=>
  obtain ⟨j,hj⟩:=List.mem_iff_getElem?.1 ((h2 _).1 ih)
  rename_i b c _
  have hj2:todo[j + 1]? = some b:=by rw [e]; simpa using hj
  exact h.dn (j + 1) _ (bB.1 hj2).1 hj2 _ h3
def kV:List St->List Int->ByteArray->Int
 | s :: ss,d :: ds,n=>bif decide (s.nm=n) then d else kV ss ds n
 | _,_,_=>0
theorem D2 {n:ByteArray}:∀ {ss:List St} {ds:List Int},fS ss n=none->kV ss ds n=0
 | [],_,_=>by simp [kV]
 | s :: ss,[],_=>by simp [kV]
 | s :: ss,d :: ds,h=>by
  unfold fS at h
  rw [List.find?_cons] at h
  rw [kV]
  cases hc:decide (s.nm=n) with
  | true=>rw [hc] at h; simp at h
  | false=>rw [hc] at h; exact D2 (ss:=ss) h
theorem FY {n:ByteArray} {u:St}:∀ {ss:List St} {ds:List Int},ss.length=ds.length->fS ss n=some u->∃ j:Nat,ss[j]? = some u/\ds[j]? = some (kV ss ds n)
 | [],_,_,h=>by cases h
 | s :: ss,[],hl,_=>by simp at hl
 | s :: ss,d :: ds,hl,h=>by
  unfold fS at h
  rw [List.find?_cons] at h
  rw [kV]
  cases hc:decide (s.nm=n) with
  | true=>
   rw [hc] at h
   obtain rfl:s=u:=by simpa using h
   exact ⟨0,rfl,rfl⟩
  | false=>
   rw [hc] at h
   obtain ⟨j,h1,h2⟩:=FY (ss:=ss) (ds:=ds) (by simpa using hl) h
   exact ⟨j + 1,by simpa using h1,by simpa using h2⟩
theorem QA {s:Int} {n:ByteArray} {u:Ty} {r:List Ty}:bL (.mk 5 s n (u :: r))=((bL u).1 + 1,(bL u).2):=by simp [bL,A2]
theorem PQ {k s:Int} {n:ByteArray} {e:List Ty} (h:(k == 5 && decide (0 < (e.length:Int)))=false):bL (.mk k s n e)=(0,.mk k s n e):=by
 rw [bL]
 cases hk:k == 5 with
 | false=>rfl
 | true=>
  rw [hk,Bool.true_and] at h
  have:e=[]:=List.length_eq_zero_iff.1 (by simp at h; simp [h])
  subst this; rfl
theorem NM {dp dq:ByteArray->Int} {l:List Fl} (h:∀ f ∈ l,bX dp f.ty<=bX dq f.ty):eI dp l<=eI dq l:=H0 (jI _ _) fun f hf=>Int.le_trans (h f hf) (IK hf)
structure DI (ss:List St) (r i:Nat) (d:List Int):Prop where
 len:d.length=ss.length
 lo:∀ (j:Nat) (t:St) (v:Int),ss[j]? = some t->d[j]? = some v->0<=v/\v<=dD ss t.nm/\(n8 ss t.nm < r->v=dD ss t.nm)/\(j < i->n8 ss t.nm < r + 1->v=dD ss t.nm)
theorem DI.ix {ss:List St} {es:List En} (_g:Gd ss es) {r i:Nat} {d:List Int} (h:DI ss r i d) (n:ByteArray):0<=kV ss d n/\kV ss d n<=dD ss n/\((fS ss n).isSome=true->n8 ss n < r->kV ss d n=dD ss n):=by
 cases hf:fS ss n with
 | none=>
  rw [D2 hf]
  exact ⟨Int.le_refl _,KI ss n,fun h=>by simp at h⟩
 | some u=>
  obtain ⟨j,h1,h2⟩:=FY h.len.symm hf
  obtain ⟨a1,a2,a3,_⟩:=h.lo j u _ h1 h2
  obtain ⟨_,rfl⟩:=fQ hf
  exact ⟨a1,a2,fun _ h=>a3 h⟩
theorem DI.all {ss:List St} {es:List En} (g:Gd ss es) {r i:Nat} {d:List Int} (h:DI ss r i d):∀ v ∈ d,0<=v/\v<=1000000000000:=fun v hv=>by
 obtain ⟨j,hj⟩:=List.mem_iff_getElem?.1 hv
 have hl:=(bB.1 hj).1
 obtain ⟨t,ht⟩:∃ t,ss[j]? = some t:=⟨_,aV (by have:=h.len; omega)⟩
 obtain ⟨h1,h2,_⟩:=h.lo j t v ht hj
 have:=QW g t.nm
 omega
theorem DI.fd {ss:List St} {es:List En} (g:Gd ss es) {r i:Nat} {d:List Int} (h:DI ss r i d) (t:Ty):bX (kV ss d) t<=bX (dD ss) t:=by
 unfold bX
 have:=h.ix g (bL t).2.n
 cases (bL t).2.k == 6<;>simp only [bI,aX]<;>omega
theorem DI.set {ss:List St} {es:List En} (g:Gd ss es) (ha:AW ss) {r i:Nat} {d:List Int} (h:DI ss r i d) {t:St} (ht:ss[i]? = some t):DI ss r (i + 1) (d.set i (1 + eI (kV ss d) t.fs)):=by
 have htm:=b5 ht
 have hD:=JU g ha (g.nd t htm)
 have hle:eI (kV ss d) t.fs<=eI (dD ss) t.fs:=NM fun f _=>h.fd g f.ty
 have heq:n8 ss t.nm < r + 1->eI (kV ss d) t.fs=eI (dD ss) t.fs:=fun hr=>n3 fun f hf=>by
  unfold bX
  cases hk:(bL f.ty).2.k == 6 with
  | false=>rfl
  | true=>
   obtain ⟨h1,u,h2⟩:=y9 g (g.nd t htm) hf hk
   have h3:=yX h1 h2 ha
   rw [(h.ix g _).2.2 (by rw [h2]; rfl) (by omega)]
 have hn:=jI (kV ss d) t.fs
 refine ⟨by rw [List.length_set]; exact h.len,fun j u v hu hv=>?_⟩
 rw [List.getElem?_set] at hv
 by_cases e:i=j
 · subst e
   rw [ht] at hu; obtain rfl:=bT hu
   have hlt:i < d.length:=by have:=h.len; have:=(bB.1 ht).1; omega
   simp [hlt] at hv
   subst hv
   exact ⟨by omega,by omega,fun hr=>by rw [heq (by omega)]; omega,fun _ hr=>by rw [heq hr]; omega⟩
 · rw [if_neg e] at hv
   obtain ⟨a1,a2,a3,a4⟩:=h.lo j u v hu hv
   exact ⟨a1,a2,a3,fun hj hr=>a4 (by omega) hr⟩
theorem DI.up {ss:List St} {r:Nat} {d:List Int} (h:DI ss r ss.length d):DI ss (r + 1) 0 d:=⟨h.len,fun j t v ht hv=>by
 obtain ⟨a1,a2,_,a4⟩:=h.lo j t v ht hv
 exact ⟨a1,a2,fun hr=>a4 (bB.1 ht).1 hr,fun h=>absurd h (Nat.not_lt_zero _)⟩⟩
theorem DI.fin {ss:List St} {d:List Int} (h:DI ss (ss.length + 1) 0 d):d=ss.map fun t=>dD ss t.nm:=by
 refine List.ext_getElem? fun j=>?_
 rw [List.getElem?_map]
 cases ht:ss[j]? with
 | none=>
  rw [List.getElem?_eq_none_iff] at ht
  rw [List.getElem?_eq_none (by rw [h.len]; exact ht)]; rfl
 | some t=>
  obtain ⟨v,hv⟩:∃ v,d[j]? = some v:=⟨_,aV (by rw [h.len]; exact (bB.1 ht).1)⟩
  obtain ⟨_,_,a3,_⟩:=h.lo j t v ht hv
  rw [hv,a3 (Nat.lt_succ_of_le (I0 _ _))]; rfl
def iC:Nat->Ty->Nat
 | 0,_=>0
 | N + 1,t=>t.e.foldl (fun m u=>max m (1 + iC N u)) 0
abbrev lF (N:Nat):Nat->Ty->Nat:=fun m u=>max m (1 + iC N u)
theorem QV (N:Nat):∀ (l:List Ty) (m:Nat),m<=l.foldl (lF N) m
 | [],_=>Nat.le_refl _
 | u :: l,m=>Nat.le_trans (Nat.le_max_left _ _) (QV N l (max m (1 + iC N u)))
theorem aBL {N:Nat} {l:List Ty} {u:Ty} (h:u ∈ l):∀ m,1 + iC N u<=l.foldl (lF N) m:=by
 induction l with
 | nil=>cases h
 | cons v l ih=>
  intro m
  rcases List.mem_cons.1 h with rfl | h
  · exact Nat.le_trans (Nat.le_max_right m _) (QV N l _)
  · exact ih h _
theorem T9:∀ (N:Nat) (t:Ty),iC N t < N->t.h<=iC N t + 1
 | 0,_,h=>absurd h (Nat.not_lt_zero _)
 | N + 1,.mk k s n e,h=>by
  have hu:∀ u ∈ e,u.h<=iC (N + 1) (.mk k s n e):=fun u hu=>by
   have h1:1 + iC N u<=iC (N + 1) (.mk k s n e):=aBL (N:=N) (l:=e) hu 0
   have:=T9 N u (by omega)
   omega
  rw [Ty.h]
  have:∀ (l:List Ty),(∀ u ∈ l,u.h<=iC (N + 1) (.mk k s n e))->Ty.hs l<=iC (N + 1) (.mk k s n e):=by
   intro l
   induction l with
   | nil=>exact fun _=>Nat.zero_le _
   | cons v l ih=>
    intro h
    rw [Ty.hs]
    exact Nat.max_le.2 ⟨h v List.mem_cons_self,ih fun u hu=>h u (List.mem_cons_of_mem _ hu)⟩
  have:=this e hu
  omega
mutual
def oT:Ty->Bool
 | .mk k s n e=>bif decide (40 < (bl n).length) || decide (3 < e.length) || decide (8 < iC 20 (.mk k s n e)) then false else B5 e
def B5:List Ty->Bool
 | []=>true
 | t :: r=>oT t && B5 r
end
theorem AI:∀ l:List Ty,B5 l=l.all oT
 | []=>rfl
 | t :: r=>by rw [B5,AI r]; rfl
theorem RI {k s:Int} {n:ByteArray} {e:List Ty} (h:oT (.mk k s n e)=true):((bl n).length<=40/\e.length<=3/\iC 20 (.mk k s n e)<=8)/\∀ u ∈ e,oT u=true:=by
 rw [oT] at h
 cases c:decide (40 < (bl n).length) || decide (3 < e.length) || decide (8 < iC 20 (.mk k s n e)) with
 | true=>rw [c] at h; cases h
 | false=>
  rw [c] at h
  simp only [Bool.or_eq_false_iff,decide_eq_false_iff_not] at c
  refine ⟨by omega,fun u hu=>?_⟩
  simp only [aX,AI,List.all_eq_true] at h
  exact h u hu
theorem aII {t:Ty} (h:oT t=true):t.h<=9:=by
 obtain ⟨k,s,n,e⟩:=t
 have h1:=(RI h).1.2.2
 have:=T9 20 (.mk k s n e) (by omega)
 omega
theorem LN:∀ (N:Nat) (t:Ty),t.h<=N->oT t=true->TySm t
 | 0,t,h,_=>absurd h (by have:=t.h_pos; omega)
 | N + 1,.mk k s n e,h,hf=>by
  obtain ⟨⟨_,h2,_⟩,h3⟩:=RI hf
  refine .mk (by omega) fun u hu=>LN N u ?_ (h3 u hu)
  have:=Ty.hs_mem hu; rw [Ty.h] at h; omega
theorem aC6:∀ (N:Nat) (t:Ty),t.h<=N->(bL t).1<=t.h
 | 0,t,h=>absurd h (by have:=t.h_pos; omega)
 | N + 1,.mk k s n e,h=>by
  cases c:(k == 5 && decide (0 < (e.length:Int))) with
  | false=>rw [PQ c]; exact Nat.zero_le _
  | true=>
   simp only [Bool.and_eq_true,beq_iff_eq,decide_eq_true_eq] at c
   obtain ⟨rfl,c⟩:=c
   cases e with
   | nil=>simp at c
   | cons u r=>
    rw [QA]
    have h2:=aC6 N u (by rw [Ty.h,Ty.hs] at h; omega)
    rw [Ty.h,Ty.hs]; simp only; omega
def aEE (e:En):Bool:=!(decide (40 < (bl e.nm).length) || decide (18 < e.ns.length) || decide (18 < e.vs.length)) && e.ns.all fun n=>!(decide (40 < (bl n).length))
def Q8 (f:Fl):Bool:=!(decide (40 < (bl f.nm).length) || !(oT f.ty))
def SN (t:St):Bool:=!(decide (40 < (bl t.nm).length) || decide (18 < t.fs.length)) && t.fs.all Q8
def PG (s:Sc):Bool:=!(decide (18 < s.es.length) || decide (18 < s.ss.length)) && (s.es.all aEE && s.ss.all SN)
theorem WQ {s:Sc} (h:s.ok) (hf:PG s=true):s.fit:=by
 unfold PG at hf
 simp only [Bool.and_eq_true,List.all_eq_true,Bool.not_eq_true',Bool.or_eq_false_iff,decide_eq_false_iff_not] at hf
 obtain ⟨_,he,hs⟩:=hf
 have hfl:∀ t ∈ s.ss,t.fs.length<=18/\∀ f ∈ t.fs,oT f.ty=true:=fun t ht=>by
  have:=hs t ht
  unfold SN at this
  simp only [Bool.and_eq_true,List.all_eq_true,Bool.not_eq_true',Bool.or_eq_false_iff,decide_eq_false_iff_not] at this
  refine ⟨by omega,fun f hf=>?_⟩
  have:=this.2 f hf
  unfold Q8 at this
  simp only [Bool.not_eq_true',Bool.or_eq_false_iff,Bool.not_eq_false'] at this
  exact this.2
 refine ⟨h,fun t ht f hf=>?_,fun t ht=>⟨by have:=(hfl t ht).1; omega,fun f hf=>LN _ _ (Nat.le_refl _) ((hfl t ht).2 f hf)⟩,fun e hm=>?_⟩
 · have h1:=aII ((hfl t ht).2 f hf)
   have h2:=aC6 _ f.ty (Nat.le_refl _)
   omega
 · have:=he e hm
   unfold aEE at this
   simp only [Bool.and_eq_true,List.all_eq_true,Bool.not_eq_true',Bool.or_eq_false_iff,decide_eq_false_iff_not] at this
   omega
theorem O1 {α:Type} {l:List α} {i:Nat} {x:α} (hx:l[i]? = some x) (p:α->Bool):(l.drop i).all p=(p x && (l.drop (i + 1)).all p):=by
 obtain ⟨h,rfl⟩:=bB.1 hx
 rw [List.drop_eq_getElem_cons h,List.all_cons]
theorem VU {α:Type} {l:List α} (p:α->Bool):(l.drop l.length).all p=true:=by rw [List.drop_length]; rfl
def P8:PC:=.seq (.reg [.e 3 (.bx 25 (.t 0)),.e 4 (.bx 42 (.t 1)),.e 5 (.bx 29 (.t 2)),.q 6 (.mv (.i 0))]) (.seq (.seq (.reg [.l 7 (.ldn 5 (.t 5)),.a 8 (.cq 41 [(.t 7),(.i 6)]),.q 9 (.bin .gtr true (.t 8) (.i 6))]) (.cond (.t 9) (.seq (.reg [.q 6 (.mv (.i 9))]) .ret) .skip)) (.seq (.reg [.l 10 (.ldn 3 (.t 3)),.q 11 (.bd [(.int .i64 0),(.slice none 0 0),(.slice none 0 0)] [(0,3,(.t 10))]),.l 12 (.ldn 4 (.t 4)),.l 13 (.ldn 5 (.t 5)),.a 14 (.cq 42 [(.t 11),(.t 12),(.t 13)]),.v 6 14]) .ret))
def PW:List RV:=[.mv (.t 6)]
theorem aLU:aP Tryz.prog true ⟨fun r k=>if r=1/\k=1 then .q else if r=3/\k=4 then .q else .own [],fun _=>false⟩ Tryz.f24=some (P8,PW):=by kernel_rfl
def OO:PC:=.seq (.reg [.e 2 (.bx 29 (.t 0)),.q 4 (.mv (.i 0))]) (.seq (.seq (.reg [.q 10 (.fa 0 (.t 2)),.l 11 (.ld1 (.t 10)),.q 12 (.bin .neq true (.t 11) (.i 5)),.v 13 12,⟨some 14,(some (13,true)),.q (.fa 0 (.t 2))⟩,⟨some 15,(some (13,true)),.l (.ld1 (.t 14))⟩,⟨some 16,(some (13,true)),.q (.bin .neq true (.t 15) (.i 6))⟩,.a 17 (.pick (.t 13) (.t 16) (.k (.bool false))),.v 18 17,⟨some 19,(some (18,true)),.q (.fa 3 (.t 2))⟩,⟨some 20,(some (18,true)),.l (.ld1 (.t 19))⟩,⟨some 21,(some (18,true)),.q (.lnL (.t 20))⟩,⟨some 22,(some (18,true)),.q (.bin .eql true (.t 21) (.i 0))⟩,.a 23 (.pick (.t 18) (.t 22) (.k (.bool false))),.v 24 23,⟨some 25,(some (24,true)),.q (.fa 4 (.t 2))⟩,⟨some 26,(some (24,true)),.l (.ld1 (.t 25))⟩,⟨some 27,(some (24,true)),.q (.lnL (.t 26))⟩,⟨some 28,(some (24,true)),.q (.bin .eql true (.t 27) (.i 0))⟩,.a 29 (.pick (.t 24) (.t 28) (.k (.bool false)))]) (.cond (.t 29) (.seq (.reg [.q 4 (.mv (.i 0))]) .ret) .skip)) (.seq (.reg [.q 5 (.mv (.i 0))]) (.seq (.seq (.reg [.q 30 (.fa 3 (.t 2)),.l 31 (.ld1 (.t 30)),.q 32 (.lnL (.t 31)),.q 33 (.mv (.i 0))]) (.block 0 (.loop (.seq (.reg [.q 34 (.bin .lss true (.t 33) (.t 32))]) (.seq (.cond (.t 34) .skip (.exit 0)) (.seq (.block 1 (.seq (.reg [.l 35 (.ia 5 (.t 31) (.t 33)),.l 36 (.ldn 5 (.t 35)),.e 7 (.al (.agg #[(.int .i64 0),(.int .i64 0),(.string (mk [])),(.slice none 0 0),(.slice none 0 0)]) 29),.s (.st 5 (.t 7) (.t 36))]) (.seq (.reg [.v 37 5,.v 38 1,.q 39 (.bin .leq true (.t 37) (.t 38))]) (.cond (.t 39) (.reg [.v 40 5,.l 41 (.ldn 5 (.t 7)),.v 42 1,.q 43 (.bin .sub true (.t 42) (.i 1)),.a 44 (.cq 41 [(.t 41),(.t 43)]),.q 45 (.mx true (.t 40) (.t 44)),.v 5 45]) .skip)))) (.reg [.q 46 (.bin .add true (.t 33) (.i 1)),.v 33 46]))))))) (.seq (.seq (.reg [.q 47 (.fa 4 (.t 2)),.l 48 (.ld1 (.t 47)),.q 49 (.lnL (.t 48)),.q 50 (.mv (.i 0))]) (.block 2 (.loop (.seq (.reg [.q 51 (.bin .lss true (.t 50) (.t 49))]) (.seq (.cond (.t 51) .skip (.exit 2)) (.seq (.block 3 (.seq (.reg [.l 52 (.ia 6 (.t 48) (.t 50)),.l 53 (.ldn 6 (.t 52)),.e 9 (.al (.agg #[(.int .i64 0),(.int .i64 0),(.int .i64 0),(.string (mk [])),(.slice none 0 0),(.slice none 0 0)]) 76),.s (.st 6 (.t 9) (.t 53))]) (.seq (.reg [.v 54 5,.v 55 1,.q 56 (.bin .leq true (.t 54) (.t 55))]) (.cond (.t 56) (.reg [.v 57 5,.q 58 (.fa 1 (.t 9)),.l 59 (.ldn 5 (.t 58)),.v 60 1,.q 61 (.bin .sub true (.t 60) (.i 1)),.a 62 (.cq 41 [(.t 59),(.t 61)]),.q 63 (.mx true (.t 57) (.t 62)),.v 5 63]) .skip)))) (.reg [.q 64 (.bin .add true (.t 50) (.i 1)),.v 50 64]))))))) (.seq (.reg [.v 65 5,.q 66 (.bin .add true (.i 1) (.t 65)),.v 4 66]) .ret)))))
def PM:List RV:=[.mv (.t 4)]
theorem aLG:aP Tryz.prog true ⟨fun r k=>if r=8/\k=4 then .q else if r=14/\k=5 then .q else .own [],fun _=>false⟩ Tryz.f41=some (OO,PM):=by kernel_rfl
def uO:PC:=.seq (.reg [.e 3 (.bx 93 (.t 0)),.e 4 (.bx 42 (.t 1)),.e 5 (.bx 29 (.t 2)),.q 6 (.mv (.i 0))]) (.seq (.seq (.reg [.l 8 (.ldn 3 (.t 3)),.l 9 (.ldn 4 (.t 4)),.a 10 (.cq 75 [(.t 8),(.t 9)]),.q 11 (.not (.t 10)),.v 12 11,⟨some 13,(some (12,false)),.q (.fa 0 (.t 5))⟩,⟨some 14,(some (12,false)),.l (.ld1 (.t 13))⟩,⟨some 15,(some (12,false)),.q (.fa 0 (.t 4))⟩,⟨some 16,(some (12,false)),.l (.ld1 (.t 15))⟩,⟨some 17,(some (12,false)),.q (.bin .neq true (.t 14) (.t 16))⟩,.a 18 (.pick (.t 12) (.k (.bool true)) (.t 17))]) (.cond (.t 18) (.seq (.reg [.q 6 (.mv (.i 13))]) .ret) .skip)) (.seq (.reg [.l 19 (.ldn 3 (.t 3)),.q 20 (.mh 76 [(.t 19)]),.v 7 20]) (.seq (.seq (.reg [.q 21 (.fa 0 (.t 4)),.l 22 (.ld1 (.t 21))]) (.block 0 (.seq (.reg [.q 24 (.bin .eql true (.t 22) (.i 4)),.v 23 24]) (.cond (.t 23) (.reg [.l 25 (.ldn 3 (.t 3)),.q 26 (.mh 77 [(.t 25)]),.v 7 26]) (.seq (.reg [.q 28 (.bin .eql true (.t 22) (.i 5)),.v 27 28]) (.cond (.t 27) (.reg [.l 29 (.ldn 3 (.t 3)),.q 30 (.mh 78 [(.t 29)]),.v 7 30]) (.seq (.reg [.q 32 (.bin .eql true (.t 22) (.i 6)),.v 31 32]) (.cond (.t 31) (.reg [.l 33 (.ldn 3 (.t 3)),.q 34 (.mh 79 [(.t 33)]),.v 7 34]) .skip)))))))) (.seq (.reg [.v 35 7,.l 36 (.ldn 4 (.t 4)),.l 37 (.ldn 5 (.t 5)),.a 38 (.ca (.t 35) [(.t 36),(.t 37)] []),.v 6 38]) .ret))))
def tD:List RV:=[.mv (.t 6)]
theorem aN3:aP Tryz.prog true ⟨fun r k=>if r=1/\k=2 then .q else .own [],fun _=>false⟩ Tryz.f42=some (uO,tD):=by kernel_rfl
def aDC:PC:=.seq (.reg [.e 2 (.bx 25 (.t 0)),.e 3 (.bx 42 (.t 1)),.e 4 (.al (.agg #[(.int .i64 0),(.int .i64 0),(.string (mk [])),(.slice none 0 0),(.slice none 0 0)]) 29)]) (.seq (.reg [.l 5 (.ldn 3 (.t 2)),.q 6 (.bd [(.int .i64 0),(.slice none 0 0),(.slice none 0 0)] [(0,3,(.t 5))]),.l 7 (.ldn 4 (.t 3)),.a 8 (.cl 83 [(.t 6),(.t 7),(.i 22)] []),.s (.st 5 (.t 4) (.t 8))]) .ret)
def aA4:List RV:=[.ld (.ldn 5 (.t 4))]
theorem aKV:aP Tryz.prog true ⟨fun _ _=>.own [],fun _=>false⟩ Tryz.f45=some (aDC,aA4):=by kernel_rfl
def lA:PC:=.seq (.gh (.reg [.v 31 5,.v 32 31,⟨some 33,(some (32,true)),.q (.fa 1 (.t 3))⟩,⟨some 34,(some (32,true)),.l (.ld1 (.t 33))⟩,⟨some 35,(some (32,true)),.q (.bin .eql true (.t 34) (.i 8))⟩,⟨some 36,(some (32,true)),.q (.mv (.t 35))⟩,⟨some 37,(some (36,false)),.q (.fa 1 (.t 3))⟩,⟨some 38,(some (36,false)),.l (.ld1 (.t 37))⟩,⟨some 39,(some (36,false)),.q (.bin .eql true (.t 38) (.i 16))⟩,⟨some 40,(some (32,true)),.pick (.t 36) (.k (.bool true)) (.t 39)⟩,⟨some 41,(some (32,true)),.q (.mv (.t 40))⟩,⟨some 42,(some (41,false)),.q (.fa 1 (.t 3))⟩,⟨some 43,(some (41,false)),.l (.ld1 (.t 42))⟩,⟨some 44,(some (41,false)),.q (.bin .eql true (.t 43) (.i 32))⟩,⟨some 45,(some (32,true)),.pick (.t 41) (.k (.bool true)) (.t 44)⟩,⟨some 46,(some (32,true)),.q (.mv (.t 45))⟩,⟨some 47,(some (46,false)),.q (.fa 1 (.t 3))⟩,⟨some 48,(some (46,false)),.l (.ld1 (.t 47))⟩,⟨some 49,(some (46,false)),.q (.bin .eql true (.t 48) (.i 64))⟩,⟨some 50,(some (32,true)),.pick (.t 46) (.k (.bool true)) (.t 49)⟩,.a 51 (.pick (.t 32) (.t 50) (.k (.bool false))),.v 4 51])) .ret
@[go_sem ↓] theorem aNY:aL lA:=aM _
def m7:PC:=.seq (.gh (.reg [.v 54 5,.v 55 54,⟨some 56,(some (55,true)),.q (.fa 1 (.t 3))⟩,⟨some 57,(some (55,true)),.l (.ld1 (.t 56))⟩,⟨some 58,(some (55,true)),.q (.bin .eql true (.t 57) (.i 8))⟩,⟨some 59,(some (55,true)),.q (.mv (.t 58))⟩,⟨some 60,(some (59,false)),.q (.fa 1 (.t 3))⟩,⟨some 61,(some (59,false)),.l (.ld1 (.t 60))⟩,⟨some 62,(some (59,false)),.q (.bin .eql true (.t 61) (.i 16))⟩,⟨some 63,(some (55,true)),.pick (.t 59) (.k (.bool true)) (.t 62)⟩,⟨some 64,(some (55,true)),.q (.mv (.t 63))⟩,⟨some 65,(some (64,false)),.q (.fa 1 (.t 3))⟩,⟨some 66,(some (64,false)),.l (.ld1 (.t 65))⟩,⟨some 67,(some (64,false)),.q (.bin .eql true (.t 66) (.i 32))⟩,⟨some 68,(some (55,true)),.pick (.t 64) (.k (.bool true)) (.t 67)⟩,.a 69 (.pick (.t 55) (.t 68) (.k (.bool false))),.v 4 69])) .ret
@[go_sem ↓] theorem aPC:aL m7:=aM _
def iU:PC:=.seq (.gh (.reg [.q 85 (.fa 2 (.t 3)),.l 86 (.ld1 (.t 85)),.q 87 (.bin .eql true (.t 86) (.k (.string (mk [])))),.v 88 87,⟨some 89,(some (88,true)),.q (.fa 1 (.t 3))⟩,⟨some 90,(some (88,true)),.l (.ld1 (.t 89))⟩,⟨some 91,(some (88,true)),.q (.bin .geq true (.t 90) (.i 1))⟩,.a 92 (.pick (.t 88) (.t 91) (.k (.bool false))),.v 93 92,⟨some 94,(some (93,true)),.q (.fa 1 (.t 3))⟩,⟨some 95,(some (93,true)),.l (.ld1 (.t 94))⟩,⟨some 96,(some (93,true)),.q (.bin .leq true (.t 95) (.i 32))⟩,.a 97 (.pick (.t 93) (.t 96) (.k (.bool false))),.v 98 97,⟨some 99,(some (98,true)),.q (.fa 3 (.t 3))⟩,⟨some 100,(some (98,true)),.l (.ld1 (.t 99))⟩,⟨some 101,(some (98,true)),.q (.lnL (.t 100))⟩,⟨some 102,(some (98,true)),.q (.bin .eql true (.t 101) (.i 1))⟩,.a 103 (.pick (.t 98) (.t 102) (.k (.bool false))),.v 104 103,⟨some 105,(some (104,true)),.l (.ldn 3 (.t 2))⟩,⟨some 106,(some (104,true)),.q (.fa 3 (.t 3))⟩,⟨some 107,(some (104,true)),.l (.ld1 (.t 106))⟩,⟨some 108,(some (104,true)),.l (.ia 4 (.t 107) (.i 0))⟩,⟨some 109,(some (104,true)),.l (.ldn 4 (.t 108))⟩,⟨some 110,(some (104,true)),.cq 75 [(.t 105),(.t 109)]⟩,.a 111 (.pick (.t 104) (.t 110) (.k (.bool false))),.v 4 111])) .ret
@[go_sem ↓] theorem aJO:aL iU:=aM _
def zO:PC:=.seq (.gh (.reg [.v 122 7,.v 123 122,⟨some 124,(some (123,true)),.q (.fa 1 (.t 3))⟩,⟨some 125,(some (123,true)),.l (.ld1 (.t 124))⟩,⟨some 126,(some (123,true)),.q (.bin .eql true (.t 125) (.i 0))⟩,.a 127 (.pick (.t 123) (.t 126) (.k (.bool false))),.v 128 127,⟨some 129,(some (128,true)),.q (.fa 3 (.t 3))⟩,⟨some 130,(some (128,true)),.l (.ld1 (.t 129))⟩,⟨some 131,(some (128,true)),.q (.lnL (.t 130))⟩,⟨some 132,(some (128,true)),.q (.bin .eql true (.t 131) (.i 0))⟩,.a 133 (.pick (.t 128) (.t 132) (.k (.bool false))),.v 4 133])) .ret
@[go_sem ↓] theorem aKP:aL zO:=aM _
def zM:PC:=.seq (.gh (.reg [.q 115 (.fa 0 (.t 2)),.l 116 (.ldn 3 (.t 115)),.q 117 (.fa 2 (.t 3)),.l 118 (.ld1 (.t 117)),.a 119 (.cl 40 [(.t 116),(.t 118)] []),.v 114 119,.q 120 (.ex (.t 114) 0),.q 121 (.ex (.t 114) 1),.e 6 (.al (.agg #[(.string (mk [])),(.slice none 0 0)]) 48),.s (.st 2 (.t 6) (.t 120)),.v 7 121])) (zO)
@[go_sem ↓] theorem aKG:aL zM:=aM _
def xD:PC:=.seq (.gh (.reg [.v 144 9,.v 145 144,⟨some 146,(some (145,true)),.q (.fa 1 (.t 3))⟩,⟨some 147,(some (145,true)),.l (.ld1 (.t 146))⟩,⟨some 148,(some (145,true)),.q (.bin .eql true (.t 147) (.i 0))⟩,.a 149 (.pick (.t 145) (.t 148) (.k (.bool false))),.v 150 149,⟨some 151,(some (150,true)),.q (.fa 3 (.t 3))⟩,⟨some 152,(some (150,true)),.l (.ld1 (.t 151))⟩,⟨some 153,(some (150,true)),.q (.lnL (.t 152))⟩,⟨some 154,(some (150,true)),.q (.bin .eql true (.t 153) (.i 0))⟩,.a 155 (.pick (.t 150) (.t 154) (.k (.bool false))),.v 4 155])) .ret
@[go_sem ↓] theorem aJ5:aL xD:=aM _
def z6:PC:=.seq (.gh (.reg [.q 137 (.fa 0 (.t 2)),.l 138 (.ldn 3 (.t 137)),.q 139 (.fa 2 (.t 3)),.l 140 (.ld1 (.t 139)),.a 141 (.cl 113 [(.t 138),(.t 140)] []),.v 136 141,.q 142 (.ex (.t 136) 0),.q 143 (.ex (.t 136) 1),.e 8 (.al (.agg #[(.string (mk [])),(.slice none 0 0),(.slice none 0 0)]) 118),.s (.st 3 (.t 8) (.t 142)),.v 9 143])) (xD)
@[go_sem ↓] theorem aJZ:aL z6:=aM _
def yP:PC:=.seq (.gh (.reg [.q 135 (.bin .eql true (.t 20) (.i 7)),.v 134 135])) (.cond (.t 134) (z6) .skip)
@[go_sem ↓] theorem aI5:aL yP:=aM _
def xQ:PC:=.seq (.gh (.reg [.q 113 (.bin .eql true (.t 20) (.i 6)),.v 112 113])) (.cond (.t 112) (zM) (yP))
@[go_sem ↓] theorem aJR:aL xQ:=aM _
def zC:PC:=.seq (.gh (.reg [.q 84 (.bin .eql true (.t 20) (.i 5)),.v 83 84])) (.cond (.t 83) (iU) (xQ))
@[go_sem ↓] theorem aIT:aL zC:=aM _
def EG:PC:=.seq (.gh (.reg [.q 71 (.bin .eql true (.t 20) (.i 4)),.v 70 71])) (.cond (.t 70) (.seq (.reg [.v 72 5,.v 73 72,⟨some 74,(some (73,true)),.q (.fa 1 (.t 3))⟩,⟨some 75,(some (73,true)),.l (.ld1 (.t 74))⟩,⟨some 76,(some (73,true)),.q (.bin .geq true (.t 75) (.i 1))⟩,.a 77 (.pick (.t 73) (.t 76) (.k (.bool false))),.v 78 77,⟨some 79,(some (78,true)),.q (.fa 1 (.t 3))⟩,⟨some 80,(some (78,true)),.l (.ld1 (.t 79))⟩,⟨some 81,(some (78,true)),.q (.bin .leq true (.t 80) (.i 2000))⟩,.a 82 (.pick (.t 78) (.t 81) (.k (.bool false))),.v 4 82]) .ret) (zC))
@[go_sem ↓] theorem aK4:aL EG:=aM _
def CU:PC:=.seq (.gh (.reg [.q 53 (.bin .eql true (.t 20) (.i 3)),.v 52 53])) (.cond (.t 52) (m7) (EG))
@[go_sem ↓] theorem aLV:aL CU:=aM _
def E6:PC:=.seq (.gh (.reg [.q 30 (.bin .eql true (.t 20) (.i 2)),.v 29 30])) (.cond (.t 29) (lA) (CU))
@[go_sem ↓] theorem aMS:aL E6:=aM _
def aBI:PC:=.seq (.reg [.e 2 (.bx 93 (.t 0)),.e 3 (.bx 42 (.t 1)),.q 4 (.mv (.k (.bool false)))]) (.seq (.reg [.q 10 (.fa 2 (.t 3)),.l 11 (.ld1 (.t 10)),.q 12 (.bin .eql true (.t 11) (.k (.string (mk [])))),.v 13 12,⟨some 14,(some (13,true)),.q (.fa 3 (.t 3))⟩,⟨some 15,(some (13,true)),.l (.ld1 (.t 14))⟩,⟨some 16,(some (13,true)),.q (.lnL (.t 15))⟩,⟨some 17,(some (13,true)),.q (.bin .eql true (.t 16) (.i 0))⟩,.a 18 (.pick (.t 13) (.t 17) (.k (.bool false))),.v 5 18]) (.seq (.seq (.reg [.q 19 (.fa 0 (.t 3)),.l 20 (.ld1 (.t 19))]) (.block 0 (.seq (.reg [.q 22 (.bin .eql true (.t 20) (.i 1)),.v 21 22]) (.cond (.t 21) (.seq (.reg [.v 23 5,.v 24 23,⟨some 25,(some (24,true)),.q (.fa 1 (.t 3))⟩,⟨some 26,(some (24,true)),.l (.ld1 (.t 25))⟩,⟨some 27,(some (24,true)),.q (.bin .eql true (.t 26) (.i 0))⟩,.a 28 (.pick (.t 24) (.t 27) (.k (.bool false))),.v 4 28]) .ret) (E6))))) (.seq (.reg [.q 4 (.mv (.k (.bool false)))]) .ret)))
def aA5:List RV:=[.mv (.t 4)]
theorem aNH:aP Tryz.prog true ⟨fun r k=>if r=12/\k=25 then .q else .own [],fun r=>[5,6,7,8,9,11,12,13,14,15,16,17,18].contains r⟩ Tryz.f75=some (aBI,aA5):=by kernel_rfl
def FX:PC:=.gh (.reg [.q 29 (.fa 1 (.t 5)),.l 30 (.ld1 (.t 29)),.q 31 (.bin .eql true (.t 30) (.i 0)),.v 32 31,⟨some 33,(some (32,false)),.q (.fa 1 (.t 5))⟩,⟨some 34,(some (32,false)),.l (.ld1 (.t 33))⟩,⟨some 35,(some (32,false)),.q (.bin .eql true (.t 34) (.i 1))⟩,.a 36 (.pick (.t 32) (.k (.bool true)) (.t 35)),.v 7 36])
@[go_sem ↓] theorem aNF:aL FX:=aM _
def wD:PC:=.gh (.reg [.q 39 (.fa 1 (.t 4)),.l 40 (.ld1 (.t 39)),.q 41 (.bin .eql true (.t 40) (.i 64)),.v 42 41,⟨some 43,(some (42,false)),.q (.fa 1 (.t 5))⟩,⟨some 44,(some (42,false)),.l (.ld1 (.t 43))⟩,⟨some 45,(some (42,false)),.q (.fa 1 (.t 4))⟩,⟨some 46,(some (42,false)),.l (.ld1 (.t 45))⟩,⟨some 47,(some (42,false)),.q (.bin .sub true (.t 46) (.i 1))⟩,⟨some 48,(some (42,false)),.q (.bin .shl true (.i (-1)) (.t 47))⟩,⟨some 49,(some (42,false)),.q (.bin .geq true (.t 44) (.t 48))⟩,⟨some 50,(some (42,false)),.q (.mv (.t 49))⟩,⟨some 51,(some (50,true)),.q (.fa 1 (.t 5))⟩,⟨some 52,(some (50,true)),.l (.ld1 (.t 51))⟩,⟨some 53,(some (50,true)),.q (.fa 1 (.t 4))⟩,⟨some 54,(some (50,true)),.l (.ld1 (.t 53))⟩,⟨some 55,(some (50,true)),.q (.bin .sub true (.t 54) (.i 1))⟩,⟨some 56,(some (50,true)),.q (.bin .shl true (.i 1) (.t 55))⟩,⟨some 57,(some (50,true)),.q (.bin .lss true (.t 52) (.t 56))⟩,⟨some 58,(some (42,false)),.pick (.t 50) (.t 57) (.k (.bool false))⟩,.a 59 (.pick (.t 42) (.k (.bool true)) (.t 58)),.v 7 59])
@[go_sem ↓] theorem aOH:aL wD:=aM _
def xH:PC:=.gh (.reg [.q 62 (.fa 1 (.t 5)),.l 63 (.ld1 (.t 62)),.q 64 (.bin .geq true (.t 63) (.i 0)),.v 65 64,⟨some 66,(some (65,true)),.q (.fa 1 (.t 5))⟩,⟨some 67,(some (65,true)),.l (.ld1 (.t 66))⟩,⟨some 68,(some (65,true)),.q (.fa 1 (.t 4))⟩,⟨some 69,(some (65,true)),.l (.ld1 (.t 68))⟩,⟨some 70,(some (65,true)),.q (.bin .shl true (.i 1) (.t 69))⟩,⟨some 71,(some (65,true)),.q (.bin .lss true (.t 67) (.t 70))⟩,.a 72 (.pick (.t 65) (.t 71) (.k (.bool false))),.v 7 72])
@[go_sem ↓] theorem aKD:aL xH:=aM _
def zR:PC:=.gh (.reg [.q 83 (.fa 2 (.t 8)),.l 84 (.ld1 (.t 83)),.q 85 (.mf 115 [(.t 5)]),.a 86 (.cl 114 [(.t 84),(.t 85)] [2]),.v 7 86])
@[go_sem ↓] theorem aJG:aL zR:=aM _
def zP:PC:=.seq (.gh (.reg [.q 76 (.fa 0 (.t 3)),.l 77 (.ldn 3 (.t 76)),.q 78 (.fa 2 (.t 4)),.l 79 (.ld1 (.t 78)),.a 80 (.cl 113 [(.t 77),(.t 79)] []),.v 75 80,.q 81 (.ex (.t 75) 0),.q 82 (.ex (.t 75) 1),.e 8 (.al (.agg #[(.string (mk [])),(.slice none 0 0),(.slice none 0 0)]) 118),.s (.st 3 (.t 8) (.t 81)),.v 9 82])) (zR)
@[go_sem ↓] theorem aIV:aL zP:=aM _
def zG:PC:=.seq (.gh (.reg [.q 74 (.bin .eql true (.t 26) (.i 7)),.v 73 74])) (.cond (.t 73) (zP) .skip)
@[go_sem ↓] theorem aJ9:aL zG:=aM _
def E7:PC:=.seq (.gh (.reg [.q 61 (.bin .eql true (.t 26) (.i 3)),.v 60 61])) (.cond (.t 60) (xH) (zG))
@[go_sem ↓] theorem aMC:aL E7:=aM _
def DD:PC:=.seq (.gh (.reg [.q 38 (.bin .eql true (.t 26) (.i 2)),.v 37 38])) (.cond (.t 37) (wD) (E7))
@[go_sem ↓] theorem aLD:aL DD:=aM _
def gX:PC:=.seq (.seq (.gh (.reg [.v 87 7,.q 88 (.not (.t 87))])) (.cond (.t 88) (.seq (.reg [.q 6 (.mv (.i 4))]) .ret) .skip)) (.seq (.reg [.q 6 (.mv (.i 0))]) .ret)
@[go_sem ↓] theorem aJD:aL gX:=aM _
def EV:PC:=.seq (.reg [.e 3 (.bx 93 (.t 0)),.e 4 (.bx 42 (.t 1)),.e 5 (.bx 29 (.t 2)),.q 6 (.mv (.i 0))]) (.seq (.seq (.reg [.q 10 (.fa 2 (.t 5)),.l 11 (.ld1 (.t 10)),.q 12 (.bin .neq true (.t 11) (.k (.string (mk [])))),.v 13 12,⟨some 14,(some (13,false)),.q (.fa 3 (.t 5))⟩,⟨some 15,(some (13,false)),.l (.ld1 (.t 14))⟩,⟨some 16,(some (13,false)),.q (.lnL (.t 15))⟩,⟨some 17,(some (13,false)),.q (.bin .gtr true (.t 16) (.i 0))⟩,.a 18 (.pick (.t 13) (.k (.bool true)) (.t 17)),.v 19 18,⟨some 20,(some (19,false)),.q (.fa 4 (.t 5))⟩,⟨some 21,(some (19,false)),.l (.ld1 (.t 20))⟩,⟨some 22,(some (19,false)),.q (.lnL (.t 21))⟩,⟨some 23,(some (19,false)),.q (.bin .gtr true (.t 22) (.i 0))⟩,.a 24 (.pick (.t 19) (.k (.bool true)) (.t 23))]) (.cond (.t 24) (.seq (.reg [.q 6 (.mv (.i 13))]) .ret) .skip)) (.seq (.reg [.q 7 (.mv (.k (.bool false)))]) (.seq (.seq (.reg [.q 25 (.fa 0 (.t 4)),.l 26 (.ld1 (.t 25))]) (.block 0 (.seq (.reg [.q 28 (.bin .eql true (.t 26) (.i 1)),.v 27 28]) (.cond (.t 27) (FX) (DD))))) (gX))))
def EU:List RV:=[.mv (.t 6)]
theorem aNC:aP Tryz.prog true ⟨fun r k=>if r=13/\k=3 then .own [2] else .own [],fun r=>[7,9,11,12,14,6,8,10,13].contains r⟩ Tryz.f76=some (EV,EU):=by kernel_rfl
def aA3:PC:=.seq (.reg [.e 3 (.bx 93 (.t 0)),.e 4 (.bx 42 (.t 1)),.e 5 (.bx 29 (.t 2)),.q 6 (.mv (.i 0))]) (.seq (.block 0 (.seq (.reg [.q 8 (.fa 1 (.t 5)),.l 9 (.ld1 (.t 8)),.q 10 (.bin .neq true (.t 9) (.i 0)),.v 11 10,⟨some 12,(some (11,false)),.q (.fa 3 (.t 5))⟩,⟨some 13,(some (11,false)),.l (.ld1 (.t 12))⟩,⟨some 14,(some (11,false)),.q (.lnL (.t 13))⟩,⟨some 15,(some (11,false)),.q (.bin .gtr true (.t 14) (.i 0))⟩,.a 16 (.pick (.t 11) (.k (.bool true)) (.t 15)),.v 17 16,⟨some 18,(some (17,false)),.q (.fa 4 (.t 5))⟩,⟨some 19,(some (17,false)),.l (.ld1 (.t 18))⟩,⟨some 20,(some (17,false)),.q (.lnL (.t 19))⟩,⟨some 21,(some (17,false)),.q (.bin .gtr true (.t 20) (.i 0))⟩,.a 22 (.pick (.t 17) (.k (.bool true)) (.t 21)),.v 7 22]) (.cond (.t 7) (.seq (.reg [.q 6 (.mv (.i 13))]) .ret) (.seq (.reg [.q 24 (.fa 2 (.t 5)),.l 25 (.ld1 (.t 24)),.q 26 (.lnS (.t 25)),.q 27 (.fa 1 (.t 4)),.l 28 (.ld1 (.t 27)),.q 29 (.bin .gtr true (.t 26) (.t 28)),.v 23 29]) (.cond (.t 23) (.seq (.reg [.q 6 (.mv (.i 3))]) .ret) .skip))))) (.seq (.reg [.q 6 (.mv (.i 0))]) .ret))
def Z5:List RV:=[.mv (.t 6)]
theorem aK9:aP Tryz.prog true ⟨fun _ _=>.own [],fun _=>false⟩ Tryz.f77=some (aA3,Z5):=by kernel_rfl
def KB:PC:=.seq (.reg [.e 3 (.bx 93 (.t 0)),.e 4 (.bx 42 (.t 1)),.e 5 (.bx 29 (.t 2)),.q 6 (.mv (.i 0))]) (.seq (.block 0 (.seq (.reg [.q 11 (.fa 1 (.t 5)),.l 12 (.ld1 (.t 11)),.q 13 (.bin .neq true (.t 12) (.i 0)),.v 14 13,⟨some 15,(some (14,false)),.q (.fa 2 (.t 5))⟩,⟨some 16,(some (14,false)),.l (.ld1 (.t 15))⟩,⟨some 17,(some (14,false)),.q (.bin .neq true (.t 16) (.k (.string (mk []))))⟩,.a 18 (.pick (.t 14) (.k (.bool true)) (.t 17)),.v 19 18,⟨some 20,(some (19,false)),.q (.fa 4 (.t 5))⟩,⟨some 21,(some (19,false)),.l (.ld1 (.t 20))⟩,⟨some 22,(some (19,false)),.q (.lnL (.t 21))⟩,⟨some 23,(some (19,false)),.q (.bin .gtr true (.t 22) (.i 0))⟩,.a 24 (.pick (.t 19) (.k (.bool true)) (.t 23)),.v 10 24]) (.cond (.t 10) (.seq (.reg [.q 6 (.mv (.i 13))]) .ret) (.seq (.reg [.q 26 (.fa 3 (.t 5)),.l 27 (.ld1 (.t 26)),.q 28 (.lnL (.t 27)),.q 29 (.fa 1 (.t 4)),.l 30 (.ld1 (.t 29)),.q 31 (.bin .gtr true (.t 28) (.t 30)),.v 25 31]) (.cond (.t 25) (.seq (.reg [.q 6 (.mv (.i 3))]) .ret) .skip))))) (.seq (.seq (.reg [.q 32 (.fa 3 (.t 5)),.l 33 (.ld1 (.t 32)),.q 34 (.lnL (.t 33)),.q 35 (.mv (.i 0))]) (.block 1 (.loop (.seq (.reg [.q 36 (.bin .lss true (.t 35) (.t 34))]) (.seq (.cond (.t 36) .skip (.exit 1)) (.seq (.block 2 (.seq (.reg [.l 37 (.ia 5 (.t 33) (.t 35)),.l 38 (.ldn 5 (.t 37)),.e 8 (.al (.agg #[(.int .i64 0),(.int .i64 0),(.string (mk [])),(.slice none 0 0),(.slice none 0 0)]) 29),.s (.st 5 (.t 8) (.t 38))]) (.seq (.reg [.l 39 (.ldn 3 (.t 3)),.q 40 (.fa 3 (.t 4)),.l 41 (.ld1 (.t 40)),.l 42 (.ia 4 (.t 41) (.i 0)),.l 43 (.ldn 4 (.t 42)),.l 44 (.ldn 5 (.t 8)),.a 45 (.cq 42 [(.t 39),(.t 43),(.t 44)]),.v 9 45]) (.seq (.reg [.v 46 9,.q 47 (.bin .neq true (.t 46) (.i 0))]) (.cond (.t 47) (.seq (.reg [.v 48 9,.v 6 48]) .ret) .skip))))) (.reg [.q 49 (.bin .add true (.t 35) (.i 1)),.v 35 49]))))))) (.seq (.reg [.q 6 (.mv (.i 0))]) .ret)))
def JB:List RV:=[.mv (.t 6)]
theorem aLY:aP Tryz.prog true ⟨fun r k=>if r=8/\k=6 then .q else .own [],fun _=>false⟩ Tryz.f78=some (KB,JB):=by kernel_rfl
def w8:PC:=.seq (.gh (.reg [.v 63 13,.q 64 (.bin .neq true (.t 63) (.i 0))])) (.cond (.t 64) (.seq (.reg [.v 65 13,.v 6 65]) .ret) .skip)
@[go_sem ↓] theorem aME:aL w8:=aM _
def C9:PC:=.seq (.gh (.reg [.l 57 (.ldn 3 (.t 3)),.q 58 (.fa 2 (.t 11)),.l 59 (.ldn 4 (.t 58)),.q 60 (.fa 1 (.t 10)),.l 61 (.ldn 5 (.t 60)),.a 62 (.cq 42 [(.t 57),(.t 59),(.t 61)]),.v 13 62])) (w8)
@[go_sem ↓] theorem aNM:aL C9:=aM _
def FE:PC:=.seq (.gh (.reg [.l 51 (.ldn 2 (.t 7)),.q 52 (.fa 0 (.t 10)),.l 53 (.ld1 (.t 52)),.a 54 (.cl 54 [(.t 51),(.t 53)] []),.v 50 54,.q 55 (.ex (.t 50) 0),.q 56 (.ex (.t 50) 1),.e 11 (.al (.agg #[(.int .i64 0),(.string (mk [])),(.int .i64 0),(.int .i64 0),(.string (mk [])),(.slice none 0 0),(.bool false)]) 52),.s (.st 7 (.t 11) (.t 55)),.v 12 56])) (C9)
@[go_sem ↓] theorem aK2:aL FE:=aM _
def w5:PC:=.seq (.seq (.gh (.reg [.q 22 (.fa 1 (.t 5)),.l 23 (.ld1 (.t 22)),.q 24 (.bin .neq true (.t 23) (.i 0)),.v 25 24,⟨some 26,(some (25,false)),.q (.fa 2 (.t 5))⟩,⟨some 27,(some (25,false)),.l (.ld1 (.t 26))⟩,⟨some 28,(some (25,false)),.q (.bin .neq true (.t 27) (.k (.string (mk []))))⟩,.a 29 (.pick (.t 25) (.k (.bool true)) (.t 28)),.v 30 29,⟨some 31,(some (30,false)),.q (.fa 3 (.t 5))⟩,⟨some 32,(some (30,false)),.l (.ld1 (.t 31))⟩,⟨some 33,(some (30,false)),.q (.lnL (.t 32))⟩,⟨some 34,(some (30,false)),.q (.bin .gtr true (.t 33) (.i 0))⟩,.a 35 (.pick (.t 30) (.k (.bool true)) (.t 34)),.v 36 35,⟨some 37,(some (36,false)),.l (.ldn 2 (.t 7))⟩,⟨some 38,(some (36,false)),.q (.fa 4 (.t 5))⟩,⟨some 39,(some (36,false)),.l (.ld1 (.t 38))⟩,⟨some 40,(some (36,false)),.cq 116 [(.t 37),(.t 39)]⟩,⟨some 41,(some (36,false)),.q (.not (.t 40))⟩,.a 42 (.pick (.t 36) (.k (.bool true)) (.t 41))])) (.cond (.t 42) (.seq (.reg [.q 6 (.mv (.i 13))]) .ret) .skip)) (.seq (.seq (.reg [.q 43 (.fa 4 (.t 5)),.l 44 (.ld1 (.t 43)),.q 45 (.lnL (.t 44)),.q 46 (.mv (.i 0))]) (.block 0 (.loop (.seq (.reg [.q 47 (.bin .lss true (.t 46) (.t 45))]) (.seq (.cond (.t 47) .skip (.exit 0)) (.seq (.block 1 (.seq (.reg [.l 48 (.ia 6 (.t 44) (.t 46)),.l 49 (.ldn 6 (.t 48)),.e 10 (.al (.agg #[(.int .i64 0),(.int .i64 0),(.int .i64 0),(.string (mk [])),(.slice none 0 0),(.slice none 0 0)]) 76),.s (.st 6 (.t 10) (.t 49))]) (FE))) (.reg [.q 66 (.bin .add true (.t 46) (.i 1)),.v 46 66]))))))) (.seq (.reg [.q 6 (.mv (.i 0))]) .ret))
@[go_sem ↓] theorem aL0:aL w5:=aM _
def aAS:PC:=.seq (.reg [.e 3 (.bx 93 (.t 0)),.e 4 (.bx 42 (.t 1)),.e 5 (.bx 29 (.t 2)),.q 6 (.mv (.i 0))]) (.seq (.reg [.q 15 (.fa 0 (.t 3)),.l 16 (.ldn 3 (.t 15)),.q 17 (.fa 2 (.t 4)),.l 18 (.ld1 (.t 17)),.a 19 (.cl 40 [(.t 16),(.t 18)] []),.v 14 19,.q 20 (.ex (.t 14) 0),.q 21 (.ex (.t 14) 1),.e 7 (.al (.agg #[(.string (mk [])),(.slice none 0 0)]) 48),.s (.st 2 (.t 7) (.t 20)),.v 8 21]) (w5))
def aCB:List RV:=[.mv (.t 6)]
theorem aM2:aP Tryz.prog true ⟨fun r k=>if r=2/\k=18 then .q else if r=8/\k=5 then .q else .own [],fun r=>[2,7,8,9].contains r⟩ Tryz.f79=some (aAS,aCB):=by kernel_rfl
def DM:PC:=.seq (.reg [.e 3 (.bx 93 (.t 0)),.e 4 (.bx 42 (.t 1)),.e 6 (.al (.agg #[(.int .i64 0),(.int .i64 0),(.string (mk [])),(.slice none 0 0),(.slice none 0 0)]) 29)]) (.seq (.seq (.reg [.v 12 2,.q 13 (.bin .lss true (.t 12) (.i 0)),.v 14 13,⟨some 15,(some (14,false)),.l (.ldn 3 (.t 3))⟩,⟨some 16,(some (14,false)),.l (.ldn 4 (.t 4))⟩,⟨some 17,(some (14,false)),.cq 75 [(.t 15),(.t 16)]⟩,⟨some 18,(some (14,false)),.q (.not (.t 17))⟩,.a 19 (.pick (.t 14) (.k (.bool true)) (.t 18))]) (.cond (.t 19) (.seq (.reg [.q 20 (.bd [(.int .i64 0),(.int .i64 0),(.string (mk [])),(.slice none 0 0),(.slice none 0 0)] []),.s (.st 5 (.t 6) (.t 20))]) .ret) .skip)) (.seq (.reg [.q 21 (.fa 0 (.t 4)),.l 22 (.ld1 (.t 21)),.q 23 (.bd [(.int .i64 0),(.int .i64 0),(.string (mk [])),(.slice none 0 0),(.slice none 0 0)] [(0,1,(.t 22))]),.e 7 (.al (.agg #[(.int .i64 0),(.int .i64 0),(.string (mk [])),(.slice none 0 0),(.slice none 0 0)]) 29),.s (.st 5 (.t 7) (.t 23))]) (.seq (.seq (.reg [.q 24 (.fa 0 (.t 4)),.l 25 (.ld1 (.t 24)),.q 26 (.bin .neq true (.t 25) (.i 6))]) (.cond (.t 26) (.seq (.reg [.l 27 (.ldn 5 (.t 7)),.s (.st 5 (.t 6) (.t 27))]) .ret) .skip)) (.seq (.reg [.q 29 (.fa 0 (.t 3)),.l 30 (.ldn 3 (.t 29)),.q 31 (.fa 2 (.t 4)),.l 32 (.ld1 (.t 31)),.a 33 (.cl 40 [(.t 30),(.t 32)] []),.v 28 33,.q 34 (.ex (.t 28) 0),.q 35 (.ex (.t 28) 1),.e 8 (.al (.agg #[(.string (mk [])),(.slice none 0 0)]) 48),.s (.st 2 (.t 8) (.t 34)),.v 9 35]) (.seq (.seq (.reg [.q 36 (.fa 1 (.t 8)),.l 37 (.ld1 (.t 36)),.q 38 (.lnL (.t 37)),.q 39 (.mv (.i 0))]) (.block 0 (.loop (.seq (.reg [.q 40 (.bin .lss true (.t 39) (.t 38))]) (.seq (.cond (.t 40) .skip (.exit 0)) (.seq (.block 1 (.seq (.reg [.l 41 (.ia 7 (.t 37) (.t 39)),.l 42 (.ldn 7 (.t 41)),.e 11 (.al (.agg #[(.int .i64 0),(.string (mk [])),(.int .i64 0),(.int .i64 0),(.string (mk [])),(.slice none 0 0),(.bool false)]) 52),.s (.st 7 (.t 11) (.t 42))]) (.seq (.reg [.q 43 (.fa 6 (.t 11)),.l 44 (.ld1 (.t 43)),.q 45 (.not (.t 44))]) (.cond (.t 45) (.ord  [.q (.q 46 (.fa 4 (.t 7))),.q (.l 47 (.ld1 (.t 46))),.q (.q 48 (.fa 0 (.t 11))),.q (.l 49 (.ld1 (.t 48))),.q (.l 50 (.ldn 3 (.t 3))),.q (.q 51 (.fa 2 (.t 11))),.q (.l 52 (.ldn 4 (.t 51))),.q (.v 53 2),.q (.q 54 (.bin .sub true (.t 53) (.i 1))),.m (.a 55 (.cl 83 [(.t 50),(.t 52),(.t 54)] [])),.rc (.q 46 (.fa 4 (.t 7))),.rc (.l 47 (.ld1 (.t 46))),.rc (.q 48 (.fa 0 (.t 11))),.rc (.l 49 (.ld1 (.t 48))),.q (.q 56 (.bd [(.int .i64 0),(.int .i64 0),(.int .i64 0),(.string (mk [])),(.slice none 0 0),(.slice none 0 0)] [(0,1,(.t 49)),(1,5,(.t 55))])),.m (.e 57 (.bsl 76 6 [(.t 56)])),.rc (.q 46 (.fa 4 (.t 7))),.rc (.l 47 (.ld1 (.t 46))),.m (.e 58 (.ap 76 6 88 (.t 47) (.t 57))),.q (.q 59 (.fa 4 (.t 7))),.m (.s (.st 1 (.t 59) (.t 58)))]) .skip)))) (.reg [.q 60 (.bin .add true (.t 39) (.i 1)),.v 39 60]))))))) (.seq (.reg [.l 61 (.ldn 5 (.t 7)),.s (.st 5 (.t 6) (.t 61))]) .ret))))))
def F7:List RV:=[.ld (.ldn 5 (.t 6))]
theorem aOQ:aP Tryz.prog true ⟨fun r k=>if r=1/\k=5 then .q else .own [],fun _=>false⟩ Tryz.f83=some (DM,F7):=by kernel_rfl
def TA:PC:=.seq (.reg [.q 3 (.mv (.k (.bool false)))]) (.seq (.reg [.v 4 0,.q 5 (.fa 1 (.t 1)),.l 6 (.ld1 (.t 5)),.q 7 (.bin .eql true (.t 4) (.t 6)),.v 3 7]) .ret)
def UW:List RV:=[.mv (.t 3)]
theorem aF6:aP Tryz.prog true ⟨fun _ _=>.own [],fun _=>false⟩ Tryz.f115=some (TA,UW):=by kernel_rfl
def kQ:PC:=.seq (.gh (.reg [.v 25 8,.q 26 (.not (.t 25)),.v 27 26,⟨some 28,(some (27,false)),.q (.mv (.t 5))⟩,⟨some 29,(some (27,false)),.q (.bin .gtr true (.t 28) (.i 0))⟩,⟨some 30,(some (27,false)),.q (.mv (.t 29))⟩,⟨some 31,(some (30,true)),.q (.mv (.t 1))⟩,⟨some 32,(some (30,true)),.q (.mv (.t 5))⟩,⟨some 33,(some (30,true)),.q (.bin .sub true (.t 32) (.i 1))⟩,⟨some 34,(some (30,true)),.l (.ia 6 (.t 31) (.t 33))⟩,⟨some 35,(some (30,true)),.q (.fa 0 (.t 34))⟩,⟨some 36,(some (30,true)),.l (.ld1 (.t 35))⟩,⟨some 37,(some (30,true)),.q (.fa 0 (.t 6))⟩,⟨some 38,(some (30,true)),.l (.ld1 (.t 37))⟩,⟨some 39,(some (30,true)),.q (.bin .geq true (.t 36) (.t 38))⟩,⟨some 40,(some (27,false)),.pick (.t 30) (.t 39) (.k (.bool false))⟩,.a 41 (.pick (.t 27) (.k (.bool true)) (.t 40))])) (.cond (.t 41) (.seq (.reg [.q 4 (.mv (.k (.bool false)))]) .ret) .skip)
@[go_sem ↓] theorem aJP:aL kQ:=aM _
def xK:PC:=.seq (.gh (.reg [.l 19 (.ldn 2 (.t 2)),.q 20 (.fa 0 (.t 6)),.l 21 (.ld1 (.t 20)),.a 22 (.cl 54 [(.t 19),(.t 21)] []),.v 18 22,.q 23 (.ex (.t 18) 0),.q 24 (.ex (.t 18) 1),.e 7 (.al (.agg #[(.int .i64 0),(.string (mk [])),(.int .i64 0),(.int .i64 0),(.string (mk [])),(.slice none 0 0),(.bool false)]) 52),.s (.st 7 (.t 7) (.t 23)),.v 8 24])) (kQ)
@[go_sem ↓] theorem aI9:aL xK:=aM _
def oB:PC:=.seq (.gh (.reg [.q 50 (.fa 6 (.t 10)),.l 51 (.ld1 (.t 50)),.q 52 (.not (.t 51)),.v 53 52,⟨some 54,(some (53,true)),.q (.mv (.t 1))⟩,⟨some 55,(some (53,true)),.q (.mf 151 [(.t 10)])⟩,⟨some 56,(some (53,true)),.cl 150 [(.t 54),(.t 55)] [1]⟩,⟨some 57,(some (53,true)),.q (.not (.t 56))⟩,.a 58 (.pick (.t 53) (.t 57) (.k (.bool false)))])) (.cond (.t 58) (.seq (.reg [.q 4 (.mv (.k (.bool false)))]) .ret) .skip)
@[go_sem ↓] theorem aFK:aL oB:=aM _
def zH:PC:=.seq (.seq (.gh (.reg [.q 43 (.fa 1 (.t 2)),.l 44 (.ld1 (.t 43)),.q 45 (.lnL (.t 44)),.q 46 (.mv (.i 0))])) (.block 2 (.loop (.seq (.reg [.q 47 (.bin .lss true (.t 46) (.t 45))]) (.seq (.cond (.t 47) .skip (.exit 2)) (.seq (.block 3 (.seq (.reg [.l 48 (.ia 7 (.t 44) (.t 46)),.l 49 (.ldn 7 (.t 48)),.e 10 (.al (.agg #[(.int .i64 0),(.string (mk [])),(.int .i64 0),(.int .i64 0),(.string (mk [])),(.slice none 0 0),(.bool false)]) 52),.s (.st 7 (.t 10) (.t 49))]) (oB))) (.reg [.q 59 (.bin .add true (.t 46) (.i 1)),.v 46 59]))))))) (.seq (.reg [.q 4 (.mv (.k (.bool true)))]) .ret)
@[go_sem ↓] theorem aIZ:aL zH:=aM _
def SK:PC:=.seq (.reg [.e 2 (.bx 48 (.t 0)),.q 4 (.mv (.k (.bool false)))]) (.seq (.seq (.reg [.v 11 1,.q 12 (.lnL (.t 11)),.q 13 (.mv (.i 0))]) (.block 0 (.loop (.seq (.reg [.q 14 (.bin .lss true (.t 13) (.t 12))]) (.seq (.cond (.t 14) .skip (.exit 0)) (.seq (.block 1 (.seq (.reg [.v 15 13,.l 16 (.ia 6 (.t 11) (.t 13)),.l 17 (.ldn 6 (.t 16)),.e 6 (.al (.agg #[(.int .i64 0),(.int .i64 0),(.int .i64 0),(.string (mk [])),(.slice none 0 0),(.slice none 0 0)]) 76),.v 5 15,.s (.st 6 (.t 6) (.t 17))]) (xK))) (.reg [.q 42 (.bin .add true (.t 13) (.i 1)),.v 13 42]))))))) (zH))
def TR:List RV:=[.mv (.t 4)]
theorem aFU:aP Tryz.prog true ⟨fun r k=>if r=11/\k=6 then .own [1] else .own [],fun r=>[4,5,8,11].contains r⟩ Tryz.f116=some (SK,TR):=by kernel_rfl
def T6:PC:=.seq (.reg [.e 2 (.bx 76 (.t 0)),.q 3 (.mv (.k (.bool false)))]) (.seq (.reg [.q 4 (.fa 0 (.t 2)),.l 5 (.ld1 (.t 4)),.q 6 (.fa 0 (.t 1)),.l 7 (.ld1 (.t 6)),.q 8 (.bin .eql true (.t 5) (.t 7)),.v 3 8]) .ret)
def TB:List RV:=[.mv (.t 3)]
theorem aFH:aP Tryz.prog true ⟨fun _ _=>.own [],fun _=>false⟩ Tryz.f151=some (T6,TB):=by kernel_rfl
def mW (v:Vl):Bool:=(v.k != 5) && (v.k != 6) && ((v.l.length:Int) == 0) && ((v.f.length:Int) == 0)
def jZ (g:Vl->Int) (most:Int) (d:Int) (x:Vl):Int:=bif decide (d<=most) then max d (g x) else d
def m2 (g:Vl->Int) (most:Int) (d:Int) (x:Int × Vl):Int:=bif decide (d<=most) then max d (g x.2) else d
def FR (g:Vl->Int) (most:Int) (v:Vl):Int:=bif mW v then 0 else 1 + v.f.foldl (m2 g most) (v.l.foldl (jZ g most) 0)
def pO:Nat->Vl->Int
 | 0=>FR (fun _=>0) (-1)
 | n + 1=>FR (pO n) n
def fO:Nat->Vl->Int
 | 0=>fun _=>0
 | n + 1=>pO n
theorem wI (n:Nat):pO n=FR (fO n) ((n:Int) - 1):=by
 cases n with
 | zero=>rfl
 | succ n=>rw [pO,fO]; congr 1; omega
theorem EL {g:Vl->Int} {most B:Int} (hg:∀ x,0<=g x/\g x<=B) {d:Int} (h:0<=d/\d<=B) (x:Vl):0<=jZ g most d x/\jZ g most d x<=B:=by
 unfold jZ
 cases decide (d<=most)
 · exact h
 · have:=hg x; show 0<=max d (g x)/\max d (g x)<=B; omega
theorem MM {g:Vl->Int} {most B:Int} (hg:∀ x,0<=g x/\g x<=B) {d:Int} (h:0<=d/\d<=B) (x:Int × Vl):0<=m2 g most d x/\m2 g most d x<=B:=EL hg h x.2
theorem m8 {α:Type} {f:Int->α->Int} {B:Int} (h:∀ d x,0<=d/\d<=B->0<=f d x/\f d x<=B):∀ (l:List α) (d:Int),0<=d/\d<=B->0<=l.foldl f d/\l.foldl f d<=B
 | [],_,hd=>hd
 | x :: l,d,hd=>m8 h l (f d x) (h d x hd)
theorem nB:∀ (n:Nat) (x:Vl),0<=fO n x/\fO n x<=n
 | 0,_=>⟨Int.le_refl _,Int.le_refl _⟩
 | n + 1,x=>by
  rw [fO,wI]
  unfold FR
  have h1:=m8 (f:=jZ (fO n) ((n:Int) - 1)) (fun d x h=>EL (nB n) h x) x.l 0 ⟨Int.le_refl _,by omega⟩
  have h2:=m8 (f:=m2 (fO n) ((n:Int) - 1)) (fun d x h=>MM (nB n) h x) x.f _ h1
  cases mW x
  · show 0<=1 + _/\1 + _<=_; omega
  · show (0:Int)<=0/\(0:Int)<=_; omega
theorem A8 {α β:Type} {f:β->α->β} {l:List α} {i:Nat} {x:α} (h:l[i]? = some x) (d:β):(l.take (i + 1)).foldl f d=f ((l.take i).foldl f d) x:=by rw [eO h,List.foldl_append]; rfl
def wH (n:Nat):List S->Prop:=fun av=>match av with
 | [.va (.gs r),.va (.c1 (.vl (.int .i64 k)))]=>0 < n/\oL r/\k=(n:Int) - 2/\n<=100
 | _=>False
theorem jL {n:Nat} {av:List S} (h:wH n av):∃ m v,n=m + 1/\av=[.va (.gs (aQ v)),iS .i64 ((m:Int) - 1)]/\VlOk v/\m<=99:=by
 unfold wH at h
 split at h
 · obtain ⟨h0,⟨v,rfl,hv⟩,rfl,hn⟩:=h
   refine ⟨n - 1,v,by omega,?_,hv,by omega⟩
   rw [show (n:Int) - 2=((n - 1:Nat):Int) - 1 by omega]
 · exact h.elim
noncomputable def LJ (n:Nat):List S->A:=fun av=>match av with
 | [.va (.gs r),.va (.c1 (.vl (.int .i64 _)))]=>iA .i64 (fO n (C.vv r))
 | _=>.gs []
noncomputable def CF (n:Nat):Fun:=⟨wH n,LJ n,fun av h=>by obtain ⟨m,v,_,rfl,_⟩:=jL h; trivial⟩
theorem ME {n:Nat}:∀ av H K,(CF n).sp av H K->av.length=2:=fun av H K h=>by obtain ⟨m,v,_,rfl,_⟩:=jL h.1.1; rfl
attribute [go_sem] CF wH LJ
theorem IN:∀ n,Meets Tryz.prog 41 (CF n).sp
 | 0=>⟨by kernel_rfl,by rintro xs vs E ro w K _ _ _ ⟨⟨h,_⟩,_⟩; obtain ⟨m,_,h,_⟩:=jL h; omega⟩
 | n + 1=>by
  refine aD Tryz.func41 aLG 2 (by rw [Tryz.ntmps41]; decide) (aH (IN n) (aB _)) ME ?_
  rintro av H K ⟨⟨h,rfl⟩,hK⟩
  obtain ⟨m,v,hm,rfl,hv,hm99⟩:=jL h
  obtain rfl:m=n:=by omega
  have hK:K (iS .i64 (pO m v)) []:=by
   have:(CF (m + 1)).val [.va (.gs (aQ v)),iS .i64 ((m:Int) - 1)]=iA .i64 (pO m v):=by simp -dsimp only [go_sem,fO]
   rw [this] at hK; exact hK
  clear h hm
  rw [wI] at hK
  unfold FR at hK
  have hll:=hv.ll
  have hlf:=hv.lf
  have bd1:=fun i=>m8 (f:=jZ (fO m) ((m:Int) - 1)) (fun d x h=>EL (nB m) h x) (v.l.take i) 0 ⟨Int.le_refl _,by omega⟩
  have fin:∀ (z:Int) (R:Hp),(bif mW v then 0 else 1 + v.f.foldl (m2 (fO m) ((m:Int) - 1)) (v.l.foldl (jZ (fO m) ((m:Int) - 1)) 0))=z->W.Fin 0 K (iS .i64 z) R:=fun z R h=>by
   rw [h] at hK; exact .sel [] (by simp) (by simp) rfl (.done (by simpa [go_sem] using hK))
  clear hK
  cases hsc:mW v with
  | true=>
   have hs':=hsc
   unfold mW at hs'
   simp (maxSteps:=1000000) -dsimp only [go_sem,aK v,OO,PM,hs']
   exact fin _ _ (by rw [hsc]; rfl)
  | false=>
   have hs':=hsc
   unfold mW at hs'
   rw [hsc] at fin
   simp (maxSteps:=1000000) -dsimp only [go_sem,aK v,OO,PM,hs']
   refine aU (α:=Nat) (fun i=>[(1,iS .i64 ((m:Int) - 1)),(2,.va (.c1 (.pt 0 0))),(5,iS .i64 ((v.l.take i).foldl (jZ (fO m) ((m:Int) - 1)) 0)),(31,.va (.c1 (.fz (v.l.map aQ)))),(32,iS .i64 v.l.length),(33,iS .i64 i)]) (fun _=>[.cells (bE v) 29])
    (fun i=>i<=v.l.length) (fun i=>v.l.length - i) 0 1 (Nat.zero_le _) ?_ ?_ ?_
   · simp -dsimp only [go_sem]<;>simp
   · simp -dsimp only [go_sem,bE]<;>simp
   intro i hi
   rcases a8 i v.l.length with hlt | hge
   · have hg:decide ((i:Int) < (v.l.length:Int))=true:=by simp; omega
     obtain ⟨x,hx⟩:∃ t,v.l[i]? = some t:=⟨_,aV hlt⟩
     have q1:=mH hx
     have hxm:=b5 hx
     have k1:=dE (hv.l x hxm)
     have k2:=gH x
     have ft:=A8 (f:=jZ (fO m) ((m:Int) - 1)) hx 0
     have hbd:=bd1 i
     generalize hd:(v.l.take i).foldl (jZ (fO m) ((m:Int) - 1)) 0=d at *
     have hgb:=nB m x
     cases hc:decide (d<=(m:Int) - 1) with
     | true=>
      have hm0:0 < m:=by have:=of_decide_eq_true hc; omega
      have he:(m:Int) - 1 - 1=(m:Int) - 2:=by omega
      have hn:m<=100:=by omega
      simp (maxSteps:=1000000) -dsimp only [go_sem,hg,↓q1,bE,k1,k2,hc,he,hm0,hn]
      refine ⟨by omega,by omega,by omega,aE (i + 1) 1 (by omega) (by omega) ?_ ?_⟩
      · simp -dsimp only [go_sem,ft,jZ,hc]<;>simp
      · simp -dsimp only [go_sem,bE]<;>simp [bE]
     | false=>
      simp (maxSteps:=1000000) -dsimp only [go_sem,hg,↓q1,bE,hc]
      refine ⟨by omega,by omega,aE (i + 1) 1 (by omega) (by omega) ?_ ?_⟩
      · simp -dsimp only [go_sem,ft,jZ,hc]<;>simp
      · simp -dsimp only [go_sem,bE]<;>simp [bE]
   · have hg:decide ((i:Int) < (v.l.length:Int))=false:=by simp; omega
     obtain rfl:i=v.l.length:=by omega
     have hbd:=bd1 v.l.length
     rw [List.take_length] at hbd ⊢
     simp (maxSteps:=1000000) -dsimp only [go_sem,hg,bE]
     generalize v.l.foldl (jZ (fO m) ((m:Int) - 1)) 0=D at *
     have bd2:=fun i=>m8 (f:=m2 (fO m) ((m:Int) - 1)) (fun d x h=>MM (nB m) h x) (v.f.take i) D hbd
     clear hi hge hg bd1
     refine aU (α:=Nat) (fun i=>[(1,iS .i64 ((m:Int) - 1)),(2,.va (.c1 (.pt 0 0))),(5,iS .i64 ((v.f.take i).foldl (m2 (fO m) ((m:Int) - 1)) D)),(48,.va (.c1 (.fz (v.f.map bD)))),(49,iS .i64 v.f.length),(50,iS .i64 i)]) (fun _=>[.cells (bE v) 29])
      (fun i=>i<=v.f.length) (fun i=>v.f.length - i) 0 1 (Nat.zero_le _) ?_ ?_ ?_
     · simp -dsimp only [go_sem]<;>simp
     · simp -dsimp only [go_sem,bE]<;>simp
     intro i hi
     rcases a8 i v.f.length with hlt | hge
     · have hg:decide ((i:Int) < (v.f.length:Int))=true:=by simp; omega
       obtain ⟨x,hx⟩:∃ t,v.f[i]? = some t:=⟨_,aV hlt⟩
       have q1:=iF hx
       have hxm:=b5 hx
       have k1:=dE (hv.f x hxm)
       have k2:=gH x.2
       have ft:=A8 (f:=m2 (fO m) ((m:Int) - 1)) hx D
       have hbd2:=bd2 i
       generalize hd:(v.f.take i).foldl (m2 (fO m) ((m:Int) - 1)) D=d at *
       have hgb:=nB m x.2
       cases hc:decide (d<=(m:Int) - 1) with
       | true=>
        have hm0:0 < m:=by have:=of_decide_eq_true hc; omega
        have he:(m:Int) - 1 - 1=(m:Int) - 2:=by omega
        have hn:m<=100:=by omega
        simp (maxSteps:=1000000) -dsimp only [go_sem,hg,↓q1,bE,k1,k2,hc,he,hm0,hn]
        refine ⟨by omega,by omega,by omega,aE (i + 1) 1 (by omega) (by omega) ?_ ?_⟩
        · simp -dsimp only [go_sem,ft,m2,hc]<;>simp
        · simp -dsimp only [go_sem,bE]<;>simp [bE]
       | false=>
        simp (maxSteps:=1000000) -dsimp only [go_sem,hg,↓q1,bE,hc]
        refine ⟨by omega,by omega,aE (i + 1) 1 (by omega) (by omega) ?_ ?_⟩
        · simp -dsimp only [go_sem,ft,m2,hc]<;>simp
        · simp -dsimp only [go_sem,bE]<;>simp [bE]
     · have hg:decide ((i:Int) < (v.f.length:Int))=false:=by simp; omega
       obtain rfl:i=v.f.length:=by omega
       have hbd2:=bd2 v.f.length
       rw [List.take_length] at hbd2 ⊢
       simp (maxSteps:=1000000) -dsimp only [go_sem,hg,bE]
       exact ⟨by omega,fin _ _ rfl⟩
theorem u6:∀ N,Meets Tryz.prog 75 (J6 N).sp
 | 0=>⟨by kernel_rfl,by rintro xs vs E ro w K _ _ _ ⟨⟨h,_⟩,_⟩; obtain ⟨_,a,_,_,_,h⟩:=kG h; have:=a.h_pos; omega⟩
 | N + 1=>by
  refine aD Tryz.func75 aNH 2 (by rw [Tryz.ntmps75]; decide) (aH (u6 N) (aC iZ (aC E4 (aB _)))) NT ?_
  rintro av H K ⟨⟨h,rfl⟩,hK⟩
  obtain ⟨sc,t,rfl,hs,ht,hh⟩:=kG h
  have hK:K (bS (valF sc.ss sc.es t)) []:=by
   have:(J6 (N + 1)).val [.va (.gs (aJ sc)),.va (.gs (aW t))]=bA (valF sc.ss sc.es t):=by simp -dsimp only [go_sem]
   rw [this] at hK; exact hK
  clear h
  have fin:∀ (b:Bool) (R:Hp),valF sc.ss sc.es t=b->W.Fin 0 K (bS b) R:=fun b R h=>by
   rw [h] at hK
   exact .sel [] (by simp) (by simp) rfl (.done (by simp -dsimp only [go_sem]; simpa using hK))
  clear hK
  cases t with
  | mk k s n e=>
  have hF:=valF.eq_1 sc.ss sc.es k s n e
  simp (maxSteps:=1000000) -dsimp only [go_sem,aJ,aW,bH,aBI,aA5]
  refine ⟨fun k1=>fin _ _ (by rw [hF,k1]; simp only [bI]; ac_rfl),fun k1=>aA rfl (.done ?_)⟩
  rw [k1,aX] at hF
  simp (maxSteps:=1000000) -dsimp only [go_sem,E6]
  refine ⟨fun k2=>aA rfl (.done ?_),fun k2=>aA rfl (.done ?_)⟩
  · rw [k2,bI] at hF
    have hF':valF sc.ss sc.es (.mk k s n e)=((bl n == [] && (e.length:Int) == 0) && (s == 8 || s == 16 || s == 32 || s == 64)):=by rw [hF]; ac_rfl
    clear hF
    cases hp:(bl n == [] && (e.length:Int) == 0) with
    | false=>
     simp (maxSteps:=1000000) -dsimp only [go_sem,lA]
     exact fin _ _ (by rw [hF',hp]; rfl)
    | true=>
     rw [hp,Bool.true_and] at hF'
     cases h8:s == 8 with
     | true=>
      simp (maxSteps:=1000000) -dsimp only [go_sem,lA,h8]
      exact fin _ _ (by rw [hF',h8]; rfl)
     | false=>
     cases h16:s == 16 with
     | true=>
      simp (maxSteps:=1000000) -dsimp only [go_sem,lA,h8,h16]
      exact fin _ _ (by rw [hF',h8,h16]; rfl)
     | false=>
     cases h32:s == 32 with
     | true=>
      simp (maxSteps:=1000000) -dsimp only [go_sem,lA,h8,h16,h32]
      exact fin _ _ (by rw [hF',h8,h16,h32]; rfl)
     | false=>
      simp (maxSteps:=1000000) -dsimp only [go_sem,lA,h8,h16,h32]
      exact fin _ _ (by rw [hF',h8,h16,h32]; rfl)
  rw [k2,aX] at hF
  simp (maxSteps:=1000000) -dsimp only [go_sem,CU]
  refine ⟨fun k3=>aA rfl (.done ?_),fun k3=>aA rfl (.done ?_)⟩
  · rw [k3] at hF
    simp only [bI,Bool.and_false,Bool.or_false] at hF
    have hF':valF sc.ss sc.es (.mk k s n e)=((bl n == [] && (e.length:Int) == 0) && (s == 8 || s == 16 || s == 32)):=by rw [hF]; ac_rfl
    clear hF
    cases hp:(bl n == [] && (e.length:Int) == 0) with
    | false=>
     simp (maxSteps:=1000000) -dsimp only [go_sem,m7]
     exact fin _ _ (by rw [hF',hp]; rfl)
    | true=>
     rw [hp,Bool.true_and] at hF'
     cases h8:s == 8 with
     | true=>
      simp (maxSteps:=1000000) -dsimp only [go_sem,m7,h8]
      exact fin _ _ (by rw [hF',h8]; rfl)
     | false=>
     cases h16:s == 16 with
     | true=>
      simp (maxSteps:=1000000) -dsimp only [go_sem,m7,h8,h16]
      exact fin _ _ (by rw [hF',h8,h16]; rfl)
     | false=>
      simp (maxSteps:=1000000) -dsimp only [go_sem,m7,h8,h16]
      exact fin _ _ (by rw [hF',h8,h16]; rfl)
  rw [k3,aX] at hF
  simp (maxSteps:=1000000) -dsimp only [go_sem,EG]
  refine ⟨fun k4=>fin _ _ (by rw [hF,k4]; simp only [bI]; ac_rfl),fun k4=>aA rfl (.done ?_)⟩
  rw [k4,aX] at hF
  simp (maxSteps:=1000000) -dsimp only [go_sem,zC]
  refine ⟨fun k5=>aA rfl (.done ?_),fun k5=>aA rfl (.done ?_)⟩
  · rw [k5,bI] at hF
    have no:∀ {R:Hp},(bl n == [])=false\/decide (1<=s)=false\/decide (s<=32)=false\/((e.length:Int) == 1)=false->W.Fin 0 K (bS false) R:=fun h=>fin _ _ (by
     rw [hF]
     rcases h with h | h | h | h
     · rw [h,Bool.and_false,Bool.false_and]
     · rw [h,Bool.false_and,Bool.false_and,Bool.false_and]
     · rw [h,Bool.and_false,Bool.false_and,Bool.false_and]
     · match e,h with
       | [],_=>simp [kD]
       | [u],h=>simp at h
       | u :: v :: r,_=>simp [kD])
    cases h1:bl n == [] with
    | false=>
     simp (maxSteps:=1000000) -dsimp only [go_sem,iU,h1]
     exact no (.inl h1)
    | true=>
    cases h2:decide (1<=s) with
    | false=>
     simp (maxSteps:=1000000) -dsimp only [go_sem,iU,h1,h2]
     exact no (.inr (.inl h2))
    | true=>
    cases h3:decide (s<=32) with
    | false=>
     simp (maxSteps:=1000000) -dsimp only [go_sem,iU,h1,h2,h3]
     exact no (.inr (.inr (.inl h3)))
    | true=>
    cases h4:(e.length:Int) == 1 with
    | false=>
     simp (maxSteps:=1000000) -dsimp only [go_sem,iU,h1,h2,h3,h4]
     exact no (.inr (.inr (.inr h4)))
    | true=>
     have hl1:(e.length:Int)=1:=by simpa using h4
     obtain ⟨u,rfl⟩:∃ u,e=[u]:=List.length_eq_one_iff.1 (by omega)
     have hF':valF sc.ss sc.es (.mk k s n [u])=valF sc.ss sc.es u:=by rw [hF,h1,h2,h3]; simp [kD]
     have hu2:u.h<=N:=by rw [Ty.h,Ty.hs,Ty.hs] at hh; omega
     have hu:p8 (aW u):=mZ (ht.e u (by simp [Ty.e]))
     have hsf:=oJ hs
     rw [aJ] at hsf
     have hsd:=lL sc
     rw [aJ] at hsd
     have h4':(((1:Nat):Int) == 1)=true:=rfl
     simp (maxSteps:=1000000) -dsimp only [go_sem,iU,h1,h2,h3,h4']
     refine ⟨⟨by omega,fun r hr=>by subst hr; exact dO u⟩,fun r hr=>?_⟩
     subst hr
     simp (maxSteps:=1000000) -dsimp only [go_sem,hsf,hsd,hu,dO]
     exact ⟨hu2,fin _ _ hF'⟩
  rw [k5,aX] at hF
  simp (maxSteps:=1000000) -dsimp only [go_sem,xQ]
  refine ⟨fun k6=>aA rfl (.done ?_),fun k6=>aA rfl (.done ?_)⟩
  · rw [k6,bI] at hF
    simp (maxSteps:=1000000) -dsimp only [go_sem,zM]
    refine i7 hs ?_
    simp (maxSteps:=1000000) -dsimp only [go_sem,aI]
    refine aA rfl (.done ?_)
    cases h1:cA sc.ss n<;>cases h2:s == 0 <;>
    · simp (maxSteps:=1000000) -dsimp only [go_sem,zO,h2]
      exact fin _ _ (by rw [hF,h1,h2]; rfl)
  rw [k6,aX] at hF
  simp (maxSteps:=1000000) -dsimp only [go_sem,yP]
  refine ⟨fun k7=>aA rfl (.done ?_),fun k7=>fin _ _ (by rw [hF,k7]; rfl)⟩
  rw [k7,bI] at hF
  simp (maxSteps:=1000000) -dsimp only [go_sem,z6]
  refine y8 hs ?_
  simp (maxSteps:=1000000) -dsimp only [go_sem,a6]
  refine aA rfl (.done ?_)
  cases h1:dH sc.es n<;>cases h2:s == 0 <;>
  · simp (maxSteps:=1000000) -dsimp only [go_sem,xD,h2]
    exact fin _ _ (by rw [hF,h1,h2]; rfl)
theorem s9:Meets Tryz.prog 75 r0Fn.sp:=d5 0 u6 fun av H K ⟨⟨h,e⟩,hK⟩=>by
 obtain ⟨a,b,rfl,ha,hb⟩:=vH h
 exact ⟨b.h,⟨⟨⟨oJ ha,mZ hb,by rw [pU]; exact Nat.le_refl _⟩,e⟩,hK⟩⟩
def gB (s:Sc) (t:Ty) (n:Int):Bool:=
 bif t.k == 1 then n == 0 || n == 1
 else bif t.k == 2 then t.s == 64 || (decide (-(2 ^ (t.s.toNat - 1):Int)<=n) && decide (n < (2 ^ (t.s.toNat - 1):Int)))
 else bif t.k == 3 then decide (0<=n) && decide (n < (2 ^ t.s.toNat:Int))
 else bif t.k == 7 then ((eN s.es t.n).getD default).vs.any fun x=>x == n else false
def oX (s:Sc) (t:Ty) (n:Int) (str:ByteArray) (ll lf:Int):Int:=bif !(bl str == []) || decide (0 < ll) || decide (0 < lf) then 13 else bif gB s t n then 0 else 4
def nS (t:Ty) (n:Int) (str:ByteArray) (ll lf:Int):Int:=bif n != 0 || decide (0 < ll) || decide (0 < lf) then 13 else bif decide (t.s < ((bl str).length:Int)) then 3 else 0
def ltO:Option Int->Int->Bool
 | none,_=>true
 | some q,n=>decide (q < n)
def ftA (fs:List Fl):Option Int->List (Int × Vl)->Bool
 | _,[]=>true
 | p,x :: r=>(fF fs x.1).isSome && ltO p x.1 && ftA fs (some x.1) r
theorem tI (fs:List Fl) (p:Option Int) (x:Int × Vl) (r:List (Int × Vl)):ftA fs p (x :: r)=((fF fs x.1).isSome && ltO p x.1 && ftA fs (some x.1) r):=by rw [ftA.eq_def]
theorem WD (fs:List Fl) (p:Option Int):ftA fs p []=true:=by rw [ftA.eq_def]
def nR (l:List (Int × Vl)) (n:Int):Bool:=l.any fun y=>y.1 == n
def dX (fs:List Fl) (l:List (Int × Vl)):Bool:=ftA fs none l && fs.all fun f=>f.opt || nR l f.num
mutual
def cY (s:Sc) (t:Ty):Vl->Int
 | .mk k n str l f=>
  bif !(valF s.ss s.es t) || k != t.k then 13
  else bif t.k == 4 then nS t n str l.length f.length
  else bif t.k == 5 then (bif n != 0 || !(bl str == []) || decide (0 < (f.length:Int)) then 13 else bif decide (t.s < (l.length:Int)) then 3 else iR s (t.e.headD default) l)
  else bif t.k == 6 then (bif n != 0 || !(bl str == []) || decide (0 < (l.length:Int)) || !(dX ((fS s.ss t.n).getD default).fs f) then 13 else iQ s ((fS s.ss t.n).getD default).fs f)
  else oX s t n str l.length f.length
def iR (s:Sc) (t:Ty):List Vl->Int
 | []=>0
 | v :: r=>bif cY s t v != 0 then cY s t v else iR s t r
def iQ (s:Sc) (fs:List Fl):List (Int × Vl)->Int
 | []=>0
 | (i,v) :: r=>bif cY s ((fF fs i).getD default).ty v != 0 then cY s ((fF fs i).getD default).ty v else iQ s fs r
end
theorem KM (s:Sc) (t:Ty) (v:Vl):cY s t v=bif !(valF s.ss s.es t) || v.k != t.k then 13
 else bif t.k == 4 then nS t v.n v.s v.l.length v.f.length
 else bif t.k == 5 then (bif v.n != 0 || !(bl v.s == []) || decide (0 < (v.f.length:Int)) then 13 else bif decide (t.s < (v.l.length:Int)) then 3 else iR s (t.e.headD default) v.l)
 else bif t.k == 6 then (bif v.n != 0 || !(bl v.s == []) || decide (0 < (v.l.length:Int)) || !(dX ((fS s.ss t.n).getD default).fs v.f) then 13 else iQ s ((fS s.ss t.n).getD default).fs v.f)
 else oX s t v.n v.s v.l.length v.f.length:=by cases v; rw [cY]; rfl
theorem C4 (s:Sc) (fs:List Fl) (x:Int × Vl) (r:List (Int × Vl)):iQ s fs (x :: r)=bif cY s ((fF fs x.1).getD default).ty x.2 != 0 then cY s ((fF fs x.1).getD default).ty x.2 else iQ s fs r:=by cases x; rw [iQ]
abbrev LW:S:=.va (.c1 (.fn 115 [(false,[.pt 0 0])]))
def aBG:W.Spec:=fun av H K=>∃ (x:Int) (v:Vl),av=[iS .i64 x,.va (.c1 (.pt 0 0))]/\H=[.cells (bE v) 29]/\K (bS (x == v.n)) [.cells (bE v) 29]
theorem aAQ {x:Int} {v:Vl} {K:S->Hp->Prop} (hK:K (bS (x == v.n)) [.cells (bE v) 29]):aBG [iS .i64 x,.va (.c1 (.pt 0 0))] [.cells (bE v) 29] K:=⟨x,v,rfl,rfl,hK⟩
theorem PT:Meets Tryz.prog 115 aBG:=by
 refine aD Tryz.func115 aF6 2 (by rw [Tryz.ntmps115]; decide) (aB _) (fun av H K h=>by obtain ⟨_,_,rfl,_⟩:=h; rfl) ?_
 rintro av H K ⟨x,v,rfl,rfl,hK⟩
 simp -dsimp only [go_sem,bE,TA,UW]
 exact .sel [0] (by simp) (by simp) rfl (.done (by simpa [go_sem,bE] using hK))
def vU (p:Int->Bool):List Int->Nat->Int
 | [],_=>-1
 | x :: l,i=>bif p x then (i:Int) else vU p l (i + 1)
theorem HA (p:Int->Bool):∀ (l:List Int) (i:Nat),decide (0<=vU p l i)=l.any p
 | [],_=>rfl
 | x :: l,i=>by
  rw [List.any_cons,vU]
  cases h:p x
  · rw [aX,HA p l (i + 1),Bool.false_or]
  · simp
def Z7:W.Spec:=fun av H K=>∃ (l:List Int) (v:Vl),av=[.va (.c1 (.fz (l.map eH))),LW]/\H=[.cells (bE v) 29]/\l.length<=9223372036854775807/\K (iS .i64 (vU (fun x=>x == v.n) l 0)) [.cells (bE v) 29]
theorem aAM {l:List Int} {v:Vl} {K:S->Hp->Prop} (h:l.length<=9223372036854775807) (hK:K (iS .i64 (vU (fun x=>x == v.n) l 0)) [.cells (bE v) 29]):Z7 [.va (.c1 (.fz (l.map eH))),LW] [.cells (bE v) 29] K:=⟨l,v,rfl,rfl,h,hK⟩
theorem XE:Meets Tryz.prog 149 Z7:=by
 refine aD Tryz.func149 aFY 2 (by rw [Tryz.ntmps149]; decide) (aC PT (aB _)) (fun av H K h=>by obtain ⟨_,_,rfl,_⟩:=h; rfl) ?_
 rintro av H K ⟨l,v,rfl,rfl,hl,hK⟩
 simp -dsimp only [go_sem,SO,TZ]
 refine aU (α:=Nat) (fun i=>[(0,.va (.c1 (.fz (l.map eH)))),(1,LW),(7,iS .i64 l.length),(8,iS .i64 i)]) (fun _=>[.cells (bE v) 29])
  (fun i=>i<=l.length/\vU (fun x=>x == v.n) (l.drop i) i=vU (fun x=>x == v.n) l 0) (fun i=>l.length - i) 0 1 ⟨Nat.zero_le _,rfl⟩ ?_ ?_ ?_
 · simp -dsimp only [go_sem]<;>simp
 · simp -dsimp only [go_sem,bE]<;>simp
 rintro i ⟨hi,ho⟩
 rcases a8 i l.length with hlt | hge
 · have hg:decide ((i:Int) < (l.length:Int))=true:=by simp; omega
   have hx:l[i]? = some l[i]:=aV hlt
   have q2:=aY (row:=eH) hx
   rw [List.drop_eq_getElem_cons hlt,vU] at ho
   generalize l[i]=y at *
   simp -dsimp only [go_sem,hg,↓q2]
   refine ⟨by omega,aAQ ?_⟩
   cases hc:y == v.n with
   | true=>
    rw [hc,bI] at ho
    simp -dsimp only [go_sem]
    exact .sel [0] (by simp) (by simp) rfl (.done (by simpa [go_sem,bE,ho] using hK))
   | false=>
    rw [hc,aX] at ho
    simp -dsimp only [go_sem]
    refine ⟨by omega,aE (i + 1) 1 ⟨by omega,ho⟩ (by omega) ?_ ?_⟩
    · simp -dsimp only [go_sem]<;>simp
    · simp -dsimp only [go_sem,bE]<;>simp [bE]
 · have hg:decide ((i:Int) < (l.length:Int))=false:=by simp; omega
   have:l.drop i=[]:=List.drop_eq_nil_iff.2 (by omega)
   rw [this] at ho
   simp -dsimp only [go_sem,hg]
   exact .sel [0] (by simp) (by simp) rfl (.done (by rw [show vU (fun x=>x == v.n) l 0=-1 from ho.symm] at hK; simpa [go_sem,bE] using hK))
def ZZ:W.Spec:=fun av H K=>∃ (l:List Int) (v:Vl),av=[.va (.c1 (.fz (l.map eH))),LW]/\H=[.cells (bE v) 29]/\l.length<=9223372036854775807/\K (bS (l.any fun x=>x == v.n)) [.cells (bE v) 29]
theorem aAF {l:List Int} {v:Vl} {K:S->Hp->Prop} (h:l.length<=9223372036854775807) (hK:K (bS (l.any fun x=>x == v.n)) [.cells (bE v) 29]):ZZ [.va (.c1 (.fz (l.map eH))),LW] [.cells (bE v) 29] K:=⟨l,v,rfl,rfl,h,hK⟩
theorem KA:Meets Tryz.prog 114 ZZ:=by
 refine aD Tryz.func114 aHU 2 (by rw [Tryz.ntmps114]; decide) (aC XE (aB _)) (fun av H K h=>by obtain ⟨_,_,rfl,_⟩:=h; rfl) ?_
 rintro av H K ⟨l,v,rfl,rfl,hl,hK⟩
 simp -dsimp only [go_sem,bE,RX,SM]
 refine aAM hl ?_
 simp -dsimp only [go_sem,bE,HA]
 exact .sel [0] (by simp) (by simp) rfl (.done (by simpa [go_sem,bE] using hK))
abbrev K6:S:=.va (.c1 (.fn 151 [(false,[.pt 0 0])]))
def IP (x:Int × Vl):List C:=[.vl (.int .i64 x.1),.vl (.int .i64 x.2.k),.vl (.int .i64 x.2.n),.vl (.string x.2.s),.fz (x.2.l.map aQ),.fz (x.2.f.map bD)]
def T4:W.Spec:=fun av H K=>∃ (x:Int × Vl) (f:Fl),av=[.va (.gs (IP x)),.va (.c1 (.pt 0 0))]/\H=[.cells (aR f) 52]/\K (bS (x.1 == f.num)) [.cells (aR f) 52]
theorem W4 {x:Int × Vl} {f:Fl} {K:S->Hp->Prop} (hK:K (bS (x.1 == f.num)) [.cells (aR f) 52]):T4 [.va (.gs (IP x)),.va (.c1 (.pt 0 0))] [.cells (aR f) 52] K:=⟨x,f,rfl,rfl,hK⟩
theorem aD8:Meets Tryz.prog 151 T4:=by
 refine aD Tryz.func151 aFH 2 (by rw [Tryz.ntmps151]; decide) (aB _) (fun av H K h=>by obtain ⟨_,_,rfl,_⟩:=h; rfl) ?_
 rintro av H K ⟨x,f,rfl,rfl,hK⟩
 simp -dsimp only [go_sem,IP,aR,T6,TB]
 exact .sel [0] (by simp) (by simp) rfl (.done (by simpa [go_sem,aR] using hK))
def g8 (n:Int):List (Int × Vl)->Nat->Int
 | [],_=>-1
 | x :: l,i=>bif x.1 == n then (i:Int) else g8 n l (i + 1)
theorem GQ (n:Int):∀ (l:List (Int × Vl)) (i:Nat),decide (0<=g8 n l i)=nR l n
 | [],_=>rfl
 | x :: l,i=>by
  rw [nR,List.any_cons,g8]
  cases h:x.1 == n
  · rw [aX,GQ n l (i + 1),Bool.false_or]; rfl
  · simp
def aDP:W.Spec:=fun av H K=>∃ (l:List (Int × Vl)) (f:Fl),av=[.va (.c1 (.fz (l.map bD))),K6]/\H=[.cells (aR f) 52]/\l.length<=9223372036854775807/\K (iS .i64 (g8 f.num l 0)) [.cells (aR f) 52]
theorem ZD {l:List (Int × Vl)} {f:Fl} {K:S->Hp->Prop} (h:l.length<=9223372036854775807) (hK:K (iS .i64 (g8 f.num l 0)) [.cells (aR f) 52]):aDP [.va (.c1 (.fz (l.map bD))),K6] [.cells (aR f) 52] K:=⟨l,f,rfl,rfl,h,hK⟩
theorem XV:Meets Tryz.prog 117 aDP:=by
 refine aD Tryz.func117 S9 2 (by rw [Tryz.ntmps117]; decide) (aC aD8 (aB _)) (fun av H K h=>by obtain ⟨_,_,rfl,_⟩:=h; rfl) ?_
 rintro av H K ⟨l,f,rfl,rfl,hl,hK⟩
 simp -dsimp only [go_sem,JY,JF]
 refine aU (α:=Nat) (fun i=>[(0,.va (.c1 (.fz (l.map bD)))),(1,K6),(7,iS .i64 l.length),(8,iS .i64 i)]) (fun _=>[.cells (aR f) 52])
  (fun i=>i<=l.length/\g8 f.num (l.drop i) i=g8 f.num l 0) (fun i=>l.length - i) 0 1 ⟨Nat.zero_le _,rfl⟩ ?_ ?_ ?_
 · simp -dsimp only [go_sem]<;>simp
 · simp -dsimp only [go_sem,aR]<;>simp
 rintro i ⟨hi,ho⟩
 rcases a8 i l.length with hlt | hge
 · have hg:decide ((i:Int) < (l.length:Int))=true:=by simp; omega
   have hx:l[i]? = some l[i]:=aV hlt
   have q2:=iF hx
   rw [List.drop_eq_getElem_cons hlt,g8] at ho
   generalize l[i]=y at *
   simp -dsimp only [go_sem,hg,↓q2]
   refine ⟨by omega,W4 ?_⟩
   cases hc:y.1 == f.num with
   | true=>
    rw [hc,bI] at ho
    simp -dsimp only [go_sem]
    exact .sel [0] (by simp) (by simp) rfl (.done (by simpa [go_sem,aR,ho] using hK))
   | false=>
    rw [hc,aX] at ho
    simp -dsimp only [go_sem]
    refine ⟨by omega,aE (i + 1) 1 ⟨by omega,ho⟩ (by omega) ?_ ?_⟩
    · simp -dsimp only [go_sem]<;>simp
    · simp -dsimp only [go_sem,aR]<;>simp [aR]
 · have hg:decide ((i:Int) < (l.length:Int))=false:=by simp; omega
   have:l.drop i=[]:=List.drop_eq_nil_iff.2 (by omega)
   rw [this] at ho
   simp -dsimp only [go_sem,hg]
   exact .sel [0] (by simp) (by simp) rfl (.done (by rw [show g8 f.num l 0=-1 from ho.symm] at hK; simpa [go_sem,aR] using hK))
def ZU:W.Spec:=fun av H K=>∃ (l:List (Int × Vl)) (f:Fl),av=[.va (.c1 (.fz (l.map bD))),K6]/\H=[.cells (aR f) 52]/\l.length<=9223372036854775807/\K (bS (nR l f.num)) [.cells (aR f) 52]
theorem aB8 {l:List (Int × Vl)} {f:Fl} {K:S->Hp->Prop} (h:l.length<=9223372036854775807) (hK:K (bS (nR l f.num)) [.cells (aR f) 52]):ZU [.va (.c1 (.fz (l.map bD))),K6] [.cells (aR f) 52] K:=⟨l,f,rfl,rfl,h,hK⟩
theorem KF:Meets Tryz.prog 150 ZU:=by
 refine aD Tryz.func150 aIB 2 (by rw [Tryz.ntmps150]; decide) (aC XV (aB _)) (fun av H K h=>by obtain ⟨_,_,rfl,_⟩:=h; rfl) ?_
 rintro av H K ⟨l,f,rfl,rfl,hl,hK⟩
 simp -dsimp only [go_sem,aR,VH,VE]
 refine ZD hl ?_
 simp -dsimp only [go_sem,aR,GQ]
 exact .sel [0] (by simp) (by simp) rfl (.done (by simpa [go_sem,aR] using hK))
def BZ (P:Sc->Ty->Vl->Prop):List S->Prop:=fun av=>match av with
 | [.va (.gs r),.va (.gs q),.va (.gs p)]=>mC r/\p8 q/\oL p/\P (C.sc r) (C.ty q) (C.vv p)
 | _=>False
theorem oW {P:Sc->Ty->Vl->Prop} {av:List S} (h:BZ P av):∃ s t v,av=[.va (.gs (aJ s)),.va (.gs (aW t)),.va (.gs (aQ v))]/\s.fit/\TyOk t/\VlOk v/\P s t v:=by
 unfold BZ at h
 split at h
 · obtain ⟨⟨s,rfl,hs⟩,⟨t,rfl,ht⟩,⟨v,rfl,hv⟩,h⟩:=h
   rw [lL,pU,gJ] at h
   exact ⟨s,t,v,rfl,hs,ht,hv,h⟩
 · exact h.elim
noncomputable def TK (f:Sc->Ty->Vl->Value):List S->A:=fun av=>match av with
 | [.va (.gs r),.va (.gs q),.va (.gs p)]=>.c1 (.vl (f (C.sc r) (C.ty q) (C.vv p)))
 | _=>.gs []
noncomputable def iE (P:Sc->Ty->Vl->Prop) (f:Sc->Ty->Vl->Value):Fun:=⟨BZ P,TK f,fun av h=>by obtain ⟨_,_,_,rfl,_⟩:=oW h; trivial⟩
theorem gT {P:Sc->Ty->Vl->Prop} {f:Sc->Ty->Vl->Value}:∀ av H K,(iE P f).sp av H K->av.length=3:=fun av H K h=>by obtain ⟨_,_,_,rfl,_⟩:=oW h.1.1; rfl
attribute [go_sem] iE BZ TK
theorem fA {P:Sc->Ty->Vl->Prop} {f:Sc->Ty->Vl->Value} {av:List S} {H:Hp} {K:S->Hp->Prop} (h:(iE P f).sp av H K) :
 ∃ s t v,av=[.va (.gs (aJ s)),.va (.gs (aW t)),.va (.gs (aQ v))]/\H=[]/\s.fit/\TyOk t/\VlOk v/\P s t v/\K (.va (.c1 (.vl (f s t v)))) []:=by
 obtain ⟨⟨h,rfl⟩,hK⟩:=h
 obtain ⟨s,t,v,rfl,hs,ht,hv,hp⟩:=oW h
 have:(iE P f).val [.va (.gs (aJ s)),.va (.gs (aW t)),.va (.gs (aQ v))]=.c1 (.vl (f s t v)):=by simp -dsimp only [go_sem]
 rw [this] at hK
 exact ⟨s,t,v,rfl,rfl,hs,ht,hv,hp,hK⟩
theorem aEJ:Meets Tryz.prog 77 (iE (fun _ _ _=>True) fun _ t v=>.int .i64 (nS t v.n v.s v.l.length v.f.length)).sp:=by
 refine aD Tryz.func77 aK9 3 (by rw [Tryz.ntmps77]; decide) (aB _) gT ?_
 intro av H K h
 obtain ⟨s,t,v,rfl,rfl,hs,ht,hv,_,hK⟩:=fA h
 clear h
 have fin:∀ (z:Int) (R:Hp),nS t v.n v.s v.l.length v.f.length=z->W.Fin 0 K (iS .i64 z) R:=fun z R h=>by
  rw [h] at hK; exact .sel [] (by simp) (by simp) rfl (.done (by simpa [go_sem] using hK))
 clear hK
 unfold nS at fin
 cases h1:v.n != 0<;>cases h2:decide (0 < (v.l.length:Int))<;>cases h3:decide (0 < (v.f.length:Int))<;>cases h4:decide (t.s < ((bl v.s).length:Int)) <;>
 · rw [h1,h2,h3,h4] at fin
   simp (maxSteps:=1000000) -dsimp only [go_sem,aJ,aS t,aK v,aA3,Z5,h1,h2,h3,h4]
   exact fin _ _ rfl
theorem aBF {ss:List St} {es:List En} {t:Ty} (h:valF ss es t=true) (k:(t.k == 2)=true):t.s=8\/t.s=16\/t.s=32\/t.s=64:=by
 cases t with
 | mk k0 s n e=>
  obtain rfl:k0=2:=by have k:(k0 == 2)=true:=k; simpa using k
  rw [valF] at h
  have:(s == 8 || s == 16 || s == 32 || s == 64)=true:=by
   simp only [show ((2:Int) == 1)=false from rfl,show ((2:Int) == 2)=true from rfl,bI,aX,Bool.and_eq_true] at h
   exact h.1.1
  show s=8\/s=16\/s=32\/s=64
  simp only [Bool.or_eq_true,beq_iff_eq] at this
  omega
theorem OD {ss:List St} {es:List En} {t:Ty} (h:valF ss es t=true) (k:(t.k == 3)=true):t.s=8\/t.s=16\/t.s=32:=by
 cases t with
 | mk k0 s n e=>
  obtain rfl:k0=3:=by have k:(k0 == 3)=true:=k; simpa using k
  rw [valF] at h
  have:(s == 8 || s == 16 || s == 32)=true:=by
   simp only [show ((3:Int) == 1)=false from rfl,show ((3:Int) == 2)=false from rfl,show ((3:Int) == 3)=true from rfl,bI,aX,Bool.and_eq_true,Bool.and_false,Bool.or_false] at h
   exact h.1.1
  show s=8\/s=16\/s=32
  simp only [Bool.or_eq_true,beq_iff_eq] at this
  omega
theorem PN:Meets Tryz.prog 76 (iE (fun s t _=>valF s.ss s.es t=true) fun s t v=>.int .i64 (oX s t v.n v.s v.l.length v.f.length)).sp:=by
 refine aD Tryz.func76 aNC 3 (by rw [Tryz.ntmps76]; decide) (aC E4 (aC KA (aB _))) gT ?_
 intro av H K h
 obtain ⟨s,t,v,rfl,rfl,hs,ht,hv,hp,hK⟩:=fA h
 clear h
 have fin:∀ (z:Int) (R:Hp),oX s t v.n v.s v.l.length v.f.length=z->W.Fin 0 K (iS .i64 z) R:=fun z R h=>by
  rw [h] at hK; exact .sel [] (by simp) (by simp) rfl (.done (by simpa [go_sem] using hK))
 clear hK
 unfold oX at fin
 cases h1:bl v.s == [] with
 | false=>
  rw [h1] at fin
  simp (maxSteps:=1000000) -dsimp only [go_sem,aJ,aS t,aK v,EV,EU,h1]
  exact fin _ _ rfl
 | true=>
 cases h2:decide (0 < (v.l.length:Int)) with
 | true=>
  rw [h1,h2] at fin
  simp (maxSteps:=1000000) -dsimp only [go_sem,aJ,aS t,aK v,EV,EU,h1,h2]
  exact fin _ _ rfl
 | false=>
 cases h3:decide (0 < (v.f.length:Int)) with
 | true=>
  rw [h1,h2,h3] at fin
  simp (maxSteps:=1000000) -dsimp only [go_sem,aJ,aS t,aK v,EV,EU,h1,h2,h3]
  exact fin _ _ rfl
 | false=>
 rw [h1,h2,h3] at fin
 simp only [Bool.not_true,Bool.or_self,aX] at fin
 unfold gB at fin
 simp (maxSteps:=1000000) -dsimp only [go_sem,aJ,aS t,aK v,EV,EU,h1,h2,h3]
 refine ⟨fun k1=>aA rfl (.done ?_),fun k1=>aA rfl (.done ?_)⟩
 · rw [k1,bI] at fin
   simp (maxSteps:=1000000) -dsimp only [go_sem,FX]
   refine aA rfl (.done ?_)
   cases h4:(v.n == 0 || v.n == 1) <;>
   · rw [h4] at fin
     simp (maxSteps:=1000000) -dsimp only [go_sem,gX]
     exact fin _ _ rfl
 rw [k1,aX] at fin
 simp (maxSteps:=1000000) -dsimp only [go_sem,DD]
 refine ⟨fun k2=>aA rfl (.done ?_),fun k2=>aA rfl (.done ?_)⟩
 · rw [k2,bI] at fin
   cases h64:t.s == 64 with
   | true=>
    rw [h64] at fin
    simp (maxSteps:=1000000) -dsimp only [go_sem,wD,h64,Bool.false_and]
    refine aA rfl (.done ?_)
    simp (maxSteps:=1000000) -dsimp only [go_sem,gX]
    exact fin _ _ rfl
   | false=>
    rw [h64,Bool.false_or] at fin
    obtain ⟨b1,b2,e1,e2⟩:8<=t.s/\t.s<=32/\IntKind.i64.wrap (-1 * 2 ^ min (t.s - 1).toNat 64)=-(2 ^ (t.s.toNat - 1):Int)/\IntKind.i64.wrap (1 * 2 ^ min (t.s - 1).toNat 64)=(2 ^ (t.s.toNat - 1):Int):=by
     rcases aBF hp k2 with hz | hz | hz | hz
     · rw [hz]; decide
     · rw [hz]; decide
     · rw [hz]; decide
     · rw [hz] at h64; simp at h64
    have f1:(0<=t.s - 1)=True:=eq_true (by omega)
    have f2:(-9223372036854775808<=t.s - 1)=True:=eq_true (by omega)
    have f3:(t.s - 1<=9223372036854775807)=True:=eq_true (by omega)
    generalize (2 ^ (t.s.toNat - 1):Int)=hi at *
    cases h4:decide (-hi<=v.n)<;>cases h5:decide (v.n < hi) <;>
    · rw [h4,h5] at fin
      simp (maxSteps:=1000000) -dsimp only [go_sem,wD,h64,e1,e2,h4,h5,f1,f2,f3]
      refine aA rfl (.done ?_)
      simp (maxSteps:=1000000) -dsimp only [go_sem,gX]
      exact fin _ _ rfl
 rw [k2,aX] at fin
 simp (maxSteps:=1000000) -dsimp only [go_sem,E7]
 refine ⟨fun k3=>aA rfl (.done ?_),fun k3=>aA rfl (.done ?_)⟩
 · rw [k3,bI] at fin
   obtain ⟨b1,e1⟩:0<=t.s/\IntKind.i64.wrap (1 * 2 ^ min t.s.toNat 64)=(2 ^ t.s.toNat:Int):=by
    rcases OD hp k3 with hz | hz | hz
    · rw [hz]; decide
    · rw [hz]; decide
    · rw [hz]; decide
   generalize (2 ^ t.s.toNat:Int)=hi at *
   cases h4:decide (0<=v.n)<;>cases h5:decide (v.n < hi) <;>
   · rw [h4,h5] at fin
     simp (maxSteps:=1000000) -dsimp only [go_sem,xH,e1,h4,h5,b1]
     refine aA rfl (.done ?_)
     simp (maxSteps:=1000000) -dsimp only [go_sem,gX]
     exact fin _ _ rfl
 rw [k3,aX] at fin
 simp (maxSteps:=1000000) -dsimp only [go_sem,zG]
 refine ⟨fun k7=>aA rfl (.done ?_),fun k7=>aA rfl (.done ?_)⟩
 · rw [k7,bI] at fin
   simp (maxSteps:=1000000) -dsimp only [go_sem,zP]
   refine y8 (s:=s) hs ?_
   generalize hu:(eN s.es t.n).getD default=u at *
   have hul:u.vs.length<=9223372036854775807:=by
    rw [<-hu]
    cases hf:eN s.es t.n with
    | none=>exact Nat.zero_le _
    | some w=>exact (hs.ok.es w (IY hf).1).lv
   simp (maxSteps:=1000000) -dsimp only [go_sem,a6]
   refine aA rfl (.done ?_)
   simp (maxSteps:=1000000) -dsimp only [go_sem,zR]
   refine aAF hul ?_
   simp (maxSteps:=1000000) -dsimp only [go_sem,bE]
   refine aA rfl (.done ?_)
   cases h4:u.vs.any fun x=>x == v.n <;>
   · rw [h4] at fin
     simp (maxSteps:=1000000) -dsimp only [go_sem,gX]
     exact fin _ _ rfl
 rw [k7] at fin
 simp (maxSteps:=1000000) -dsimp only [go_sem,gX]
 exact fin _ _ rfl
theorem GY {a b:Int × Vl} (h:bD a=bD b):a=b:=by
 obtain ⟨i,x⟩:=a
 obtain ⟨j,y⟩:=b
 obtain ⟨h1,h2⟩:=List.cons.inj h
 have e:i=j:=by simpa using h1
 have e2:x=y:=rG h2
 rw [e,e2]
instance:Inhabited (Int × Vl):=⟨(0,default)⟩
noncomputable def C.ve:=pA bD
@[go_sem] theorem aSQ (v:Int × Vl):C.ve (bD v)=v:=gL GY v
@[go_sem] theorem aBY (l:List (Int × Vl)):(l.map bD).map C.ve=l:=jA GY l
def UV (r:List C):Prop:=∃ u:St,r=aI u/\u.ok/\∀ f ∈ u.fs,TySm f.ty
def Y5 (rs:List (List C)):Prop:=∃ l:List (Int × Vl),rs=l.map bD/\l.length * 88<=140737488355328/\∀ x ∈ l,bM x.1/\VlOk x.2
theorem V6 {v:Vl} (h:VlOk v):Y5 (v.f.map bD):=⟨v.f,rfl,h.lf,fun x hx=>⟨h.fn x hx,h.f x hx⟩⟩
theorem O2 {s:Sc} (hs:s.fit) (n:ByteArray):UV (aI ((fS s.ss n).getD default)):=by
 refine ⟨_,rfl,?_⟩
 cases hf:fS s.ss n with
 | none=>exact ⟨St.ok_default,fun f hf=>(List.not_mem_nil hf).elim⟩
 | some w=>exact ⟨hs.ok.ss w (fQ hf).1,(hs.sm w (fQ hf).1).2⟩
def vD:List S->Prop:=fun av=>match av with
 | [.va (.gs r),.va (.c1 (.fz rs))]=>UV r/\Y5 rs
 | _=>False
theorem mQ {av:List S} (h:vD av):∃ (u:St) (l:List (Int × Vl)),av=[.va (.gs (aI u)),.va (.c1 (.fz (l.map bD)))]/\u.ok/\(∀ f ∈ u.fs,TySm f.ty)/\l.length * 88<=140737488355328/\∀ x ∈ l,bM x.1/\VlOk x.2:=by
 unfold vD at h
 split at h
 · obtain ⟨⟨u,rfl,h1,h2⟩,⟨l,rfl,h3,h4⟩⟩:=h; exact ⟨u,l,rfl,h1,h2,h3,h4⟩
 · exact h.elim
noncomputable def ND:List S->A:=fun av=>match av with
 | [.va (.gs r),.va (.c1 (.fz rs))]=>bA (dX (C.st r).fs (rs.map C.ve))
 | _=>.gs []
noncomputable def ftFn1:Fun:=⟨vD,ND,fun av h=>by obtain ⟨_,_,rfl,_⟩:=mQ h; trivial⟩
theorem KQ:∀ av H K,ftFn1.sp av H K->av.length=2:=fun av H K h=>by obtain ⟨_,_,rfl,_⟩:=mQ h.1.1; rfl
attribute [go_sem] ftFn1 vD ND
def MJ (l:List (Int × Vl)):Nat->Option Int
 | 0=>none
 | j + 1=>(l[j]?).map (·.1)
theorem aCU {l:List (Int × Vl)} {n:Int} {x:Int × Vl} (h:l[n.toNat]? = some x) (p:List C->Prop):(∀ r,(l.map bD)[n.toNat]? = some r->p r)=p [.vl (.int .i64 x.1),.vl (.int .i64 x.2.k),.vl (.int .i64 x.2.n),.vl (.string x.2.s),.fz (x.2.l.map aQ),.fz (x.2.f.map bD)]:=by
 rw [<-iM]; exact K5 (row:=bD) h p
theorem aAT:Meets Tryz.prog 116 ftFn1.sp:=by
 refine aD Tryz.func116 aFU 2 (by rw [Tryz.ntmps116]; decide) (aC pS (aC KF (aB _))) KQ ?_
 rintro av H K ⟨⟨h,rfl⟩,hK⟩
 obtain ⟨u,l,rfl,hu,hus,hl,hlo⟩:=mQ h
 replace hK:K (bS (dX u.fs l)) []:=by
  have:ftFn1.val [.va (.gs (aI u)),.va (.c1 (.fz (l.map bD)))]=bA (dX u.fs l):=by simp -dsimp only [go_sem]
  rw [this] at hK; exact hK
 clear h
 have fin:∀ (b:Bool) (R:Hp),dX u.fs l=b->W.Fin 0 K (bS b) R:=fun b R h=>by
  rw [h] at hK; exact .sel [] (by simp) (by simp) rfl (.done (by simpa [go_sem] using hK))
 clear hK
 have hfl:=hu.len
 generalize hR:u.fs.all (fun f=>f.opt || nR l f.num)=R2
 have hF:dX u.fs l=(ftA u.fs none l && R2):=by rw [<-hR]; rfl
 rw [hF] at fin
 generalize hR0:(ftA u.fs none l && R2)=R0 at fin
 clear hF
 simp (maxSteps:=1000000) -dsimp only [go_sem,aI,SK,TR]
 refine aU (α:=Nat) (fun i=>[(1,.va (.c1 (.fz (l.map bD)))),(2,.va (.c1 (.pt 0 0))),(11,.va (.c1 (.fz (l.map bD)))),(12,iS .i64 l.length),(13,iS .i64 i)]) (fun _=>[.cells (aI u) 48])
  (fun i=>i<=l.length/\(ftA u.fs (MJ l i) (l.drop i) && R2)=R0) (fun i=>l.length - i) 0 1 ⟨Nat.zero_le _,hR0⟩ ?_ ?_ ?_
 · simp -dsimp only [go_sem]<;>simp
 · simp -dsimp only [go_sem,aI]<;>simp
 rintro i ⟨hi,ho⟩
 rcases a8 i l.length with hlt | hge
 · have hg:decide ((i:Int) < (l.length:Int))=true:=by simp; omega
   obtain ⟨x,hx⟩:∃ t,l[i]? = some t:=⟨_,aV hlt⟩
   have q1:=iF hx
   have hdr:l.drop i=x :: l.drop (i + 1):=by
    obtain ⟨h,rfl⟩:=bB.1 hx
    exact List.drop_eq_getElem_cons h
   have hpv:MJ l (i + 1)=some x.1:=by rw [MJ,hx]; rfl
   rw [hdr,tI,<-hpv] at ho
   simp (maxSteps:=1000000) -dsimp only [go_sem,hg,↓q1,aI]
   refine ⟨by omega,aA rfl (.done ?_)⟩
   simp (maxSteps:=1000000) -dsimp only [go_sem,xK]
   refine rM (t:=u) hu hus ?_
   cases hf:fF u.fs x.1 with
   | none=>
    rw [hf] at ho
    simp (maxSteps:=1000000) -dsimp only [go_sem,rF,Option.getD_none,Option.isSome_none]
    refine aA rfl (.done ?_)
    simp (maxSteps:=1000000) -dsimp only [go_sem,kQ,Bool.false_and]
    exact fin _ _ ho.symm
   | some g=>
    rw [hf,Option.isSome_some,Bool.true_and] at ho
    simp (maxSteps:=1000000) -dsimp only [go_sem,aR,Option.getD_some,Option.isSome_some]
    refine aA rfl (.done ?_)
    cases hz:decide ((0:Int) < (i:Int)) with
    | false=>
     obtain rfl:i=0:=by have:=of_decide_eq_false hz; omega
     simp (maxSteps:=1000000) -dsimp only [go_sem,kQ,hz]
     refine ⟨by omega,aE (0 + 1) 1 ⟨by omega,ho⟩ (by omega) ?_ ?_⟩
     · simp -dsimp only [go_sem]<;>simp
     · simp -dsimp only [go_sem,aI]<;>simp [aI]
    | true=>
     have hz':=of_decide_eq_true hz
     obtain ⟨y,hy⟩:∃ t,l[i - 1]? = some t:=⟨_,aV (by omega)⟩
     have hti:((i:Int) - 1).toNat=i - 1:=by omega
     have q2:=fun p=>aCU (n:=(i:Int) - 1) (x:=y) (by rw [hti]; exact hy) p
     have hpi:MJ l i=some y.1:=by
      match i,hz',hy with
      | j + 1,_,hy=>rw [MJ]; rw [show j + 1 - 1=j by omega] at hy; rw [hy]; rfl
     rw [hpi,ltO] at ho
     have f1:(0<=(i:Int) - 1)=True:=eq_true (by omega)
     have f2:((i:Int) - 1 < (l.length:Int))=True:=eq_true (by omega)
     cases hc:decide (x.1<=y.1) with
     | true=>
      have:decide (y.1 < x.1)=false:=by have:=of_decide_eq_true hc; simp; omega
      rw [this] at ho
      simp (maxSteps:=1000000) -dsimp only [go_sem,kQ,hz,↓q2,hc,f1,f2]
      exact ⟨by omega,fin _ _ ho.symm⟩
     | false=>
      have:decide (y.1 < x.1)=true:=by have:=of_decide_eq_false hc; simp; omega
      rw [this,Bool.true_and] at ho
      simp (maxSteps:=1000000) -dsimp only [go_sem,kQ,hz,↓q2,hc,f1,f2]
      refine ⟨by omega,by omega,aE (i + 1) 1 ⟨by omega,ho⟩ (by omega) ?_ ?_⟩
      · simp -dsimp only [go_sem]<;>simp
      · simp -dsimp only [go_sem,aI]<;>simp [aI]
 · have hg:decide ((i:Int) < (l.length:Int))=false:=by simp; omega
   obtain rfl:i=l.length:=by omega
   rw [List.drop_length,WD,Bool.true_and] at ho
   simp (maxSteps:=1000000) -dsimp only [go_sem,hg,aI]
   refine aA rfl (.done ?_)
   simp (maxSteps:=1000000) -dsimp only [go_sem,zH]
   clear hi hge hg hR0
   rw [<-hR] at ho
   clear hR
   refine aU (α:=Nat) (fun i=>[(1,.va (.c1 (.fz (l.map bD)))),(2,.va (.c1 (.pt 0 0))),(44,.va (.c1 (.fz (u.fs.map aR)))),(45,iS .i64 u.fs.length),(46,iS .i64 i)]) (fun _=>[.cells (aI u) 48])
    (fun i=>i<=u.fs.length/\(u.fs.drop i).all (fun f=>f.opt || nR l f.num)=R0) (fun i=>u.fs.length - i) 0 1 ⟨Nat.zero_le _,ho⟩ ?_ ?_ ?_
   · simp -dsimp only [go_sem]<;>simp
   · simp -dsimp only [go_sem,aI]<;>simp
   clear ho
   rintro i ⟨hi,ho⟩
   rcases a8 i u.fs.length with hlt | hge
   · have hg:decide ((i:Int) < (u.fs.length:Int))=true:=by simp; omega
     obtain ⟨f,hx⟩:∃ t,u.fs[i]? = some t:=⟨_,aV hlt⟩
     have q1:=aY (row:=aR) hx
     rw [O1 hx] at ho
     simp (maxSteps:=1000000) -dsimp only [go_sem,hg,↓q1,aI,aR]
     refine ⟨by omega,aA rfl (.done ?_)⟩
     cases hop:f.opt with
     | true=>
      rw [hop,Bool.true_or,Bool.true_and] at ho
      simp (maxSteps:=1000000) -dsimp only [go_sem,oB]
      refine ⟨by omega,aE (i + 1) 1 ⟨by omega,ho⟩ (by omega) ?_ ?_⟩
      · simp -dsimp only [go_sem]<;>simp
      · simp -dsimp only [go_sem,aI]<;>simp [aI]
     | false=>
      rw [hop,Bool.false_or] at ho
      have cu:=fun K h=>aB8 (l:=l) (f:=f) (K:=K) (by omega) h
      rw [aR,hop] at cu
      simp (maxSteps:=1000000) -dsimp only [go_sem,oB]
      refine cu _ ?_
      cases hc:nR l f.num with
      | false=>
       rw [hc,Bool.false_and] at ho
       simp (maxSteps:=1000000) -dsimp only [go_sem]
       exact fin _ _ ho.symm
      | true=>
       rw [hc,Bool.true_and] at ho
       simp (maxSteps:=1000000) -dsimp only [go_sem]
       refine ⟨by omega,aE (i + 1) 1 ⟨by omega,ho⟩ (by omega) ?_ ?_⟩
       · simp -dsimp only [go_sem]<;>simp
       · simp -dsimp only [go_sem,aI]<;>simp [aI]
   · have hg:decide ((i:Int) < (u.fs.length:Int))=false:=by simp; omega
     obtain rfl:i=u.fs.length:=by omega
     rw [VU] at ho
     simp (maxSteps:=1000000) -dsimp only [go_sem,hg,aI]
     exact fin _ _ ho.symm
abbrev UK (s:Sc) (t:Ty) (v:Vl):Value:=.int .i64 (cY s t v)
abbrev ckH (N:Nat):Sc->Ty->Vl->Prop:=fun _ _ v=>v.h<=N
def I6 (s:Sc) (t:Ty) (v:Vl):Int:=bif v.n != 0 || !(bl v.s == []) || decide (0 < (v.f.length:Int)) then 13 else bif decide (t.s < (v.l.length:Int)) then 3 else iR s (t.e.headD default) v.l
def JO (s:Sc) (t:Ty) (v:Vl):Int:=bif v.n != 0 || !(bl v.s == []) || decide (0 < (v.l.length:Int)) || !(dX ((fS s.ss t.n).getD default).fs v.f) then 13 else iQ s ((fS s.ss t.n).getD default).fs v.f
theorem jM {t:Ty} (h:TyOk t):p8 [.vl (.int .i64 t.k),.vl (.int .i64 t.s),.vl (.string t.n),.fz (t.e.map aW)]:=by rw [<-aS]; exact mZ h
theorem qE (t:Ty):C.ty [.vl (.int .i64 t.k),.vl (.int .i64 t.s),.vl (.string t.n),.fz (t.e.map aW)]=t:=by rw [<-aS,pU]
theorem fR {s:Sc} (h:s.fit):mC [.vl (.int .i64 s.ver),.fz (s.es.map a6),.fz (s.ss.map aI)]:=oJ h
theorem lG (s:Sc):C.sc [.vl (.int .i64 s.ver),.fz (s.es.map a6),.fz (s.ss.map aI)]=s:=lL s
theorem E0 {ss:List St} {es:List En} {t:Ty} (h:valF ss es t=true) (k:(t.k == 5)=true):∃ u,t.e=[u]/\valF ss es u=true:=by
 cases t with
 | mk k0 s n e=>
  obtain rfl:k0=5:=by have k:(k0 == 5)=true:=k; simpa using k
  exact FJ h
theorem aCF (N:Nat) (hc:Meets Tryz.prog 42 (iE (ckH N) UK).sp):Meets Tryz.prog 78 (iE (fun s t v=>valF s.ss s.es t=true/\(t.k == 5)=true/\v.h<=N + 1) fun s t v=>.int .i64 (I6 s t v)).sp:=by
 refine aD Tryz.func78 aLY 3 (by rw [Tryz.ntmps78]; decide) (aH hc (aB _)) gT ?_
 intro av H K h
 obtain ⟨s,t,v,rfl,rfl,hs,ht,hv,⟨hp,hk,hh⟩,hK⟩:=fA h
 clear h
 have fin:∀ (z:Int) (R:Hp),I6 s t v=z->W.Fin 0 K (iS .i64 z) R:=fun z R h=>by
  rw [h] at hK; exact .sel [] (by simp) (by simp) rfl (.done (by simpa [go_sem] using hK))
 clear hK
 unfold I6 at fin
 obtain ⟨u,he,hu⟩:=E0 hp hk
 have huo:TyOk u:=ht.e u (by rw [he]; simp)
 have hll:=hv.ll
 rw [he] at fin
 simp only [List.headD_cons] at fin
 cases h0:(v.n != 0 || !(bl v.s == []) || decide (0 < (v.f.length:Int))) with
 | true=>
  rw [h0] at fin
  cases h1:v.n != 0<;>cases h2:bl v.s == []<;>cases h3:decide (0 < (v.f.length:Int)) <;>
  first
   | (exfalso; rw [h1,h2,h3] at h0; exact absurd h0 (by decide))
   | (simp (maxSteps:=1000000) -dsimp only [go_sem,aJ,aS t,aK v,KB,JB,h1,h2,h3]
      exact fin _ _ rfl)
 | false=>
 rw [h0] at fin
 obtain ⟨h1,h2,h3⟩:(v.n != 0)=false/\(bl v.s == [])=true/\decide (0 < (v.f.length:Int))=false:=by
  simp only [Bool.or_eq_false_iff,Bool.not_eq_false'] at h0; exact ⟨h0.1.1,h0.1.2,h0.2⟩
 cases h4:decide (t.s < (v.l.length:Int)) with
 | true=>
  rw [h4] at fin
  simp (maxSteps:=1000000) -dsimp only [go_sem,aJ,aS t,aK v,KB,JB,h1,h2,h3,h4]
  exact fin _ _ rfl
 | false=>
 rw [h4] at fin
 simp only [aX] at fin
 simp (maxSteps:=1000000) -dsimp only [go_sem,aJ,aS t,aK v,KB,JB,h1,h2,h3,h4]
 refine aU (α:=Nat) (fun i=>[(3,.va (.c1 (.pt 0 0))),(4,.va (.c1 (.pt 1 0))),(5,.va (.c1 (.pt 2 0))),(33,.va (.c1 (.fz (v.l.map aQ)))),(34,iS .i64 v.l.length),(35,iS .i64 i)]) (fun _=>[.cells (aJ s) 93,.cells [.vl (.int .i64 t.k),.vl (.int .i64 t.s),.vl (.string t.n),.fz (t.e.map aW)] 42,.cells (bE v) 29])
  (fun i=>i<=v.l.length/\iR s u (v.l.drop i)=iR s u v.l) (fun i=>v.l.length - i) 0 3 ⟨Nat.zero_le _,rfl⟩ ?_ ?_ ?_
 · simp -dsimp only [go_sem]<;>simp
 · simp -dsimp only [go_sem,bE,aJ]<;>simp
 rintro i ⟨hi,ho⟩
 rcases a8 i v.l.length with hlt | hge
 · have hg:decide ((i:Int) < (v.l.length:Int))=true:=by simp; omega
   obtain ⟨x,hx⟩:∃ t,v.l[i]? = some t:=⟨_,aV hlt⟩
   have q1:=mH hx
   have hxm:=b5 hx
   have k1:=dE (hv.l x hxm)
   have k2:=gH x
   have k3:x.h<=N:=by have:=Vl.h_l hxm; omega
   have hdr:v.l.drop i=x :: v.l.drop (i + 1):=by
    obtain ⟨h,rfl⟩:=bB.1 hx
    exact List.drop_eq_getElem_cons h
   have k4:=jM huo
   have k5:=qE u
   have k6:=fR hs
   have k7:=lG s
   rw [hdr,iR] at ho
   rw [he]
   cases h5:cY s u x != 0 with
   | true=>
    rw [h5,bI] at ho
    simp (maxSteps:=1000000) -dsimp only [go_sem,hg,↓q1,bE,aJ,aS u,k1,k2,k3,k4,k5,k6,k7,h5,List.getElem?_cons_zero,aF,forall_eq']
    exact ⟨by omega,by omega,fin _ _ ho.symm⟩
   | false=>
    rw [h5,aX] at ho
    simp (maxSteps:=1000000) -dsimp only [go_sem,hg,↓q1,bE,aJ,aS u,k1,k2,k3,k4,k5,k6,k7,h5,List.getElem?_cons_zero,aF,forall_eq']
    refine ⟨by omega,by omega,by omega,aE (i + 1) 3 ⟨by omega,ho⟩ (by omega) ?_ ?_⟩
    · simp -dsimp only [go_sem]<;>simp
    · simp -dsimp only [go_sem,bE,aJ]<;>simp [aS u]
 · have hg:decide ((i:Int) < (v.l.length:Int))=false:=by simp; omega
   obtain rfl:i=v.l.length:=by omega
   rw [List.drop_length,iR] at ho
   simp (maxSteps:=1000000) -dsimp only [go_sem,hg,bE,aJ]
   exact fin _ _ ho.symm
theorem DH:TyOk default:=.mk (by unfold bM; decide) (by unfold bM; decide) (by decide) (by decide) (fun _ h=>by cases h)
theorem aDJ {fs:List Fl} {u:St} (hu:u.ok) (e:fs=u.fs) (k:Int):TyOk ((fF fs k).getD default).ty:=by
 subst e
 cases hf:fF u.fs k with
 | none=>exact DH
 | some g=>exact (hu.fs g (List.mem_of_find?_eq_some hf)).ty
theorem MG (N:Nat) (hc:Meets Tryz.prog 42 (iE (ckH N) UK).sp):Meets Tryz.prog 79 (iE (fun _ _ v=>v.h<=N + 1) fun s t v=>.int .i64 (JO s t v)).sp:=by
 refine aD Tryz.func79 aM2 3 (by rw [Tryz.ntmps79]; decide) (aH hc (aC iZ (aH aAT (aC pS (aB _))))) gT ?_
 intro av H K h
 obtain ⟨s,t,v,rfl,rfl,hs,ht,hv,hh,hK⟩:=fA h
 clear h
 have fin:∀ (z:Int) (R:Hp),JO s t v=z->W.Fin 0 K (iS .i64 z) R:=fun z R h=>by
  rw [h] at hK; exact .sel [] (by simp) (by simp) rfl (.done (by simpa [go_sem] using hK))
 clear hK
 unfold JO at fin
 have hlf:=hv.lf
 have kS:=O2 hs t.n
 have kE:=V6 hv
 simp (maxSteps:=1000000) -dsimp only [go_sem,aJ,aS t,aK v,aAS,aCB]
 refine i7 (s:=s) hs ?_
 generalize (fS s.ss t.n).getD default=u at *
 obtain ⟨huo,hus⟩:u.ok/\∀ f ∈ u.fs,TySm f.ty:=by
  obtain ⟨w,hw,h1,h2⟩:=kS
  obtain rfl:=rV hw
  exact ⟨h1,h2⟩
 have kd:=DR u
 have kv:=aBY v.f
 rw [aI] at kS kd
 simp (maxSteps:=1000000) -dsimp only [go_sem,aI]
 refine aA rfl (.done ?_)
 cases h0:(v.n != 0 || !(bl v.s == []) || decide (0 < (v.l.length:Int)) || !(dX u.fs v.f)) with
 | true=>
  rw [h0] at fin
  cases h1:v.n != 0<;>cases h2:bl v.s == []<;>cases h3:decide (0 < (v.l.length:Int))<;>cases h4:dX u.fs v.f <;>
  first
   | (exfalso; rw [h1,h2,h3,h4] at h0; exact absurd h0 (by decide))
   | (simp (maxSteps:=1000000) -dsimp only [go_sem,w5,h1,h2,h3,h4,kS,kE,kd]
      exact fin _ _ rfl)
 | false=>
 rw [h0] at fin
 simp only [aX] at fin
 obtain ⟨h1,h2,h3,h4⟩:(v.n != 0)=false/\(bl v.s == [])=true/\decide (0 < (v.l.length:Int))=false/\dX u.fs v.f=true:=by
  simp only [Bool.or_eq_false_iff,Bool.not_eq_false'] at h0; exact ⟨h0.1.1.1,h0.1.1.2,h0.1.2,h0.2⟩
 simp (maxSteps:=1000000) -dsimp only [go_sem,w5,h1,h2,h3,h4,kS,kE,kd]
 refine aU (α:=Nat) (fun i=>[(3,.va (.c1 (.pt 0 0))),(4,.va (.c1 (.pt 1 0))),(5,.va (.c1 (.pt 2 0))),(7,.va (.c1 (.pt 3 0))),(44,.va (.c1 (.fz (v.f.map bD)))),(45,iS .i64 v.f.length),(46,iS .i64 i)]) (fun _=>[.cells (aJ s) 93,.cells [.vl (.int .i64 t.k),.vl (.int .i64 t.s),.vl (.string t.n),.fz (t.e.map aW)] 42,.cells (bE v) 29,.cells (aI u) 48])
  (fun i=>i<=v.f.length/\iQ s u.fs (v.f.drop i)=iQ s u.fs v.f) (fun i=>v.f.length - i) 0 4 ⟨Nat.zero_le _,rfl⟩ ?_ ?_ ?_
 · simp -dsimp only [go_sem]<;>simp
 · simp -dsimp only [go_sem,bE,aJ,aI]<;>simp
 rintro i ⟨hi,ho⟩
 rcases a8 i v.f.length with hlt | hge
 · have hg:decide ((i:Int) < (v.f.length:Int))=true:=by simp; omega
   obtain ⟨x,hx⟩:∃ t,v.f[i]? = some t:=⟨_,aV hlt⟩
   have q1:=iF hx
   have hxm:=b5 hx
   have k1:=dE (hv.f x hxm)
   have k2:=gH x.2
   have k3:x.2.h<=N:=by have:=Vl.h_f hxm; omega
   have hdr:v.f.drop i=x :: v.f.drop (i + 1):=by
    obtain ⟨h,rfl⟩:=bB.1 hx
    exact List.drop_eq_getElem_cons h
   have k6:=fR hs
   have k7:=lG s
   rw [hdr,C4] at ho
   have hgo:=aDJ huo rfl x.1
   simp (maxSteps:=1000000) -dsimp only [go_sem,hg,↓q1,bE,aJ,aI]
   refine ⟨by omega,aA rfl (.done ?_)⟩
   simp (maxSteps:=1000000) -dsimp only [go_sem,FE]
   refine rM (t:=u) huo hus ?_
   generalize (fF u.fs x.1).getD default=g at *
   have k4:=jM hgo
   have k5:=qE g.ty
   simp (maxSteps:=1000000) -dsimp only [go_sem,aR]
   refine aA rfl (.done ?_)
   simp (maxSteps:=1000000) -dsimp only [go_sem,C9,k1,k2,k3,k4,k5,k6,k7]
   refine aA rfl (.done ?_)
   cases h5:cY s g.ty x.2 != 0 with
   | true=>
    rw [h5,bI] at ho
    simp (maxSteps:=1000000) -dsimp only [go_sem,w8,h5]
    exact fin _ _ ho.symm
   | false=>
    rw [h5,aX] at ho
    simp (maxSteps:=1000000) -dsimp only [go_sem,w8,h5]
    refine ⟨by omega,aE (i + 1) 4 ⟨by omega,ho⟩ (by omega) ?_ ?_⟩
    · simp -dsimp only [go_sem]<;>simp
    · simp -dsimp only [go_sem,bE,aJ,aI]<;>simp [bE,aJ,aI]
 · have hg:decide ((i:Int) < (v.f.length:Int))=false:=by simp; omega
   obtain rfl:i=v.f.length:=by omega
   rw [List.drop_length,iQ] at ho
   simp (maxSteps:=1000000) -dsimp only [go_sem,hg,bE,aJ,aI]
   exact fin _ _ ho.symm
theorem zX:∀ N,Meets Tryz.prog 42 (iE (ckH N) UK).sp
 | 0=>⟨by kernel_rfl,by rintro xs vs E ro w K _ _ _ h; obtain ⟨_,_,v,_,_,_,_,_,h,_⟩:=fA h; have:=v.h_pos; have h:v.h<=0:=h; omega⟩
 | N + 1=>by
  refine aD Tryz.func42 aN3 3 (by rw [Tryz.ntmps42]; decide) (aH s9 (aH PN (aH aEJ (aH (aCF N (zX N)) (aH (MG N (zX N)) (aB _)))))) gT ?_
  intro av H K h
  obtain ⟨s,t,v,rfl,rfl,hs,ht,hv,hh,hK⟩:=fA h
  clear h
  have hh:v.h<=N + 1:=hh
  have fin:∀ (z:Int) (R:Hp),cY s t v=z->W.Fin 0 K (iS .i64 z) R:=fun z R h=>by
   have hK:K (iS .i64 (cY s t v)) []:=hK
   rw [h] at hK; exact .sel [] (by simp) (by simp) rfl (.done (by simpa [go_sem] using hK))
  clear hK
  rw [KM] at fin
  have k1:=dE hv
  have k2:=gH v
  have k4:=jM ht
  have k5:=qE t
  have k6:=fR hs
  have k7:=lG s
  cases h1:valF s.ss s.es t with
  | false=>
   rw [h1] at fin
   simp (maxSteps:=1000000) -dsimp only [go_sem,aJ,aS t,aK v,uO,tD,k4,k5,k6,k7,h1]
   exact fin _ _ rfl
  | true=>
  cases h2:v.k != t.k with
  | true=>
   rw [h1,h2] at fin
   simp (maxSteps:=1000000) -dsimp only [go_sem,aJ,aS t,aK v,uO,tD,k4,k5,k6,k7,h1,h2]
   exact fin _ _ rfl
  | false=>
  rw [h1,h2] at fin
  simp only [Bool.not_true,Bool.or_self,aX] at fin
  cases h4:t.k == 4 with
  | true=>
   rw [h4,bI] at fin
   simp (maxSteps:=1000000) -dsimp only [go_sem,aJ,aS t,aK v,uO,tD,k1,k2,k4,k5,k6,k7,h1,h2,h4,List.all_cons,List.all_nil]
   exact fin _ _ rfl
  | false=>
  rw [h4,aX] at fin
  cases h5:t.k == 5 with
  | true=>
   rw [h5,bI] at fin
   simp (maxSteps:=1000000) -dsimp only [go_sem,aJ,aS t,aK v,uO,tD,k1,k2,k4,k5,k6,k7,h1,h2,h4,h5,hh,List.all_cons,List.all_nil]
   exact fin _ _ rfl
  | false=>
  rw [h5,aX] at fin
  cases h6:t.k == 6 with
  | true=>
   rw [h6,bI] at fin
   simp (maxSteps:=1000000) -dsimp only [go_sem,aJ,aS t,aK v,uO,tD,k1,k2,k4,k5,k6,k7,h1,h2,h4,h5,h6,hh,List.all_cons,List.all_nil]
   exact fin _ _ rfl
  | false=>
  rw [h6,aX] at fin
  simp (maxSteps:=1000000) -dsimp only [go_sem,aJ,aS t,aK v,uO,tD,k1,k2,k4,k5,k6,k7,h1,h2,h4,h5,h6,List.all_cons,List.all_nil]
  exact fin _ _ rfl
def j7 (s:Sc) (t:Ty) (v:Vl):Int:=bif decide (6 < pO 7 v) then 9 else cY s t v
theorem WK:Meets Tryz.prog 42 (iE (fun _ _ _=>True) UK).sp:=d5 0 zX fun av H K h=>by
 obtain ⟨s,t,v,rfl,rfl,hs,ht,hv,_,hK⟩:=fA h
 refine ⟨v.h,⟨⟨oJ hs,mZ ht,G8 hv,?_⟩,rfl⟩,?_⟩
 · show (C.vv (aQ v)).h<=v.h; rw [gJ]; exact Nat.le_refl _
 · simpa -dsimp only [go_sem] using hK
theorem WO:Meets Tryz.prog 24 (iE (fun _ _ _=>True) fun s t v=>.int .i64 (j7 s t v)).sp:=by
 refine aD Tryz.func24 aLU 3 (by rw [Tryz.ntmps24]; decide) (aH (IN 8) (aH WK (aB _))) gT ?_
 intro av H K h
 obtain ⟨s,t,v,rfl,rfl,hs,ht,hv,_,hK⟩:=fA h
 clear h
 have fin:∀ (z:Int) (R:Hp),j7 s t v=z->W.Fin 0 K (iS .i64 z) R:=fun z R h=>by
  rw [h] at hK; exact .sel [] (by simp) (by simp) rfl (.done (by simpa [go_sem] using hK))
 clear hK
 unfold j7 at fin
 have k1:=dE hv
 have k2:=gH v
 have k4:=jM ht
 have k5:=qE t
 have k6:=fR hs
 have k7:=lG s
 have e8:((6:Int)=((8:Nat):Int) - 2)=True:=by decide
 have e9:fO 8 v=pO 7 v:=rfl
 cases h1:decide (6 < pO 7 v) with
 | true=>
  rw [h1] at fin
  simp (maxSteps:=1000000) -dsimp only [go_sem,aJ,aS t,aK v,P8,PW,k1,k2,e8,e9,h1]
  exact fin _ _ rfl
 | false=>
  rw [h1] at fin
  simp (maxSteps:=1000000) -dsimp only [go_sem,aJ,aS t,aK v,P8,PW,k1,k2,k4,k5,k6,k7,e8,e9,h1]
  exact fin _ _ rfl
structure Told (l:List UInt8) (p:Nat) (k:Int) (x:List UInt8) (n:Int) (z:Nat):Prop where
 zero:k=0->p=l.length/\x=[]/\n=0
 one:k ≠ 0->∃ c,l[p]? = some c/\p < z/\z<=l.length/\0 < k/\k<=4/\32 < c.toNat/\c.toNat ≠ 35/\(c == 34)=(k == 3)/\(k == 1)=iI c.toNat
def Got:R->ByteArray->Int->Int->Int->Int->Prop
 | .ok _ x n z,x',n',z',e',t'=>x'=mk x/\n'=n/\z'=z/\e'=0/\t'=0
 | .bad e t,_,_,_,e',t'=>e'=e/\t'=t
theorem Got.bad {r:R} {e t:Int} (h:r=.bad e t) {x:ByteArray} {n z:Int}:Got r x n z e t:=by subst h; exact ⟨rfl,rfl⟩
theorem Got.ok {r:R} {k:Int} {x:List UInt8} {n:Int} {z:Nat} (h:r=.ok k x n z):Got r (mk x) n z 0 0:=by subst h; exact ⟨rfl,rfl,rfl,rfl,rfl⟩
structure Ends (ts:List Tk):Prop where
 pos:0 < ts.length
 le:ts.length<=4001
 last:∀ (i:Nat) (t:Tk),ts[i]? = some t->(t.k=0 ↔ i + 1=ts.length)
def gA (ts:List Tk) (n:Nat):Nat:=if n + 1 < ts.length then n + 1 else n
def tQ (k:Int) (w:List UInt8) (t:Tk):Bool:=t.k == k && t.x == w
def ON (n:Nat):List UInt8:=(if h:n < 10 then [] else ON (n / 10)) ++ [(48 + n % 10).toUInt8]
 termination_by n
 decreasing_by omega
def aLQ (n:Int):List UInt8:=bif decide (n < 0) then 45 :: ON n.natAbs else ON n.natAbs
def aMO (c:UInt8):List UInt8:=bif c == 34 || c == 92 then [92,c] else [c]
def aLB (l:List UInt8):List UInt8:=34 :: l.flatMap aMO ++ [34]
def YD (c:UInt8):Bool:=decide (32<=c) && decide (c<=126)
def okK (k:Int) (x:List UInt8) (n:Int):Bool:=
 bif k == 1 then n == 0 && cT x else bif k == 2 then x == [] else bif k == 3 then n == 0 && (decide (x.length<=200) && x.all YD) else bif k == 4 then n == 0 && (match x with | [c]=>uX c.toNat | _=>false) else false
structure Tx where
 k:Int
 x:List UInt8
 n:Int
 a:Int
structure TkFit (t:Tx):Prop where
 lo:-9223372036854775808<=t.n
 hi:t.n<=9223372036854775807
 len:t.x.length<=100000
structure Fs where
 bad:Bool
 off:Int
 n:Nat
instance:Inhabited Tk:=⟨⟨0,[],0,0⟩⟩
def fC (ts:List Tk) (n:Nat):Tk:=ts.getD n default
structure Tks (ts:List Tk):Prop where
 e:Ends ts
 n:∀ t ∈ ts,bM t.n
 x:∀ t ∈ ts,t.x.length<=4000
 a:∀ t ∈ ts,t.a<=4000
def gP (ts:List Tk) (z:Fs):Fs:=bif z.bad then z else ⟨true,(fC ts z.n).a,z.n⟩
def iH (w:List UInt8) (ts:List Tk) (z:Fs):Bool:=!z.bad && tQ 4 w (fC ts z.n)
def sE (w:List UInt8) (ts:List Tk) (z:Fs):Fs:=bif iH w ts z then ⟨false,z.off,gA ts z.n⟩ else z
def d4 (w:List UInt8) (ts:List Tk) (z:Fs):Fs:=bif iH w ts z then ⟨false,z.off,gA ts z.n⟩ else gP ts z
def kH (k:Int) (ts:List Tk) (z:Fs):Bool:=!z.bad && (fC ts z.n).k == k
def QX (k:Int) (ts:List Tk) (z:Fs):Tk:=bif kH k ts z then fC ts z.n else default
def SW (k:Int) (ts:List Tk) (z:Fs):Fs:=bif kH k ts z then ⟨false,z.off,gA ts z.n⟩ else gP ts z
theorem DY {ts:List Tk} {n:Nat} (h:n < ts.length):ts[n]? = some (fC ts n):=by simp [fC,List.getD_eq_getElem?_getD,aV h]
def SU:List UInt8:=[116,114,117,101]
def KW:List UInt8:=[102,97,108,115,101]
def aG4 (ts:List Tk) (z:Fs):Vl × Fs:=
 bif !z.bad && tQ 1 SU (fC ts z.n) then (.mk 1 1 (mk []) [] [],⟨false,z.off,gA ts z.n⟩)
 else bif !z.bad && tQ 1 KW (fC ts z.n) then (.mk 1 0 (mk []) [] [],⟨false,z.off,gA ts z.n⟩)
 else (.mk 1 0 (mk []) [] [],gP ts z)
def aM7 (k:Int) (ts:List Tk) (z:Fs):Vl × Fs:=(.mk k (QX 2 ts z).n (mk []) [] [],SW 2 ts z)
def aFJ (ts:List Tk) (z:Fs):Vl × Fs:=(.mk 4 0 (mk (QX 3 ts z).x) [] [],SW 3 ts z)
def OV (e:En) (ts:List Tk) (z:Fs):Int:=bif !z.bad && (fC ts z.n).k == 1 then m9 e.ns (mk (fC ts z.n).x) 0 else -1
def aGD (e:En) (ts:List Tk) (z:Fs):Vl × Fs:=
 bif decide (OV e ts z < 0) || decide ((e.vs.length:Int)<=OV e ts z) then (.mk 7 0 (mk []) [] [],gP ts z)
 else (.mk 7 (e.vs.getD (OV e ts z).toNat 0) (mk []) [] [],⟨false,z.off,gA ts z.n⟩)
abbrev GU:Type:=Sc->List Tk->Ty->Fs->Vl × Fs
def xG {α:Type} (one:α->Fs->α × Fs) (ts:List Tk):Nat->α->Fs->α × Fs
 | 0,a,z=>(a,z)
 | f + 1,a,z=>bif z.bad then (a,z) else bif iH [44] ts (one a z).2 then xG one ts f (one a z).1 (sE [44] ts (one a z).2) else one a z
theorem L6 {α:Type} (one:α->Fs->α × Fs) (ts:List Tk) (f:Nat) (a:α) (z:Fs):xG one ts (f + 1) a z=bif z.bad then (a,z) else bif iH [44] ts (one a z).2 then xG one ts f (one a z).1 (sE [44] ts (one a z).2) else one a z:=rfl
def JL {α:Type} (one:α->Fs->α × Fs) (op sh:List UInt8) (ts:List Tk) (a:α) (z:Fs):α × Fs:=
 bif iH sh ts (d4 op ts z) then (a,sE sh ts (d4 op ts z))
 else ((xG one ts (ts.length + 1) a (d4 op ts z)).1,d4 sh ts (xG one ts (ts.length + 1) a (d4 op ts z)).2)
theorem aCY {ts:List Tk} {n:Nat} (h:n < ts.length):n<=gA ts n/\gA ts n < ts.length:=by
 unfold gA; split<;>omega
theorem XK (ts:List Tk) (z:Fs):(gP ts z).n=z.n:=by unfold gP; cases z.bad<;>rfl
theorem GW {w:List UInt8} {ts:List Tk} {z:Fs} (h:z.n < ts.length):z.n<=(d4 w ts z).n/\(d4 w ts z).n < ts.length:=by
 unfold d4
 cases iH w ts z
 · rw [aX,XK]; exact ⟨Nat.le_refl _,h⟩
 · exact aCY h
def Onw {α:Type} (one:α->Fs->α × Fs) (ts:List Tk):Prop:=∀ a z,z.n < ts.length->z.n<=(one a z).2.n/\(one a z).2.n < ts.length
def aBJ (P:GU) (s:Sc) (ts:List Tk) (u:Ty):List Vl->Fs->List Vl × Fs:=fun l z=>(l ++ [(P s ts u z).1],(P s ts u z).2)
def aG6 (P:GU) (s:Sc) (ts:List Tk) (u:Ty) (z:Fs):Vl × Fs:=(.mk 5 0 (mk []) (JL (aBJ P s ts u) [91] [93] ts [] z).1 [],(JL (aBJ P s ts u) [91] [93] ts [] z).2)
def aBP (n:List UInt8):List Fl->Nat->Int
 | [],_=>-1
 | x :: l,i=>bif bl x.nm == n then (i:Int) else aBP n l (i + 1)
abbrev Fst:Type:=Int × List (Int × Vl)
def rQ (ts:List Tk) (u:St) (z:Fs):Int:=aBP (fC ts z.n).x u.fs 0
def aAW (ts:List Tk) (u:St) (last:Int) (z:Fs):Bool:=(fC ts z.n).k != 1 || decide (rQ ts u z < 0) || decide ((u.fs.getD (rQ ts u z).toNat default).num<=last)
def aDT (ts:List Tk) (z:Fs):Fs:=d4 [61] ts ⟨z.bad,z.off,gA ts z.n⟩
def aCR (P:GU) (s:Sc) (ts:List Tk) (u:St):Fst->Fs->Fst × Fs:=fun a z=>
 bif aAW ts u a.1 z then (a,gP ts z)
 else (((u.fs.getD (rQ ts u z).toNat default).num,a.2 ++ [((u.fs.getD (rQ ts u z).toNat default).num,(P s ts (u.fs.getD (rQ ts u z).toNat default).ty (aDT ts z)).1)]),(P s ts (u.fs.getD (rQ ts u z).toNat default).ty (aDT ts z)).2)
def stOf (s:Sc) (t:Ty):St:=(fS s.ss t.n).getD default
def XT (P:GU) (s:Sc) (ts:List Tk) (u:St) (z:Fs):Vl × Fs:=(.mk 6 0 (mk []) [] (JL (aCR P s ts u) [123] [125] ts (0,[]) z).1.2,(JL (aCR P s ts u) [123] [125] ts (0,[]) z).2)
theorem eZ {s:Sc} (hs:s.fit) (t:Ty):(stOf s t).ok:=by
 unfold stOf
 cases h:fS s.ss t.n with
 | none=>exact ⟨by decide,by decide,fun _ h=>(by cases h)⟩
 | some u=>exact hs.ok.ss u (List.mem_of_find?_eq_some h)
def pP:Nat->GU
 | 0=>fun _ _ _ z=>(default,z)
 | N + 1=>fun s ts t z=>bif t.k == 1 then aG4 ts z else bif t.k == 4 then aFJ ts z else bif t.k == 7 then aGD ((eN s.es t.n).getD default) ts z
  else bif t.k == 5 then aG6 (pP N) s ts (t.e.headD default) z else bif t.k == 6 then XT (pP N) s ts (stOf s t) z else aM7 t.k ts z
def zF (s:Sc):Nat->Ty->Vl
 | 0,_=>.mk 0 0 (mk []) [] []
 | n + 1,t=>bif valF s.ss s.es t then (bif t.k == 6 then .mk 6 0 (mk []) [] (((stOf s t).fs.filter fun f=>!f.opt).map fun f=>(f.num,zF s n f.ty)) else .mk t.k 0 (mk []) [] []) else .mk 0 0 (mk []) [] []
def zE (s:Sc) (n:Nat) (l:List Fl):List (Int × Vl):=(l.filter fun f=>!f.opt).map fun f=>(f.num,zF s n f.ty)
theorem x7 (s:Sc) (n:Nat) (t:Ty):zF s (n + 1) t=bif valF s.ss s.es t then (bif t.k == 6 then .mk 6 0 (mk []) [] (zE s n (stOf s t).fs) else .mk t.k 0 (mk []) [] []) else .mk 0 0 (mk []) [] []:=rfl
theorem XI {s:Sc} {n i:Nat} {l:List Fl} {f:Fl} (h:l[i]? = some f):zE s n (l.take (i + 1))=bif f.opt then zE s n (l.take i) else zE s n (l.take i) ++ [(f.num,zF s n f.ty)]:=by
 unfold zE
 rw [List.take_add_one,h,List.filter_append,List.map_append]
 cases hf:f.opt<;>simp [hf]
theorem M5 (s:Sc) (n:Nat) (l:List Fl):(zE s n l).length<=l.length:=by
 unfold zE; rw [List.length_map]; exact List.length_filter_le _ _
theorem HD {s:Sc} (hs:s.fit) (t:Ty):(stOf s t).fs.length<=1000000000:=by
 unfold stOf
 cases h:fS s.ss t.n with
 | none=>exact Nat.zero_le _
 | some u=>exact (hs.sm u (List.mem_of_find?_eq_some h)).1
def aC2 (N:Nat):W.Spec:=fun av H K=>∃ (s:Sc) (t:Ty) (n:Nat),av=[.va (.gs (aJ s)),.va (.gs (aW t)),iS .i64 ((n:Int) - 1)]/\H=[]/\s.fit/\TyOk t/\n < N/\N<=100/\K (.va (.gs (aQ (zF s n t)))) []
theorem LZ {N:Nat} {s:Sc} {t:Ty} {n:Nat} {K:S->Hp->Prop} (h1:s.fit) (h2:TyOk t) (h3:n < N) (h4:N<=100) (hK:K (.va (.gs (aQ (zF s n t)))) []):aC2 N [.va (.gs [.vl (.int .i64 s.ver),.fz (s.es.map a6),.fz (s.ss.map aI)]),.va (.gs [.vl (.int .i64 t.k),.vl (.int .i64 t.s),.vl (.string t.n),.fz (t.e.map aW)]),iS .i64 ((n:Int) - 1)] [] K:=⟨s,t,n,by rw [aS]; rfl,rfl,h1,h2,h3,h4,hK⟩
theorem LL:∀ N,Meets Tryz.prog 83 (aC2 N)
 | 0=>⟨by kernel_rfl,by rintro xs vs E ro w K _ _ _ ⟨_,_,n,_,_,_,_,h,_⟩; exact absurd h (Nat.not_lt_zero n)⟩
 | N + 1=>by
  refine aD Tryz.func83 aOQ 3 (by rw [Tryz.ntmps83]; decide) (aH s9 (aC iZ (aC (LL N) (aB _)))) (fun av H K h=>by obtain ⟨_,_,_,rfl,_⟩:=h; rfl) ?_
  rintro av H K ⟨s,t,n,rfl,rfl,hs,ht,hn,hN,hK⟩
  have k4:=jM ht
  have k5:=qE t
  have k6:=fR hs
  have k7:=lG s
  have fin:∀ {v:Vl} (R:Hp),zF s n t=v->W.Fin 0 K (.va (.gs (aQ v))) R:=fun {v} R h=>by
   rw [h] at hK; refine .sel [] (by simp) (by simp) rfl (.done ?_)
   rw [aK] at hK ⊢
   simpa [go_sem] using hK
  cases n with
  | zero=>
   have g:decide (((0:Nat):Int) - 1 < 0)=true:=rfl
   simp (maxSteps:=1000000) -dsimp only [go_sem,aJ,aS t,DM,F7,g,k4,k5,k6,k7]
   exact fin (v:=.mk 0 0 (mk []) [] []) _ rfl
  | succ n=>
   have g:decide (((n + 1:Nat):Int) - 1 < 0)=false:=by rw [decide_eq_false_iff_not]; omega
   have g':((n + 1:Nat):Int) - 1=n:=by omega
   rw [g'] at g ⊢
   rw [x7] at fin
   cases h1:valF s.ss s.es t with
   | false=>
    rw [h1,aX] at fin
    simp (maxSteps:=1000000) -dsimp only [go_sem,aJ,aS t,DM,F7,g,k4,k5,k6,k7,h1]
    exact fin _ rfl
   | true=>
   rw [h1,bI] at fin
   cases h2:t.k == 6 with
   | false=>
    have h2':(t.k != 6)=true:=by rw [bne,h2]; rfl
    rw [h2,aX] at fin
    simp (maxSteps:=1000000) -dsimp only [go_sem,aJ,aS t,DM,F7,g,k4,k5,k6,k7,h1,h2']
    exact fin _ rfl
   | true=>
   have h2':(t.k != 6)=false:=by rw [bne,h2]; rfl
   rw [h2,bI] at fin
   simp (maxSteps:=1000000) -dsimp only [go_sem,aJ,aS t,DM,F7,g,k4,k5,k6,k7,h1,h2']
   refine i7 hs ?_
   rw [show (fS s.ss t.n).getD default=stOf s t from rfl]
   have hok:=eZ hs t
   have hsm:=HD hs t
   have hz6:zF s (n + 1) t=.mk 6 0 (mk []) [] (zE s n (stOf s t).fs):=by rw [x7,h1,h2]; rfl
   rw [hz6,aK] at hK
   clear hz6 fin
   generalize stOf s t=u at *
   simp (maxSteps:=1000000) -dsimp only [go_sem,aI]
   have hlen:=fun i=>Nat.le_trans (M5 s n (u.fs.take i)) (Nat.le_trans (List.length_take_le' i u.fs) hsm)
   refine cM (α:=Nat) (fun i=>[(2,iS .i64 n),(3,.va (.c1 (.pt 0 0))),(4,.va (.c1 (.pt 1 0))),(6,.va (.c1 (.pt 2 0))),(7,.va (.c1 (.pt 3 0))),(37,.va (.c1 (.fz (u.fs.map aR)))),(38,iS .i64 u.fs.length),(39,iS .i64 i)])
    (fun i=>[.cells [.vl (.int .i64 s.ver),.fz (s.es.map a6),.fz (s.ss.map aI)] 93,.cells [.vl (.int .i64 t.k),.vl (.int .i64 t.s),.vl (.string t.n),.fz (t.e.map aW)] 42,.cells [.vl (.int .i64 0),.vl (.int .i64 0),.vl (.string (mk [])),.vl (.slice none 0 0),.vl (.slice none 0 0)] 29,
      .cells [.vl (.int .i64 t.k),.vl (.int .i64 0),.vl (.string (mk [])),.vl (.slice none 0 0),.sl 5 (zE s n (u.fs.take i)).length] 29,.cells [.vl (.string u.nm),.fz (u.fs.map aR)] 48,.row ((zE s n (u.fs.take i)).map bD) 76 6])
    (fun i=>i<=u.fs.length) (fun i=>u.fs.length - i) (.nilc 3 4 76 6 _ _ rfl rfl (jJ 0 6 (Nat.zero_le _) ?_ ?_)) ?_
   · simp -dsimp only [go_sem]<;>simp
   · simp -dsimp only [go_sem]<;>simp [zE]
   intro i hi
   have hli:=hlen i
   rcases a8 i u.fs.length with hlt | hge
   · have hg:decide ((i:Int) < (u.fs.length:Int))=true:=by simp; omega
     have hx:u.fs[i]? = some u.fs[i]:=aV hlt
     have q2:=aY (row:=aR) hx
     have hfo:=(hok.fs _ (List.getElem_mem hlt)).ty
     generalize u.fs[i]=f at *
     have hz:=XI (s:=s) (n:=n) hx
     cases ho:f.opt with
     | true=>
      rw [ho,bI] at hz
      simp (maxSteps:=1000000) -dsimp only [go_sem,hg,↓q2,aR,ho,List.take_succ_cons,List.take_zero,List.length_cons]
      refine ⟨by omega,by omega,aE (i + 1) 6 (by omega) (by omega) ?_ ?_⟩
      · simp -dsimp only [go_sem]<;>simp
      · simp -dsimp only [go_sem,hz]<;>simp
     | false=>
      rw [ho,aX] at hz
      simp (maxSteps:=1000000) -dsimp only [go_sem,hg,↓q2,aR,ho,List.take_succ_cons,List.take_zero,List.length_cons]
      refine ⟨⟨by omega,by omega⟩,⟨by omega,by omega⟩,LZ hs hfo (by omega) (by omega) ?_⟩
      generalize zF s n f.ty=v at *
      simp (maxSteps:=1000000) -dsimp only [go_sem,aK v]
      refine ⟨by omega,by omega,aE (i + 1) 6 (by omega) (by omega) ?_ ?_⟩
      · simp -dsimp only [go_sem]<;>simp
      · simp -dsimp only [go_sem,hz]<;>simp [bD,aK v]
   · have hg:decide ((i:Int) < (u.fs.length:Int))=false:=by simp; omega
     rw [List.take_of_length_le hge] at *
     have h6:t.k=6:=eq_of_beq h2
     simp (maxSteps:=1000000) -dsimp only [go_sem,hg,h6]
     refine .pub 5 _ _ _ rfl (.sel [] (by simp) (by simp [cG]) rfl (.done ?_))
     simp -dsimp only [go_sem,cG]
     exact hK
def EQ:W.Spec:=fun av H K=>∃ (s:Sc) (t:Ty),av=[.va (.gs (aJ s)),.va (.gs (aW t))]/\H=[]/\s.fit/\TyOk t/\K (.va (.gs (aQ (zF s 23 t)))) []
theorem xN {s:Sc} {t:Ty} {K:S->Hp->Prop} (h1:s.fit) (h2:TyOk t) (hK:K (.va (.gs (aQ (zF s 23 t)))) []):EQ [.va (.gs [.vl (.int .i64 s.ver),.fz (s.es.map a6),.fz (s.ss.map aI)]),.va (.gs [.vl (.int .i64 t.k),.vl (.int .i64 t.s),.vl (.string t.n),.fz (t.e.map aW)])] [] K:=⟨s,t,by rw [aS]; rfl,rfl,h1,h2,hK⟩
theorem S8:Meets Tryz.prog 45 EQ:=by
 refine aD Tryz.func45 aKV 2 (by rw [Tryz.ntmps45]; decide) (aC (LL 24) (aB _)) (fun av H K h=>by obtain ⟨_,_,rfl,_⟩:=h; rfl) ?_
 rintro av H K ⟨s,t,rfl,rfl,hs,ht,hK⟩
 simp (maxSteps:=1000000) -dsimp only [go_sem,aJ,aS t,aDC,aA4]
 refine LZ (n:=23) hs ht (by decide) (by decide) ?_
 rw [aK] at hK ⊢
 simp (maxSteps:=1000000) -dsimp only [go_sem]
 refine .sel [] (by simp) (by simp) rfl (.done ?_)
 simp -dsimp only [go_sem]
 exact hK
theorem BW {s:Sc} (hs:s.fit):∀ (n:Nat) (t:Ty),TyOk t->VlOk (zF s n t)
 | 0,t,ht=>.mk ⟨by decide,by decide⟩ ⟨by decide,by decide⟩ (by decide) (by simp) (by simp) (by simp) (by simp) (by simp)
 | n + 1,t,ht=>by
  have hok:=eZ hs t
  have hsm:=HD hs t
  rw [x7]
  cases valF s.ss s.es t with
  | false=>exact .mk ⟨by decide,by decide⟩ ⟨by decide,by decide⟩ (by decide) (by simp) (by simp) (by simp) (by simp) (by simp)
  | true=>
   cases t.k == 6 with
   | false=>exact .mk ht.k ⟨by decide,by decide⟩ (by decide) (by simp) (by simp) (by simp) (by simp) (by simp)
   | true=>
    have hl:=M5 s n (stOf s t).fs
    have hm:∀ x ∈ zE s n (stOf s t).fs,∃ f ∈ (stOf s t).fs,x=(f.num,zF s n f.ty):=fun x hx=>by
     unfold zE at hx
     obtain ⟨f,hf,rfl⟩:=List.mem_map.1 hx
     exact ⟨f,(List.mem_filter.1 hf).1,rfl⟩
    refine .mk ⟨by decide,by decide⟩ ⟨by decide,by decide⟩ (by decide) (by simp) (by omega) (by simp) (fun x hx=>?_) (fun x hx=>?_)
    · obtain ⟨f,hf,rfl⟩:=hm x hx; exact (hok.fs f hf).num
    · obtain ⟨f,hf,rfl⟩:=hm x hx; exact BW hs n f.ty (hok.fs f hf).ty
def pmF (s:Sc) (t:Ty):Bool:=j7 s t (zF s 23 t) == 0
theorem D9 {k n:Int} {s:ByteArray} (hk:bM k) (hn:bM n) (hs:s.size<=9223372036854775807):VlOk (.mk k n s [] []):=.mk hk hn hs (by simp) (by simp) (by simp) (by simp) (by simp)
def v0:Vl:=.mk 0 0 (mk []) [] []
def ZV (ts:List Tk) (z:Fs):Fs:=bif (fC ts z.n).k != 0 then gP ts z else z
def aM1 (s:Sc) (t:Ty) (ts:List Tk) (r:Vl × Fs):Vl × Int × Int:=
 bif (ZV ts r.2).bad then (v0,2,(ZV ts r.2).off) else bif j7 s t r.1 != 0 then (v0,j7 s t r.1,0) else (r.1,0,0)
def JR (P:GU) (s:Sc) (t:Ty) (x:List UInt8):Vl × Int × Int:=
 bif !pmF s t then (v0,13,0) else bif (w9 x).err != 0 then (v0,(w9 x).err,(w9 x).off) else aM1 s t (w9 x).toks (P s (w9 x).toks t ⟨false,0,0⟩)
abbrev MV:Type:=Sc->Ty->Vl->List UInt8 × Bool
def tvB (n:Int):List UInt8:=bif n == 1 then SU else KW
def tvT (x:List UInt8):List UInt8:=bif decide (x.length<=200) && x.all YD then aLB x else []
def nmF (ns:List ByteArray) (n:Int):List Int->Nat->ByteArray
 | [],_=>mk []
 | m :: l,i=>bif m == n && decide ((i:Int) < (ns.length:Int)) then ns.getD i (mk []) else nmF ns n l (i + 1)
def enOf (s:Sc) (t:Ty):En:=(eN s.es t.n).getD default
def O4:Bool->List (List UInt8)->List UInt8
 | _,[]=>[]
 | c,x :: r=>(bif c then [44,32] else []) ++ x ++ O4 true r
def aHY (F:MV) (s:Sc) (u:Ty) (l:List Vl):List UInt8 × Bool:=([91] ++ O4 false (l.map fun x=>(F s u x).1) ++ [93],l.any fun x=>(F s u x).2)
def lV (u:St) (n:Int):Fl:=(fF u.fs n).getD default
def itF (F:MV) (s:Sc) (u:St) (x:Int × Vl):List UInt8:=bl (lV u x.1).nm ++ [32,61,32] ++ (F s (lV u x.1).ty x.2).1
def WW (F:MV) (s:Sc) (u:St) (l:List (Int × Vl)):List UInt8 × Bool:=([123] ++ O4 false (l.map (itF F s u)) ++ [125],l.any fun x=>(F s (lV u x.1).ty x.2).2)
def fP:Nat->MV
 | 0=>fun _ _ _=>([],false)
 | N + 1=>fun s t v=>bif t.k == 1 then (tvB v.n,false) else bif t.k == 4 then (tvT (bl v.s),tvT (bl v.s) == []) else bif t.k == 7 then (bl (nmF (enOf s t).ns v.n (enOf s t).vs 0),false)
  else bif t.k == 5 then aHY (fP N) s (t.e.headD default) v.l else bif t.k == 6 then WW (fP N) s (stOf s t) v.f else (aLQ v.n,false)
def aNJ (F:MV) (s:Sc) (t:Ty) (v:Vl):List UInt8:=bif j7 s t v != 0 then [] else bif (F s t v).2 || decide (4000 < ((F s t v).1.length:Int)) then [] else (F s t v).1
def cF (l:List (Int × Vl)) (k:Int):Option (Int × Vl):=l.find? fun x=>decide (x.1=k)
def YU:W.Spec:=fun av H K=>∃ (v:Vl) (k:Int),av=[.va (.gs (aQ v)),iS .i64 k]/\H=[]/\VlOk v/\v.k=6/\K (.tu [.gs (aQ (((cF v.f k).map (·.2)).getD default)),bA (cF v.f k).isSome]) []
theorem ZO {v:Vl} {k:Int} {K:S->Hp->Prop} (h:VlOk v) (h6:v.k=6) (hK:K (.tu [.gs (aQ (((cF v.f k).map (·.2)).getD default)),bA (cF v.f k).isSome]) []):YU [.va (.gs [.vl (.int .i64 v.k),.vl (.int .i64 v.n),.vl (.string v.s),.fz (v.l.map aQ),.fz (v.f.map bD)]),iS .i64 k] [] K:=⟨v,k,by rw [aK],rfl,h,h6,hK⟩
theorem H6:aQ default=[.vl (.int .i64 0),.vl (.int .i64 0),.vl (.string (mk [])),.fz [],.fz []]:=rfl
def NP (v:Vl):Bool:=(v.k != 4 && !(bl v.s == [])) || (v.k != 5 && decide (0 < (v.l.length:Int))) || (v.k != 6 && decide (0 < (v.f.length:Int)))
def QF (v:Vl):Bool:=(v.k == 4 || v.k == 5 || v.k == 6) && v.n != 0
def MT (s:Sc) (t:Ty) (v:Vl):Bool:=bif !(valF s.ss s.es t) || v.k != t.k || NP v then false else bif QF v then false else bif v.k != 6 then true else dX (stOf s t).fs v.f
def wW (s:Sc) (t:Ty) (n:Int):Bool:=
 bif t.k == 1 then n == 0 || n == 1
 else bif t.k == 2 then t.s == 64 || (decide (-(2 ^ (t.s.toNat - 1):Int)<=n) && decide (n < (2 ^ (t.s.toNat - 1):Int)))
 else bif t.k == 3 then decide (0<=n) && decide (n < (2 ^ t.s.toNat:Int))
 else bif t.k == 7 then (enOf s t).vs.any fun x=>x == n else true
def aEK (t:Ty) (a b:Int):Bool:=(t.k == 4 && decide (t.s < a)) || (t.k == 5 && decide (t.s < b))
mutual
def HH (s:Sc) (t:Ty):Vl->Int
 | .mk k n str l f=>bif !(MT s t (.mk k n str l f)) then 13 else bif !(wW s t n) then 4 else bif aEK t (bl str).length l.length then 3
  else bif CZ s (t.e.headD default) l != 0 then CZ s (t.e.headD default) l else IW s (stOf s t) f
def CZ (s:Sc) (t:Ty):List Vl->Int
 | []=>0
 | v :: r=>bif HH s t v != 0 then HH s t v else CZ s t r
def IW (s:Sc) (u:St):List (Int × Vl)->Int
 | []=>0
 | (i,v) :: r=>bif HH s (lV u i).ty v != 0 then HH s (lV u i).ty v else IW s u r
end
theorem m0 {α:Type} {l:List α} (h:decide (0 < (l.length:Int))=false):l=[]:=by
 have:=of_decide_eq_false h
 exact List.length_eq_zero_iff.1 (by omega)
theorem YZ {s:Sc} {t:Ty} {n:Int} (hp:valF s.ss s.es t=true) (h4:(t.k == 4)=false) (h5:(t.k == 5)=false) (h6:(t.k == 6)=false):wW s t n=gB s t n:=by
 unfold wW gB
 cases h1:t.k == 1 with
 | true=>rfl
 | false=>
 cases h2:t.k == 2 with
 | true=>rfl
 | false=>
 cases h3:t.k == 3 with
 | true=>rfl
 | false=>
 cases h7:t.k == 7 with
 | true=>rfl
 | false=>
  exfalso
  obtain ⟨k,sz,nm,e⟩:=t
  have h1:(k == 1)=false:=h1
  have h2:(k == 2)=false:=h2
  have h3:(k == 3)=false:=h3
  have h4:(k == 4)=false:=h4
  have h5:(k == 5)=false:=h5
  have h6:(k == 6)=false:=h6
  have h7:(k == 7)=false:=h7
  rw [valF,h1,h2,h3,h4,h5,h6,h7] at hp
  cases hp
mutual
theorem LS (s:Sc) (t:Ty):∀ v:Vl,HH s t v=cY s t v
 | .mk k n str l f=>by
  have hL:∀ u,CZ s u l=iR s u l:=fun u=>KS s u l
  have hE:IW s (stOf s t) f=iQ s ((fS s.ss t.n).getD default).fs f:=L5 s (stOf s t) f
  rw [HH,cY,hL,hE]
  unfold MT
  cases hp:valF s.ss s.es t with
  | false=>rfl
  | true=>
  show (bif !(bif !true || k != t.k || NP (.mk k n str l f) then false else bif QF (.mk k n str l f) then false else bif k != 6 then true else dX (stOf s t).fs f) then 13 else _)=_
  cases hk:k != t.k with
  | true=>rfl
  | false=>
  have hk':k=t.k:=by simpa using hk
  subst hk'
  have eA:NP (.mk t.k n str l f)=((t.k != 4 && !(bl str == [])) || (t.k != 5 && decide (0 < (l.length:Int))) || (t.k != 6 && decide (0 < (f.length:Int)))):=rfl
  have eB:QF (.mk t.k n str l f)=((t.k == 4 || t.k == 5 || t.k == 6) && n != 0):=rfl
  rw [eA,eB]
  unfold aEK
  cases h4:t.k == 4 with
  | true=>
   have e4:t.k=4:=eq_of_beq h4
   have er:wW s t n=true:=by unfold wW; rw [e4]; rfl
   rw [er,e4]
   unfold nS
   cases hn:n != 0<;>cases hl:decide (0 < (l.length:Int))<;>cases hf:decide (0 < (f.length:Int))<;>cases hs:decide (t.s < ((bl str).length:Int))<;>(try rw [m0 hl])<;>(try rw [m0 hf])<;>simp [iR,iQ]
  | false=>
  cases h5:t.k == 5 with
  | true=>
   have e5:t.k=5:=eq_of_beq h5
   have er:wW s t n=true:=by unfold wW; rw [e5]; rfl
   rw [er,e5]
   generalize iR s (t.e.headD default) l=q
   have hq:(bif q != 0 then q else 0)=q:=by
    cases hz:q != 0 with
    | true=>rfl
    | false=>
     have hq0:q=0:=by simpa using hz
     rw [hq0]; rfl
   cases hn:n != 0<;>cases hb:bl str == []<;>cases hf:decide (0 < (f.length:Int))<;>cases hs:decide (t.s < (l.length:Int))<;>(try rw [m0 hf])<;>simp [iQ,hq]
  | false=>
  cases h6:t.k == 6 with
  | true=>
   have e6:t.k=6:=eq_of_beq h6
   have er:wW s t n=true:=by unfold wW; rw [e6]; rfl
   have ef:(stOf s t).fs=((fS s.ss t.n).getD default).fs:=rfl
   rw [er,e6,ef]
   cases hn:n != 0<;>cases hb:bl str == []<;>cases hl:decide (0 < (l.length:Int))<;>cases hs:dX ((fS s.ss t.n).getD default).fs f<;>(try rw [m0 hl])<;>simp [iR]
  | false=>
   rw [YZ hp h4 h5 h6]
   have c4:(t.k != 4)=true:=by rw [bne,h4]; rfl
   have c5:(t.k != 5)=true:=by rw [bne,h5]; rfl
   have c6:(t.k != 6)=true:=by rw [bne,h6]; rfl
   rw [c4,c5,c6]
   unfold oX
   cases hb:bl str == []<;>cases hl:decide (0 < (l.length:Int))<;>cases hf:decide (0 < (f.length:Int))<;>cases hr:gB s t n<;>(try rw [m0 hl])<;>(try rw [m0 hf])<;>simp [iR,iQ]
theorem KS (s:Sc) (t:Ty):∀ l:List Vl,CZ s t l=iR s t l
 | []=>by rw [CZ,iR]
 | v :: r=>by rw [CZ,iR,LS s t v,KS s t r]
theorem L5 (s:Sc) (u:St):∀ l:List (Int × Vl),IW s u l=iQ s u.fs l
 | []=>by rw [IW,iQ]
 | (i,v) :: r=>by
  rw [IW,iQ,LS s (lV u i).ty v,L5 s u r]; rfl
end
mutual
def dT:Vl->Int
 | .mk k n s l f=>bif mW (.mk k n s l f) then 0 else 1 + lQ (iB 0 l) f
def iB (d:Int):List Vl->Int
 | []=>d
 | v :: r=>iB (max d (dT v)) r
def lQ (d:Int):List (Int × Vl)->Int
 | []=>d
 | (_,v) :: r=>lQ (max d (dT v)) r
end
theorem aA0 (v:Vl):dT v=bif mW v then 0 else 1 + lQ (iB 0 v.l) v.f:=by cases v; rw [dT]; rfl
theorem C8 {g:Vl->Int} {n:Nat} (hg:∀ x,g x=min (dT x) n) (D:Int) (x:Vl):jZ g ((n:Int) - 1) (min D n) x=min (max D (dT x)) n:=by
 unfold jZ
 rw [hg x]
 cases h:decide (min D (n:Int)<=(n:Int) - 1) with
 | true=>have:=of_decide_eq_true h; rw [bI]; omega
 | false=>have:=of_decide_eq_false h; rw [aX]; omega
theorem Q2 {g:Vl->Int} {n:Nat} (hg:∀ x,g x=min (dT x) n):∀ (l:List Vl) (D:Int),l.foldl (jZ g ((n:Int) - 1)) (min D n)=min (iB D l) n
 | [],D=>by rw [iB]; rfl
 | x :: l,D=>by rw [List.foldl_cons,C8 hg,Q2 hg l,iB]
theorem SX {g:Vl->Int} {n:Nat} (hg:∀ x,g x=min (dT x) n):∀ (l:List (Int × Vl)) (D:Int),l.foldl (m2 g ((n:Int) - 1)) (min D n)=min (lQ D l) n
 | [],D=>by rw [lQ]; rfl
 | (i,x) :: l,D=>by
  rw [List.foldl_cons,show m2 g ((n:Int) - 1) (min D n) (i,x)=jZ g ((n:Int) - 1) (min D n) x from rfl,C8 hg,SX hg l,lQ]
theorem T0 {g:Vl->Int} {n:Nat} (hg:∀ x,g x=min (dT x) n) (v:Vl):FR g ((n:Int) - 1) v=min (dT v) ((n:Int) + 1):=by
 unfold FR
 rw [aA0]
 cases mW v with
 | true=>rw [bI,bI]; omega
 | false=>
  rw [aX,aX]
  have h1:=Q2 hg v.l 0
  rw [show min (0:Int) (n:Int)=0 by omega] at h1
  rw [h1,SX hg v.f]
  omega
mutual
theorem V0:∀ v:Vl,0<=dT v
 | .mk k n s l f=>by
  rw [dT]
  have h1:=rN l 0
  have h2:=qW f (iB 0 l)
  cases mW (.mk k n s l f) with
  | true=>exact Int.le_refl _
  | false=>rw [aX]; omega
theorem rN:∀ (l:List Vl) (d:Int),d<=iB d l
 | [],d=>by rw [iB]; exact Int.le_refl _
 | v :: r,d=>by
  rw [iB]
  have:=rN r (max d (dT v))
  omega
theorem qW:∀ (l:List (Int × Vl)) (d:Int),d<=lQ d l
 | [],d=>by rw [lQ]; exact Int.le_refl _
 | (_,v) :: r,d=>by
  rw [lQ]
  have:=qW r (max d (dT v))
  omega
end
theorem IH:∀ (n:Nat) (x:Vl),fO n x=min (dT x) n
 | 0,x=>by have:=V0 x; show (0:Int)=min (dT x) 0; omega
 | n + 1,x=>by
  rw [fO,wI,T0 (IH n) x]
  omega
theorem V8 (n:Nat) (v:Vl):pO n v=min (dT v) ((n:Int) + 1):=by rw [wI,T0 (IH n) v]
theorem WS (v:Vl):decide (6 < pO 7 v)=decide (6 < dT v):=by
 rw [V8]
 rw [Bool.eq_iff_iff,decide_eq_true_iff,decide_eq_true_iff]
 omega
mutual
theorem UE:∀ v:Vl,dT v<=v.h
 | .mk k n s l f=>by
  rw [dT,Vl.h]
  have h1:=TJ l 0
  have h2:=S2 f (iB 0 l)
  cases mW (.mk k n s l f) with
  | true=>rw [bI]; omega
  | false=>rw [aX]; omega
theorem TJ:∀ (l:List Vl) (d:Int),iB d l<=max d (Vl.hl l)
 | [],d=>by rw [iB,Vl.hl]; omega
 | v :: r,d=>by
  rw [iB,Vl.hl]
  have h1:=UE v
  have h2:=TJ r (max d (dT v))
  omega
theorem S2:∀ (l:List (Int × Vl)) (d:Int),lQ d l<=max d (Vl.hf l)
 | [],d=>by rw [lQ,Vl.hf]; omega
 | (i,v) :: r,d=>by
  rw [lQ,Vl.hf]
  have h1:=UE v
  have h2:=S2 r (max d (dT v))
  omega
end
mutual
def prV:Vl->Bool
 | .mk _ _ s l f=>(decide ((bl s).length<=200) && (bl s).all YD) && (prL l && prG f)
def prL:List Vl->Bool
 | []=>true
 | v :: r=>prV v && prL r
def prG:List (Int × Vl)->Bool
 | []=>true
 | (_,v) :: r=>prV v && prG r
end
def aM9 (s:Sc):Prop:=∀ e ∈ s.es,e.ns.length=e.vs.length
structure NSt (ss:List St) (es:List En) (u:St):Prop where
 l:u.fs.length<=16
 n:∀ f ∈ u.fs,1<=f.num/\f.num<=127
 m:∀ f ∈ u.fs,cT (bl f.nm)=true
 v:∀ f ∈ u.fs,valF ss es f.ty=true
 a:∀ k f g,0 < k->u.fs[k - 1]? = some g->u.fs[k]? = some f->g.num < f.num
 d:∀ k f,u.fs[k]? = some f->(u.fs.take k).any (fun g=>decide (g.nm=f.nm))=false
structure NEn (e:En):Prop where
 l:e.ns.length=e.vs.length
 s:e.ns.length<=16
 m:∀ n ∈ e.ns,cT (bl n)=true
 d:∀ k x,e.ns[k]? = some x->bU (e.ns.take k) x=false
 a:∀ k x y,0 < k->e.vs[k - 1]? = some x->e.vs[k]? = some y->x < y
 n:∀ x ∈ e.vs,0<=x/\x<=127
structure Nice (s:Sc):Prop where
 st:∀ u ∈ s.ss,NSt s.ss s.es u
 en:∀ e ∈ s.es,NEn e
theorem d8 {b:Bool} {x y:Int} (h:(bif b then x else y)=0) (hx:x ≠ 0):b=false/\y=0:=by
 cases b with
 | true=>exact absurd h hx
 | false=>exact ⟨rfl,h⟩
theorem MQ {x y:Int} (h:(bif x != 0 then x else y)=0):x=0/\y=0:=by
 by_cases c:x=0
 · subst c; exact ⟨rfl,h⟩
 · rw [show (x != 0)=true by simpa using c] at h; exact absurd h c
theorem LY {ss:List St} {es:List En} {t:St} {k:Nat} {f:Fl} (hx:t.fs[k]? = some f) (h:mN ss es t k=0) :
 (1<=f.num/\f.num<=127)/\(∀ g,0 < k->t.fs[k - 1]? = some g->g.num < f.num)/\cT (bl f.nm)=true/\(t.fs.take k).any (fun g=>decide (g.nm=f.nm))=false/\valF ss es f.ty=true:=by
 unfold mN at h
 rw [hx] at h
 simp only at h
 obtain ⟨c1,h⟩:=d8 h (by decide)
 obtain ⟨c2,h⟩:=d8 h (by decide)
 obtain ⟨c3,h⟩:=d8 h (by decide)
 obtain ⟨c4,h⟩:=d8 h (by decide)
 obtain ⟨c5,h⟩:=d8 h (by decide)
 simp only [Bool.or_eq_false_iff,decide_eq_false_iff_not] at c1
 refine ⟨⟨by omega,by omega⟩,fun g hk hg=>?_,by simpa using c3,c4,by simpa using c5⟩
 rw [hg] at c2
 simp only at c2
 rw [show decide (0 < (k:Int))=true by simp; omega,Bool.true_and] at c2
 have:=of_decide_eq_false c2
 omega
theorem AD {e:En} {k:Nat} {x:ByteArray} {n:Int} (hx:e.ns[k]? = some x) (hn:e.vs[k]? = some n) (h:i5 e k=0) :
 cT (bl x)=true/\bU (e.ns.take k) x=false/\(0<=n/\n<=127)/\(k=0->n=0)/\∀ m,0 < k->e.vs[k - 1]? = some m->m < n:=by
 unfold i5 at h
 rw [hx,hn] at h
 simp only at h
 obtain ⟨c3,h⟩:=d8 h (by decide)
 obtain ⟨c4,h⟩:=d8 h (by decide)
 obtain ⟨c1,h⟩:=d8 h (by decide)
 obtain ⟨c2,h⟩:=d8 h (by decide)
 rw [Bool.or_eq_false_iff] at c1 c2
 have a1:=of_decide_eq_false c1.1
 have a2:=of_decide_eq_false c1.2
 refine ⟨by simpa using c3,c4,⟨by omega,by omega⟩,fun hk=>?_,fun m hk hm=>?_⟩
 · have c2:=c2.1
   rw [show decide ((k:Int)=0)=true by simp; omega,Bool.true_and] at c2
   exact Decidable.of_not_not (of_decide_eq_false c2)
 · have c2:=c2.2
   rw [hm] at c2
   simp only at c2
   rw [show decide (0 < (k:Int))=true by simp; omega,Bool.true_and] at c2
   have:=of_decide_eq_false c2
   omega
theorem H3 {e:En} (h:mY e=0):0 < e.ns.length/\e.ns.length=e.vs.length/\∀ k < e.ns.length,i5 e k=0:=by
 unfold mY at h
 obtain ⟨c1,h⟩:=d8 h (by decide)
 simp only [Bool.or_eq_false_iff,decide_eq_false_iff_not] at c1
 exact ⟨by omega,by omega,fun k hk=>jD (m:=e.ns.length) (by rw [Nat.sub_zero]; exact h) k hk⟩
theorem oP {s:Sc} (h:bN s=0):dS s=false/\F3 s=0/\BL s=0/\jF s.ss=0:=by
 unfold bN at h
 obtain ⟨_,h⟩:=d8 h (by decide)
 obtain ⟨c2,h⟩:=d8 h (by decide)
 obtain ⟨c3,h⟩:=MQ h
 obtain ⟨c4,h⟩:=MQ h
 exact ⟨c2,c3,c4,h⟩
theorem WR {s:Sc} (h:bN s=0):Nice s:=by
 obtain ⟨c2,c3,c4,_⟩:=oP h
 obtain ⟨l1,l2,l3,l4⟩:=sZ c2
 refine ⟨fun u hu=>?_,fun e he=>?_⟩
 · obtain ⟨i,hi⟩:=List.mem_iff_getElem?.1 hu
   have hc:=(GM hi (jD c4 i (bB.1 hi).1)).2
   have key:=fun k f (hx:u.fs[k]? = some f)=>LY hx (jD hc k (bB.1 hx).1)
   have mem:∀ f ∈ u.fs,∃ k,u.fs[k]? = some f:=fun f hf=>List.mem_iff_getElem?.1 hf
   exact ⟨l4 u hu,fun f hf=>(mem f hf).elim fun k hx=>(key k f hx).1,fun f hf=>(mem f hf).elim fun k hx=>(key k f hx).2.2.1,fun f hf=>(mem f hf).elim fun k hx=>(key k f hx).2.2.2.2,
    fun k f g hk hg hf=>(key k f hf).2.1 g hk hg,fun k f hf=>(key k f hf).2.2.2.1⟩
 · obtain ⟨i,hi⟩:=List.mem_iff_getElem?.1 he
   obtain ⟨hp,hl,hc⟩:=H3 (HU hi (jD c3 i (bB.1 hi).1)).2.2
   have key:=fun k x n (hx:e.ns[k]? = some x) (hn:e.vs[k]? = some n)=>AD hx hn (hc k (bB.1 hx).1)
   have oth:∀ k x,e.ns[k]? = some x->∃ n,e.vs[k]? = some n:=fun k x hx=>⟨_,aV (hl ▸ (bB.1 hx).1)⟩
   have oth2:∀ k n,e.vs[k]? = some n->∃ x,e.ns[k]? = some x:=fun k x hx=>⟨_,aV (hl ▸ (bB.1 hx).1)⟩
   refine ⟨hl,l3 e he,fun x hx=>?_,fun k x hx=>?_,fun k x y hk hx hy=>?_,fun n hn=>?_⟩
   · obtain ⟨k,hk⟩:=List.mem_iff_getElem?.1 hx
     obtain ⟨n,hn⟩:=oth k x hk
     exact (key k x n hk hn).1
   · obtain ⟨n,hn⟩:=oth k x hx
     exact (key k x n hx hn).2.1
   · obtain ⟨z,hz⟩:=oth2 k y hy
     exact (key k z y hz hy).2.2.2.2 x hk hx
   · obtain ⟨k,hk⟩:=List.mem_iff_getElem?.1 hn
     obtain ⟨z,hz⟩:=oth2 k n hk
     exact (key k z n hz hk).2.2.1
theorem N3 {s:Sc} (h:bN s=0) {e:En} (he:e ∈ s.es):e.vs[0]? = some 0:=by
 obtain ⟨c2,c3,c4,_⟩:=oP h
 obtain ⟨i,hi⟩:=List.mem_iff_getElem?.1 he
 obtain ⟨hp,hl,hc⟩:=H3 (HU hi (jD c3 i (bB.1 hi).1)).2.2
 have h1:e.ns[0]? = some e.ns[0]:=aV hp
 have h2:e.vs[0]? = some (e.vs[0]'(hl ▸ hp)):=aV (hl ▸ hp)
 rw [h2,(AD h1 h2 (hc 0 hp)).2.2.2.1 rfl]
theorem Nice.stOf {s:Sc} (h:Nice s) (t:Ty):NSt s.ss s.es (stOf s t):=by
 unfold Proofs.YthpbnmebjocbeaaGreat.stOf
 cases h1:fS s.ss t.n with
 | none=>exact ⟨by decide,fun _ h=>(by cases h),fun _ h=>(by cases h),fun _ h=>(by cases h),fun _ _ _ _ h=>(by cases h),fun _ _ h=>(by cases h)⟩
 | some u=>exact h.st u (List.mem_of_find?_eq_some h1)
theorem Nice.enOf {s:Sc} (h:Nice s) (t:Ty):NEn (enOf s t):=by
 unfold Proofs.YthpbnmebjocbeaaGreat.enOf
 cases h1:eN s.es t.n with
 | none=>exact ⟨rfl,by decide,fun _ h=>(by cases h),fun _ _ h=>(by cases h),fun _ _ _ _ h=>(by cases h),fun _ h=>(by cases h)⟩
 | some u=>exact h.en u (List.mem_of_find?_eq_some h1)
theorem Nice.eq {s:Sc} (h:Nice s):aM9 s:=fun e he=>(h.en e he).l
theorem OB {x:List UInt8} (h:cT x=true):x.length<=16:=by
 rcases a8 16 x.length with h1 | h1
 · rw [A1 h1] at h; cases h
 · exact h1
structure Ck (s:Sc) (t:Ty) (v:Vl):Prop where
 va:valF s.ss s.es t=true
 kk:v.k=t.k
 tx:(t.k == 4)=true->v.n=0/\v.l=[]/\v.f=[]/\((bl v.s).length:Int)<=t.s
 ls:(t.k == 5)=true->v.n=0/\bl v.s=[]/\v.f=[]/\(v.l.length:Int)<=t.s/\∀ x ∈ v.l,cY s (t.e.headD default) x=0
 st:(t.k == 6)=true->v.n=0/\bl v.s=[]/\v.l=[]/\dX (stOf s t).fs v.f=true/\∀ x ∈ v.f,cY s (lV (stOf s t) x.1).ty x.2=0
 nu:(t.k == 4)=false->(t.k == 5)=false->(t.k == 6)=false->bl v.s=[]/\v.l=[]/\v.f=[]/\gB s t v.n=true
theorem EB {s:Sc} {t:Ty}:∀ {l:List Vl},iR s t l=0->∀ x ∈ l,cY s t x=0
 | [],_,_,h=>by cases h
 | y :: l,h,x,hx=>by
  rw [iR] at h
  by_cases c:cY s t y=0
  · rw [c] at h
    rcases List.mem_cons.1 hx with rfl | hx
    · exact c
    · exact EB h x hx
  · rw [show (cY s t y != 0)=true by simpa using c] at h; exact absurd h c
theorem EA {s:Sc} {fs:List Fl}:∀ {l:List (Int × Vl)},iQ s fs l=0->∀ x ∈ l,cY s ((fF fs x.1).getD default).ty x.2=0
 | [],_,_,h=>by cases h
 | y :: l,h,x,hx=>by
  rw [C4] at h
  by_cases c:cY s ((fF fs y.1).getD default).ty y.2=0
  · rw [c] at h
    rcases List.mem_cons.1 hx with rfl | hx
    · exact c
    · exact EA h x hx
  · rw [show (cY s ((fF fs y.1).getD default).ty y.2 != 0)=true by simpa using c] at h; exact absurd h c
theorem kJ {α:Type} {l:List α} (h:¬ 0 < (l.length:Int)):l=[]:=List.eq_nil_of_length_eq_zero (by omega)
theorem cR {k a b:Int} (h:(k == a)=true) (hab:a ≠ b):(k == b)=false:=by
 have:=eq_of_beq h; simp; omega
theorem iX {s:Sc} {t:Ty} {v:Vl} (h:cY s t v=0):Ck s t v:=by
 rw [KM] at h
 cases c1:!(valF s.ss s.es t) || v.k != t.k with
 | true=>rw [c1] at h; simp at h
 | false=>
 rw [c1,aX] at h
 rw [Bool.or_eq_false_iff] at c1
 have va:valF s.ss s.es t=true:=by simpa using c1.1
 have kk:v.k=t.k:=by simpa using c1.2
 cases c4:t.k == 4 with
 | true=>
  rw [c4,bI] at h
  unfold nS at h
  cases d1:v.n != 0 || decide (0 < (v.l.length:Int)) || decide (0 < (v.f.length:Int)) with
  | true=>rw [d1] at h; simp at h
  | false=>
   rw [d1,aX] at h
   cases d2:decide (t.s < ((bl v.s).length:Int)) with
   | true=>rw [d2] at h; simp at h
   | false=>
    simp only [Bool.or_eq_false_iff,decide_eq_false_iff_not,bne_eq_false_iff_eq] at d1 d2
    refine ⟨va,kk,fun _=>⟨d1.1.1,kJ d1.1.2,kJ d1.2,by omega⟩,fun h=>?_,fun h=>?_,fun h _ _=>?_⟩
    · rw [cR c4 (by decide)] at h; cases h
    · rw [cR c4 (by decide)] at h; cases h
    · rw [c4] at h; cases h
 | false=>
 rw [c4,aX] at h
 cases c5:t.k == 5 with
 | true=>
  rw [c5,bI] at h
  cases d1:v.n != 0 || !(bl v.s == []) || decide (0 < (v.f.length:Int)) with
  | true=>rw [d1] at h; simp at h
  | false=>
   rw [d1,aX] at h
   cases d2:decide (t.s < (v.l.length:Int)) with
   | true=>rw [d2] at h; simp at h
   | false=>
    rw [d2,aX] at h
    simp only [Bool.or_eq_false_iff,decide_eq_false_iff_not,bne_eq_false_iff_eq,Bool.not_eq_false'] at d1 d2
    refine ⟨va,kk,fun h=>?_,fun _=>⟨d1.1.1,eq_of_beq d1.1.2,kJ d1.2,by omega,EB h⟩,fun h=>?_,fun _ h _=>?_⟩
    · rw [c4] at h; cases h
    · rw [cR c5 (by decide)] at h; cases h
    · rw [c5] at h; cases h
 | false=>
 rw [c5,aX] at h
 cases c6:t.k == 6 with
 | true=>
  rw [c6,bI] at h
  cases d1:v.n != 0 || !(bl v.s == []) || decide (0 < (v.l.length:Int)) || !(dX ((fS s.ss t.n).getD default).fs v.f) with
  | true=>rw [d1] at h; simp at h
  | false=>
   rw [d1,aX] at h
   simp only [Bool.or_eq_false_iff,decide_eq_false_iff_not,bne_eq_false_iff_eq,Bool.not_eq_false'] at d1
   refine ⟨va,kk,fun h=>?_,fun h=>?_,fun _=>⟨d1.1.1.1,eq_of_beq d1.1.1.2,kJ d1.1.2,d1.2,EA h⟩,fun _ _ h=>?_⟩
   · rw [c4] at h; cases h
   · rw [c5] at h; cases h
   · rw [c6] at h; cases h
 | false=>
 rw [c6,aX] at h
 unfold oX at h
 cases d1:!(bl v.s == []) || decide (0 < (v.l.length:Int)) || decide (0 < (v.f.length:Int)) with
 | true=>rw [d1] at h; simp at h
 | false=>
  rw [d1,aX] at h
  cases d2:gB s t v.n with
  | false=>rw [d2] at h; simp at h
  | true=>
   simp only [Bool.or_eq_false_iff,decide_eq_false_iff_not,Bool.not_eq_false'] at d1
   refine ⟨va,kk,fun h=>?_,fun h=>?_,fun h=>?_,fun _ _ _=>⟨eq_of_beq d1.1.1,kJ d1.1.2,kJ d1.2,d2⟩⟩
   · rw [c4] at h; cases h
   · rw [c5] at h; cases h
   · rw [c6] at h; cases h
def eX:Nat->Nat
 | 0=>500
 | m + 1=>40 * eX m
theorem nY {s:Sc} {t:Ty} {v:Vl} (h:j7 s t v=0):cY s t v=0/\dT v<=6:=by
 unfold j7 at h
 rw [WS] at h
 cases c:decide (6 < dT v) with
 | true=>rw [c] at h; simp at h
 | false=>rw [c] at h; exact ⟨h,by have:=of_decide_eq_false c; omega⟩
def pJ (a b:Int × Int):Int × Int:=(IntKind.i64.wrap (a.1 + b.1),max a.2 b.2)
mutual
def l9:Vl->Int->Int × Int
 | .mk _ _ _ l f,lev=>bif decide (20 < lev) then (1,lev) else FN f (lev + 1) (s3 l (lev + 1) (1,lev))
def s3:List Vl->Int->Int × Int->Int × Int
 | [],_,a=>a
 | v :: r,lev,a=>s3 r lev (pJ a (l9 v lev))
def FN:List (Int × Vl)->Int->Int × Int->Int × Int
 | [],_,a=>a
 | (_,v) :: r,lev,a=>FN r lev (pJ a (l9 v lev))
end
mutual
theorem W5:∀ (v:Vl) (lev:Int),lev<=(l9 v lev).2
 | .mk k n s l f,lev=>by
  rw [l9]
  cases decide (20 < lev) with
  | true=>exact Int.le_refl _
  | false=>
   have h1:=rC l (lev + 1) (1,lev)
   have h2:=rZ f (lev + 1) (s3 l (lev + 1) (1,lev))
   rw [aX]
   simp only at h1
   omega
theorem rC:∀ (l:List Vl) (lev:Int) (a:Int × Int),a.2<=(s3 l lev a).2
 | [],_,_=>by rw [s3]; exact Int.le_refl _
 | v :: r,lev,a=>by
  have h:=rC r lev (pJ a (l9 v lev))
  rw [s3]
  unfold pJ at h ⊢
  simp only at h
  omega
theorem rZ:∀ (l:List (Int × Vl)) (lev:Int) (a:Int × Int),a.2<=(FN l lev a).2
 | [],_,_=>by rw [FN]; exact Int.le_refl _
 | (i,v) :: r,lev,a=>by
  have h:=rZ r lev (pJ a (l9 v lev))
  rw [FN]
  unfold pJ at h ⊢
  simp only at h
  omega
end
mutual
theorem RB:∀ (v:Vl) (lev:Int),(l9 v lev).2<=12->lev + v.h<=13
 | .mk k n s l f,lev,h=>by
  have h0:=W5 (.mk k n s l f) lev
  rw [l9] at h h0
  cases c:decide (20 < lev) with
  | true=>have:=of_decide_eq_true c; rw [c,bI] at h; simp only at h; omega
  | false=>
   rw [c,aX] at h h0
   have h1:=rC l (lev + 1) (1,lev)
   have h2:=rZ f (lev + 1) (s3 l (lev + 1) (1,lev))
   have h3:=TS f (lev + 1) (s3 l (lev + 1) (1,lev)) h
   have h4:=TV l (lev + 1) (1,lev) (by omega)
   rw [Vl.h]
   simp only at h1
   omega
theorem TV:∀ (l:List Vl) (lev:Int) (a:Int × Int),(s3 l lev a).2<=12->Vl.hl l=0\/lev + Vl.hl l<=13
 | [],_,_,_=>.inl (by rw [Vl.hl])
 | v :: r,lev,a,h=>by
  rw [s3] at h
  have h1:=rC r lev (pJ a (l9 v lev))
  have h2:(l9 v lev).2<=(pJ a (l9 v lev)).2:=by unfold pJ; simp only; omega
  have h3:=RB v lev (by omega)
  have h4:=TV r lev _ h
  rw [Vl.hl]
  omega
theorem TS:∀ (l:List (Int × Vl)) (lev:Int) (a:Int × Int),(FN l lev a).2<=12->Vl.hf l=0\/lev + Vl.hf l<=13
 | [],_,_,_=>.inl (by rw [Vl.hf])
 | (i,v) :: r,lev,a,h=>by
  rw [FN] at h
  have h1:=rZ r lev (pJ a (l9 v lev))
  have h2:(l9 v lev).2<=(pJ a (l9 v lev)).2:=by unfold pJ; simp only; omega
  have h3:=RB v lev (by omega)
  have h4:=TS r lev _ h
  rw [Vl.hf]
  omega
end
theorem aBO {ts:List Tk} {n:Nat} (he:Ends ts) (hn:n < ts.length) (hk:(fC ts n).k ≠ 0):gA ts n=n + 1:=by
 have h:=he.last n _ (DY hn)
 unfold gA
 rw [if_pos]
 by_cases e:n + 1=ts.length
 · exact absurd (h.2 e) hk
 · omega
abbrev gG (n:Nat):Fs:=⟨false,0,n⟩
def moN (w:List UInt8) (ts:List Tk) (n:Nat):Fs:=bif iH [44] ts (gG n) then sE [44] ts (gG n) else d4 w ts (gG n)
theorem L0 {ts:List Tk} {z:Fs} (h:z.bad=true):gP ts z=z:=by unfold gP; rw [h]; rfl
theorem FB {w:List UInt8} {ts:List Tk} {z:Fs} (h:z.bad=true):iH w ts z=false:=by unfold iH; rw [h]; rfl
theorem AH {w:List UInt8} {ts:List Tk} {z:Fs} (h:z.bad=true):d4 w ts z=z:=by unfold d4; rw [FB h]; exact L0 h
structure Vr {α:Type} (ts:List Tk) (r:α × Fs) (v:α) (n:Nat) (b:Bool):Prop where
 hb:r.2.bad=b
 hn:n < ts.length
 ok:b=false->v=r.1/\r.2=gG n
 er:b=true->r.2.off=((fC ts n).a:Int)
theorem WA {ts:List Tk} {n:Nat} (he:Ends ts) (hn:n < ts.length) (hk:(fC ts n).k ≠ 0):n + 1 < ts.length:=by
 have h:=he.last n _ (DY hn)
 by_cases e:n + 1=ts.length
 · exact absurd (h.2 e) hk
 · omega
theorem M7 {k:Int} {w:List UInt8} {t:Tk} (h:tQ k w t=true):t.k=k:=by unfold tQ at h; rw [Bool.and_eq_true] at h; exact eq_of_beq h.1
end Go.Proofs.YthpbnmebjocbeaaGreat
namespace Go.W
section
variable {P:Program} {f:FuncId} {s t:Spec}
def C.pl:C->C->Prop
 | .vl v,c'=>c'=.vl v
 | c,c'=>∃ u,c'=.vl u/\(c.one->u.oneCell'=true)
def A.pl:A->A->Prop
 | .c1 c,.c1 c'=>C.pl c c'
 | .gs cs,.gs cs'=>All2 C.pl cs cs'
 | _,_=>False
def S.pl:S->S->Prop
 | .va a,s=>∃ b,s=.va b/\A.pl a b
 | .tu l,s=>∃ m,s=.tu m/\All2 A.pl l m
 | _,s=>s=.un
end
end Go.W
namespace Go.Proofs.YthpbnmebjocbeaaGreat
open Go.W
theorem aHQ {α:Type} {ts:List Tk} {n:Nat} {v:α} {z:Fs} (h:z=gG z.n\/z=gP ts (gG n)) (hn:n < ts.length) (hz:z.n < ts.length):Vr ts (v,z) v z.n z.bad:=by
 rcases h with h | h
 · rw [h]; exact ⟨rfl,hz,fun _=>⟨rfl,rfl⟩,fun h=>(by cases h)⟩
 · rw [h]; exact ⟨rfl,hn,fun h=>(by cases h),fun _=>rfl⟩
theorem NZ (w:List UInt8) (ts:List Tk) (n:Nat):d4 w ts (gG n)=gG (d4 w ts (gG n)).n\/d4 w ts (gG n)=gP ts (gG n):=by
 unfold d4
 cases iH w ts (gG n) with
 | true=>exact .inl rfl
 | false=>exact .inr rfl
abbrev A6:List (Nat × S):=[(0,.va (.c1 (.pt 0 0))),(4,.va (.c1 (.pt 1 0))),(5,.va (.c1 (.pt 2 0))),(6,.va (.c1 (.pt 3 0))),(7,.va (.c1 (.pt 4 0)))]
theorem HF {ss:List St} {es:List En} {t:Ty} (h:valF ss es t=true):(t.k == 1)=true\/(t.k == 2)=true\/(t.k == 3)=true\/(t.k == 4)=true\/(t.k == 5)=true\/(t.k == 6)=true\/(t.k == 7)=true:=by
 obtain ⟨k,s,n,e⟩:=t
 show (k == 1)=true\/_
 rw [valF.eq_def] at h
 simp only at h
 cases h1:k == 1<;>cases h2:k == 2<;>cases h3:k == 3<;>cases h4:k == 4<;>cases h5:k == 5<;>cases h6:k == 6<;>cases h7:k == 7 <;>
 first
  | (simp [Ty.k,h1,h2,h3,h4,h5,h6,h7]; done)
  | (rw [h1,h2,h3,h4,h5,h6,h7] at h; cases h)
theorem LV {w:List UInt8} {ts:List Tk} {n:Nat}:iH w ts (gG n)=tQ 4 w (fC ts n):=by unfold iH; rw [Bool.not_false,Bool.true_and]
theorem C2 {w:List UInt8} {ts:List Tk} {n:Nat} (he:Ends ts) (hn:n < ts.length) (h:tQ 4 w (fC ts n)=true):sE w ts (gG n)=gG (n + 1):=by
 unfold sE; rw [LV,h,aBO he hn (by rw [M7 h]; decide)]; rfl
structure Ser {α:Type} (one:α->Fs->α × Fs) (sh:List UInt8) (ts:List Tk) (Q:α × Fs) (f:Nat) (m:Bool) (a:α) (n:Nat) (b:Bool):Prop where
 hn:n < ts.length
 go:m=true->b=false/\ts.length < n + f/\xG one ts f a (gG n)=Q
 no:m=false->Vr ts (Q.1,d4 sh ts Q.2) a n b
theorem Ser.next {α:Type} {one:α->Fs->α × Fs} {sh:List UInt8} {ts:List Tk} {Q:α × Fs} {f:Nat} {a a':α} {n n':Nat} {b':Bool} (he:Ends ts) (ho:Onw one ts) (h:Ser one sh ts Q (f + 1) true a n false) (hr:Vr ts (one a (gG n)) a' n' b') :
 (b'=true->Ser one sh ts Q f false a' n' true)/\(b'=false->Ser one sh ts Q f (iH [44] ts (gG n')) a' (moN sh ts n').n (moN sh ts n').bad):=by
 obtain ⟨_,h2,h3⟩:=h.go rfl
 rw [L6] at h3
 simp only [aX] at h3
 refine ⟨fun hb=>?_,fun hb=>?_⟩
 · have hbad:(one a (gG n)).2.bad=true:=by rw [hr.hb,hb]
   rw [FB hbad,aX] at h3
   refine ⟨hr.hn,fun h=>(by cases h),fun _=>?_⟩
   rw [<-h3]
   exact ⟨by rw [AH hbad,hbad],hr.hn,fun h=>(by cases h),fun _=>by rw [AH hbad]; exact hr.er hb⟩
 · obtain ⟨e1,e2⟩:=hr.ok hb
   have hn':=hr.hn
   rw [e2] at h3
   unfold moN
   cases hc:iH [44] ts (gG n') with
   | true=>
    have hc':=hc
    rw [LV] at hc'
    have hm:=WA he hn' (by rw [M7 hc']; decide)
    rw [hc,bI,C2 he hn' hc'] at h3
    rw [bI,C2 he hn' hc']
    refine ⟨hm,fun _=>⟨rfl,?_,by rw [e1]; exact h3⟩,fun h=>(by cases h)⟩
    have h5:=(ho a (gG n) h.hn).1
    rw [e2] at h5
    show ts.length < n' + 1 + f
    have h5:n<=n':=h5
    omega
   | false=>
    rw [hc,aX] at h3
    rw [aX]
    have hq:Q=(a',gG n'):=by rw [<-h3,e1,<-e2]
    refine ⟨(GW (w:=sh) hn').2,fun h=>(by cases h),fun _=>?_⟩
    rw [hq]
    exact aHQ (NZ sh ts n') hn' (GW (w:=sh) hn').2
structure Gtk (k:Int) (x:List UInt8) (n:Int):Prop where
 e:k=0->x=[]/\n=0
 o:k ≠ 0->okK k x n=true
 i:bM n
theorem WN {k:Int} {x:List UInt8} {n:Int} (h:okK k x n=true):x.length<=200:=by
 unfold okK at h
 cases c1:k == 1 with
 | true=>rw [c1,bI,Bool.and_eq_true] at h; have:=OB h.2; omega
 | false=>
 rw [c1,aX] at h
 cases c2:k == 2 with
 | true=>rw [c2,bI] at h; rw [eq_of_beq h]; exact Nat.zero_le _
 | false=>
 rw [c2,aX] at h
 cases c3:k == 3 with
 | true=>rw [c3,bI,Bool.and_eq_true,Bool.and_eq_true] at h; exact of_decide_eq_true h.2.1
 | false=>
 rw [c3,aX] at h
 cases c4:k == 4 with
 | false=>rw [c4] at h; cases h
 | true=>
  rw [c4,bI,Bool.and_eq_true] at h
  match x,h with
  | [],_=>exact Nat.zero_le _
  | [_],_=>exact (by decide:1<=200)
  | _ :: _ :: _,h=>exact absurd h.2 (by simp)
theorem Gtk.len {k:Int} {x:List UInt8} {n:Int} (h:Gtk k x n):x.length<=200:=by
 by_cases hk:k=0
 · rw [(h.e hk).1]; exact Nat.zero_le _
 · exact WN (h.o hk)
structure Dg (s:Sc):Prop where
 ni:Nice s
 g:Gd s.ss s.es
 ac:AW s.ss
 d6:∀ u ∈ s.ss,dD s.ss u.nm<=6
 z:∀ e ∈ s.es,e.vs[0]? = some 0
theorem BR {s:Sc} (hf:s.fit) (h:bN s=0):Dg s:=by
 obtain ⟨c2,c3,c4,c5⟩:=oP h
 unfold jF at c5
 obtain ⟨d1,c5⟩:=d8 c5 (by decide)
 obtain ⟨d2,c5⟩:=d8 c5 (by decide)
 exact ⟨WR h,HP hf c2 c4,fun t ht=>hT d1 t ht,fun u hu=>by have:=of_decide_eq_false (hT d2 u hu); omega,fun e he=>N3 h he⟩
abbrev j8 (s:Sc) (t:Ty):Int:=bX (dD s.ss) t
theorem z8 (s:Sc) (t:Ty):0<=j8 s t:=by
 unfold j8 bX
 have:=KI s.ss (bL t).2.n
 cases (bL t).2.k == 6 with
 | true=>rw [bI]; omega
 | false=>rw [aX]; omega
theorem H7 {s:Sc} {t u:Ty} (h5:(t.k == 5)=true) (he:t.e=[u]):j8 s t=j8 s u + 1:=by
 obtain ⟨k,z,n,e⟩:=t
 have hk:k=5:=eq_of_beq h5
 have he:e=[u]:=he
 subst hk he
 unfold j8 bX
 rw [bL,show ((5:Int) == 5)=true from rfl,bI,A2]
 simp only
 omega
theorem D4 {s:Sc} {t:Ty} (h6:(t.k == 6)=true):j8 s t=dD s.ss t.n:=by
 obtain ⟨k,z,n,e⟩:=t
 have hk:k=6:=eq_of_beq h6
 subst hk
 unfold j8 bX
 rw [bL,show ((6:Int) == 5)=false from rfl,aX]
 show ((0:Nat):Int) + (bif (6:Int) == 6 then dD s.ss n else 0)=dD s.ss n
 simp
theorem va6 {s:Sc} {t:Ty} (h:valF s.ss s.es t=true) (h6:(t.k == 6)=true):∃ u,fS s.ss t.n=some u/\stOf s t=u/\u ∈ s.ss/\u.nm=t.n:=by
 have hh:cA s.ss t.n=true:=by
  obtain ⟨k,z,n,e⟩:=t
  have hk:k=6:=eq_of_beq h6
  subst hk
  rw [valF] at h; simp at h; exact h.1.1
 rw [<-p6] at hh
 obtain ⟨u,hu⟩:=Option.isSome_iff_exists.1 hh
 exact ⟨u,hu,by unfold stOf; rw [hu]; rfl,(fQ hu).1,(fQ hu).2⟩
theorem vK {s:Sc} (hd:Dg s) {t:Ty} (h:valF s.ss s.es t=true) (h6:(t.k == 6)=true):1<=dD s.ss t.n/\dD s.ss t.n<=6/\∀ f ∈ (stOf s t).fs,j8 s f.ty + 1<=dD s.ss t.n:=by
 obtain ⟨u,h1,h2,h3,h4⟩:=va6 h h6
 have e:=JU hd.g hd.ac h1
 have h0:=jI (dD s.ss) u.fs
 refine ⟨by omega,by rw [<-h4]; exact hd.d6 u h3,fun f hf=>?_⟩
 rw [h2] at hf
 have:=IK (dp:=dD s.ss) hf
 show bX (dD s.ss) f.ty + 1<=_
 omega
theorem I5 {ss:List St} {es:List En} {u:St} (hu:NSt ss es u):u.fs.Pairwise fun f g=>f.num < g.num:=by
 have key:∀ (l:List Fl),(∀ k f g,0 < k->l[k - 1]? = some g->l[k]? = some f->g.num < f.num)->l.Pairwise fun f g=>f.num < g.num:=by
  intro l
  induction l with
  | nil=>intro _; exact .nil
  | cons y l ih=>
   intro h
   have hl:=ih fun k f g hk h1 h2=>h (k + 1) f g (by omega) (by rw [show k + 1 - 1=k - 1 + 1 by omega]; simpa using h1) (by simpa using h2)
   refine List.pairwise_cons.2 ⟨fun f hf=>?_,hl⟩
   cases l with
   | nil=>cases hf
   | cons z l=>
    have h1:=h 1 z y (by omega) rfl rfl
    rcases List.mem_cons.1 hf with rfl | hf
    · exact h1
    · exact Int.lt_trans h1 ((List.pairwise_cons.1 hl).1 f hf)
 exact key u.fs hu.a
theorem B0:∀ {fs:List Fl} {f:Fl},fs.Pairwise (fun f g=>f.num < g.num)->f ∈ fs->fF fs f.num=some f
 | y :: l,f,hp,hf=>by
  obtain ⟨h1,h2⟩:=List.pairwise_cons.1 hp
  show List.find? _ _=_
  rw [List.find?_cons]
  rcases List.mem_cons.1 hf with rfl | hf
  · simp
  · have:=h1 f hf
    have e:decide (y.num=f.num)=false:=by simp; omega
    rw [e]
    exact B0 h2 hf
theorem aL6 {s:Sc} {t:Ty} (h:valF s.ss s.es t=true) (hk:(t.k == 4)=true\/(t.k == 5)=true):1<=t.s:=by
 obtain ⟨k,z,n,e⟩:=t
 show 1<=z
 rcases hk with hk | hk
 · have hk:k=4:=eq_of_beq hk
   subst hk
   rw [valF.eq_def] at h
   simp at h
   omega
 · have hk:k=5:=eq_of_beq hk
   subst hk
   rw [valF.eq_def] at h
   simp at h
   omega
mutual
def cZ:Vl->Vl->Bool
 | .mk k n s l f,.mk k' n' s' l' f'=>k == k' && (n == n' && (bl s == bl s' && (eQ l l' && eE f f')))
def eQ:List Vl->List Vl->Bool
 | [],[]=>true
 | x :: a,y :: b=>cZ x y && eQ a b
 | [],_ :: _=>false
 | _ :: _,[]=>false
def eE:List (Int × Vl)->List (Int × Vl)->Bool
 | [],[]=>true
 | (i,x) :: a,(j,y) :: b=>i == j && (cZ x y && eE a b)
 | [],_ :: _=>false
 | _ :: _,[]=>false
end
mutual
theorem rW:∀ {a b:Vl},cZ a b=true ↔ a=b
 | .mk k n s l f,.mk k' n' s' l' f'=>by
  rw [cZ]
  simp only [Bool.and_eq_true,beq_iff_eq,IG,HE,Vl.mk.injEq]
  exact ⟨fun ⟨h1,h2,h3,h4,h5⟩=>⟨h1,h2,iL h3,h4,h5⟩,fun ⟨h1,h2,h3,h4,h5⟩=>⟨h1,h2,by rw [h3],h4,h5⟩⟩
theorem IG:∀ {a b:List Vl},eQ a b=true ↔ a=b
 | [],[]=>by rw [eQ]; simp
 | [],_ :: _=>by rw [eQ]; simp
 | _ :: _,[]=>by rw [eQ]; simp
 | x :: a,y :: b=>by rw [eQ,Bool.and_eq_true,rW,IG]; simp
theorem HE:∀ {a b:List (Int × Vl)},eE a b=true ↔ a=b
 | [],[]=>by rw [eE]; simp
 | [],_ :: _=>by rw [eE]; simp
 | (_,_) :: _,[]=>by rw [eE]; simp
 | (i,x) :: a,(j,y) :: b=>by rw [eE,Bool.and_eq_true,Bool.and_eq_true,rW,HE]; simp [and_assoc]
end
theorem DC (a:Vl):cZ a a=true:=rW.2 rfl
theorem LM (a b:Vl):cZ a b=(a.k == b.k && (a.n == b.n && (bl a.s == bl b.s && (eQ a.l b.l && eE a.f b.f)))):=by
 cases a; cases b; rw [cZ]; rfl
theorem FT (x y:Int × Vl) (a b:List (Int × Vl)):eE (x :: a) (y :: b)=(x.1 == y.1 && (cZ x.2 y.2 && eE a b)):=by
 obtain ⟨i,x⟩:=x; obtain ⟨j,y⟩:=y; rw [eE]
def pY (R:Ty->Vl->List UInt8) (s:Sc) (f:List (Int × Vl)) (g:Fl):List UInt8:=
 bif !(cF f g.num).isSome || (!g.opt && cZ (((cF f g.num).map (·.2)).getD default) (zF s 23 g.ty)) then [] else fG g.num ++ iO (R g.ty (((cF f g.num).map (·.2)).getD default))
def dU (R:Ty->Vl->List UInt8) (s:Sc) (fs:List Fl) (f:List (Int × Vl)):List UInt8:=fs.flatMap (pY R s f)
def jQ (R:Ty->Vl->List UInt8) (t:Ty) (l:List Vl):List UInt8:=l.flatMap fun x=>iO (R t x)
def cC (s:Sc):Nat->Ty->Vl->List UInt8
 | 0,_,_=>[]
 | N + 1,t,v=>bif t.k == 1 || (t.k == 3 || t.k == 7) then fG v.n else bif t.k == 2 then vi (pM v.n) else bif t.k == 4 then bl v.s else bif t.k == 5 then fG v.l.length ++ jQ (cC s N) (t.e.headD default) v.l else dU (cC s N) s (stOf s t).fs v.f
theorem tF (s:Sc) (N:Nat) (t:Ty) (v:Vl):cC s (N + 1) t v=bif t.k == 1 || (t.k == 3 || t.k == 7) then fG v.n else bif t.k == 2 then vi (pM v.n) else bif t.k == 4 then bl v.s else bif t.k == 5 then fG v.l.length ++ jQ (cC s N) (t.e.headD default) v.l else dU (cC s N) s (stOf s t).fs v.f:=rfl
theorem nH {α:Type} {f:α->List UInt8} {B:Nat}:∀ {l:List α},(∀ x ∈ l,(f x).length<=B)->(l.flatMap f).length<=l.length * B
 | [],_=>Nat.zero_le _
 | x :: l,h=>by
  have h1:=h x (List.mem_cons_self ..)
  have h2:=nH fun y hy=>h y (List.mem_cons_of_mem _ hy)
  rw [List.flatMap_cons,List.length_append,List.length_cons,Nat.add_mul,Nat.one_mul]; omega
theorem iY (l:List UInt8):(iO l).length<=10 + l.length:=by
 unfold iO; have:=fB l.length; rw [List.length_append]; omega
def eB (N:Nat):Nat:=4000 * 40 ^ N
theorem XQ (N:Nat):eB (N + 1)=40 * eB N:=by unfold eB; rw [Nat.pow_succ]; omega
theorem ZQ (N:Nat):4000<=eB N:=by unfold eB; have:0 < 40 ^ N:=Nat.pow_pos (by decide); omega
theorem kT {N:Nat} (h:N<=8):eB N<=27000000000000000:=by
 have:40 ^ N<=40 ^ 8:=Nat.pow_le_pow_right (by decide) h
 have h2:(40:Nat) ^ 8=6553600000000:=by decide
 unfold eB; omega
theorem nE {l:List (Int × Vl)} {k:Int} {x:Int × Vl} (h:cF l k=some x):x ∈ l/\x.1=k:=by
 unfold cF at h
 exact ⟨List.mem_of_find?_eq_some h,by have:=List.find?_some h; simpa using this⟩
theorem nC {s:Sc} (hd:Dg s) {t:Ty} {g:Fl} (hg:g ∈ (stOf s t).fs):lV (stOf s t) g.num=g:=by
 unfold lV
 rw [B0 (I5 (hd.ni.stOf t)) hg]; rfl
theorem IM {s:Sc} (hd:Dg s) {R:Ty->Vl->List UInt8} {t:Ty} {f:List (Int × Vl)} {g:Fl} {B:Nat} (hg:g ∈ (stOf s t).fs) (hR:∀ x ∈ f,(R (lV (stOf s t) x.1).ty x.2).length<=B):(pY R s f g).length<=20 + B:=by
 unfold pY
 cases hv:cF f g.num with
 | none=>exact Nat.zero_le _
 | some x=>
  obtain ⟨hm,he⟩:=nE hv
  have h1:=hR x hm
  rw [he,nC hd hg] at h1
  have h2:=fB g.num
  have h3:=iY (R g.ty x.2)
  show (bif !true || (!g.opt && cZ x.2 (zF s 23 g.ty)) then [] else fG g.num ++ iO (R g.ty x.2)).length<=_
  cases !true || (!g.opt && cZ x.2 (zF s 23 g.ty)) with
  | true=>exact Nat.zero_le _
  | false=>rw [cond_false,List.length_append]; omega
theorem nL {s:Sc} {t:Ty} (h:valF s.ss s.es t=true):((t.k == 4)=true->t.s<=2000)/\((t.k == 5)=true->t.s<=32):=by
 obtain ⟨k,z,n,e⟩:=t
 refine ⟨fun hk=>?_,fun hk=>?_⟩
 · have hk:k=4:=eq_of_beq hk
   subst hk
   rw [valF.eq_def] at h
   simp at h
   show z<=2000
   omega
 · have hk:k=5:=eq_of_beq hk
   subst hk
   rw [valF.eq_def] at h
   simp at h
   show z<=32
   omega
theorem fZ {s:Sc} (hd:Dg s):∀ (N:Nat) (t:Ty) (v:Vl),v.h<=N->cY s t v=0->(cC s N t v).length<=eB N
 | 0,_,v,h,_=>by have:=v.h_pos; omega
 | N + 1,t,v,hh,h0=>by
  have hc:=iX h0
  have hB:=XQ N
  have hp:=ZQ N
  have hvz:=nL hc.va
  rw [tF]
  cases c1:t.k == 1 || (t.k == 3 || t.k == 7) with
  | true=>rw [cond_true]; have:=fB v.n; omega
  | false=>
  rw [cond_false]
  cases c2:t.k == 2 with
  | true=>rw [cond_true]; have:=K9 (pM v.n); omega
  | false=>
  rw [cond_false]
  cases c4:t.k == 4 with
  | true=>
   rw [cond_true]
   obtain ⟨_,_,_,h1⟩:=hc.tx c4
   have:=hvz.1 c4
   omega
  | false=>
  rw [cond_false]
  cases c5:t.k == 5 with
  | true=>
   rw [cond_true,List.length_append]
   obtain ⟨_,_,_,h1,h2⟩:=hc.ls c5
   have h3:=hvz.2 c5
   have h4:=fB v.l.length
   have h5:(jQ (cC s N) (t.e.headD default) v.l).length<=v.l.length * (10 + eB N):=nH fun x hx=>by
    have:=fZ hd N _ x (by have:=Vl.h_l hx; omega) (h2 x hx)
    have:=iY (cC s N (t.e.headD default) x)
    omega
   have h6:v.l.length * (10 + eB N)<=32 * (10 + eB N):=Nat.mul_le_mul_right _ (by omega)
   omega
  | false=>
   rw [cond_false]
   have c6:(t.k == 6)=true:=by
    rcases HF hc.va with h | h | h | h | h | h | h
    · rw [h] at c1; cases c1
    · rw [h] at c2; cases c2
    · rw [h,Bool.true_or,Bool.or_true] at c1; cases c1
    · rw [h] at c4; cases c4
    · rw [h] at c5; cases c5
    · exact h
    · rw [h,Bool.or_true,Bool.or_true] at c1; cases c1
   obtain ⟨_,_,_,_,h2⟩:=hc.st c6
   have hl:=(hd.ni.stOf t).l
   have h5:(dU (cC s N) s (stOf s t).fs v.f).length<=(stOf s t).fs.length * (20 + eB N):=nH fun g hg=>IM hd hg fun x hx=>fZ hd N _ x.2 (by have:=Vl.h_f hx; omega) (h2 x hx)
   have h6:(stOf s t).fs.length * (20 + eB N)<=16 * (20 + eB N):=Nat.mul_le_mul_right _ hl
   omega
def g7 (s:Sc) (nm:ByteArray) (v:Vl):List UInt8 × Int:=
 bif bN s != 0 then ([],bN s) else bif !(cA s.ss nm) then ([],6) else bif j7 s (.mk 6 0 nm []) v != 0 then ([],j7 s (.mk 6 0 nm []) v) else bif decide (2000 < ((dU (cC s 8) s (stOf s (.mk 6 0 nm [])).fs v.f).length:Int)) then ([],3) else (dU (cC s 8) s (stOf s (.mk 6 0 nm [])).fs v.f,0)
mutual
theorem QG:∀ v:Vl,(v.h:Int)<=dT v + 1
 | .mk k n s l f=>by
  have h1:=S7 l 0 (Int.le_refl _)
  have h0:=rN l 0
  have h2:=UU f (iB 0 l) h0
  have h3:=qW f (iB 0 l)
  rw [dT,Vl.h]
  cases hs:mW (.mk k n s l f) with
  | true=>
   rw [cond_true]
   unfold mW at hs
   simp only [Bool.and_eq_true] at hs
   have e1:l=[]:=by have:=hs.1.2; simpa [Vl.l] using this
   have e2:f=[]:=by have:=hs.2; simpa [Vl.f] using this
   rw [e1,e2,Vl.hl,Vl.hf]; decide
  | false=>rw [cond_false]; omega
theorem S7:∀ (l:List Vl) (d:Int),0<=d->(Vl.hl l:Int)<=iB d l + 1
 | [],d,hd=>by rw [Vl.hl,iB]; omega
 | v :: r,d,hd=>by
  have h1:=QG v
  have h2:=S7 r (max d (dT v)) (by omega)
  have h3:=rN r (max d (dT v))
  rw [Vl.hl,iB]; omega
theorem UU:∀ (l:List (Int × Vl)) (d:Int),0<=d->(Vl.hf l:Int)<=lQ d l + 1
 | [],d,hd=>by rw [Vl.hf,lQ]; omega
 | (_,v) :: r,d,hd=>by
  have h1:=QG v
  have h2:=UU r (max d (dT v)) (by omega)
  have h3:=qW r (max d (dT v))
  rw [Vl.hf,lQ]; omega
end
theorem OW {s:Sc} {t:Ty} {v:Vl} (h:j7 s t v=0):v.h<=7:=by
 have h1:=(nY h).2
 have h2:=QG v
 omega
def pD (b:List UInt8):Vl × Int:=bif b == [] then (v0,1) else bif decide (1 < (b.headD 0).toNat) || decide (1 < b.length) then (v0,2) else (.mk 1 (b.headD 0).toNat (mk []) [] [],0)
def gI (k:Int) (n:Nat):Int:=bif k == 2 then pW n else n
def pK (s:Sc) (t:Ty) (b:List UInt8):Vl × Int:=bif (vr b).2.2 != 0 then (v0,(vr b).2.2) else bif decide ((vr b).2.1 < b.length) then (v0,2) else bif !(gB s t (gI t.k (vr b).1)) then (v0,4) else (.mk t.k (gI t.k (vr b).1) (mk []) [] [],0)
def L2 (t:Ty) (b:List UInt8):Vl × Int:=bif decide (t.s < (b.length:Int)) then (v0,3) else (.mk 4 0 (mk b) [] [],0)
def dV (R:List UInt8->Vl × Int):Nat->List UInt8->(List Vl × List UInt8) × Int
 | 0,b=>(([],b),0)
 | n + 1,b=>bif (bG b).2.2 != 0 then (([],[]),(bG b).2.2) else bif (R (bG b).1).2 != 0 then (([],[]),(R (bG b).1).2) else bif (dV R n (bG b).2.1).2 != 0 then (([],[]),(dV R n (bG b).2.1).2) else (((R (bG b).1).1 :: (dV R n (bG b).2.1).1.1,(dV R n (bG b).2.1).1.2),0)
theorem oS (R:List UInt8->Vl × Int) (n:Nat) (b:List UInt8):dV R (n + 1) b=bif (bG b).2.2 != 0 then (([],[]),(bG b).2.2) else bif (R (bG b).1).2 != 0 then (([],[]),(R (bG b).1).2) else bif (dV R n (bG b).2.1).2 != 0 then (([],[]),(dV R n (bG b).2.1).2) else (((R (bG b).1).1 :: (dV R n (bG b).2.1).1.1,(dV R n (bG b).2.1).1.2),0):=rfl
def jT (R:List UInt8->Vl × Int) (sz:Int) (b:List UInt8):Vl × Int:=
 bif (aZ b).2.2 != 0 then (v0,(aZ b).2.2) else bif decide (sz < ((aZ b).1:Int)) then (v0,3) else bif (dV R (aZ b).1 (aZ b).2.1).2 != 0 then (v0,(dV R (aZ b).1 (aZ b).2.1).2)
 else bif !((dV R (aZ b).1 (aZ b).2.1).1.2 == []) then (v0,2) else (.mk 5 0 (mk []) (dV R (aZ b).1 (aZ b).2.1).1.1 [],0)
def pV (R:Ty->List UInt8->Vl × Int) (s:Sc) (f:Fl) (b:List UInt8):Int:=
 bif (R f.ty b).2 != 0 then (R f.ty b).2 else bif !f.opt && (cZ (R f.ty b).1 (zF s 23 f.ty) && (f.ty.k != 6 || b == [])) then 2 else 0
def eJ (R:Ty->List UInt8->Vl × Int) (s:Sc) (fs:List Fl):Nat->Int->List UInt8->List (Int × Vl) × Int
 | 0,_,_=>([],0)
 | g + 1,last,b=>bif b == [] then ([],0) else bif (aT b last).2.2 != 0 then ([],(aT b last).2.2)
  else bif !(fF fs (aT b last).1.1).isSome then eJ R s fs g (aT b last).1.1 (aT b last).2.1
  else bif pV R s ((fF fs (aT b last).1.1).getD default) (aT b last).1.2 != 0 then ([],pV R s ((fF fs (aT b last).1.1).getD default) (aT b last).1.2)
  else bif (eJ R s fs g (aT b last).1.1 (aT b last).2.1).2 != 0 then ([],(eJ R s fs g (aT b last).1.1 (aT b last).2.1).2)
  else (((aT b last).1.1,(R ((fF fs (aT b last).1.1).getD default).ty (aT b last).1.2).1) :: (eJ R s fs g (aT b last).1.1 (aT b last).2.1).1,0)
def FV (s:Sc) (L:List (Int × Vl)) (f:Fl):List (Int × Vl):=bif (cF L f.num).isSome then [(f.num,((cF L f.num).map (·.2)).getD default)] else bif f.opt then [] else [(f.num,zF s 23 f.ty)]
def jU (s:Sc) (fs:List Fl) (L:List (Int × Vl)):List (Int × Vl):=fs.flatMap (FV s L)
def iG (R:Ty->List UInt8->Vl × Int) (s:Sc) (fs:List Fl) (b:List UInt8):Vl × Int:=
 bif (eJ R s fs b.length 0 b).2 != 0 then (v0,(eJ R s fs b.length 0 b).2) else (.mk 6 0 (mk []) [] (jU s fs (eJ R s fs b.length 0 b).1),0)
def bW (s:Sc):Nat->Ty->List UInt8->Vl × Int
 | 0,_,_=>(v0,0)
 | N + 1,t,b=>bif t.k == 1 then pD b else bif t.k == 2 || (t.k == 3 || t.k == 7) then pK s t b else bif t.k == 4 then L2 t b else bif t.k == 5 then jT (bW s N (t.e.headD default)) t.s b else iG (bW s N) s (stOf s t).fs b
theorem tT (s:Sc) (N:Nat) (t:Ty) (b:List UInt8):bW s (N + 1) t b=bif t.k == 1 then pD b else bif t.k == 2 || (t.k == 3 || t.k == 7) then pK s t b else bif t.k == 4 then L2 t b else bif t.k == 5 then jT (bW s N (t.e.headD default)) t.s b else iG (bW s N) s (stOf s t).fs b:=rfl
def jX (s:Sc) (nm:ByteArray) (b:List UInt8):Vl × Int:=
 bif bN s != 0 then (v0,bN s) else bif !(cA s.ss nm) then (v0,6) else bif decide (2000 < (b.length:Int)) then (v0,3) else iG (bW s 8) s (stOf s (.mk 6 0 nm [])).fs b
def hY {α:Type} (acc:List α) (q:List α × Int):List α × Int:=bif q.2 != 0 then ([],q.2) else (acc ++ q.1,0)
theorem x6 {α:Type} {q:List α × Int} (h:q.2 ≠ 0->q.1=[]):hY [] q=q:=by
 unfold hY
 cases hq:q.2 != 0 with
 | true=>rw [cond_true]; obtain ⟨a,b⟩:=q; have:=h (nG hq); simp only at this; rw [this]
 | false=>rw [cond_false]; obtain ⟨a,b⟩:=q; have:=fT hq; simp only at this; rw [this]; rfl
theorem FO {α:Type} (a b:List α) (q:List α × Int):hY a (hY b q)=hY (a ++ b) q:=by
 unfold hY
 cases hq:q.2 != 0 with
 | true=>simp only [cond_true,hq]
 | false=>simp only [cond_false]; rw [show ((0:Int) != 0)=false from rfl,cond_false,List.append_assoc]
theorem mU {α:Type} (a:List α) {e:Int} (h:(e != 0)=true):hY a ([],e)=([],e):=by unfold hY; rw [h]; rfl
theorem DW {α:Type} (a b:List α):hY a (b,0)=(a ++ b,0):=rfl
theorem rJ {R:Ty->List UInt8->Vl × Int} {s:Sc} {fs:List Fl} (g:Nat) (last:Int):eJ R s fs g last []=([],0):=by cases g<;>rfl
theorem kU {R:Ty->List UInt8->Vl × Int} {s:Sc} {fs:List Fl} {g:Nat} {last:Int} {b:List UInt8} (h:b ≠ []):eJ R s fs (g + 1) last b=bif (aT b last).2.2 != 0 then ([],(aT b last).2.2)
 else bif !(fF fs (aT b last).1.1).isSome then eJ R s fs g (aT b last).1.1 (aT b last).2.1
 else bif pV R s ((fF fs (aT b last).1.1).getD default) (aT b last).1.2 != 0 then ([],pV R s ((fF fs (aT b last).1.1).getD default) (aT b last).1.2)
 else hY [((aT b last).1.1,(R ((fF fs (aT b last).1.1).getD default).ty (aT b last).1.2).1)] (eJ R s fs g (aT b last).1.1 (aT b last).2.1):=by
 have hb:(b == [])=false:=by simpa using h
 rw [eJ,hb,cond_false]; rfl
theorem UN {R:Ty->List UInt8->Vl × Int} {s:Sc} {fs:List Fl}:∀ (g:Nat) (last:Int) (b:List UInt8),(eJ R s fs g last b).2 ≠ 0->(eJ R s fs g last b).1=[]
 | 0,_,_,h=>absurd rfl h
 | g + 1,last,b,h=>by
  by_cases hb:b=[]
  · subst hb; rfl
  · rw [kU hb] at h ⊢
    cases c1:(aT b last).2.2 != 0 with
    | true=>rfl
    | false=>
    rw [c1,cond_false] at h
    rw [cond_false]
    cases c2:!(fF fs (aT b last).1.1).isSome with
    | true=>rw [c2,cond_true] at h; rw [cond_true]; exact UN g _ _ h
    | false=>
    rw [c2,cond_false] at h
    rw [cond_false]
    cases c3:pV R s ((fF fs (aT b last).1.1).getD default) (aT b last).1.2 != 0 with
    | true=>rfl
    | false=>
    rw [c3,cond_false] at h
    rw [cond_false]
    unfold hY at h ⊢
    cases c4:(eJ R s fs g (aT b last).1.1 (aT b last).2.1).2 != 0 with
    | true=>rfl
    | false=>rw [c4] at h; exact absurd rfl h
theorem uK (g:Nat) (last:Int):bY g last []=([],0):=by cases g<;>rfl
theorem jP {g:Nat} {last:Int} {b:List UInt8} (h:b ≠ []):bY (g + 1) last b=bif (aT b last).2.2 != 0 then ([],(aT b last).2.2) else hY [(aT b last).1] (bY g (aT b last).1.1 (aT b last).2.1):=by
 have hb:(b == [])=false:=by simpa using h
 rw [AK,hb,cond_false]; rfl
theorem uP:∀ (g:Nat) (last:Int) (b:List UInt8),(bY g last b).1.length<=b.length
 | 0,_,_=>Nat.zero_le _
 | g + 1,last,b=>by
  by_cases hb:b=[]
  · subst hb; exact Nat.le_refl _
  · rw [jP hb]
    have hl:=mR b last
    cases c1:(aT b last).2.2 != 0 with
    | true=>exact Nat.zero_le _
    | false=>
     rw [cond_false]
     have ih:=uP g (aT b last).1.1 (aT b last).2.1
     have hlt:=hl.2.2 (fT c1)
     unfold hY
     cases (bY g (aT b last).1.1 (aT b last).2.1).2 != 0 with
     | true=>exact Nat.zero_le _
     | false=>rw [cond_false,List.length_append,List.length_singleton]; omega
theorem FL:∀ (g:Nat) (last:Int) (b:List UInt8),(bY g last b).2 ≠ 0->(bY g last b).1=[]
 | 0,_,_,h=>absurd rfl h
 | g + 1,last,b,h=>by
  by_cases hb:b=[]
  · subst hb; rfl
  · rw [jP hb] at h ⊢
    cases c1:(aT b last).2.2 != 0 with
    | true=>rfl
    | false=>
    rw [c1,cond_false] at h
    rw [cond_false]
    unfold hY at h ⊢
    cases c4:(bY g (aT b last).1.1 (aT b last).2.1).2 != 0 with
    | true=>rfl
    | false=>rw [c4] at h; exact absurd rfl h
def aML:Ty:=.mk 2 8 (mk []) []
def xTx:Ty:=.mk 4 5 (mk []) []
def xMo:Ty:=.mk 7 0 (mk [77,111,100,101]) []
def xBo:Ty:=.mk 1 0 (mk []) []
def xLi:Ty:=.mk 5 2 (mk []) [xBo]
def xF1:Fl:=⟨1,mk [120],aML,false⟩
def xF2:Fl:=⟨2,mk [110,97,109,101],xTx,true⟩
def xF4:Fl:=⟨4,mk [109,111,100,101],xMo,false⟩
def xF5:Fl:=⟨5,mk [108],xLi,false⟩
def xSt:St:=⟨mk [80,111,115,101],[xF1,xF2,xF4,xF5]⟩
def xEn:En:=⟨mk [77,111,100,101],[mk [105,100,108,101],mk [114,117,110]],[0,3]⟩
def xS:Sc:=⟨1,[xEn],[xSt]⟩
def xT:Ty:=.mk 6 0 (mk [80,111,115,101]) []
def x1:List UInt8:=[123,120,32,61,32,45,53,44,32,109,111,100,101,32,61,32,114,117,110,44,32,108,32,61,32,91,116,114,117,101,44,32,102,97,108,115,101,93,125]
def x2:List UInt8:=[123,120,32,61,32,50,48,48,44,32,109,111,100,101,32,61,32,114,117,110,44,32,108,32,61,32,91,93,125]
def x3:List UInt8:=[123,109,111,100,101,32,61,32,114,117,110,44,32,120,32,61,32,49,125]
def x4:List UInt8:=[123,120,32,61,32,49,44,32,109,111,100,101,32,61,32,115,116,111,112,44,32,108,32,61,32,91,93,125]
def R6 (k n:Int):Vl:=.mk k n (mk []) [] []
def xL:Vl:=.mk 5 0 (mk []) [R6 1 1,R6 1 0] []
def xV:Vl:=.mk 6 0 (mk []) [] [(1,R6 2 (-5)),(4,R6 7 3),(5,xL)]
theorem e1:JR (pP 10) xS xT x1=(xV,0,0):=by kernel_rfl
theorem e2:JR (pP 10) xS xT x2=(v0,4,0):=by kernel_rfl
theorem e3:JR (pP 10) xS xT x3=(v0,2,13):=by kernel_rfl
theorem e4:JR (pP 10) xS xT x4=(v0,2,15):=by kernel_rfl
theorem e0:j7 xS xT xV=0:=by kernel_rfl
theorem e5:aNJ (fP 10) xS xT xV=x1:=by kernel_rfl
theorem ty0 (k s:Int) (n:ByteArray) (h1:bM k) (h2:bM s) (h3:n.size<=9223372036854775807):TyOk (.mk k s n []):=.mk h1 h2 h3 (Nat.zero_le _) (fun t h=>by cases h)
theorem gR:VlOk v0:=D9 ⟨by decide,by decide⟩ ⟨by decide,by decide⟩ (by decide)
theorem ID {P:Vl->Prop} {R:List UInt8->Vl × Int}:∀ (n:Nat) (b:List UInt8),(∀ c,c.length<=b.length->P (R c).1)->(∀ x ∈ (dV R n b).1.1,P x)/\(dV R n b).1.1.length<=n/\(dV R n b).1.2.length<=b.length
 | 0,b,_=>⟨fun x h=>(by cases h),Nat.le_refl _,Nat.le_refl _⟩
 | n + 1,b,h=>by
  have hl:=D5 b
  obtain ⟨i1,i2,i3⟩:=ID n (bG b).2.1 fun c hc=>h c (Nat.le_trans hc hl.2.1)
  have nil:(∀ x ∈ ([]:List Vl),P x)/\([]:List Vl).length<=n + 1/\([]:List UInt8).length<=b.length:=⟨fun x h=>(by cases h),Nat.zero_le _,Nat.zero_le _⟩
  rw [oS]
  cases (bG b).2.2 != 0 with
  | true=>exact nil
  | false=>
  rw [cond_false]
  cases (R (bG b).1).2 != 0 with
  | true=>exact nil
  | false=>
  rw [cond_false]
  cases (dV R n (bG b).2.1).2 != 0 with
  | true=>exact nil
  | false=>
   rw [cond_false]
   refine ⟨fun x hx=>?_,by rw [List.length_cons]; omega,Nat.le_trans i3 hl.2.1⟩
   rcases List.mem_cons.1 hx with rfl | hx
   · exact h _ hl.1
   · exact i1 x hx
theorem HY {P:Int->Vl->Prop} {R:Ty->List UInt8->Vl × Int} {s:Sc} {fs:List Fl}:∀ (g:Nat) (last:Int) (b:List UInt8),(∀ f ∈ fs,∀ c,c.length<=b.length->P f.num (R f.ty c).1)->(∀ x ∈ (eJ R s fs g last b).1,P x.1 x.2)
 | 0,_,b,_,x,h=>(by cases h)
 | g + 1,last,b,h,x,hx=>by
  by_cases hb:b=[]
  · subst hb; rw [rJ] at hx; cases hx
  · rw [kU hb] at hx
    have hl:=mR b last
    have ih:=HY (P:=P) (R:=R) (s:=s) (fs:=fs) g (aT b last).1.1 (aT b last).2.1 fun f hf c hc=>h f hf c (Nat.le_trans hc hl.2.1)
    cases c1:(aT b last).2.2 != 0 with
    | true=>rw [c1] at hx; cases hx
    | false=>
    rw [c1,cond_false] at hx
    cases c2:!(fF fs (aT b last).1.1).isSome with
    | true=>rw [c2,cond_true] at hx; exact ih x hx
    | false=>
    rw [c2,cond_false] at hx
    cases c3:pV R s ((fF fs (aT b last).1.1).getD default) (aT b last).1.2 != 0 with
    | true=>rw [c3] at hx; cases hx
    | false=>
    rw [c3,cond_false] at hx
    unfold hY at hx
    cases c4:(eJ R s fs g (aT b last).1.1 (aT b last).2.1).2 != 0 with
    | true=>rw [c4] at hx; cases hx
    | false=>
     rw [c4,cond_false] at hx
     rcases List.mem_append.1 hx with hx | hx
     · obtain rfl:=List.mem_singleton.1 hx
       cases hf:fF fs (aT b last).1.1 with
       | none=>rw [hf] at c2; cases c2
       | some f=>
        have hm:f ∈ fs:=List.mem_of_find?_eq_some hf
        have he:f.num=(aT b last).1.1:=by have:=List.find?_some hf; simpa using this
        have:=h f hm (aT b last).1.2 hl.1
        rw [he] at this
        exact this
     · exact ih x hx
theorem W9 {P:Int->Vl->Prop} {s:Sc} {fs:List Fl} {L:List (Int × Vl)} (h1:∀ x ∈ L,P x.1 x.2) (h2:∀ f ∈ fs,P f.num (zF s 23 f.ty)):∀ x ∈ jU s fs L,P x.1 x.2:=fun x hx=>by
 obtain ⟨f,hf,hx⟩:=List.mem_flatMap.1 hx
 unfold FV at hx
 cases hv:cF L f.num with
 | some y=>
  obtain ⟨hm,he⟩:=nE hv
  rw [hv] at hx
  obtain rfl:=List.mem_singleton.1 hx
  have:=h1 y hm
  rw [he] at this
  exact this
 | none=>
  rw [hv] at hx
  change x ∈ bif f.opt then [] else _ at hx
  cases ho:f.opt with
  | true=>rw [ho] at hx; cases hx
  | false=>rw [ho] at hx; obtain rfl:=List.mem_singleton.1 hx; exact h2 f hf
theorem XP (s:Sc) (L:List (Int × Vl)) (f:Fl):(FV s L f).length<=1:=by
 unfold FV
 cases (cF L f.num).isSome<;>cases f.opt<;>simp
theorem AJ {α β:Type} {f:α->List β}:∀ {l:List α},(∀ x,(f x).length<=1)->(l.flatMap f).length<=l.length
 | [],_=>Nat.le_refl _
 | x :: l,h=>by
  have h1:=h x
  have h2:=AJ (l:=l) h
  rw [List.flatMap_cons,List.length_append,List.length_cons]; omega
theorem G6 (s:Sc) (fs:List Fl) (L:List (Int × Vl)):(jU s fs L).length<=fs.length:=AJ (XP s L)
theorem ZR {n:Nat} (h:n < 18446744073709551616):bM (pW n):=by
 unfold pW bM
 split<;>omega
theorem rg3 {s:Sc} {t:Ty} {n:Int} (h3:(t.k == 3)=true):gB s t n=(decide (0<=n) && decide (n < (2 ^ t.s.toNat:Int))):=by
 unfold gB
 rw [cR h3 (b:=1) (by decide),cR h3 (b:=2) (by decide),h3]; rfl
theorem rg7 {s:Sc} {t:Ty} {n:Int} (h7:(t.k == 7)=true):gB s t n=(enOf s t).vs.any (fun x=>x == n):=by
 unfold gB
 rw [cR h7 (b:=1) (by decide),cR h7 (b:=2) (by decide),cR h7 (b:=3) (by decide),h7]; rfl
theorem RG {s:Sc} (hd:Dg s) {t:Ty} (hv:valF s.ss s.es t=true) (hk:(t.k == 2 || (t.k == 3 || t.k == 7))=true) {n:Nat} (hn:n < 18446744073709551616) (hr:gB s t (gI t.k n)=true):bM (gI t.k n)/\((t.k == 2)=false->gI t.k n=n/\n < 4294967296):=by
 unfold gI at hr ⊢
 cases c2:t.k == 2 with
 | true=>rw [cond_true]; exact ⟨ZR hn,fun h=>(by cases h)⟩
 | false=>
  rw [c2,cond_false] at hr
  rw [cond_false]
  have key:n < 4294967296:=by
   cases c3:t.k == 3 with
   | true=>
    rw [rg3 c3,Bool.and_eq_true] at hr
    have h2:=of_decide_eq_true hr.2
    have h32:(2:Int) ^ (32:Int).toNat=4294967296:=by decide
    have h16:(2:Int) ^ (16:Int).toNat=65536:=by decide
    have h8:(2:Int) ^ (8:Int).toNat=256:=by decide
    rcases OD hv c3 with h | h | h<;>rw [h] at h2<;>omega
   | false=>
    have c7:(t.k == 7)=true:=by rw [c2,c3] at hk; simpa using hk
    rw [rg7 c7,List.any_eq_true] at hr
    obtain ⟨x,hx,he⟩:=hr
    have:=(hd.ni.enOf t).n x hx
    have he:=eq_of_beq he
    omega
  exact ⟨⟨by omega,by omega⟩,fun _=>⟨rfl,key⟩⟩
theorem JH (b:List UInt8):(vr b).1 < 18446744073709551616:=by
 rcases gO b with ⟨_,h,_⟩ | ⟨_,_,_,_,_,h⟩
 · rw [h]; decide
 · exact h
theorem aHK (b:List UInt8):(aZ b).1 < 18446744073709551616:=by
 rcases wL b with ⟨_,h,_⟩ | ⟨_,_,h⟩
 · rw [h]; decide
 · exact h
theorem X7 {s:Sc} (hs:s.fit) (hd:Dg s) {R:Ty->List UInt8->Vl × Int} {t:Ty} {b:List UInt8} (hR:∀ f ∈ (stOf s t).fs,∀ c,c.length<=b.length->VlOk (R f.ty c).1):VlOk (iG R s (stOf s t).fs b).1:=by
 unfold iG
 cases (eJ R s (stOf s t).fs b.length 0 b).2 != 0 with
 | true=>exact gR
 | false=>
  rw [cond_false]
  have hn:=hd.ni.stOf t
  have key:=W9 (P:=fun i v=>bM i/\VlOk v) (s:=s) (fs:=(stOf s t).fs) (L:=(eJ R s (stOf s t).fs b.length 0 b).1)
   (HY (P:=fun i v=>bM i/\VlOk v) b.length 0 b fun f hf c hc=>⟨by have:=hn.n f hf; exact ⟨by omega,by omega⟩,hR f hf c hc⟩)
   (fun f hf=>⟨by have:=hn.n f hf; exact ⟨by omega,by omega⟩,BW hs 23 f.ty ((eZ hs t).fs f hf).ty⟩)
  have hl:=G6 s (stOf s t).fs (eJ R s (stOf s t).fs b.length 0 b).1
  have hl2:=hn.l
  exact .mk ⟨by decide,by decide⟩ ⟨by decide,by decide⟩ (by decide) (by simp) (by omega) (fun x h=>(by cases h)) (fun x hx=>(key x hx).1) (fun x hx=>(key x hx).2)
theorem rK {s:Sc} (hs:s.fit) (hd:Dg s):∀ (N:Nat) (t:Ty) (b:List UInt8),TyOk t->valF s.ss s.es t=true->b.length<=1000000000->VlOk (bW s N t b).1
 | 0,_,_,_,_,_=>gR
 | N + 1,t,b,ht,hv,hb=>by
  rw [tT]
  cases c1:t.k == 1 with
  | true=>
   rw [cond_true]
   unfold pD
   cases b == [] with
   | true=>exact gR
   | false=>
   cases decide (1 < (b.headD 0).toNat) || decide (1 < b.length) with
   | true=>exact gR
   | false=>have:=(b.headD 0).toNat_lt; exact D9 ⟨by decide,by decide⟩ ⟨by omega,by omega⟩ (by decide)
  | false=>
  rw [cond_false]
  cases c2:t.k == 2 || (t.k == 3 || t.k == 7) with
  | true=>
   rw [cond_true]
   unfold pK
   cases (vr b).2.2 != 0 with
   | true=>exact gR
   | false=>
   rw [cond_false]
   cases decide ((vr b).2.1 < b.length) with
   | true=>exact gR
   | false=>
   rw [cond_false]
   cases c3:gB s t (gI t.k (vr b).1) with
   | false=>exact gR
   | true=>exact D9 ht.k (RG hd hv c2 (JH b) c3).1 (by decide)
  | false=>
  rw [cond_false]
  cases c4:t.k == 4 with
  | true=>
   rw [cond_true]
   unfold L2
   cases decide (t.s < (b.length:Int)) with
   | true=>exact gR
   | false=>exact D9 ⟨by decide,by decide⟩ ⟨by decide,by decide⟩ (by rw [cJ,kI]; omega)
  | false=>
  rw [cond_false]
  cases c5:t.k == 5 with
  | true=>
   rw [cond_true]
   obtain ⟨u,he,hu⟩:=E0 hv c5
   have hto:=ht.e u (by rw [he]; exact List.mem_singleton.2 rfl)
   rw [he]
   show VlOk (jT (bW s N u) t.s b).1
   unfold jT
   have hcl:=qP b
   obtain ⟨i1,i2,_⟩:=ID (P:=VlOk) (R:=bW s N u) (aZ b).1 (aZ b).2.1 fun c hc=>rK hs hd N u c hto hu (by omega)
   cases (aZ b).2.2 != 0 with
   | true=>exact gR
   | false=>
   rw [cond_false]
   cases c6:decide (t.s < ((aZ b).1:Int)) with
   | true=>exact gR
   | false=>
   rw [cond_false]
   cases (dV (bW s N u) (aZ b).1 (aZ b).2.1).2 != 0 with
   | true=>exact gR
   | false=>
   rw [cond_false]
   cases !((dV (bW s N u) (aZ b).1 (aZ b).2.1).1.2 == []) with
   | true=>exact gR
   | false=>
    rw [cond_false]
    have h1:=of_decide_eq_false c6
    have h2:=(nL hv).2 c5
    exact .mk ⟨by decide,by decide⟩ ⟨by decide,by decide⟩ (by decide) (by omega) (by simp) i1 (fun x h=>(by cases h)) (fun x h=>(by cases h))
  | false=>
   rw [cond_false]
   have hn:=hd.ni.stOf t
   exact X7 hs hd fun f hf c hc=>rK hs hd N f.ty c ((eZ hs t).fs f hf).ty (hn.v f hf) (by omega)
theorem m3 {n:Nat} (h:n < 18446744073709551616):fG (n:Int)=vi n:=by
 unfold fG
 have h2:IntKind.u64.wrap (n:Int)=(n:Int) % 18446744073709551616:=by simp [IntKind.wrap,IntKind.signed,IntKind.bits]
 rw [h2,show ((n:Int) % 18446744073709551616).toNat=n by omega]
theorem xB {x:Int} (h0:0<=x) (h:x < 18446744073709551616):fG x=vi x.toNat:=by
 have:=m3 (n:=x.toNat) (by omega)
 rwa [Int.toNat_of_nonneg h0] at this
theorem EC {l:List UInt8} (h:l.length < 18446744073709551616):iO l=vi l.length ++ l:=by unfold iO; rw [m3 h]
theorem aFX {n:Int} (h:bM n):pM n < 18446744073709551616/\pW (pM n)=n:=by
 unfold bM at h
 unfold pM pW
 split
 · have e:(2 * (-(n + 1)) + 1).toNat % 2=1:=by omega
   rw [if_pos e]
   omega
 · have e:¬ (2 * n).toNat % 2=1:=by omega
   rw [if_neg e]
   omega
theorem G7 {t:Ty} {v:Vl} (h1:v.k=t.k) (h2:bl v.s=[]) (h3:v.l=[]) (h4:v.f=[]):v=.mk t.k v.n (mk []) [] []:=by
 obtain ⟨k,n,s,l,f⟩:=v
 have h1:k=t.k:=h1
 have h3:l=[]:=h3
 have h4:f=[]:=h4
 have h2:bl s=bl (mk []):=h2
 rw [h1,h3,h4,iL h2]; rfl
theorem DT:vi 0=[0]/\vi 1=[1]:=by
 unfold vi
 exact ⟨by rw [gZ (by decide) (by decide)]; rfl,by rw [gZ (by decide) (by decide)]; rfl⟩
theorem F0 {R:List UInt8->Vl × Int} {f:Vl->List UInt8} (r:List UInt8):∀ (l:List Vl),(∀ x ∈ l,R (f x)=(x,0)/\(f x).length < 18446744073709551616)->dV R l.length ((l.flatMap fun x=>iO (f x)) ++ r)=((l,r),0)
 | [],_=>rfl
 | x :: l,h=>by
  obtain ⟨h1,h2⟩:=h x (List.mem_cons_self ..)
  have ih:=F0 r l fun y hy=>h y (List.mem_cons_of_mem _ hy)
  rw [List.length_cons,oS,List.flatMap_cons,EC h2,List.append_assoc,TC h2,h1,ih]
  rfl
def pQ (F:List (Int × Vl)) (g:Fl):List (Int × Vl):=match cF F g.num with
 | some x=>[(g.num,x.2)]
 | none=>[]
theorem lR (y:Int × Vl) (F:List (Int × Vl)) (k:Int):cF (y :: F) k=if y.1=k then some y else cF F k:=by
 unfold cF
 rw [List.find?_cons]
 by_cases h:y.1=k
 · rw [decide_eq_true h,if_pos h]
 · rw [decide_eq_false h,if_neg h]
theorem DQ {F:List (Int × Vl)} {k:Int} (h:∀ x ∈ F,x.1 ≠ k):cF F k=none:=by
 unfold cF
 rw [List.find?_eq_none]
 intro x hx
 have:=h x hx
 simpa using this
theorem y6:∀ {fs:List Fl} {F:List (Int × Vl)},fs.Pairwise (fun f g=>f.num < g.num)->F.Pairwise (fun x y=>x.1 < y.1)->(∀ x ∈ F,∃ f ∈ fs,f.num=x.1)->fs.flatMap (pQ F)=F
 | [],F,_,_,h=>by
  cases F with
  | nil=>rfl
  | cons x F=>obtain ⟨f,hf,_⟩:=h x (List.mem_cons_self ..); cases hf
 | g :: fs,[],hp,_,_=>by
  have e:∀ g':Fl,pQ [] g'=[]:=fun g'=>rfl
  simp [e]
 | g :: fs,y :: F,hp,hF,h=>by
  obtain ⟨p1,p2⟩:=List.pairwise_cons.1 hp
  obtain ⟨q1,q2⟩:=List.pairwise_cons.1 hF
  rw [List.flatMap_cons]
  by_cases he:y.1=g.num
  · have e1:pQ (y :: F) g=[y]:=by
     unfold pQ; rw [lR,if_pos he]; simp only; rw [<-he]
    have e2:fs.flatMap (pQ (y :: F))=fs.flatMap (pQ F):=by
     rw [List.flatMap_def,List.flatMap_def]
     congr 1
     refine List.map_congr_left fun g' hg'=>?_
     have:=p1 g' hg'
     unfold pQ
     rw [lR,if_neg (by omega)]
    rw [e1,e2,y6 p2 q2 fun x hx=>?_]
    · rfl
    · obtain ⟨f,hf,hfe⟩:=h x (List.mem_cons_of_mem _ hx)
      have:=q1 x hx
      rcases List.mem_cons.1 hf with rfl | hf
      · omega
      · exact ⟨f,hf,hfe⟩
  · have hy:∃ f ∈ fs,f.num=y.1:=by
     obtain ⟨f,hf,hfe⟩:=h y (List.mem_cons_self ..)
     rcases List.mem_cons.1 hf with rfl | hf
     · exact absurd hfe.symm he
     · exact ⟨f,hf,hfe⟩
    obtain ⟨f0,hf0,hfe0⟩:=hy
    have hlt:=p1 f0 hf0
    have e1:pQ (y :: F) g=[]:=by
     unfold pQ
     rw [DQ fun x hx=>?_]
     rcases List.mem_cons.1 hx with rfl | hx
     · exact he
     · have:=q1 x hx; omega
    rw [e1,List.nil_append]
    exact y6 p2 hF fun x hx=>by
     obtain ⟨f,hf,hfe⟩:=h x hx
     rcases List.mem_cons.1 hf with rfl | hf
     · rcases List.mem_cons.1 hx with rfl | hx
       · exact absurd hfe.symm he
       · have:=q1 x hx; omega
     · exact ⟨f,hf,hfe⟩
theorem G3 {fs:List Fl}:∀ {l:List (Int × Vl)} {p:Option Int},ftA fs p l=true->∀ x ∈ l,(fF fs x.1).isSome=true
 | y :: l,p,h,x,hx=>by
  rw [tI,Bool.and_eq_true,Bool.and_eq_true] at h
  rcases List.mem_cons.1 hx with rfl | hx
  · exact h.1.1
  · exact G3 h.2 x hx
theorem w4 {α β:Type} {f h:α->List β}:∀ {l:List α},(∀ x ∈ l,f x=h x)->l.flatMap f=l.flatMap h
 | [],_=>rfl
 | x :: l,e=>by rw [List.flatMap_cons,List.flatMap_cons,e x (List.mem_cons_self ..),w4 fun y hy=>e y (List.mem_cons_of_mem _ hy)]
theorem FS {fs:List Fl}:∀ {F:List (Int × Vl)} {p:Option Int},ftA fs p F=true->(∀ q,p=some q->∀ x ∈ F,q < x.1)/\F.Pairwise (fun x y=>x.1 < y.1)
 | [],_,_=>⟨fun _ _ x h=>(by cases h),.nil⟩
 | y :: F,p,h=>by
  rw [tI,Bool.and_eq_true,Bool.and_eq_true] at h
  obtain ⟨i1,i2⟩:=FS h.2
  have h1:=i1 y.1 rfl
  refine ⟨fun q hq x hx=>?_,List.pairwise_cons.2 ⟨h1,i2⟩⟩
  have h2:q < y.1:=by rw [hq] at h; exact of_decide_eq_true h.1.2
  rcases List.mem_cons.1 hx with rfl | hx
  · exact h2
  · exact Int.lt_trans h2 (h1 x hx)
theorem HS {fs:List Fl} {k:Int} {f:Fl} (h:fF fs k=some f):f ∈ fs/\f.num=k:=by
 exact ⟨List.mem_of_find?_eq_some h,by have:=List.find?_some h; simpa using this⟩
structure Fits (s:Sc) (u:St) (F:List (Int × Vl)):Prop where
 p:F.Pairwise (fun x y=>x.1 < y.1)
 m:∀ x ∈ F,∃ f ∈ u.fs,f.num=x.1
 r:∀ f ∈ u.fs,f.opt=false->∃ x ∈ F,x.1=f.num
theorem HG {s:Sc} {u:St} {F:List (Int × Vl)} (h:dX u.fs F=true):Fits s u F:=by
 have h':=h
 unfold dX at h'
 rw [Bool.and_eq_true,List.all_eq_true] at h'
 refine ⟨(FS h'.1).2,fun x hx=>?_,fun f hf ho=>?_⟩
 · have:=G3 h'.1 x hx
   obtain ⟨f,hf⟩:=Option.isSome_iff_exists.1 this
   obtain ⟨h1,h2⟩:=HS hf
   exact ⟨f,h1,h2⟩
 · have:=h'.2 f hf
   rw [ho,Bool.false_or] at this
   unfold nR at this
   rw [List.any_eq_true] at this
   obtain ⟨x,hx,he⟩:=this
   exact ⟨x,hx,eq_of_beq he⟩
def gY (s:Sc) (F:List (Int × Vl)) (g:Fl):Bool:=!(cF F g.num).isSome || (!g.opt && cZ (((cF F g.num).map (·.2)).getD default) (zF s 23 g.ty))
def j9 (s:Sc) (F:List (Int × Vl)) (g:Fl):List (Int × Vl):=bif gY s F g then [] else [(g.num,((cF F g.num).map (·.2)).getD default)]
theorem vP (R:Ty->Vl->List UInt8) (s:Sc) (F:List (Int × Vl)) (g:Fl):pY R s F g=bif gY s F g then [] else fG g.num ++ iO (R g.ty (((cF F g.num).map (·.2)).getD default)):=rfl
theorem zB {s:Sc} {R:Ty->Vl->List UInt8} {D:Ty->List UInt8->Vl × Int} {fs:List Fl} {F:List (Int × Vl)} (hp:fs.Pairwise fun f g=>f.num < g.num)
 (hn:∀ f ∈ fs,1<=f.num/\f.num<=127) (hR:∀ g ∈ fs,∀ x ∈ F,x.1=g.num->D g.ty (R g.ty x.2)=(x.2,0)/\(R g.ty x.2).length < 18446744073709551616) :
 ∀ (gs:List Fl) (g:Nat) (last:Int),(∀ f ∈ gs,f ∈ fs/\last < f.num)->gs.Pairwise (fun f g=>f.num < g.num)->(gs.flatMap (pY R s F)).length<=g->eJ D s fs g last (gs.flatMap (pY R s F))=(gs.flatMap (j9 s F),0)
 | [],g,last,_,_,_=>by rw [List.flatMap_nil,List.flatMap_nil,rJ]
 | q :: gs,g,last,h,hq,hl=>by
  obtain ⟨p1,p2⟩:=List.pairwise_cons.1 hq
  obtain ⟨hqf,hql⟩:=h q (List.mem_cons_self ..)
  rw [List.flatMap_cons,List.flatMap_cons]
  rw [List.flatMap_cons] at hl
  cases ho:gY s F q with
  | true=>
   have e1:pY R s F q=[]:=by rw [vP,ho]; rfl
   have e2:j9 s F q=[]:=by unfold j9; rw [ho]; rfl
   rw [e1,List.nil_append] at hl ⊢
   rw [e2,List.nil_append]
   exact zB hp hn hR gs g last (fun f hf=>⟨(h f (List.mem_cons_of_mem _ hf)).1,(h f (List.mem_cons_of_mem _ hf)).2⟩) p2 hl
  | false=>
   cases hv:cF F q.num with
   | none=>unfold gY at ho; rw [hv] at ho; cases ho
   | some x=>
    obtain ⟨hm,he⟩:=nE hv
    obtain ⟨r1,r2⟩:=hR q hqf x hm he
    obtain ⟨n1,n2⟩:=hn q hqf
    have e1:pY R s F q=vi q.num.toNat ++ (vi (R q.ty x.2).length ++ R q.ty x.2):=by
     rw [vP,ho,hv]
     show fG q.num ++ iO (R q.ty x.2)=_
     rw [xB (by omega) (by omega),EC r2]
    have e2:j9 s F q=[(q.num,x.2)]:=by unfold j9; rw [ho,hv]; rfl
    rw [e1] at hl ⊢
    rw [e2]
    have hpos:=w7 q.num.toNat
    rw [List.length_append,List.length_append] at hl
    obtain ⟨g,rfl⟩:∃ k,g=k + 1:=⟨g - 1,by omega⟩
    have hne:vi q.num.toNat ++ (vi (R q.ty x.2).length ++ R q.ty x.2) ++ gs.flatMap (pY R s F) ≠ []:=fun e=>by
     have:=congrArg List.length e
     rw [List.length_append,List.length_append,List.length_nil] at this
     omega
    have hfs:=Q3 (n:=q.num.toNat) (x:=R q.ty x.2) (last:=last) (by omega) (by omega) r2 (gs.flatMap (pY R s F))
    rw [Int.toNat_of_nonneg (show (0:Int)<=q.num by omega)] at hfs
    have hff:fF fs q.num=some q:=B0 hp hqf
    have hde:pV D s q (R q.ty x.2)=0:=by
     unfold pV
     rw [r1]
     unfold gY at ho
     rw [hv] at ho
     have ho:(!q.opt && cZ x.2 (zF s 23 q.ty))=false:=ho
     show (bif !q.opt && (cZ x.2 (zF s 23 q.ty) && _) then (2:Int) else 0)=0
     rw [<-Bool.and_assoc,ho]; rfl
    rw [kU hne,hfs]
    simp only
    rw [hff]
    simp only [Option.getD_some,Option.isSome_some]
    rw [hde,r1,zB hp hn hR gs g q.num (fun f hf=>⟨(h f (List.mem_cons_of_mem _ hf)).1,p1 f hf⟩) p2 (by omega)]
    rfl
theorem HX {s:Sc} {F:List (Int × Vl)}:∀ {fs:List Fl} {q:Fl},fs.Pairwise (fun f g=>f.num < g.num)->q ∈ fs->cF (fs.flatMap (j9 s F)) q.num=bif gY s F q then none else some (q.num,((cF F q.num).map (·.2)).getD default)
 | g :: fs,q,hp,hq=>by
  obtain ⟨p1,p2⟩:=List.pairwise_cons.1 hp
  have hrest:∀ k,k<=g.num->cF (fs.flatMap (j9 s F)) k=none:=fun k hk=>DQ fun x hx=>by
   obtain ⟨f,hf,hx⟩:=List.mem_flatMap.1 hx
   have:=p1 f hf
   unfold j9 at hx
   cases ho:gY s F f with
   | true=>rw [ho] at hx; cases hx
   | false=>rw [ho] at hx; obtain rfl:=List.mem_singleton.1 hx; simp only; omega
  rw [List.flatMap_cons]
  rcases List.mem_cons.1 hq with rfl | hq
  · cases ho:gY s F q with
    | true=>unfold j9 at hrest ⊢; rw [ho]; exact hrest q.num (Int.le_refl _)
    | false=>
     have e:j9 s F q=[(q.num,((cF F q.num).map (·.2)).getD default)]:=by unfold j9; rw [ho]; rfl
     rw [e,List.singleton_append,lR,if_pos rfl]; rfl
  · have:=p1 q hq
    rw [<-HX p2 hq]
    unfold j9
    cases ho:gY s F g with
    | true=>rfl
    | false=>rw [cond_false,List.singleton_append,lR,if_neg (by simp only; omega)]
theorem aGO {s:Sc} {u:St} {F:List (Int × Vl)} (hp:u.fs.Pairwise fun f g=>f.num < g.num) (hf:Fits s u F):jU s u.fs (u.fs.flatMap (j9 s F))=F:=by
 have:jU s u.fs (u.fs.flatMap (j9 s F))=u.fs.flatMap (pQ F):=by
  refine w4 fun g hg=>?_
  unfold FV pQ
  rw [HX hp hg]
  cases hv:cF F g.num with
  | none=>
   have ho:gY s F g=true:=by unfold gY; rw [hv]; rfl
   rw [ho]
   show (bif g.opt then [] else [(g.num,zF s 23 g.ty)])=[]
   cases hopt:g.opt with
   | true=>rfl
   | false=>
    obtain ⟨x,hx,he⟩:=hf.r g hg hopt
    have:cF F g.num ≠ none:=by
     unfold cF
     rw [Ne,List.find?_eq_none]
     intro h
     exact h x hx (by simpa using he)
    exact absurd hv this
  | some x=>
   cases ho:gY s F g with
   | false=>rfl
   | true=>
    unfold gY at ho
    rw [hv] at ho
    have ho:(!g.opt && cZ x.2 (zF s 23 g.ty))=true:=ho
    rw [Bool.and_eq_true] at ho
    show (bif g.opt then [] else [(g.num,zF s 23 g.ty)])=[(g.num,x.2)]
    have h1:g.opt=false:=by simpa using ho.1
    rw [h1,rW.1 ho.2]; rfl
 have h2:=y6 hp hf.p hf.m
 rw [this,h2]
theorem IX {s:Sc} {R:Ty->Vl->List UInt8} {D:Ty->List UInt8->Vl × Int} {u:St} {F:List (Int × Vl)} (hn:NSt s.ss s.es u) (hf:Fits s u F)
 (hR:∀ g ∈ u.fs,∀ x ∈ F,x.1=g.num->D g.ty (R g.ty x.2)=(x.2,0)/\(R g.ty x.2).length < 18446744073709551616):iG D s u.fs (dU R s u.fs F)=(.mk 6 0 (mk []) [] F,0):=by
 have hp:=I5 hn
 have h:=zB (s:=s) (R:=R) (D:=D) (F:=F) hp hn.n hR u.fs (dU R s u.fs F).length 0 (fun f hf=>⟨hf,by have:=hn.n f hf; omega⟩) hp (Nat.le_refl _)
 unfold iG
 rw [show eJ D s u.fs (dU R s u.fs F).length 0 (dU R s u.fs F)=(u.fs.flatMap (j9 s F),0) from h]
 show ((Vl.mk 6 0 (mk []) [] (jU s u.fs (u.fs.flatMap (j9 s F))),(0:Int)))=_
 rw [aGO hp hf]
theorem JQ {s:Sc} {t:Ty} (hv:valF s.ss s.es t=true) (c1:(t.k == 1)=false) (c2:(t.k == 2 || (t.k == 3 || t.k == 7))=false) (c4:(t.k == 4)=false) (c5:(t.k == 5)=false):(t.k == 6)=true:=by
 rw [Bool.or_eq_false_iff,Bool.or_eq_false_iff] at c2
 rcases HF hv with h | h | h | h | h | h | h
 · rw [h] at c1; cases c1
 · rw [h] at c2; cases c2.1
 · rw [h] at c2; cases c2.2.1
 · rw [h] at c4; cases c4
 · rw [h] at c5; cases c5
 · exact h
 · rw [h] at c2; cases c2.2.2
theorem JD {s:Sc} (hs:s.fit) (hd:Dg s):∀ (M N:Nat) (t:Ty) (v:Vl),TyOk t->VlOk v->cY s t v=0->v.h<=N->N<=8->j8 s t < M->bW s M t (cC s N t v)=(v,0)
 | 0,_,t,_,_,_,_,_,_,h=>by have:=z8 s t; omega
 | _ + 1,0,_,v,_,_,_,h,_,_=>by have:=v.h_pos; omega
 | M + 1,N + 1,t,v,ht,hvo,h0,hh,hN,hM=>by
  have hc:=iX h0
  have hB:∀ (u:Ty) (x:Vl),x.h<=N->cY s u x=0->(cC s N u x).length < 18446744073709551616:=fun u x h1 h2=>by
   have:=fZ hd N u x h1 h2
   have:=kT (N:=N) (by omega)
   omega
  rw [tT,tF]
  cases c1:t.k == 1 with
  | true=>
   rw [Bool.true_or,cond_true,cond_true]
   obtain ⟨e1,e2,e3,e4⟩:=hc.nu (cR c1 (by decide)) (cR c1 (by decide)) (cR c1 (by decide))
   have e5:=G7 hc.kk e1 e2 e3
   have hk:t.k=1:=eq_of_beq c1
   have e6:v.n=0\/v.n=1:=by unfold gB at e4; rw [c1] at e4; simpa using e4
   rw [hk] at e5
   rcases e6 with e6 | e6<;>rw [e5,e6]
   · show pD (fG 0)=_
     rw [show fG 0=[0] from (m3 (n:=0) (by decide)).trans DT.1]; rfl
   · show pD (fG 1)=_
     rw [show fG 1=[1] from (m3 (n:=1) (by decide)).trans DT.2]; rfl
  | false=>
  rw [Bool.false_or,cond_false]
  cases c2:t.k == 2 || (t.k == 3 || t.k == 7) with
  | true=>
   rw [cond_true]
   have n4:(t.k == 4)=false/\(t.k == 5)=false/\(t.k == 6)=false:=by
    rw [Bool.or_eq_true,Bool.or_eq_true] at c2
    rcases c2 with h | h | h<;>exact ⟨cR h (by decide),cR h (by decide),cR h (by decide)⟩
   obtain ⟨e1,e2,e3,e4⟩:=hc.nu n4.1 n4.2.1 n4.2.2
   have e5:=G7 hc.kk e1 e2 e3
   have key:∀ z:Nat,z < 18446744073709551616->gI t.k z=v.n->pK s t (vi z)=(v,0):=fun z hz hn=>by
    have hvr:=UF hz []
    rw [List.append_nil] at hvr
    unfold pK
    rw [hvr]
    simp only
    rw [decide_eq_false (Nat.lt_irrefl _),hn,e4]
    show (Vl.mk t.k v.n (mk []) [] [],(0:Int))=_
    rw [<-e5]
   cases c3:t.k == 3 || t.k == 7 with
   | true=>
    rw [cond_true]
    have hne2:(t.k == 2)=false:=by
     rw [Bool.or_eq_true] at c3
     rcases c3 with h | h<;>exact cR h (by decide)
    have h0n:0<=v.n:=by
     rw [Bool.or_eq_true] at c3
     rcases c3 with h | h
     · rw [rg3 h,Bool.and_eq_true] at e4; exact of_decide_eq_true e4.1
     · rw [rg7 h,List.any_eq_true] at e4
       obtain ⟨x,hx,he⟩:=e4
       have:=(hd.ni.enOf t).n x hx
       have he:=eq_of_beq he
       omega
    have hlt:=hvo.n.2
    rw [xB h0n (by omega)]
    exact key _ (by omega) (by unfold gI; rw [hne2,cond_false]; omega)
   | false=>
    have h2:(t.k == 2)=true:=by rw [c3,Bool.or_false] at c2; exact c2
    rw [cond_false,h2,cond_true]
    obtain ⟨z1,z2⟩:=aFX hvo.n
    exact key _ z1 (by unfold gI; rw [h2]; exact z2)
  | false=>
  have c2':=c2
  rw [Bool.or_eq_false_iff] at c2'
  rw [cond_false,c2'.2,cond_false,c2'.1,cond_false]
  cases c4:t.k == 4 with
  | true=>
   rw [cond_true,cond_true]
   obtain ⟨e1,e2,e3,e4⟩:=hc.tx c4
   unfold L2
   rw [decide_eq_false (by omega)]
   have hk:t.k=4:=eq_of_beq c4
   have hkk:=hc.kk
   rw [hk] at hkk
   obtain ⟨k,n,str,l,f⟩:=v
   have h1:k=4:=hkk
   have h2:n=0:=e1
   have h3:l=[]:=e2
   have h4:f=[]:=e3
   subst h1 h2 h3 h4
   show (Vl.mk 4 0 (mk (bl str)) [] [],(0:Int))=_
   rw [fJ]
  | false=>
  rw [cond_false,cond_false]
  cases c5:t.k == 5 with
  | true=>
   rw [cond_true,cond_true]
   obtain ⟨u,he,hu⟩:=E0 hc.va c5
   have hto:=ht.e u (by rw [he]; exact List.mem_singleton.2 rfl)
   have hfd:=H7 (s:=s) c5 he
   obtain ⟨e1,e2,e3,e4,e5⟩:=hc.ls c5
   have h32:=(nL hc.va).2 c5
   rw [he] at e5 ⊢
   simp only [List.headD_cons] at e5 ⊢
   have hl:=F0 (R:=bW s M u) (f:=cC s N u) [] v.l fun x hx=>⟨JD hs hd M N u x hto (hvo.l x hx) (e5 x hx) (by have:=Vl.h_l hx; omega) (by omega) (by omega),hB u x (by have:=Vl.h_l hx; omega) (e5 x hx)⟩
   rw [List.append_nil] at hl
   have hn:v.l.length < 18446744073709551616:=by omega
   unfold jT jQ
   rw [m3 hn,KH hn]
   simp only
   rw [decide_eq_false (by omega),hl]
   have hk:t.k=5:=eq_of_beq c5
   have hkk:=hc.kk
   rw [hk] at hkk
   obtain ⟨k,n,str,l,f⟩:=v
   have h1:k=5:=hkk
   have h2:n=0:=e1
   have h4:f=[]:=e3
   have h6:bl str=bl (mk []):=e2
   rw [h1,h2,h4,iL h6]; rfl
  | false=>
   rw [cond_false,cond_false]
   have c6:=JQ hc.va c1 c2 c4 c5
   obtain ⟨e1,e2,e3,e4,e5⟩:=hc.st c6
   have hfd:=D4 (s:=s) c6
   have hst:=vK hd hc.va c6
   have hn:=hd.ni.stOf t
   rw [IX hn (HG e4) fun g hg x hx he=>?_]
   · have hk:t.k=6:=eq_of_beq c6
     have hkk:=hc.kk
     rw [hk] at hkk
     obtain ⟨k,n,str,l,f⟩:=v
     have h1:k=6:=hkk
     have h2:n=0:=e1
     have h3:l=[]:=e3
     have h6:bl str=bl (mk []):=e2
     rw [h1,h2,h3,iL h6]; rfl
   · have h5:=e5 x hx
     rw [he,nC hd hg] at h5
     have h6:x.2.h<=N:=by have:=Vl.h_f hx; omega
     have h7:=hst.2.2 g hg
     exact ⟨JD hs hd M N g.ty x.2 ((eZ hs t).fs g hg).ty (hvo.f x hx) h5 h6 (by omega) (by omega),hB g.ty x.2 h6 h5⟩
theorem RW {s:Sc} (hs:s.fit) {nm:ByteArray} {v:Vl} (hvo:VlOk v) (h:(g7 s nm v).2=0):jX s nm (g7 s nm v).1=(v,0)/\(g7 s nm v).1.length<=2000:=by
 unfold g7 at h ⊢
 cases c1:bN s != 0 with
 | true=>rw [c1] at h; exact absurd h (nG c1)
 | false=>
 rw [c1,cond_false] at h
 rw [cond_false]
 have hd:=BR hs (fT c1)
 cases c2:!(cA s.ss nm) with
 | true=>rw [c2] at h; cases h
 | false=>
 rw [c2,cond_false] at h
 rw [cond_false]
 cases c3:j7 s (.mk 6 0 nm []) v != 0 with
 | true=>rw [c3] at h; exact absurd h (nG c3)
 | false=>
 rw [c3,cond_false] at h
 rw [cond_false]
 cases c4:decide (2000 < ((dU (cC s 8) s (stOf s (.mk 6 0 nm [])).fs v.f).length:Int)) with
 | true=>rw [c4] at h; cases h
 | false=>
  rw [cond_false]
  have hck:=fT c3
  have h0:=(nY hck).1
  have hh:=OW hck
  have hc:=iX h0
  obtain ⟨e1,e2,e3,e4,e5⟩:=hc.st rfl
  have hn:=hd.ni.stOf (.mk 6 0 nm [])
  have hst:=vK hd hc.va rfl
  have hlen:=of_decide_eq_false c4
  refine ⟨?_,by simp only; omega⟩
  unfold jX
  rw [c1,c2,c4,cond_false,cond_false,cond_false,IX hn (HG e4) fun g hg x hx he=>?_]
  · have hkk:=hc.kk
    obtain ⟨k,n,str,l,f⟩:=v
    have h1:k=6:=hkk
    have h2:n=0:=e1
    have h3:l=[]:=e3
    have h6:bl str=bl (mk []):=e2
    rw [h1,h2,h3,iL h6]; rfl
  · have h5:=e5 x hx
    rw [he,nC hd hg] at h5
    have h6:x.2.h<=8:=by have:=Vl.h_f hx; omega
    have h7:=hst.2.2 g hg
    have hB:=fZ hd 8 g.ty x.2 h6 h5
    have:=kT (N:=8) (by omega)
    exact ⟨JD hs hd 8 8 g.ty x.2 ((eZ hs (.mk 6 0 nm [])).fs g hg).ty (hvo.f x hx) h5 h6 (by omega) (by omega),by omega⟩
def wC:PC:=.seq (.seq (.gh (.reg [.v 10 6,.q 11 (.bin .lss true (.t 10) (.i 0))])) (.cond (.t 11) (.seq (.reg [.q 12 (.bd [(.int .i64 0),(.int .i64 0),(.string (mk [])),(.slice none 0 0),(.slice none 0 0)] []),.s (.st 5 (.t 4) (.t 12)),.q 5 (.mv (.k (.bool false)))]) .ret) .skip)) (.seq (.reg [.q 13 (.fa 4 (.t 2)),.l 14 (.ld1 (.t 13)),.v 15 6,.l 16 (.ia 6 (.t 14) (.t 15)),.q 17 (.fa 1 (.t 16)),.l 18 (.ldn 5 (.t 17)),.a 19 (.cl 81 [(.t 18)] []),.s (.st 5 (.t 4) (.t 19)),.q 5 (.mv (.k (.bool true)))]) .ret)
@[go_sem ↓] theorem aNN:aL wC:=aM _
def O3:PC:=.seq (.reg [.e 2 (.bx 29 (.t 0)),.e 4 (.al (.agg #[(.int .i64 0),(.int .i64 0),(.string (mk [])),(.slice none 0 0),(.slice none 0 0)]) 29),.q 5 (.mv (.k (.bool false)))]) (.seq (.reg [.l 7 (.ldn 5 (.t 2)),.v 8 1,.a 9 (.cq 80 [(.t 7),(.t 8)]),.v 6 9]) (wC))
def O5:List RV:=[.ld (.ldn 5 (.t 4)),.mv (.t 5)]
theorem aOX:aP Tryz.prog true ⟨fun r k=>if r=1/\k=2 then .q else .own [],fun r=>[2].contains r⟩ Tryz.f43=some (O3,O5):=by kernel_rfl
def YC:PC:=.seq (.reg [.e 2 (.bx 29 (.t 0)),.e 3 (.bx 29 (.t 1)),.q 4 (.mv (.k (.bool false)))]) (.seq (.reg [.l 5 (.ldn 5 (.t 2)),.l 6 (.ldn 5 (.t 3)),.a 7 (.cl 82 [(.t 5),(.t 6)] []),.q 8 (.bin .eql true (.t 7) (.i 0)),.v 4 8]) .ret)
def aDH:List RV:=[.mv (.t 4)]
theorem aNT:aP Tryz.prog true ⟨fun r k=>if r=1/\k=2 then .own [] else .own [],fun _=>false⟩ Tryz.f44=some (YC,aDH):=by kernel_rfl
def aBE:PC:=.seq (.reg [.e 2 (.bx 29 (.t 0)),.e 3 (.bx 3 (.t 1)),.q 4 (.mv (.i 0))]) (.seq (.seq (.reg [.q 5 (.fa 0 (.t 2)),.l 6 (.ld1 (.t 5)),.q 7 (.bin .neq true (.t 6) (.i 6))]) (.cond (.t 7) (.seq (.reg [.q 4 (.mv (.i (-1)))]) .ret) .skip)) (.seq (.reg [.q 8 (.fa 4 (.t 2)),.l 9 (.ld1 (.t 8)),.q 10 (.mf 118 [(.t 3)]),.a 11 (.cl 117 [(.t 9),(.t 10)] [1]),.v 4 11]) .ret))
def aAC:List RV:=[.mv (.t 4)]
theorem aL8:aP Tryz.prog true ⟨fun r k=>if r=3/\k=3 then .own [1] else .own [],fun _=>false⟩ Tryz.f80=some (aBE,aAC):=by kernel_rfl
def aDS:PC:=.seq (.reg [.e 1 (.bx 29 (.t 0)),.e 2 (.al (.agg #[(.int .i64 0),(.int .i64 0),(.string (mk [])),(.slice none 0 0),(.slice none 0 0)]) 29)]) (.seq (.reg [.q 9 (.fa 3 (.t 1)),.l 10 (.ld1 (.t 9)),.q 11 (.fa 4 (.t 1)),.l 12 (.ld1 (.t 11)),.v 3 10,.v 4 12]) (.seq (.reg [.q 13 (.fa 3 (.t 1)),.s (.st 1 (.t 13) (.k (.slice none 0 0))),.q 14 (.fa 4 (.t 1)),.s (.st 1 (.t 14) (.k (.slice none 0 0)))]) (.seq (.seq (.reg [.v 15 3,.q 16 (.lnL (.t 15)),.q 17 (.mv (.i 0))]) (.block 0 (.loop (.seq (.reg [.q 18 (.bin .lss true (.t 17) (.t 16))]) (.seq (.cond (.t 18) .skip (.exit 0)) (.seq (.block 1 (.seq (.reg [.l 19 (.ia 5 (.t 15) (.t 17)),.l 20 (.ldn 5 (.t 19)),.e 6 (.al (.agg #[(.int .i64 0),(.int .i64 0),(.string (mk [])),(.slice none 0 0),(.slice none 0 0)]) 29),.s (.st 5 (.t 6) (.t 20))]) (.ord  [.q (.q 21 (.fa 3 (.t 1))),.q (.l 22 (.ld1 (.t 21))),.q (.l 23 (.ldn 5 (.t 6))),.m (.a 24 (.cl 81 [(.t 23)] [])),.rc (.q 21 (.fa 3 (.t 1))),.rc (.l 22 (.ld1 (.t 21))),.m (.e 25 (.bsl 29 5 [(.t 24)])),.rc (.q 21 (.fa 3 (.t 1))),.rc (.l 22 (.ld1 (.t 21))),.m (.e 26 (.ap 29 5 80 (.t 22) (.t 25))),.q (.q 27 (.fa 3 (.t 1))),.m (.s (.st 1 (.t 27) (.t 26)))]))) (.reg [.q 28 (.bin .add true (.t 17) (.i 1)),.v 17 28]))))))) (.seq (.seq (.reg [.v 29 4,.q 30 (.lnL (.t 29)),.q 31 (.mv (.i 0))]) (.block 2 (.loop (.seq (.reg [.q 32 (.bin .lss true (.t 31) (.t 30))]) (.seq (.cond (.t 32) .skip (.exit 2)) (.seq (.block 3 (.seq (.reg [.l 33 (.ia 6 (.t 29) (.t 31)),.l 34 (.ldn 6 (.t 33)),.e 8 (.al (.agg #[(.int .i64 0),(.int .i64 0),(.int .i64 0),(.string (mk [])),(.slice none 0 0),(.slice none 0 0)]) 76),.s (.st 6 (.t 8) (.t 34))]) (.ord  [.q (.q 35 (.fa 4 (.t 1))),.q (.l 36 (.ld1 (.t 35))),.q (.q 37 (.fa 0 (.t 8))),.q (.l 38 (.ld1 (.t 37))),.q (.q 39 (.fa 1 (.t 8))),.q (.l 40 (.ldn 5 (.t 39))),.m (.a 41 (.cl 81 [(.t 40)] [])),.rc (.q 35 (.fa 4 (.t 1))),.rc (.l 36 (.ld1 (.t 35))),.rc (.q 37 (.fa 0 (.t 8))),.rc (.l 38 (.ld1 (.t 37))),.q (.q 42 (.bd [(.int .i64 0),(.int .i64 0),(.int .i64 0),(.string (mk [])),(.slice none 0 0),(.slice none 0 0)] [(0,1,(.t 38)),(1,5,(.t 41))])),.m (.e 43 (.bsl 76 6 [(.t 42)])),.rc (.q 35 (.fa 4 (.t 1))),.rc (.l 36 (.ld1 (.t 35))),.m (.e 44 (.ap 76 6 88 (.t 36) (.t 43))),.q (.q 45 (.fa 4 (.t 1))),.m (.s (.st 1 (.t 45) (.t 44)))]))) (.reg [.q 46 (.bin .add true (.t 31) (.i 1)),.v 31 46]))))))) (.seq (.reg [.l 47 (.ldn 5 (.t 1)),.s (.st 5 (.t 2) (.t 47))]) .ret)))))
def aCW:List RV:=[.ld (.ldn 5 (.t 2))]
theorem aLT:aP Tryz.prog true ⟨fun _ _=>.own [],fun _=>false⟩ Tryz.f81=some (aDS,aCW):=by kernel_rfl
def xE:PC:=.seq (.gh (.reg [.q 41 (.fa 4 (.t 2)),.l 42 (.ld1 (.t 41)),.q 43 (.fa 4 (.t 3)),.l 44 (.ld1 (.t 43)),.a 45 (.cl 123 [(.t 42),(.t 44),(.f 124)] []),.v 4 45])) .ret
@[go_sem ↓] theorem aIR:aL xE:=aM _
def zD:PC:=.seq (.seq (.gh (.reg [.q 33 (.fa 3 (.t 2)),.l 34 (.ld1 (.t 33)),.q 35 (.fa 3 (.t 3)),.l 36 (.ld1 (.t 35)),.a 37 (.cl 122 [(.t 34),(.t 36),(.f 82)] []),.v 8 37])) (.seq (.reg [.v 38 8,.q 39 (.bin .neq true (.t 38) (.i 0))]) (.cond (.t 39) (.seq (.reg [.v 40 8,.v 4 40]) .ret) .skip))) (xE)
@[go_sem ↓] theorem aI4:aL zD:=aM _
def CS:PC:=.seq (.seq (.gh (.reg [.q 25 (.fa 2 (.t 2)),.l 26 (.ld1 (.t 25)),.q 27 (.fa 2 (.t 3)),.l 28 (.ld1 (.t 27)),.a 29 (.cq 121 [(.t 26),(.t 28)]),.v 7 29])) (.seq (.reg [.v 30 7,.q 31 (.bin .neq true (.t 30) (.i 0))]) (.cond (.t 31) (.seq (.reg [.v 32 7,.v 4 32]) .ret) .skip))) (zD)
@[go_sem ↓] theorem aOK:aL CS:=aM _
def F2:PC:=.seq (.seq (.gh (.reg [.q 17 (.fa 1 (.t 2)),.l 18 (.ld1 (.t 17)),.q 19 (.fa 1 (.t 3)),.l 20 (.ld1 (.t 19)),.a 21 (.cq 120 [(.t 18),(.t 20)]),.v 6 21])) (.seq (.reg [.v 22 6,.q 23 (.bin .neq true (.t 22) (.i 0))]) (.cond (.t 23) (.seq (.reg [.v 24 6,.v 4 24]) .ret) .skip))) (CS)
@[go_sem ↓] theorem aMW:aL F2:=aM _
def aE6:PC:=.seq (.reg [.e 2 (.bx 29 (.t 0)),.e 3 (.bx 29 (.t 1)),.q 4 (.mv (.i 0))]) (.seq (.seq (.reg [.q 9 (.fa 0 (.t 2)),.l 10 (.ld1 (.t 9)),.q 11 (.fa 0 (.t 3)),.l 12 (.ld1 (.t 11)),.a 13 (.cq 119 [(.t 10),(.t 12)]),.v 5 13]) (.seq (.reg [.v 14 5,.q 15 (.bin .neq true (.t 14) (.i 0))]) (.cond (.t 15) (.seq (.reg [.v 16 5,.v 4 16]) .ret) .skip))) (F2))
def aA8:List RV:=[.mv (.t 4)]
theorem aKX:aP Tryz.prog true ⟨fun r k=>if r=1/\k=4 then .q else if r=4/\k=4 then .q else if r=7/\k=4 then .q else .own [],fun r=>[4,7,10,13].contains r⟩ Tryz.f82=some (aE6,aA8):=by kernel_rfl
def RJ:PC:=.seq (.reg [.e 2 (.bx 76 (.t 0)),.q 3 (.mv (.k (.bool false)))]) (.seq (.reg [.q 4 (.fa 0 (.t 2)),.l 5 (.ld1 (.t 4)),.l 6 (.ld1 (.t 1)),.q 7 (.bin .eql true (.t 5) (.t 6)),.v 3 7]) .ret)
def T7:List RV:=[.mv (.t 3)]
theorem aGS:aP Tryz.prog true ⟨fun _ _=>.own [],fun _=>false⟩ Tryz.f118=some (RJ,T7):=by kernel_rfl
def U7:PC:=.seq (.reg [.q 4 (.mv (.i 0))]) (.seq (.block 0 (.seq (.reg [.v 6 0,.v 7 1,.q 8 (.bin .lss true (.t 6) (.t 7)),.v 5 8]) (.cond (.t 5) (.seq (.reg [.q 4 (.mv (.i (-1)))]) .ret) (.seq (.reg [.v 10 0,.v 11 1,.q 12 (.bin .gtr true (.t 10) (.t 11)),.v 9 12]) (.cond (.t 9) (.seq (.reg [.q 4 (.mv (.i 1))]) .ret) .skip))))) (.seq (.reg [.q 4 (.mv (.i 0))]) .ret))
def UG:List RV:=[.mv (.t 4)]
theorem aH5:aP Tryz.prog true ⟨fun _ _=>.own [],fun _=>false⟩ Tryz.f119=some (U7,UG):=by kernel_rfl
def VJ:PC:=.seq (.reg [.q 4 (.mv (.i 0))]) (.seq (.block 0 (.seq (.reg [.v 6 0,.v 7 1,.q 8 (.bin .lss true (.t 6) (.t 7)),.v 5 8]) (.cond (.t 5) (.seq (.reg [.q 4 (.mv (.i (-1)))]) .ret) (.seq (.reg [.v 10 0,.v 11 1,.q 12 (.bin .gtr true (.t 10) (.t 11)),.v 9 12]) (.cond (.t 9) (.seq (.reg [.q 4 (.mv (.i 1))]) .ret) .skip))))) (.seq (.reg [.q 4 (.mv (.i 0))]) .ret))
def SE:List RV:=[.mv (.t 4)]
theorem aHZ:aP Tryz.prog true ⟨fun _ _=>.own [],fun _=>false⟩ Tryz.f120=some (VJ,SE):=by kernel_rfl
def SZ:PC:=.seq (.reg [.q 6 (.mv (.i 0))]) (.seq (.seq (.reg [.v 11 0,.q 12 (.lnL (.t 11)),.q 13 (.mv (.i 0))]) (.block 0 (.loop (.seq (.reg [.q 14 (.bin .lss true (.t 13) (.t 12))]) (.seq (.cond (.t 14) .skip (.exit 0)) (.seq (.block 1 (.seq (.reg [.v 15 13,.l 16 (.ia 5 (.t 11) (.t 13)),.l 17 (.ldn 5 (.t 16)),.e 8 (.al (.agg #[(.int .i64 0),(.int .i64 0),(.string (mk [])),(.slice none 0 0),(.slice none 0 0)]) 29),.v 7 15,.s (.st 5 (.t 8) (.t 17))]) (.seq (.seq (.reg [.v 18 7,.v 19 1,.q 20 (.lnL (.t 19)),.q 21 (.bin .geq true (.t 18) (.t 20))]) (.cond (.t 21) (.seq (.reg [.q 6 (.mv (.i 1))]) .ret) .skip)) (.seq (.reg [.v 22 1,.v 23 7,.l 24 (.ia 5 (.t 22) (.t 23)),.l 25 (.ldn 5 (.t 24)),.e 9 (.al (.agg #[(.int .i64 0),(.int .i64 0),(.string (mk [])),(.slice none 0 0),(.slice none 0 0)]) 29),.s (.st 5 (.t 9) (.t 25))]) (.seq (.reg [.v 26 2,.l 27 (.ldn 5 (.t 8)),.l 28 (.ldn 5 (.t 9)),.a 29 (.ca (.t 26) [(.t 27),(.t 28)] []),.v 10 29]) (.seq (.reg [.v 30 10,.q 31 (.bin .neq true (.t 30) (.i 0))]) (.cond (.t 31) (.seq (.reg [.v 32 10,.v 6 32]) .ret) .skip))))))) (.reg [.q 33 (.bin .add true (.t 13) (.i 1)),.v 13 33]))))))) (.seq (.seq (.reg [.v 34 0,.q 35 (.lnL (.t 34)),.v 36 1,.q 37 (.lnL (.t 36)),.q 38 (.bin .lss true (.t 35) (.t 37))]) (.cond (.t 38) (.seq (.reg [.q 6 (.mv (.i (-1)))]) .ret) .skip)) (.seq (.reg [.q 6 (.mv (.i 0))]) .ret)))
def QY:List RV:=[.mv (.t 6)]
theorem aIG:aP Tryz.prog true ⟨fun _ _=>.own [],fun _=>false⟩ Tryz.f122=some (SZ,QY):=by kernel_rfl
def U2:PC:=.seq (.reg [.q 6 (.mv (.i 0))]) (.seq (.seq (.reg [.v 11 0,.q 12 (.lnL (.t 11)),.q 13 (.mv (.i 0))]) (.block 0 (.loop (.seq (.reg [.q 14 (.bin .lss true (.t 13) (.t 12))]) (.seq (.cond (.t 14) .skip (.exit 0)) (.seq (.block 1 (.seq (.reg [.v 15 13,.l 16 (.ia 6 (.t 11) (.t 13)),.l 17 (.ldn 6 (.t 16)),.e 8 (.al (.agg #[(.int .i64 0),(.int .i64 0),(.int .i64 0),(.string (mk [])),(.slice none 0 0),(.slice none 0 0)]) 76),.v 7 15,.s (.st 6 (.t 8) (.t 17))]) (.seq (.seq (.reg [.v 18 7,.v 19 1,.q 20 (.lnL (.t 19)),.q 21 (.bin .geq true (.t 18) (.t 20))]) (.cond (.t 21) (.seq (.reg [.q 6 (.mv (.i 1))]) .ret) .skip)) (.seq (.reg [.v 22 1,.v 23 7,.l 24 (.ia 6 (.t 22) (.t 23)),.l 25 (.ldn 6 (.t 24)),.e 9 (.al (.agg #[(.int .i64 0),(.int .i64 0),(.int .i64 0),(.string (mk [])),(.slice none 0 0),(.slice none 0 0)]) 76),.s (.st 6 (.t 9) (.t 25))]) (.seq (.reg [.v 26 2,.l 27 (.ldn 6 (.t 8)),.l 28 (.ldn 6 (.t 9)),.a 29 (.ca (.t 26) [(.t 27),(.t 28)] []),.v 10 29]) (.seq (.reg [.v 30 10,.q 31 (.bin .neq true (.t 30) (.i 0))]) (.cond (.t 31) (.seq (.reg [.v 32 10,.v 6 32]) .ret) .skip))))))) (.reg [.q 33 (.bin .add true (.t 13) (.i 1)),.v 13 33]))))))) (.seq (.seq (.reg [.v 34 0,.q 35 (.lnL (.t 34)),.v 36 1,.q 37 (.lnL (.t 36)),.q 38 (.bin .lss true (.t 35) (.t 37))]) (.cond (.t 38) (.seq (.reg [.q 6 (.mv (.i (-1)))]) .ret) .skip)) (.seq (.reg [.q 6 (.mv (.i 0))]) .ret)))
def VD:List RV:=[.mv (.t 6)]
theorem aFS:aP Tryz.prog true ⟨fun _ _=>.own [],fun _=>false⟩ Tryz.f123=some (U2,VD):=by kernel_rfl
def y3:PC:=.seq (.gh (.reg [.q 14 (.fa 1 (.t 2)),.l 15 (.ldn 5 (.t 14)),.q 16 (.fa 1 (.t 3)),.l 17 (.ldn 5 (.t 16)),.a 18 (.cl 82 [(.t 15),(.t 17)] []),.v 4 18])) .ret
@[go_sem ↓] theorem aJU:aL y3:=aM _
def SP:PC:=.seq (.reg [.e 2 (.bx 76 (.t 0)),.e 3 (.bx 76 (.t 1)),.q 4 (.mv (.i 0))]) (.seq (.seq (.reg [.q 6 (.fa 0 (.t 2)),.l 7 (.ld1 (.t 6)),.q 8 (.fa 0 (.t 3)),.l 9 (.ld1 (.t 8)),.a 10 (.cq 119 [(.t 7),(.t 9)]),.v 5 10]) (.seq (.reg [.v 11 5,.q 12 (.bin .neq true (.t 11) (.i 0))]) (.cond (.t 12) (.seq (.reg [.v 13 5,.v 4 13]) .ret) .skip))) (y3))
def UC:List RV:=[.mv (.t 4)]
theorem aF9:aP Tryz.prog true ⟨fun r k=>if r=1/\k=4 then .q else if r=4/\k=4 then .own [] else .own [],fun r=>[4].contains r⟩ Tryz.f124=some (SP,UC):=by kernel_rfl
end Go.Proofs.YthpbnmebjocbeaaGreat
namespace Go.Proofs
open Go.Shelf
def Tryz.lays106_ren:Go.Shelf.Ren:=⟨fun | 106=>121 | 213=>152 | 265=>160 | n=>n,fun | 9=>9 | 3=>3 | n=>n,fun | n=>n⟩
theorem Tryz.lays106:Go.Proofs.Lays.n106 Tryz.prog Tryz.lays106_ren:={
 mixed:=by kernel_rfl
 f106:=Tryz.func121.trans (congrArg some (by kernel_rfl))
 f213:=Tryz.func152.trans (congrArg some (by kernel_rfl))
 f265:=Tryz.func160.trans (congrArg some (by kernel_rfl))
 t3:=Tryz.underlying3
 a3:=Tryz.isAgg3
 z3:=Tryz.sizeOf3
 v3:=Tryz.zeroValue3
 t9:=Tryz.underlying9
 a9:=Tryz.isAgg9
 z9:=Tryz.sizeOf9
 v9:=Tryz.zeroValue9 }
end Go.Proofs
namespace Go.Proofs.YthpbnmebjocbeaaGreat
open Go.W
theorem VR (a b:ByteArray) (w:World):Calls Tryz.prog 121 #[.string a,.string b] w fun e w'=>e=.returned (.int .i64 (Lib.compareBytes a.data.toList b.data.toList))/\w'=w:=Any.strings_Compare Tryz.lays106 a b w
def B6:List S->Prop:=fun av=>match av with
 | [.va (.c1 (.vl (.string _))),.va (.c1 (.vl (.string _)))]=>True
 | _=>False
theorem v7 {av:List S} (h:B6 av):∃ a b:ByteArray,av=[tS a,tS b]:=by
 unfold B6 at h
 split at h
 · exact ⟨_,_,rfl⟩
 · exact h.elim
def J0:List S->A:=fun av=>match av with
 | [.va (.c1 (.vl (.string a))),.va (.c1 (.vl (.string b)))]=>iA .i64 (Lib.compareBytes (bl a) (bl b))
 | _=>.gs []
def scFn:Fun:=⟨B6,J0,fun av h=>by obtain ⟨a,b,rfl⟩:=v7 h; trivial⟩
attribute [go_sem] scFn B6 J0
theorem XU:Meets Tryz.prog 121 scFn.sp:=by
 refine ⟨by kernel_rfl,?_⟩
 rintro av vs E ro w K hlen hrel hR ⟨⟨h,hE⟩,hK⟩ _
 obtain ⟨a,b,rfl⟩:=v7 h
 obtain ⟨v0,v1,rfl⟩:∃ v0 v1,vs=[v0,v1]:=by
  match vs,hlen with
  | [v0,v1],_=>exact ⟨v0,v1,rfl⟩
 have h0:v0=.string a:=hrel 0 _ _ rfl rfl
 have h1:v1=.string b:=hrel 1 _ _ rfl rfl
 subst h0 h1
 refine (VR a b w).mono ?_
 rintro e w' ⟨rfl,rfl⟩
 exact ⟨iS .i64 (Lib.compareBytes (bl a) (bl b)),_,E,ro,rfl,rfl,by rw [hE]; exact hK,hR⟩
theorem DK:∀ (a b:List UInt8),(Lib.compareBytes a b == 0)=(a == b)
 | [],[]=>rfl
 | [],_ :: _=>rfl
 | _ :: _,[]=>rfl
 | x :: a,y :: b=>by
  rw [Lib.compareBytes]
  split
  · rename_i h
    have:(x :: a == y :: b)=false:=by
     rw [beq_eq_false_iff_ne]; intro e; cases e; exact UInt8.lt_irrefl _ h
    rw [this]; rfl
  · split
    · rename_i h
      have:(x :: a == y :: b)=false:=by
       rw [beq_eq_false_iff_ne]; intro e; cases e; exact UInt8.lt_irrefl _ h
      rw [this]; rfl
    · rename_i h1 h2
      have e:x=y:=UInt8.le_antisymm (UInt8.not_lt.1 h2) (UInt8.not_lt.1 h1)
      rw [e,DK a b]
      simp
theorem lT (a b:Int):(jY a b == 0)=(a == b):=by
 unfold jY
 cases h1:decide (a < b) with
 | true=>
  have:=of_decide_eq_true h1
  rw [cond_true,show (a == b)=false by simp; omega]; rfl
 | false=>
  have h1:=of_decide_eq_false h1
  rw [cond_false]
  cases h2:decide (b < a) with
  | true=>
   have:=of_decide_eq_true h2
   rw [cond_true,show (a == b)=false by simp; omega]; rfl
  | false=>
   have h2:=of_decide_eq_false h2
   rw [cond_false,show (a == b)=true by simp; omega]; rfl
theorem U0:Meets Tryz.prog 119 sgFn.sp:=by
 refine aD Tryz.func119 aH5 2 (by rw [Tryz.ntmps119]; decide) (aB _) uJ ?_
 rintro av H K ⟨⟨h,rfl⟩,hK⟩
 obtain ⟨a,b,rfl⟩:=iD h
 have hK:K (iS .i64 (jY a b)) []:=hK
 clear h
 unfold jY at hK
 simp (maxSteps:=1000000) -dsimp only [go_sem,U7,UG]
 refine ⟨fun h1=>?_,fun h1=>⟨fun h2=>?_,fun h2=>?_⟩⟩
 · rw [h1] at hK; exact .done hK
 · rw [h1,h2] at hK; exact .done hK
 · rw [h1,h2] at hK; exact .done hK
theorem aHM:Meets Tryz.prog 120 sgFn.sp:=by
 refine aD Tryz.func120 aHZ 2 (by rw [Tryz.ntmps120]; decide) (aB _) uJ ?_
 rintro av H K ⟨⟨h,rfl⟩,hK⟩
 obtain ⟨a,b,rfl⟩:=iD h
 have hK:K (iS .i64 (jY a b)) []:=hK
 clear h
 unfold jY at hK
 simp (maxSteps:=1000000) -dsimp only [go_sem,VJ,SE]
 refine ⟨fun h1=>?_,fun h1=>⟨fun h2=>?_,fun h2=>?_⟩⟩
 · rw [h1] at hK; exact .done hK
 · rw [h1,h2] at hK; exact .done hK
 · rw [h1,h2] at hK; exact .done hK
def zV (N:Nat):W.Spec:=fun av H K=>∃ a b:Vl,av=[.va (.gs (aQ a)),.va (.gs (aQ b))]/\H=[]/\VlOk a/\VlOk b/\a.h<=N/\∀ r:Int,(r == 0)=cZ a b->K (iS .i64 r) []
theorem m1 {N:Nat} {a b:Vl} {K:S->Hp->Prop} (h1:VlOk a) (h2:VlOk b) (h3:a.h<=N) (hK:∀ r:Int,(r == 0)=cZ a b->K (iS .i64 r) []) :
 zV N [.va (.gs [.vl (.int .i64 a.k),.vl (.int .i64 a.n),.vl (.string a.s),.fz (a.l.map aQ),.fz (a.f.map bD)]),.va (.gs [.vl (.int .i64 b.k),.vl (.int .i64 b.n),.vl (.string b.s),.fz (b.l.map aQ),.fz (b.f.map bD)])] [] K:=
 ⟨a,b,by rw [aK,aK],rfl,h1,h2,h3,hK⟩
abbrev cmV:S:=.va (.c1 (.fn 82 []))
abbrev cnV:S:=.va (.c1 (.fn 124 []))
def ZI (N:Nat):W.Spec:=fun av H K=>∃ a b:List Vl,av=[.va (.c1 (.fz (a.map aQ))),.va (.c1 (.fz (b.map aQ))),cmV]/\H=[]/\(∀ x ∈ a,VlOk x/\x.h<=N)/\(∀ x ∈ b,VlOk x)/\a.length<=1000000000000000/\b.length<=1000000000000000/\∀ r:Int,(r == 0)=eQ a b->K (iS .i64 r) []
theorem aCQ {N:Nat} {a b:List Vl} {K:S->Hp->Prop} (h1:∀ x ∈ a,VlOk x/\x.h<=N) (h2:∀ x ∈ b,VlOk x) (h3:a.length<=1000000000000000) (h4:b.length<=1000000000000000) (hK:∀ r:Int,(r == 0)=eQ a b->K (iS .i64 r) []) :
 ZI N [.va (.c1 (.fz (a.map aQ))),.va (.c1 (.fz (b.map aQ))),cmV] [] K:=⟨a,b,rfl,rfl,h1,h2,h3,h4,hK⟩
theorem FF (x y:Vl) (a b:List Vl):eQ (x :: a) (y :: b)=(cZ x y && eQ a b):=by rw [eQ]
theorem aFT {N:Nat} (hC:Meets Tryz.prog 82 (zV N)):Meets Tryz.prog 122 (ZI N):=by
 refine aD Tryz.func122 aIG 3 (by rw [Tryz.ntmps122]; decide) (aC hC (aB _)) (fun av H K h=>by obtain ⟨_,_,rfl,_⟩:=h; rfl) ?_
 rintro av H K ⟨a,b,rfl,rfl,ha,hb,hla,hlb,hK⟩
 have fin:∀ (r:Int) (R:Hp),(r == 0)=eQ a b->W.Fin 0 K (iS .i64 r) R:=fun r R h=>.sel [] (by simp) (by simp) rfl (.done (by simpa [go_sem] using hK r h))
 simp (maxSteps:=1000000) -dsimp only [go_sem,SZ,QY]
 refine aU (α:=Nat) (fun i=>[(0,.va (.c1 (.fz (a.map aQ)))),(1,.va (.c1 (.fz (b.map aQ)))),(2,cmV),(11,.va (.c1 (.fz (a.map aQ)))),(12,iS .i64 a.length),(13,iS .i64 i)]) (fun _=>[])
  (fun i=>i<=a.length/\i<=b.length/\eQ (a.drop i) (b.drop i)=eQ a b) (fun i=>a.length - i) 0 0 ⟨Nat.zero_le _,Nat.zero_le _,rfl⟩ ?_ ?_ ?_
 · simp -dsimp only [go_sem]<;>simp
 · simp -dsimp only [go_sem]<;>simp
 rintro i ⟨hi,hib,ho⟩
 rcases a8 i a.length with hlt | hge
 · have hg:decide ((i:Int) < (a.length:Int))=true:=by simp; omega
   have hx:a[i]? = some a[i]:=aV hlt
   have q1:=mH hx
   have hxo:=ha _ (List.getElem_mem hlt)
   rw [List.drop_eq_getElem_cons hlt] at ho
   generalize a[i]=x at *
   rcases a8 i b.length with hlt2 | hge2
   · have hg2:decide ((b.length:Int)<=(i:Int))=false:=by simp; omega
     have hy:b[i]? = some b[i]:=aV hlt2
     have q2:=mH hy
     have hyo:=hb _ (List.getElem_mem hlt2)
     rw [List.drop_eq_getElem_cons hlt2,FF] at ho
     generalize b[i]=y at *
     simp (maxSteps:=1000000) -dsimp only [go_sem,hg,hg2,↓q1,↓q2]
     refine ⟨by omega,by omega,m1 hxo.1 hyo hxo.2 fun r hr=>?_⟩
     simp (maxSteps:=1000000) -dsimp only [go_sem]
     refine ⟨fun h1=>fin r _ ?_,fun h1=>?_⟩
     · have h2:(r == 0)=false:=by simpa using h1
       rw [h2] at hr ⊢
       rw [<-ho,<-hr]; rfl
     · have h2:(r == 0)=true:=by simpa using h1
       rw [h2] at hr
       rw [<-hr,Bool.true_and] at ho
       refine ⟨by omega,aE (i + 1) 0 ⟨by omega,by omega,ho⟩ (by omega) ?_ ?_⟩
       · simp -dsimp only [go_sem]<;>simp
       · simp -dsimp only [go_sem]<;>simp
   · have hg2:decide ((b.length:Int)<=(i:Int))=true:=by simp; omega
     have hd:b.drop i=[]:=List.drop_eq_nil_iff.2 hge2
     rw [hd,eQ] at ho
     simp (maxSteps:=1000000) -dsimp only [go_sem,hg,hg2,↓q1]
     exact ⟨by omega,fin 1 _ ho⟩
 · have hg:decide ((i:Int) < (a.length:Int))=false:=by simp; omega
   have hd:a.drop i=[]:=List.drop_eq_nil_iff.2 hge
   rw [hd] at ho
   simp (maxSteps:=1000000) -dsimp only [go_sem,hg]
   refine ⟨fun h1=>fin (-1) _ ?_,fun h1=>fin 0 _ ?_⟩
   · have h1:=of_decide_eq_true h1
     have hlt2:i < b.length:=by omega
     rw [List.drop_eq_getElem_cons hlt2,eQ] at ho
     exact ho
   · have h1:=of_decide_eq_false h1
     have hd2:b.drop i=[]:=List.drop_eq_nil_iff.2 (by omega)
     rw [hd2,eQ] at ho
     exact ho
def aBQ (N:Nat):W.Spec:=fun av H K=>∃ x y:Int × Vl,av=[.va (.gs (bD x)),.va (.gs (bD y))]/\H=[]/\VlOk x.2/\VlOk y.2/\x.2.h<=N/\∀ r:Int,(r == 0)=(x.1 == y.1 && cZ x.2 y.2)->K (iS .i64 r) []
theorem ZP {N:Nat} {x y:Int × Vl} {K:S->Hp->Prop} (h1:VlOk x.2) (h2:VlOk y.2) (h3:x.2.h<=N) (hK:∀ r:Int,(r == 0)=(x.1 == y.1 && cZ x.2 y.2)->K (iS .i64 r) []) :
 aBQ N [.va (.gs [.vl (.int .i64 x.1),.vl (.int .i64 x.2.k),.vl (.int .i64 x.2.n),.vl (.string x.2.s),.fz (x.2.l.map aQ),.fz (x.2.f.map bD)]),.va (.gs [.vl (.int .i64 y.1),.vl (.int .i64 y.2.k),.vl (.int .i64 y.2.n),.vl (.string y.2.s),.fz (y.2.l.map aQ),.fz (y.2.f.map bD)])] [] K:=
 ⟨x,y,by rw [iM,iM],rfl,h1,h2,h3,hK⟩
theorem aFD {N:Nat} (hC:Meets Tryz.prog 82 (zV N)):Meets Tryz.prog 124 (aBQ N):=by
 refine aD Tryz.func124 aF9 2 (by rw [Tryz.ntmps124]; decide) (aH U0 (aC hC (aB _))) (fun av H K h=>by obtain ⟨_,_,rfl,_⟩:=h; rfl) ?_
 rintro av H K ⟨x,y,rfl,rfl,hx,hy,hh,hK⟩
 have fin:∀ (r:Int) (R:Hp),(r == 0)=(x.1 == y.1 && cZ x.2 y.2)->W.Fin 0 K (iS .i64 r) R:=fun r R h=>.sel [] (by simp) (by simp) rfl (.done (by simpa [go_sem] using hK r h))
 have hs:=lT x.1 y.1
 simp (maxSteps:=1000000) -dsimp only [go_sem,iM x,iM y,SP,UC]
 refine ⟨fun h1=>fin _ _ ?_,fun h1=>aA rfl (.done ?_)⟩
 · have h2:(jY x.1 y.1 == 0)=false:=by simpa using h1
   rw [h2] at hs ⊢
   rw [<-hs]; rfl
 · have h2:(jY x.1 y.1 == 0)=true:=by simpa using h1
   rw [h2] at hs
   simp (maxSteps:=1000000) -dsimp only [go_sem,y3,List.take_succ_cons,List.take_zero,List.length_cons,List.length_nil]
   refine m1 hx hy hh fun r hr=>?_
   simp (maxSteps:=1000000) -dsimp only [go_sem]
   exact fin r _ (by rw [hr,<-hs]; rfl)
def RS (N:Nat):W.Spec:=fun av H K=>∃ a b:List (Int × Vl),av=[.va (.c1 (.fz (a.map bD))),.va (.c1 (.fz (b.map bD))),cnV]/\H=[]/\(∀ x ∈ a,VlOk x.2/\x.2.h<=N)/\(∀ x ∈ b,VlOk x.2)/\a.length<=1000000000000000/\b.length<=1000000000000000/\∀ r:Int,(r == 0)=eE a b->K (iS .i64 r) []
theorem X1 {N:Nat} {a b:List (Int × Vl)} {K:S->Hp->Prop} (h1:∀ x ∈ a,VlOk x.2/\x.2.h<=N) (h2:∀ x ∈ b,VlOk x.2) (h3:a.length<=1000000000000000) (h4:b.length<=1000000000000000) (hK:∀ r:Int,(r == 0)=eE a b->K (iS .i64 r) []) :
 RS N [.va (.c1 (.fz (a.map bD))),.va (.c1 (.fz (b.map bD))),cnV] [] K:=⟨a,b,rfl,rfl,h1,h2,h3,h4,hK⟩
theorem aFQ {N:Nat} (hC:Meets Tryz.prog 82 (zV N)):Meets Tryz.prog 123 (RS N):=by
 refine aD Tryz.func123 aFS 3 (by rw [Tryz.ntmps123]; decide) (aC (aFD hC) (aB _)) (fun av H K h=>by obtain ⟨_,_,rfl,_⟩:=h; rfl) ?_
 rintro av H K ⟨a,b,rfl,rfl,ha,hb,hla,hlb,hK⟩
 have fin:∀ (r:Int) (R:Hp),(r == 0)=eE a b->W.Fin 0 K (iS .i64 r) R:=fun r R h=>.sel [] (by simp) (by simp) rfl (.done (by simpa [go_sem] using hK r h))
 simp (maxSteps:=1000000) -dsimp only [go_sem,U2,VD]
 refine aU (α:=Nat) (fun i=>[(0,.va (.c1 (.fz (a.map bD)))),(1,.va (.c1 (.fz (b.map bD)))),(2,cnV),(11,.va (.c1 (.fz (a.map bD)))),(12,iS .i64 a.length),(13,iS .i64 i)]) (fun _=>[])
  (fun i=>i<=a.length/\i<=b.length/\eE (a.drop i) (b.drop i)=eE a b) (fun i=>a.length - i) 0 0 ⟨Nat.zero_le _,Nat.zero_le _,rfl⟩ ?_ ?_ ?_
 · simp -dsimp only [go_sem]<;>simp
 · simp -dsimp only [go_sem]<;>simp
 rintro i ⟨hi,hib,ho⟩
 rcases a8 i a.length with hlt | hge
 · have hg:decide ((i:Int) < (a.length:Int))=true:=by simp; omega
   have hx:a[i]? = some a[i]:=aV hlt
   have q1:=iF hx
   have hxo:=ha _ (List.getElem_mem hlt)
   rw [List.drop_eq_getElem_cons hlt] at ho
   generalize a[i]=x at *
   rcases a8 i b.length with hlt2 | hge2
   · have hg2:decide ((b.length:Int)<=(i:Int))=false:=by simp; omega
     have hy:b[i]? = some b[i]:=aV hlt2
     have q2:=iF hy
     have hyo:=hb _ (List.getElem_mem hlt2)
     rw [List.drop_eq_getElem_cons hlt2,FT] at ho
     generalize b[i]=y at *
     simp (maxSteps:=1000000) -dsimp only [go_sem,hg,hg2,↓q1,↓q2]
     refine ⟨by omega,by omega,ZP hxo.1 hyo hxo.2 fun r hr=>?_⟩
     rw [<-Bool.and_assoc,<-hr] at ho
     simp (maxSteps:=1000000) -dsimp only [go_sem]
     refine ⟨fun h1=>fin r _ ?_,fun h1=>?_⟩
     · have h2:(r == 0)=false:=by simpa using h1
       rw [h2,Bool.false_and] at ho
       rw [h2]; exact ho
     · have h2:(r == 0)=true:=by simpa using h1
       rw [h2,Bool.true_and] at ho
       refine ⟨by omega,aE (i + 1) 0 ⟨by omega,by omega,ho⟩ (by omega) ?_ ?_⟩
       · simp -dsimp only [go_sem]<;>simp
       · simp -dsimp only [go_sem]<;>simp
   · have hg2:decide ((b.length:Int)<=(i:Int))=true:=by simp; omega
     have hd:b.drop i=[]:=List.drop_eq_nil_iff.2 hge2
     have he:eE (x :: a.drop (i + 1)) []=false:=by obtain ⟨j,x⟩:=x; rw [eE]
     rw [hd,he] at ho
     simp (maxSteps:=1000000) -dsimp only [go_sem,hg,hg2,↓q1]
     exact ⟨by omega,fin 1 _ ho⟩
 · have hg:decide ((i:Int) < (a.length:Int))=false:=by simp; omega
   have hd:a.drop i=[]:=List.drop_eq_nil_iff.2 hge
   rw [hd] at ho
   simp (maxSteps:=1000000) -dsimp only [go_sem,hg]
   refine ⟨fun h1=>fin (-1) _ ?_,fun h1=>fin 0 _ ?_⟩
   · have h1:=of_decide_eq_true h1
     have hlt2:i < b.length:=by omega
     rw [List.drop_eq_getElem_cons hlt2] at ho
     have he:∀ y:Int × Vl,eE [] (y :: b.drop (i + 1))=false:=fun y=>by obtain ⟨j,y⟩:=y; rw [eE]
     rw [he] at ho
     exact ho
   · have h1:=of_decide_eq_false h1
     have hd2:b.drop i=[]:=List.drop_eq_nil_iff.2 (by omega)
     rw [hd2,eE] at ho
     exact ho
theorem qD:∀ N,Meets Tryz.prog 82 (zV N)
 | 0=>⟨by kernel_rfl,by rintro xs vs E ro w K _ _ _ ⟨a,_,_,_,_,_,h,_⟩; have:=a.h_pos; omega⟩
 | N + 1=>by
  refine aD Tryz.func82 aKX 2 (by rw [Tryz.ntmps82]; decide) (aH U0 (aH aHM (aH XU (aC (aFT (qD N)) (aC (aFQ (qD N)) (aB _)))))) (fun av H K h=>by obtain ⟨_,_,rfl,_⟩:=h; rfl) ?_
  rintro av H K ⟨a,b,rfl,rfl,ha,hb,hh,hK⟩
  have hE:=LM a b
  have fin:∀ (r:Int) (R:Hp),(r == 0)=cZ a b->W.Fin 0 K (iS .i64 r) R:=fun r R h=>.sel [] (by simp) (by simp) rfl (.done (by simpa [go_sem] using hK r h))
  have hs1:=lT a.k b.k
  have hs2:=lT a.n b.n
  have hs3:=DK (bl a.s) (bl b.s)
  have hla:=ha.ll
  have hlb:=hb.ll
  have hfa:=ha.lf
  have hfb:=hb.lf
  simp (maxSteps:=1000000) -dsimp only [go_sem,aK a,aK b,aE6,aA8]
  refine ⟨fun h1=>fin _ _ ?_,fun h1=>aA rfl (.done ?_)⟩
  · have h2:(jY a.k b.k == 0)=false:=by simpa using h1
    rw [h2] at hs1 ⊢
    rw [hE,<-hs1]; rfl
  have h2:(jY a.k b.k == 0)=true:=by simpa using h1
  rw [h2] at hs1
  rw [<-hs1,Bool.true_and] at hE
  simp (maxSteps:=1000000) -dsimp only [go_sem,F2]
  refine ⟨fun h1=>fin _ _ ?_,fun h1=>aA rfl (.done ?_)⟩
  · have h2:(jY a.n b.n == 0)=false:=by simpa using h1
    rw [h2] at hs2 ⊢
    rw [hE,<-hs2]; rfl
  have h2:(jY a.n b.n == 0)=true:=by simpa using h1
  rw [h2] at hs2
  rw [<-hs2,Bool.true_and] at hE
  simp (maxSteps:=1000000) -dsimp only [go_sem,CS]
  refine ⟨fun h1=>fin _ _ ?_,fun h1=>aA rfl (.done ?_)⟩
  · have h2:(Lib.compareBytes (bl a.s) (bl b.s) == 0)=false:=by simpa using h1
    rw [h2] at hs3 ⊢
    rw [hE,<-hs3]; rfl
  have h2:(Lib.compareBytes (bl a.s) (bl b.s) == 0)=true:=by simpa using h1
  rw [h2] at hs3
  rw [<-hs3,Bool.true_and] at hE
  simp (maxSteps:=1000000) -dsimp only [go_sem,zD]
  refine aCQ (fun x hx=>⟨ha.l x hx,by have:=Vl.h_l hx; omega⟩) hb.l (by omega) (by omega) fun r hr=>?_
  simp (maxSteps:=1000000) -dsimp only [go_sem]
  refine ⟨fun h1=>fin _ _ ?_,fun h1=>aA rfl (.done ?_)⟩
  · have h2:(r == 0)=false:=by simpa using h1
    rw [h2] at hr ⊢
    rw [hE,<-hr]; rfl
  have h2:(r == 0)=true:=by simpa using h1
  rw [h2] at hr
  rw [<-hr,Bool.true_and] at hE
  simp (maxSteps:=1000000) -dsimp only [go_sem,xE]
  refine X1 (fun x hx=>⟨ha.f x hx,by have:=Vl.h_f hx; omega⟩) hb.f (by omega) (by omega) fun r hr=>?_
  simp (maxSteps:=1000000) -dsimp only [go_sem]
  exact fin r _ (by rw [hr,hE])
def BX:List S->Prop:=fun av=>match av with
 | [.va (.gs r),.va (.gs q)]=>oL r/\oL q
 | _=>False
theorem nV {av:List S} (h:BX av):∃ a b:Vl,av=[.va (.gs (aQ a)),.va (.gs (aQ b))]/\VlOk a/\VlOk b:=by
 unfold BX at h
 split at h
 · obtain ⟨⟨a,rfl,h1⟩,⟨b,rfl,h2⟩⟩:=h; exact ⟨a,b,rfl,h1,h2⟩
 · exact h.elim
noncomputable def TT:List S->A:=fun av=>match av with
 | [.va (.gs r),.va (.gs q)]=>bA (cZ (C.vv r) (C.vv q))
 | _=>.gs []
noncomputable def eqFn2:Fun:=⟨BX,TT,fun av h=>by obtain ⟨a,b,rfl,_⟩:=nV h; trivial⟩
attribute [go_sem] eqFn2 BX TT
theorem QP (N:Nat):Meets Tryz.prog 44 (fun av H K=>∃ a b:Vl,av=[.va (.gs (aQ a)),.va (.gs (aQ b))]/\H=[]/\VlOk a/\VlOk b/\a.h<=N/\K (bS (cZ a b)) []):=by
 refine aD Tryz.func44 aNT 2 (by rw [Tryz.ntmps44]; decide) (aC (qD N) (aB _)) (fun av H K h=>by obtain ⟨_,_,rfl,_⟩:=h; rfl) ?_
 rintro av H K ⟨a,b,rfl,rfl,ha,hb,hh,hK⟩
 simp (maxSteps:=1000000) -dsimp only [go_sem,aK a,aK b,YC,aDH]
 refine m1 ha hb hh fun r hr=>?_
 simp (maxSteps:=1000000) -dsimp only [go_sem]
 exact .sel [] (by simp) (by simp) rfl (.done (by rw [hr]; simpa [go_sem] using hK))
theorem GO:Meets Tryz.prog 44 eqFn2.sp:=d5 (0:Nat) QP fun av H K h=>by
 obtain ⟨⟨h,e⟩,hK⟩:=h
 obtain ⟨a,b,rfl,ha,hb⟩:=nV h
 have hK:K (bS (cZ (C.vv (aQ a)) (C.vv (aQ b)))) []:=hK
 rw [gJ,gJ] at hK
 exact ⟨a.h,a,b,rfl,e,ha,hb,Nat.le_refl _,hK⟩
end Go.Proofs.YthpbnmebjocbeaaGreat
