/- Lemmas and walks for the proof. -/
import Derived.Test.YthpbnmebjocbeaaGreatCc
import Derived.Shelf.Slices.Clone
import Derived.Test.YthpbnmebjocbeaaGreatProg
set_option maxRecDepth 100000
set_option maxHeartbeats 8000000
namespace Go.Proofs.YthpbnmebjocbeaaGreat
open Go.W
def lH (a b:Int):Int:=bif decide (a < b) then -1 else bif decide (b < a) then 1 else 0
def DD:List S->Prop:=fun av=>match av with
 | [.va (.c1 (.vl (.int .i64 _))),.va (.c1 (.vl (.int .i64 _)))]=>True
 | _=>False
theorem jD {av:List S} (h:DD av):∃ a b:Int,av=[iS .i64 a,iS .i64 b]:=by
 unfold DD at h
 split at h
 · exact ⟨_,_,rfl⟩
 · exact h.elim
def SW:List S->A:=fun av=>match av with
 | [.va (.c1 (.vl (.int _ a))),.va (.c1 (.vl (.int _ b)))]=>iA .i64 (lH a b)
 | _=>.gs []
def sgFn:Fun:=⟨DD,SW,fun av h=>by obtain ⟨a,b,rfl⟩:=jD h; trivial⟩
theorem vQ:∀ av H K,sgFn.sp av H K->av.length=2:=fun av H K h=>by obtain ⟨a,b,rfl⟩:=jD h.1.1; rfl
attribute [go_sem] sgFn DD SW
theorem TH:Meets Tryz.prog 58 sgFn.sp:=by
 refine aD Tryz.func58 aNV 2 (by rw [Tryz.ntmps58]; decide) (aA _) vQ ?_
 rintro av H K ⟨⟨h,rfl⟩,hK⟩
 obtain ⟨a,b,rfl⟩:=jD h
 have hK:K (iS .i64 (lH a b)) []:=hK
 clear h
 unfold lH at hK
 simp (maxSteps:=1000000) -dsimp only [go_sem,aAA,ZQ]
 refine ⟨fun h1=>?_,fun h1=>⟨fun h2=>?_,fun h2=>?_⟩⟩
 · rw [h1] at hK; exact .done hK
 · rw [h1,h2] at hK; exact .done hK
 · rw [h1,h2] at hK; exact .done hK
def bJ (v:Vl):List C:=[.vl (.int .i64 v.k),.vl (.int .i64 v.n),.vl (.string v.s),.fz (v.l.map aM),.fz (v.f.map bC)]
theorem nJ {l:List Vl} {i:Nat} {x:Vl} (h:l[i]? = some x) (p:List C->Prop):(∀ r,(l.map aM)[((i:Nat):Int).toNat]? = some r->p r)=p [.vl (.int .i64 x.k),.vl (.int .i64 x.n),.vl (.string x.s),.fz (x.l.map aM),.fz (x.f.map bC)]:=by
 rw [<-aJ]; exact a7 (row:=aM) h p
theorem gG {l:List (Int × Vl)} {i:Nat} {x:Int × Vl} (h:l[i]? = some x) (p:List C->Prop):(∀ r,(l.map bC)[((i:Nat):Int).toNat]? = some r->p r)=p [.vl (.int .i64 x.1),.vl (.int .i64 x.2.k),.vl (.int .i64 x.2.n),.vl (.string x.2.s),.fz (x.2.l.map aM),.fz (x.2.f.map bC)]:=by
 rw [<-jN]; exact a7 (row:=bC) h p
theorem cD {v:Vl} (h:VlOk v):kD [.vl (.int .i64 v.k),.vl (.int .i64 v.n),.vl (.string v.s),.fz (v.l.map aM),.fz (v.f.map bC)]:=by rw [<-aJ]; exact H3 h
theorem dS (v:Vl):C.vv [.vl (.int .i64 v.k),.vl (.int .i64 v.n),.vl (.string v.s),.fz (v.l.map aM),.fz (v.f.map bC)]=v:=by rw [<-aJ,fG]
mutual
def szW:Vl->Int
 | .mk _ _ _ l f=>szF (szL 1 l) f
def szL:Int->List Vl->Int
 | a,[]=>a
 | a,v :: r=>szL (IntKind.i64.wrap (a + szW v)) r
def szF:Int->List (Int × Vl)->Int
 | a,[]=>a
 | a,(_,v) :: r=>szF (IntKind.i64.wrap (a + szW v)) r
end
theorem YB:Meets Tryz.prog 153 (v8 jZ C.ty fun t=>.bool ((t.e.length:Int) == 0)).sp:=by
 refine aD Tryz.func153 aHI 1 (by rw [Tryz.ntmps153]; decide) (aA _) sD ?_
 rintro av H K ⟨⟨h,rfl⟩,hK⟩
 obtain ⟨_,rfl,t,rfl,ht⟩:=i6 h
 have hK:K (bS ((t.e.length:Int) == 0)) []:=by
  have:(v8 jZ C.ty fun t=>.bool ((t.e.length:Int) == 0)).val [.va (.gs (aU t))]=bA ((t.e.length:Int) == 0):=by simp -dsimp only [go_sem]
  rw [this] at hK; exact hK
 simp (maxSteps:=1000000) -dsimp only [go_sem,aL,VL,U4]
 exact .sel [] (by simp) (by simp) rfl (.done (by simpa [go_sem] using hK))
theorem OH:Meets Tryz.prog 17 o9:=by
 refine aD Tryz.func17 aL3 2 (by rw [Tryz.ntmps17]; decide) (aA _) (fun av H K h=>by obtain ⟨_,_,rfl,_⟩:=h; rfl) ?_
 rintro av H K ⟨s,n,rfl,rfl,hs,hK⟩
 rw [<-n9] at hK
 have hl:=hs.ok.ls
 simp -dsimp only [go_sem,aF,Z7,Y0]
 refine aS (α:=Nat) (fun i=>[(1,tS n),(2,.va (.c1 (.pt 0 0))),(4,.va (.c1 (.pt 1 0))),(6,iS .i64 i)]) (fun _=>[.cells (aF s) 25,.cells [.vl (.string (mk [])),.vl (.slice none 0 0)] 48])
  (fun i=>i<=s.ss.length/\fS (s.ss.drop i) n=fS s.ss n) (fun i=>s.ss.length - i) 0 2 ⟨Nat.zero_le _,rfl⟩ ?_ ?_ ?_
 · simp [go_sem]
 · simp [go_sem,aF]
 rintro i ⟨hi,ho⟩
 rcases bE i s.ss.length with hlt | hge
 · have hg:decide ((i:Int) < (s.ss.length:Int))=true:=by simp; omega
   obtain ⟨t,hx⟩:∃ e,s.ss[i]? = some e:=⟨_,aW hlt⟩
   have q2:=a7 (row:=aI) hx
   rw [fS,fQ hx] at ho
   cases hc:decide (t.nm=n) with
   | true=>
    rw [hc,bD] at ho
    rw [<-ho] at hK
    simp (maxSteps:=1000000) -dsimp only [go_sem,hg,↓q2,aI,aF,cS,hc]
    refine ⟨by omega,by omega,.sel [] (by simp) (by simp) rfl (.done (by simpa [go_sem,aI] using hK))⟩
   | false=>
    rw [hc,aV] at ho
    simp (maxSteps:=1000000) -dsimp only [go_sem,hg,↓q2,aI,aF,cS,hc]
    refine ⟨by omega,by omega,aE (i + 1) 2 ⟨by omega,ho⟩ (by omega) ?_ ?_⟩
    · simp [go_sem]
    · simp [go_sem,aF]
 · have hg:decide ((i:Int) < (s.ss.length:Int))=false:=by simp; omega
   obtain rfl:i=s.ss.length:=by omega
   rw [List.drop_length] at ho
   rw [<-ho] at hK
   simp -dsimp only [go_sem,hg,aF]
   exact .sel [] (by simp) (by simp) rfl (.done (by simpa [go_sem,fS,yO] using hK))
def wX:W.Spec:=fun av H K=>∃ (s:Sc) (n:ByteArray),av=[.va (.gs (aF s)),tS n]/\H=[]/\s.fit/\K (.tu [.gs (aY ((c9 s.es n).getD default)),bA (dE s.es n)]) []
theorem oM {s:Sc} {n:ByteArray} {K:S->Hp->Prop} (h:s.fit) (hK:K (.tu [.gs (aY ((c9 s.es n).getD default)),bA (dE s.es n)]) []):wX [.va (.gs (aF s)),tS n] [] K:=⟨s,n,rfl,rfl,h,hK⟩
theorem A1:aY default=[.vl (.string (mk [])),.fz [],.fz []]:=rfl
theorem aBQ:Meets Tryz.prog 127 wX:=by
 refine aD Tryz.func127 aHC 2 (by rw [Tryz.ntmps127]; decide) (aA _) (fun av H K h=>by obtain ⟨_,_,rfl,_⟩:=h; rfl) ?_
 rintro av H K ⟨s,n,rfl,rfl,hs,hK⟩
 rw [<-oU] at hK
 have hl:=hs.ok.le
 simp -dsimp only [go_sem,aF,T0,U0]
 refine aS (α:=Nat) (fun i=>[(1,tS n),(2,.va (.c1 (.pt 0 0))),(4,.va (.c1 (.pt 1 0))),(6,iS .i64 i)]) (fun _=>[.cells (aF s) 25,.cells [.vl (.string (mk [])),.vl (.slice none 0 0),.vl (.slice none 0 0)] 118])
  (fun i=>i<=s.es.length/\c9 (s.es.drop i) n=c9 s.es n) (fun i=>s.es.length - i) 0 2 ⟨Nat.zero_le _,rfl⟩ ?_ ?_ ?_
 · simp [go_sem]
 · simp [go_sem,aF]
 rintro i ⟨hi,ho⟩
 rcases bE i s.es.length with hlt | hge
 · have hg:decide ((i:Int) < (s.es.length:Int))=true:=by simp; omega
   obtain ⟨t,hx⟩:∃ e,s.es[i]? = some e:=⟨_,aW hlt⟩
   have q2:=a7 (row:=aY) hx
   rw [c9,fQ hx] at ho
   cases hc:decide (t.nm=n) with
   | true=>
    rw [hc,bD] at ho
    rw [<-ho] at hK
    simp (maxSteps:=1000000) -dsimp only [go_sem,hg,↓q2,aY,aF,cS,hc]
    refine ⟨by omega,by omega,.sel [] (by simp) (by simp) rfl (.done (by simpa [go_sem,aY] using hK))⟩
   | false=>
    rw [hc,aV] at ho
    simp (maxSteps:=1000000) -dsimp only [go_sem,hg,↓q2,aY,aF,cS,hc]
    refine ⟨by omega,by omega,aE (i + 1) 2 ⟨by omega,ho⟩ (by omega) ?_ ?_⟩
    · simp [go_sem]
    · simp [go_sem,aF]
 · have hg:decide ((i:Int) < (s.es.length:Int))=false:=by simp; omega
   obtain rfl:i=s.es.length:=by omega
   rw [List.drop_length] at ho
   rw [<-ho] at hK
   simp -dsimp only [go_sem,hg,aF]
   exact .sel [] (by simp) (by simp) rfl (.done (by simpa [go_sem,c9,A1] using hK))
end Go.Proofs.YthpbnmebjocbeaaGreat
namespace Go.Proofs
open Go.Shelf
def Tryz.lays16_ren:Go.Shelf.Ren:=⟨fun | 16=>147 | n=>n,fun | 24=>116 | n=>n,fun | n=>n⟩
theorem Tryz.lays16:Go.Proofs.Lays2.n16 Tryz.prog Tryz.lays16_ren:={
 mixed:=by kernel_rfl
 f16:=Tryz.func147.trans (congrArg some (by kernel_rfl))
 t4:=Tryz.underlying4
 a4:=Tryz.isAgg4
 z4:=Tryz.sizeOf4
 v4:=Tryz.zeroValue4
 t9:=Tryz.underlying9
 a9:=Tryz.isAgg9
 z9:=Tryz.sizeOf9
 v9:=Tryz.zeroValue9
 t24:=Tryz.underlying116
 a24:=Tryz.isAgg116
 z24:=Tryz.sizeOf116
 v24:=Tryz.zeroValue116
 i9:=by kernel_rfl }
def Tryz.lays15_ren:Go.Shelf.Ren:=⟨fun | 15=>148 | n=>n,fun | 22=>64 | n=>n,fun | n=>n⟩
theorem Tryz.lays15:Go.Proofs.Lays2.n15 Tryz.prog Tryz.lays15_ren:={
 mixed:=by kernel_rfl
 f15:=Tryz.func148.trans (congrArg some (by kernel_rfl))
 t3:=Tryz.underlying3
 a3:=Tryz.isAgg3
 z3:=Tryz.sizeOf3
 v3:=Tryz.zeroValue3
 t4:=Tryz.underlying4
 a4:=Tryz.isAgg4
 z4:=Tryz.sizeOf4
 v4:=Tryz.zeroValue4
 t22:=Tryz.underlying64
 a22:=Tryz.isAgg64
 z22:=Tryz.sizeOf64
 v22:=Tryz.zeroValue64
 i3:=by kernel_rfl }
end Go.Proofs
namespace Go.Proofs.YthpbnmebjocbeaaGreat
open Go.W Go.RowKit
theorem V1 {X:Ctx} {E:Es} {ro:RO} {w w':World} (h:Rel X E ro w) {blk:B} {g:Gb} (hb:∀ k,k < w.heap.size->w'.heap[k]? = w.heap[k]?) (hsz:w.heap.size<=w'.heap.size)
 (h1:w'.os=w.os) (h2:w'.tape=w.tape) (h3:w'.output=w.output) (hob:∀ b,g.ob=some b->w.heap.size<=b) (hon:blk.On (gm (E ++ [(g,blk)])) ro w' g):Rel X (E ++ [(g,blk)]) ro w':=by
 have hext:GExt (gm E) (gm (E ++ [(g,blk)])):=cG _
 have hget:∀ (n:Nat) (y:Gb × B),(E ++ [(g,blk)])[n]? = some y->(n=E.length/\y=(g,blk))\/(n < E.length/\E[n]? = some y):=by
  intro n y hy
  rw [List.getElem?_append] at hy
  split at hy
  · exact .inr ⟨by assumption,hy⟩
  · have:n - E.length=0:=by
     rcases Nat.eq_zero_or_pos (n - E.length) with h0 | h0
     · exact h0
     · rw [List.getElem?_eq_none (by simp; omega)] at hy; cases hy
    rw [this] at hy
    exact .inl ⟨by omega,by simpa using hy.symm⟩
 have old:∀ (n k:Nat) (gn:Gb) (bk:B),E[n]? = some (gn,bk)->gn.ob=some k->bk.live=true->k < w.heap.size:=fun n k gn bk hy hk hl=>(h.own n _ bk hy).lt hl hk
 refine ⟨fun n g' bk hy=>?_,fun n m gn gm bn bm k hy hz en em ln lm=>?_,fun k off c hc n gn bk hy en=>?_,fun k off c hc=>?_,h.ro0,h.rob,fun n k gn bk hy en ln=>?_,h.gx.trans hext,Nat.le_trans h.sz hsz,fun k hk hp=>?_,by rw [h1]; exact h.os,by rw [h2]; exact h.tape,by rw [h3]; exact h.output⟩
 · rcases hget n _ hy with ⟨rfl,he⟩ | ⟨hlt,hy'⟩
   · simp only [Prod.mk.injEq] at he; obtain ⟨rfl,rfl⟩:=he; exact hon
   · by_cases hlv:bk.live=true
     · exact (h.own n g' bk hy').same hext (Ext.refl _) fun k hk=>hb k (old n k g' bk hy' hk hlv)
     · cases bk<;>simp [B.live] at hlv; trivial
 · rcases hget n _ hy with ⟨rfl,he⟩ | ⟨hlt,hy'⟩<;>rcases hget m _ hz with ⟨rfl,he2⟩ | ⟨hlt2,hz'⟩
   · rfl
   · simp only [Prod.mk.injEq] at he; obtain ⟨rfl,rfl⟩:=he; have:=old m k gm bm hz' em lm; have:=hob k en; omega
   · simp only [Prod.mk.injEq] at he2; obtain ⟨rfl,rfl⟩:=he2; have:=old n k gn bn hy' en ln; have:=hob k em; omega
   · exact h.inj n m gn gm bn bm k hy' hz' en em ln lm
 · rcases hget n _ hy with ⟨rfl,he⟩ | ⟨hlt,hy'⟩
   · simp only [Prod.mk.injEq] at he; obtain ⟨rfl,rfl⟩:=he; have:=h.cell_lt hc; have:=hob k en; omega
   · exact h.apart k off c hc n gn bk hy' en
 · have:=h.rd k off c hc
   rw [<-this]
   simp only [World.cell?,hb k (h.cell_lt hc)]
 · rcases hget n _ hy with ⟨rfl,he⟩ | ⟨hlt,hy'⟩
   · simp only [Prod.mk.injEq] at he; obtain ⟨rfl,rfl⟩:=he; have:=hob k en; have:=h.sz; exact .inl (by omega)
   · exact h.par n k gn bk hy' en ln
 · rw [hb k (by have:=h.sz; omega)]
   exact h.keep k hk hp
theorem IS {X:Ctx} {ro:RO} {w w':World} (h:Rel X [] ro w) (hX:X.g0.length=0) {T:TypeId} {v:Value} {cs:List Value} (hne:cs ≠ []) (_hone:∀ u ∈ cs,u.oneCell'=true) (ho:w'.ownsRow w.heap.size T 1 v cs.length cs) (hb:Below w.heap.size w w') {K:S->Hp->Prop} (hK:K (.va (.c1 (.fz (cs.map fun u=>[C.vl u])))) []) :
 ∃ r' E' ro',K r' (hp E')/\r'.rel (gm E') ro' v/\Rel X E' ro' w':=by
 have hlen:0 < cs.length:=List.length_pos_iff.2 hne
 obtain ⟨h1,h2⟩:=ho
 rcases h2 with ⟨_,h0⟩ | ⟨b,cap,cur,rfl,hbb,hcell,hcap,hmax,hcs,htk⟩
 · omega
 have hfl:(cs.map fun u=>[C.vl u]).flatten=cs.map C.vl:=by
  clear h1 hlen hcap htk hK hne _hone
  induction cs with
  | nil=>rfl
  | cons x l ih=>rw [List.map_cons,List.flatten_cons,ih]; rfl
 let g:Gb:=⟨some b,true,cs.length,cap,T,cs⟩
 have hR:Rel X ([] ++ [(g,.row (cs.map fun u=>[C.vl u]) T 1)]) ro w':=by
  refine V1 h (fun k hk=>hb.block k hk) hb.size hb.os hb.tape hb.output (fun b' hb'=>by cases hb'; exact hbb) ⟨rfl,by simp [g],fun x hx=>?_,fun c hc=>?_,⟨by simp [g],.inr ⟨b,cap,cur,?_,Nat.zero_le _,hcell,by simp; exact hcap,hmax,hcs,?_⟩⟩,?_,fun b' _=>(by show 0 < cap; omega)⟩
  · obtain ⟨y,_,rfl⟩:=List.mem_map.1 hx; rfl
  · rw [hfl] at hc; obtain ⟨y,_,rfl⟩:=List.mem_map.1 hc; rfl
  · simp [bF,g]
  · rw [List.length_map]; exact htk
  · rw [hfl]
    refine ⟨by simp [g],fun i x y hx hy=>?_⟩
    rw [List.getElem?_map] at hx
    have hy:cs[i]? = some y:=hy
    rw [hy] at hx
    cases hx; rfl
 refine CA (X:=X) (k0:=0) hX (r:=.va (.c1 (.sl 0 (cs.map fun u=>[C.vl u]).length))) (.pub 0 _ T 1 (by rfl) (.sel [] (by simp) (by simp [dA]) rfl (.done ?_))) rfl ?_ hR
 · simp -dsimp only [go_sem,dA]; simpa using hK
 · refine ⟨g,rfl,rfl,by simp [g],⟨_,_,_,rfl⟩,fun _=>?_⟩
   simp [g,bF]
theorem m8 {X:Ctx} {ro:RO} {w w':World} (h:Rel X [] ro w) {o:Option Addr} {c:Nat} (hb:Below w.heap.size w w') {K:S->Hp->Prop} (hK:K (.va (.c1 (.fz []))) []) :
 ∃ r' E' ro',K r' (hp E')/\r'.rel (gm E') ro' (.slice o 0 c)/\Rel X E' ro' w':=
 ⟨.va (.c1 (.fz [])),[],ro,hK,FzR.mk (ro:=ro) [] 1 none o (fun h=>absurd rfl h) c (fun _=>undef) (by simp) (Nat.zero_le _) (by simp) (by simp) (by simp) (by simp) (by simp),h.aside (fun k hk=>hb.block k hk) hb.size hb.os hb.tape hb.output⟩
def SF:W.Spec:=fun av H K=>∃ l:List ByteArray,av=[.va (.c1 (.fz (l.map cE)))]/\H=[]/\l.length<=1000000000/\K (.va (.c1 (.fz (l.map cE)))) []
theorem X6 {l:List ByteArray} {K:S->Hp->Prop} (h:l.length<=1000000000) (hK:K (.va (.c1 (.fz (l.map cE)))) []):SF [.va (.c1 (.fz (l.map cE)))] [] K:=⟨l,rfl,rfl,h,hK⟩
theorem OP (l:List ByteArray):(l.map cE).flatten=(l.map Value.string).map C.vl:=by
 induction l with
 | nil=>rfl
 | cons x l ih=>rw [List.map_cons,List.flatten_cons,ih]; rfl
theorem OE (l:List ByteArray):(l.map Value.string).map (fun u=>[C.vl u])=l.map cE:=by rw [List.map_map]; rfl
theorem aMT:Meets Tryz.prog 147 SF:=by
 refine ⟨by kernel_rfl,fun av vs E ro w K hlen hrel hR hs _=>?_⟩
 obtain ⟨l,rfl,hH,hl,hK⟩:=hs
 match E,hH with
 | [],_=>
  match vs,hlen with
  | [v0],_=>
   have r0:FzR ro (l.map cE) v0:=hrel 0 _ _ rfl rfl
   cases hl0:l with
   | nil=>
    subst hl0
    generalize hx:([]:List ByteArray).map cE=xs at r0
    cases r0 with
    | mk xs sz o oa hoa cap us hz hc ho h1 h2 h3 h4=>
     subst hx
     have hK:K (.va (.c1 (.fz []))) []:=hK
     cases oa with
     | none=>
      refine (Any.slices_Clone_string_nil Tryz.lays16 0 cap w).mono ?_
      rintro e w' ⟨rfl,rfl⟩
      obtain ⟨r',E',ro',a1,a2,a3⟩:=m8 (o:=none) (c:=0) hR (Below.refl _ _) hK
      exact ⟨r',_,E',ro',rfl,a2,a1,a3⟩
     | some a=>
      refine (Any.slices_Clone_string_zero Tryz.lays16 a cap w).mono ?_
      rintro e w' ⟨v',rfl,hown,_,hb⟩
      obtain ⟨o',c',rfl⟩:∃ o' c',v'=.slice o' 0 c':=by
       rcases hown.2 with ⟨rfl,_⟩ | ⟨b,c',cur,rfl,_⟩
       · exact ⟨none,0,rfl⟩
       · exact ⟨_,c',rfl⟩
      obtain ⟨r',E',ro',a1,a2,a3⟩:=m8 (o:=o') (c:=c') hR hb hK
      exact ⟨r',_,E',ro',rfl,a2,a1,a3⟩
   | cons x0 lt=>
    have hne:l ≠ []:=by rw [hl0]; exact List.cons_ne_nil _ _
    clear hl0
    generalize hx:l.map cE=xs at r0
    cases r0 with
    | mk xs sz o oa hoa cap us hz hc ho h1 h2 h3 h4=>
     subst hx
     have hne2:l.map cE ≠ []:=by simpa using hne
     obtain ⟨⟨b,off⟩,rfl⟩:=Option.isSome_iff_exists.1 (ho hne2)
     obtain rfl:=hoa hne2
     have hcell:∀ j,j < l.length->w.cell? ⟨b,off + j,none⟩=some (Value.string (l.getD j ByteArray.empty)):=fun j hj=>by
      have hf:(l.map cE).flatten[j]? = some (.vl (Value.string (l.getD j ByteArray.empty))):=by
       rw [OP,List.getElem?_map,List.getElem?_map,aW hj]
       simp [hj]
      have e1:=h1 j _ hf
      have e2:=h2 j _ hf
      rw [e2] at e1
      exact hR.rd b (off + j) _ e1
     have key:=Any.slices_Clone_string Tryz.lays16 b off l.length cap l w (Nat.le_refl _) (by omega) hcell
     rw [List.take_length] at key
     rw [List.length_map]
     refine key.mono ?_
     rintro e w' ⟨v',rfl,hown,_,hb⟩
     rw [<-List.length_map (f:=Value.string)] at hown
     obtain ⟨r',E',ro',a1,a2,a3⟩:=IS hR rfl (cs:=l.map Value.string) (by simpa using hne) (fun u hu=>by obtain ⟨y,_,rfl⟩:=List.mem_map.1 hu; rfl) hown hb (by rw [OE]; exact hK)
     exact ⟨r',_,E',ro',rfl,a2,a1,a3⟩
def UP:W.Spec:=fun av H K=>∃ l:List Int,av=[.va (.c1 (.fz (l.map eK)))]/\H=[]/\l.length<=1000000000/\K (.va (.c1 (.fz (l.map eK)))) []
theorem VW {l:List Int} {K:S->Hp->Prop} (h:l.length<=1000000000) (hK:K (.va (.c1 (.fz (l.map eK)))) []):UP [.va (.c1 (.fz (l.map eK)))] [] K:=⟨l,rfl,rfl,h,hK⟩
theorem Q4 (l:List Int):(l.map eK).flatten=(l.map (Value.int .i64)).map C.vl:=by
 induction l with
 | nil=>rfl
 | cons x l ih=>rw [List.map_cons,List.flatten_cons,ih]; rfl
theorem QW (l:List Int):(l.map (Value.int .i64)).map (fun u=>[C.vl u])=l.map eK:=by rw [List.map_map]; rfl
theorem aMZ:Meets Tryz.prog 148 UP:=by
 refine ⟨by kernel_rfl,fun av vs E ro w K hlen hrel hR hs _=>?_⟩
 obtain ⟨l,rfl,hH,hl,hK⟩:=hs
 match E,hH with
 | [],_=>
  match vs,hlen with
  | [v0],_=>
   have r0:FzR ro (l.map eK) v0:=hrel 0 _ _ rfl rfl
   cases hl0:l with
   | nil=>
    subst hl0
    generalize hx:([]:List Int).map eK=xs at r0
    cases r0 with
    | mk xs sz o oa hoa cap us hz hc ho h1 h2 h3 h4=>
     subst hx
     have hK:K (.va (.c1 (.fz []))) []:=hK
     cases oa with
     | none=>
      refine (Any.slices_Clone_int_nil Tryz.lays15 0 cap w).mono ?_
      rintro e w' ⟨rfl,rfl⟩
      obtain ⟨r',E',ro',a1,a2,a3⟩:=m8 (o:=none) (c:=0) hR (Below.refl _ _) hK
      exact ⟨r',_,E',ro',rfl,a2,a1,a3⟩
     | some a=>
      refine (Any.slices_Clone_int_zero Tryz.lays15 a cap w).mono ?_
      rintro e w' ⟨v',rfl,hown,_,hb⟩
      obtain ⟨o',c',rfl⟩:∃ o' c',v'=.slice o' 0 c':=by
       rcases hown.2 with ⟨rfl,_⟩ | ⟨b,c',cur,rfl,_⟩
       · exact ⟨none,0,rfl⟩
       · exact ⟨_,c',rfl⟩
      obtain ⟨r',E',ro',a1,a2,a3⟩:=m8 (o:=o') (c:=c') hR hb hK
      exact ⟨r',_,E',ro',rfl,a2,a1,a3⟩
   | cons x0 lt=>
    have hne:l ≠ []:=by rw [hl0]; exact List.cons_ne_nil _ _
    clear hl0
    generalize hx:l.map eK=xs at r0
    cases r0 with
    | mk xs sz o oa hoa cap us hz hc ho h1 h2 h3 h4=>
     subst hx
     have hne2:l.map eK ≠ []:=by simpa using hne
     obtain ⟨⟨b,off⟩,rfl⟩:=Option.isSome_iff_exists.1 (ho hne2)
     obtain rfl:=hoa hne2
     have hcell:∀ j,j < l.length->w.cell? ⟨b,off + j,none⟩=some (Value.int .i64 (l.getD j 0)):=fun j hj=>by
      have hf:(l.map eK).flatten[j]? = some (.vl (Value.int .i64 (l.getD j 0))):=by
       rw [Q4,List.getElem?_map,List.getElem?_map,aW hj]
       simp [hj]
      have e1:=h1 j _ hf
      have e2:=h2 j _ hf
      rw [e2] at e1
      exact hR.rd b (off + j) _ e1
     have key:=Any.slices_Clone_int Tryz.lays15 b off l.length cap l w (Nat.le_refl _) (by omega) hcell
     rw [List.take_length] at key
     rw [List.length_map]
     refine key.mono ?_
     rintro e w' ⟨v',rfl,hown,_,hb⟩
     rw [<-List.length_map (f:=(Value.int .i64))] at hown
     obtain ⟨r',E',ro',a1,a2,a3⟩:=IS hR rfl (cs:=l.map (Value.int .i64)) (by simpa using hne) (fun u hu=>by obtain ⟨y,_,rfl⟩:=List.mem_map.1 hu; rfl) hown hb (by rw [QW]; exact hK)
     exact ⟨r',_,E',ro',rfl,a2,a1,a3⟩
end Go.Proofs.YthpbnmebjocbeaaGreat
namespace Go.Proofs.YthpbnmebjocbeaaGreat
open Go.W
theorem F3:Meets Tryz.prog 113 wX:=by
 refine aD Tryz.func113 aFM 2 (by rw [Tryz.ntmps113]; decide) (aC aMT (aC aMZ (aA _))) (fun av H K h=>by obtain ⟨_,_,rfl,_⟩:=h; rfl) ?_
 rintro av H K ⟨s,n,rfl,rfl,hs,hK⟩
 rw [<-oU] at hK
 have hl:=hs.ok.le
 simp -dsimp only [go_sem,aF,UU,US]
 refine aS (α:=Nat) (fun i=>[(1,tS n),(2,.va (.c1 (.pt 0 0))),(4,.va (.c1 (.pt 1 0))),(9,.va (.c1 (.fz (s.es.map aY)))),(10,iS .i64 s.es.length),(11,iS .i64 i)]) (fun _=>[.cells (aF s) 25,.cells [.vl (.string (mk [])),.vl (.slice none 0 0),.vl (.slice none 0 0)] 118])
  (fun i=>i<=s.es.length/\c9 (s.es.drop i) n=c9 s.es n) (fun i=>s.es.length - i) 0 2 ⟨Nat.zero_le _,rfl⟩ ?_ ?_ ?_
 · simp [go_sem]
 · simp [go_sem,aF]
 rintro i ⟨hi,ho⟩
 rcases bE i s.es.length with hlt | hge
 · have hg:decide ((i:Int) < (s.es.length:Int))=true:=by simp; omega
   obtain ⟨t,hx⟩:∃ e,s.es[i]? = some e:=⟨_,aW hlt⟩
   have q2:=a7 (row:=aY) hx
   have htm:=cC hx
   rw [c9,fQ hx] at ho
   cases hc:decide (t.nm=n) with
   | true=>
    rw [hc,bD] at ho
    rw [<-ho] at hK
    simp (maxSteps:=1000000) -dsimp only [go_sem,hg,↓q2,aY,aF,cS,hc]
    refine ⟨by omega,X6 (hs.en t htm).1 ?_⟩
    simp (maxSteps:=1000000) -dsimp only [go_sem]
    refine VW (hs.en t htm).2 ?_
    simp (maxSteps:=1000000) -dsimp only [go_sem]
    exact .sel [] (by simp) (by simp) rfl (.done (by simpa [go_sem,aY] using hK))
   | false=>
    rw [hc,aV] at ho
    simp (maxSteps:=1000000) -dsimp only [go_sem,hg,↓q2,aY,aF,cS,hc]
    refine ⟨by omega,by omega,aE (i + 1) 2 ⟨by omega,ho⟩ (by omega) ?_ ?_⟩
    · simp [go_sem]
    · simp [go_sem,aF]
 · have hg:decide ((i:Int) < (s.es.length:Int))=false:=by simp; omega
   obtain rfl:i=s.es.length:=by omega
   rw [List.drop_length] at ho
   rw [<-ho] at hK
   simp -dsimp only [go_sem,hg,aF]
   exact .sel [] (by simp) (by simp) rfl (.done (by simpa [go_sem,c9,A1] using hK))
noncomputable def eqB {α:Type} (a b:α):Bool:=@decide (a=b) (Classical.propDecidable _)
def DM (N:Nat):List S->Prop:=fun av=>match av with
 | [.va (.gs r),.va (.gs q)]=>lZ r/\jZ q/\(C.ty q).h<=N
 | _=>False
theorem gU {N:Nat} {av:List S} (h:DM N av):∃ s t,av=[.va (.gs (aF s)),.va (.gs (aU t))]/\s.fit/\TyOk t/\t.h<=N:=by
 unfold DM at h
 split at h
 · obtain ⟨⟨a,rfl,ha⟩,⟨b,rfl,hb⟩,hh⟩:=h
   rw [kY] at hh
   exact ⟨a,b,rfl,ha,hb,hh⟩
 · exact h.elim
noncomputable def KN:List S->A:=fun av=>match av with
 | [.va (.gs r),.va (.gs q)]=>bA (valF (C.sc r).ss (C.sc r).es (C.ty q))
 | _=>.gs []
noncomputable def AU (N:Nat):Fun:=⟨DM N,KN,fun av h=>by obtain ⟨a,b,rfl,_⟩:=gU h; trivial⟩
theorem DY {N:Nat}:∀ av H K,(AU N).sp av H K->av.length=2:=fun av H K h=>by obtain ⟨a,b,rfl,_⟩:=gU h.1.1; rfl
attribute [go_sem] AU DM KN
theorem aMG {ss:List St} {es:List En} {s:Int} {n:ByteArray} {e:List Ty}:valF ss es (.mk 6 s n e)=(cJ ss n && s == 0 && (e.length:Int) == 0):=by
 rw [valF]; rfl
theorem aMU {ss:List St} {es:List En} {s:Int} {n:ByteArray} {e:List Ty}:valF ss es (.mk 7 s n e)=(dE es n && s == 0 && (e.length:Int) == 0):=by
 rw [valF]; rfl
theorem LO:∀ N,Meets Tryz.prog 128 (AU N).sp
 | 0=>⟨by kernel_rfl,by rintro xs vs E ro w K _ _ _ ⟨⟨h,_⟩,_⟩; obtain ⟨_,a,_,_,_,h⟩:=gU h; have:=a.h_pos; omega⟩
 | N + 1=>by
  refine aD Tryz.func128 aGK 2 (by rw [Tryz.ntmps128]; decide) (aG (LO N) (aG YB (aC OH (aC aBQ (aA _))))) DY ?_
  rintro av H K ⟨⟨h,rfl⟩,hK⟩
  obtain ⟨sc,t,rfl,hs,ht,hh⟩:=gU h
  have hK:K (bS (valF sc.ss sc.es t)) []:=by
   have:(AU (N + 1)).val [.va (.gs (aF sc)),.va (.gs (aU t))]=bA (valF sc.ss sc.es t):=by simp -dsimp only [go_sem]
   rw [this] at hK; exact hK
  clear h
  have fin:∀ (b:Bool) (R:Hp),valF sc.ss sc.es t=b->W.Fin 0 K (bS b) R:=fun b R h=>by
   rw [h] at hK
   exact .sel [] (by simp) (by simp) rfl (.done (by simp -dsimp only [go_sem]; simpa using hK))
  have hit:jZ (aU t):=iT ht
  cases t with
  | mk k s n e=>
  have hcd:=kY (.mk k s n e)
  rw [aU,bB] at hcd hit
  have hcl:(Ty.mk k s n e).e.length=e.length:=rfl
  by_cases k1:(k == 1)=true
  · have hF:=valF.eq_1 sc.ss sc.es k s n e
    rw [k1] at hF
    simp only [bD] at hF
    simp (maxSteps:=1000000) -dsimp only [go_sem,aF,aU,bB,kM,kT,k1,hit,hcd,hcl]
    exact fin _ _ hF
  rw [Bool.not_eq_true] at k1
  by_cases k2:(k == 2)=true
  · have hF:=valF.eq_1 sc.ss sc.es k s n e
    rw [k1,k2] at hF
    simp only [bD,aV] at hF
    simp (maxSteps:=1000000) -dsimp only [go_sem,aF,aU,bB,kM,kT,k1,k2,hit,hcd,hcl]
    exact fin _ _ hF
  rw [Bool.not_eq_true] at k2
  by_cases k3:(k == 3)=true
  · have hF:=valF.eq_1 sc.ss sc.es k s n e
    rw [k1,k2,k3] at hF
    simp only [bD,aV,Bool.and_false,Bool.or_false] at hF
    simp (maxSteps:=1000000) -dsimp only [go_sem,aF,aU,bB,kM,kT,k1,k2,k3,hit,hcd,hcl]
    exact fin _ _ hF
  rw [Bool.not_eq_true] at k3
  by_cases k4:(k == 4)=true
  · have hF:=valF.eq_1 sc.ss sc.es k s n e
    rw [k1,k2,k3,k4] at hF
    simp only [bD,aV] at hF
    simp (maxSteps:=1000000) -dsimp only [go_sem,aF,aU,bB,kM,kT,k1,k2,k3,k4,hit,hcd,hcl]
    exact fin _ _ hF
  rw [Bool.not_eq_true] at k4
  by_cases k5:(k == 5)=true
  · have hF:=valF.eq_1 sc.ss sc.es k s n e
    rw [k1,k2,k3,k4,k5] at hF
    simp only [bD,aV] at hF
    cases hc:(decide (1<=s) && decide (s<=32) && bl n == [] && (e.length:Int) == 1) with
    | false=>
     have hF':valF sc.ss sc.es (.mk k s n e)=false:=by
      rw [hF]
      cases h0:(decide (1<=s) && decide (s<=32) && bl n == []) with
      | false=>rfl
      | true=>
       rw [h0,Bool.true_and] at hc
       match e,hc with
       | [],_=>rfl
       | [u],hc=>simp at hc
       | u :: v :: r,_=>simp [jE]
     simp (maxSteps:=1000000) -dsimp only [go_sem,aF,aU,bB,kM,kT,k1,k2,k3,k4,k5,hc]
     exact fin _ _ hF'
    | true=>
     obtain ⟨u,rfl⟩:∃ u,e=[u]:=by
      simp only [Bool.and_eq_true,beq_iff_eq] at hc
      exact List.length_eq_one_iff.1 (by omega)
     have h0:(decide (1<=s) && decide (s<=32) && bl n == [])=true:=by
      simp only [Bool.and_eq_true] at hc ⊢; exact hc.1
     have hF':valF sc.ss sc.es (.mk k s n [u])=valF sc.ss sc.es u:=by rw [hF,h0]; simp [jE]
     have hu2:u.h<=N:=by rw [Ty.h,Ty.hs,Ty.hs] at hh; omega
     have hu:jZ (aU u):=iT (ht.e u (by simp [Ty.e]))
     have hsf:=kA hs
     rw [aF] at hsf
     have hsd:=jH sc
     rw [aF] at hsd
     have hc':(decide (1<=s) && decide (s<=32) && bl n == [] && ((1:Nat):Int) == 1)=true:=hc
     simp (maxSteps:=1000000) -dsimp only [go_sem,aF,aU,bB,kM,kT,k1,k2,k3,k4,k5,hc']
     refine ⟨⟨by omega,fun r hr=>by subst hr; exact dB u⟩,fun r hr=>?_⟩
     subst hr
     simp (maxSteps:=1000000) -dsimp only [go_sem,hsf,hsd,hu,dB]
     exact ⟨hu2,fin _ _ hF'⟩
  rw [Bool.not_eq_true] at k5
  by_cases k6:(k == 6)=true
  · obtain rfl:k=6:=by simpa using k6
    have hF:=aMG (ss:=sc.ss) (es:=sc.es) (s:=s) (n:=n) (e:=e)
    simp (maxSteps:=1000000) -dsimp only [go_sem,aF,aU,bB,kM,kT,k1,k2,k3,k4,k5,k6]
    refine gW hs ?_
    cases hc:cJ sc.ss n with
    | false=>
     rw [hc] at hF
     simp (maxSteps:=1000000) -dsimp only [go_sem,aI,hit,hcd,hcl]
     exact fin _ _ hF
    | true=>
     rw [hc] at hF
     simp (maxSteps:=1000000) -dsimp only [go_sem,aI,hit,hcd,hcl]
     exact fin _ _ hF
  rw [Bool.not_eq_true] at k6
  by_cases k7:(k == 7)=true
  · obtain rfl:k=7:=by simpa using k7
    have hF:=aMU (ss:=sc.ss) (es:=sc.es) (s:=s) (n:=n) (e:=e)
    simp (maxSteps:=1000000) -dsimp only [go_sem,aF,aU,bB,kM,kT,k1,k2,k3,k4,k5,k6,k7]
    refine oM hs ?_
    cases hc:dE sc.es n with
    | false=>
     rw [hc] at hF
     simp (maxSteps:=1000000) -dsimp only [go_sem,aY,hit,hcd,hcl]
     exact fin _ _ hF
    | true=>
     rw [hc] at hF
     simp (maxSteps:=1000000) -dsimp only [go_sem,aY,hit,hcd,hcl]
     exact fin _ _ hF
  rw [Bool.not_eq_true] at k7
  have hF:=valF.eq_1 sc.ss sc.es k s n e
  rw [k1,k2,k3,k4,k5,k6,k7] at hF
  simp only [aV] at hF
  simp (maxSteps:=1000000) -dsimp only [go_sem,aF,aU,bB,kM,kT,k1,k2,k3,k4,k5,k6,k7]
  exact fin _ _ hF
def DL:List S->Prop:=fun av=>match av with
 | [.va (.gs r),.va (.gs q)]=>lZ r/\jZ q
 | _=>False
theorem jF {av:List S} (h:DL av):∃ s t,av=[.va (.gs (aF s)),.va (.gs (aU t))]/\s.fit/\TyOk t:=by
 unfold DL at h
 split at h
 · obtain ⟨⟨a,rfl,ha⟩,⟨b,rfl,hb⟩⟩:=h
   exact ⟨a,b,rfl,ha,hb⟩
 · exact h.elim
noncomputable def r0Fn:Fun:=⟨DL,KN,fun av h=>by obtain ⟨a,b,rfl,_⟩:=jF h; trivial⟩
attribute [go_sem] r0Fn DL
theorem XB:Meets Tryz.prog 128 r0Fn.sp:=dX 0 LO fun av H K ⟨⟨h,e⟩,hK⟩=>by
 obtain ⟨a,b,rfl,ha,hb⟩:=jF h
 exact ⟨b.h,⟨⟨⟨kA ha,iT hb,by rw [kY]; exact Nat.le_refl _⟩,e⟩,hK⟩⟩
mutual
def aN7:Ty->List ByteArray
 | .mk k _ n e=>bif k == 6 || k == 7 then [n] else RA e
def RA:List Ty->List ByteArray
 | []=>[]
 | t :: r=>aN7 t ++ RA r
end
def lK (x:ByteArray):Bool->List ByteArray->List ByteArray
 | d,[]=>bif d then [] else [x]
 | d,y :: r=>bif !d && (Op.bytesLess (bl x) (bl y) || bl x == bl y) then (bif Op.bytesLess (bl x) (bl y) then x :: y :: lK x true r else y :: lK x true r) else y :: lK x d r
abbrev CI (a b:ByteArray):Prop:=bl a < bl b
theorem YN (x:List UInt8):∀ y:List UInt8,Op.bytesLess x y=decide (x < y):=by
 induction x with
 | nil=>intro y; cases y<;>simp [Op.bytesLess]
 | cons a x ih=>
  intro y
  cases y with
  | nil=>simp [Op.bytesLess]
  | cons b y=>
   have:=ih y
   rw [Op.bytesLess,this,Bool.eq_iff_iff]
   simp [List.cons_lt_cons_iff]
theorem UB (a b:ByteArray):Op.bytesLess (bl a) (bl b)=decide (CI a b):=YN _ _
theorem lV (a:ByteArray):¬ CI a a:=List.lt_irrefl _
theorem CC {a b c:ByteArray} (h:CI a b) (h2:CI b c):CI a c:=List.lt_trans h h2
theorem L8 {a b:ByteArray} (h:¬ CI a b) (h2:a ≠ b):CI b a:=by
 have h3:bl b<=bl a:=List.not_lt.1 h
 exact Std.lt_of_le_of_ne h3 (fun e=>h2 (jL e.symm))
def Asc (l:List ByteArray):Prop:=l.Pairwise CI
theorem HT:∀ {a b:List ByteArray},Asc a->Asc b->(∀ x,x ∈ a ↔ x ∈ b)->a=b
 | [],[],_,_,_=>rfl
 | [],y :: b,_,_,h=>by have:=(h y).2 List.mem_cons_self; cases this
 | x :: a,[],_,_,h=>by have:=(h x).1 List.mem_cons_self; cases this
 | x :: a,y :: b,h1,h2,h=>by
  obtain ⟨p1,p2⟩:=List.pairwise_cons.1 h1
  obtain ⟨p3,p4⟩:=List.pairwise_cons.1 h2
  have e:x=y:=by
   rcases List.mem_cons.1 ((h x).1 List.mem_cons_self) with e | e
   · exact e
   · rcases List.mem_cons.1 ((h y).2 List.mem_cons_self) with e2 | e2
     · exact e2.symm
     · exact absurd (CC (p1 y e2) (p3 x e)) (lV x)
  subst e
  rw [HT p2 p4 fun z=>?_]
  constructor
  · intro hz
    rcases List.mem_cons.1 ((h z).1 (List.mem_cons_of_mem _ hz)) with e | e
    · exact absurd (p1 z hz) (by rw [e]; exact lV x)
    · exact e
  · intro hz
    rcases List.mem_cons.1 ((h z).2 (List.mem_cons_of_mem _ hz)) with e | e
    · exact absurd (p3 z hz) (by rw [e]; exact lV x)
    · exact e
theorem Asc.nodup {l:List ByteArray} (h:Asc l):l.Nodup:=by
 unfold List.Nodup
 refine List.Pairwise.imp ?_ h
 intro a b h e
 subst e
 exact lV a h
theorem rK (x:ByteArray):∀ l,lK x true l=l
 | []=>rfl
 | y :: r=>by rw [lK,rK x r]; rfl
theorem mF {x z:ByteArray}:∀ {l:List ByteArray},z ∈ lK x false l ↔ z=x\/z ∈ l
 | []=>by simp [lK]
 | y :: r=>by
  rw [lK,rK]
  cases c1:Op.bytesLess (bl x) (bl y) with
  | true=>simp
  | false=>
   cases c2:bl x == bl y with
   | true=>
    have:x=y:=jL (by simpa using c2)
    subst this
    simp
   | false=>
    have:=mF (x:=x) (z:=z) (l:=r)
    simp [this]
    constructor
    · rintro (h | h | h)
      · exact .inr (.inl h)
      · exact .inl h
      · exact .inr (.inr h)
    · rintro (h | h | h)
      · exact .inr (.inl h)
      · exact .inl h
      · exact .inr (.inr h)
theorem FM {x:ByteArray}:∀ {l:List ByteArray},Asc l->Asc (lK x false l)
 | [],_=>by simp [lK,Asc]
 | y :: r,h=>by
  obtain ⟨p1,p2⟩:=List.pairwise_cons.1 h
  rw [lK,rK]
  cases c1:Op.bytesLess (bl x) (bl y) with
  | true=>
   rw [UB] at c1
   have c1:=of_decide_eq_true c1
   simp only [Bool.not_false,Bool.true_or,Bool.and_true,bD]
   refine List.pairwise_cons.2 ⟨fun z hz=>?_,h⟩
   rcases List.mem_cons.1 hz with rfl | hz
   · exact c1
   · exact CC c1 (p1 z hz)
  | false=>
   cases c2:bl x == bl y with
   | true=>exact h
   | false=>
    rw [UB] at c1
    have c1:=of_decide_eq_false c1
    have c2:x ≠ y:=fun e=>by subst e; simp at c2
    simp only [Bool.not_false,Bool.true_and,Bool.or_self,aV]
    refine List.pairwise_cons.2 ⟨fun z hz=>?_,FM p2⟩
    rcases mF.1 hz with rfl | hz
    · exact L8 c1 c2
    · exact p1 z hz
theorem P2 {l:List ByteArray} (h:l.Nodup):Asc (dR l):=by
 have h1:((l.map bl).mergeSort fun x y=>decide (x<=y)).Pairwise fun a b=>decide (a<=b)=true:=
  List.pairwise_mergeSort (le:=fun (x y:List UInt8)=>decide (x<=y)) (fun (a b c:List UInt8) h1 h2=>decide_eq_true (List.le_trans (of_decide_eq_true h1) (of_decide_eq_true h2))) (fun (a b:List UInt8)=>by
   rcases List.le_total a b with h | h<;>simp [h]) _
 have h2:((l.map bl).mergeSort fun x y=>decide (x<=y)).Nodup:=by
  rw [(List.mergeSort_perm _ _).nodup_iff]
  exact List.Pairwise.map bl (fun a b (hab:a ≠ b) e=>hab (jL e)) h
 unfold dR Asc
 rw [List.pairwise_map]
 refine List.Pairwise.imp₂ (fun a b h1 h2=>?_) h1 h2
 exact Std.lt_of_le_of_ne (of_decide_eq_true h1) h2
theorem MO (ss:List St) (n:ByteArray):Asc (eH ss n):=P2 (rF ss n)
structure UI (ss:List St) (n:ByteArray) (i:Nat) (todo o:List ByteArray):Prop where
 hd:∃ r,todo=n :: r/\r.Nodup/\∀ x,x ∈ o ↔ x ∈ r
 rc:∀ x ∈ o,Reach ss n x
 dn:∀ j a,j < i->todo[j]? = some a->∀ y,dL ss a y->y ∈ o
 asc:Asc o
theorem LT {ss:List St} {es:List En} (g:Gd ss es) {n:ByteArray} {l:List ByteArray} (h:l.Nodup) (hr:∀ x ∈ l,Reach ss n x):l.length<=32:=Nat.le_trans (rJ h fun x hx=>(g8 ss n x).2 (hr x hx)) (g.vlen n)
theorem UI.len {ss:List St} {es:List En} (g:Gd ss es) {n:ByteArray} {i:Nat} {todo o:List ByteArray} (h:UI ss n i todo o):todo.length<=33/\o.length<=32:=by
 obtain ⟨r,rfl,h1,h2⟩:=h.hd
 have:=LT g h1 fun x hx=>h.rc x ((h2 x).2 hx)
 have:=LT g h.asc.nodup h.rc
 simp only [List.length_cons]; omega
theorem UI.add {ss:List St} {n:ByteArray} {i:Nat} {todo o:List ByteArray} (h:UI ss n i todo o) {y:ByteArray} (hr:Reach ss n y) (hy:y ∉ o) (hi:i<=todo.length):UI ss n i (todo ++ [y]) (lK y false o):=by
 obtain ⟨r,rfl,h1,h2⟩:=h.hd
 refine ⟨⟨r ++ [y],by simp,?_,fun x=>?_⟩,fun x hx=>?_,fun j a hj ha z hz=>?_,FM h.asc⟩
 · rw [List.nodup_append]
   exact ⟨h1,by simp,fun a ha b hb=>by simp at hb; subst hb; exact fun e=>hy ((h2 b).2 (e ▸ ha))⟩
 · rw [mF,h2]; simp [or_comm]
 · rcases mF.1 hx with rfl | hx
   · exact hr
   · exact h.rc x hx
 · rw [List.getElem?_append_left (by omega)] at ha
   exact mF.2 (.inr (h.dn j a hj ha z hz))
theorem UI.next {ss:List St} {n:ByteArray} {i:Nat} {todo o:List ByteArray} (h:UI ss n i todo o) {a:ByteArray} (ha:todo[i]? = some a) (hy:∀ y,dL ss a y->y ∈ o):UI ss n (i + 1) todo o:=by
 refine ⟨h.hd,h.rc,fun j b hj hb y hyb=>?_,h.asc⟩
 rcases bE j i with h4 | h4
 · exact h.dn j b h4 hb y hyb
 · obtain rfl:j=i:=by omega
   rw [ha] at hb; obtain rfl:=bZ hb
   exact hy y hyb
theorem UI.fin {ss:List St} {n:ByteArray} {todo o:List ByteArray} (h:UI ss n todo.length todo o):o=eH ss n:=by
 refine HT h.asc (MO ss n) fun x=>?_
 rw [BI]
 refine ⟨h.rc x,fun hx=>?_⟩
 obtain ⟨r,e,h1,h2⟩:=h.hd
 have hn:∀ y,dL ss n y->y ∈ o:=h.dn 0 n (by rw [e]; simp) (by rw [e]; rfl)
 induction hx with
 | one h=>exact hn _ h
 | more _ h3 ih=>
  obtain ⟨j,hj⟩:=List.mem_iff_getElem?.1 ((h2 _).1 ih)
  rename_i b c _
  have hj2:todo[j + 1]? = some b:=by rw [e]; simpa using hj
  exact h.dn (j + 1) _ (bH.1 hj2).1 hj2 _ h3
def mE:List St->List Int->ByteArray->Int
 | s :: ss,d :: ds,n=>bif decide (s.nm=n) then d else mE ss ds n
 | _,_,_=>0
theorem E6 {n:ByteArray}:∀ {ss:List St} {ds:List Int},fS ss n=none->mE ss ds n=0
 | [],_,_=>by simp [mE]
 | s :: ss,[],_=>by simp [mE]
 | s :: ss,d :: ds,h=>by
  unfold fS at h
  rw [List.find?_cons] at h
  rw [mE]
  cases hc:decide (s.nm=n) with
  | true=>rw [hc] at h; simp at h
  | false=>rw [hc] at h; exact E6 (ss:=ss) h
theorem GT {n:ByteArray} {u:St}:∀ {ss:List St} {ds:List Int},ss.length=ds.length->fS ss n=some u->∃ j:Nat,ss[j]? = some u/\ds[j]? = some (mE ss ds n)
 | [],_,_,h=>by cases h
 | s :: ss,[],hl,_=>by simp at hl
 | s :: ss,d :: ds,hl,h=>by
  unfold fS at h
  rw [List.find?_cons] at h
  rw [mE]
  cases hc:decide (s.nm=n) with
  | true=>
   rw [hc] at h
   obtain rfl:s=u:=by simpa using h
   exact ⟨0,rfl,rfl⟩
  | false=>
   rw [hc] at h
   obtain ⟨j,h1,h2⟩:=GT (ss:=ss) (ds:=ds) (by simpa using hl) h
   exact ⟨j + 1,by simpa using h1,by simpa using h2⟩
theorem QV {s:Int} {n:ByteArray} {u:Ty} {r:List Ty}:bO (.mk 5 s n (u :: r))=((bO u).1 + 1,(bO u).2):=by simp [bO,B0]
theorem P9 {k s:Int} {n:ByteArray} {e:List Ty} (h:(k == 5 && decide (0 < (e.length:Int)))=false):bO (.mk k s n e)=(0,.mk k s n e):=by
 rw [bO]
 cases hk:k == 5 with
 | false=>rfl
 | true=>
  rw [hk,Bool.true_and] at h
  have:e=[]:=List.length_eq_zero_iff.1 (by simp at h; simp [h])
  subst this; rfl
theorem N8 {dp dq:ByteArray->Int} {l:List Fl} (h:∀ f ∈ l,cF dp f.ty<=cF dq f.ty):fB dp l<=fB dq l:=IY (kP _ _) fun f hf=>Int.le_trans (h f hf) (JD hf)
structure DI (ss:List St) (r i:Nat) (d:List Int):Prop where
 len:d.length=ss.length
 lo:∀ (j:Nat) (t:St) (v:Int),ss[j]? = some t->d[j]? = some v->0<=v/\v<=dD ss t.nm/\(pQ ss t.nm < r->v=dD ss t.nm)/\(j < i->pQ ss t.nm < r + 1->v=dD ss t.nm)
theorem DI.ix {ss:List St} {es:List En} (_g:Gd ss es) {r i:Nat} {d:List Int} (h:DI ss r i d) (n:ByteArray):0<=mE ss d n/\mE ss d n<=dD ss n/\((fS ss n).isSome=true->pQ ss n < r->mE ss d n=dD ss n):=by
 cases hf:fS ss n with
 | none=>
  rw [E6 hf]
  exact ⟨Int.le_refl _,LF ss n,fun h=>by simp at h⟩
 | some u=>
  obtain ⟨j,h1,h2⟩:=GT h.len.symm hf
  obtain ⟨a1,a2,a3,_⟩:=h.lo j u _ h1 h2
  obtain ⟨_,rfl⟩:=gO hf
  exact ⟨a1,a2,fun _ h=>a3 h⟩
theorem DI.all {ss:List St} {es:List En} (g:Gd ss es) {r i:Nat} {d:List Int} (h:DI ss r i d):∀ v ∈ d,0<=v/\v<=1000000000000:=fun v hv=>by
 obtain ⟨j,hj⟩:=List.mem_iff_getElem?.1 hv
 have hl:=(bH.1 hj).1
 obtain ⟨t,ht⟩:∃ t,ss[j]? = some t:=⟨_,aW (by have:=h.len; omega)⟩
 obtain ⟨h1,h2,_⟩:=h.lo j t v ht hj
 have:=RD g t.nm
 omega
theorem DI.fd {ss:List St} {es:List En} (g:Gd ss es) {r i:Nat} {d:List Int} (h:DI ss r i d) (t:Ty):cF (mE ss d) t<=cF (dD ss) t:=by
 unfold cF
 have:=h.ix g (bO t).2.n
 cases (bO t).2.k == 6<;>simp only [bD,aV]<;>omega
theorem DI.set {ss:List St} {es:List En} (g:Gd ss es) (ha:BU ss) {r i:Nat} {d:List Int} (h:DI ss r i d) {t:St} (ht:ss[i]? = some t):DI ss r (i + 1) (d.set i (1 + fB (mE ss d) t.fs)):=by
 have htm:=cC ht
 have hD:=KO g ha (g.nd t htm)
 have hle:fB (mE ss d) t.fs<=fB (dD ss) t.fs:=N8 fun f _=>h.fd g f.ty
 have heq:pQ ss t.nm < r + 1->fB (mE ss d) t.fs=fB (dD ss) t.fs:=fun hr=>pM fun f hf=>by
  unfold cF
  cases hk:(bO f.ty).2.k == 6 with
  | false=>rfl
  | true=>
   obtain ⟨h1,u,h2⟩:=AA g (g.nd t htm) hf hk
   have h3:=zV h1 h2 ha
   rw [(h.ix g _).2.2 (by rw [h2]; rfl) (by omega)]
 have hn:=kP (mE ss d) t.fs
 refine ⟨by rw [List.length_set]; exact h.len,fun j u v hu hv=>?_⟩
 rw [List.getElem?_set] at hv
 by_cases e:i=j
 · subst e
   rw [ht] at hu; obtain rfl:=bZ hu
   have hlt:i < d.length:=by have:=h.len; have:=(bH.1 ht).1; omega
   simp [hlt] at hv
   subst hv
   exact ⟨by omega,by omega,fun hr=>by rw [heq (by omega)]; omega,fun _ hr=>by rw [heq hr]; omega⟩
 · rw [if_neg e] at hv
   obtain ⟨a1,a2,a3,a4⟩:=h.lo j u v hu hv
   exact ⟨a1,a2,a3,fun hj hr=>a4 (by omega) hr⟩
theorem DI.up {ss:List St} {r:Nat} {d:List Int} (h:DI ss r ss.length d):DI ss (r + 1) 0 d:=⟨h.len,fun j t v ht hv=>by
 obtain ⟨a1,a2,_,a4⟩:=h.lo j t v ht hv
 exact ⟨a1,a2,fun hr=>a4 (bH.1 ht).1 hr,fun h=>absurd h (Nat.not_lt_zero _)⟩⟩
theorem DI.fin {ss:List St} {d:List Int} (h:DI ss (ss.length + 1) 0 d):d=ss.map fun t=>dD ss t.nm:=by
 refine List.ext_getElem? fun j=>?_
 rw [List.getElem?_map]
 cases ht:ss[j]? with
 | none=>
  rw [List.getElem?_eq_none_iff] at ht
  rw [List.getElem?_eq_none (by rw [h.len]; exact ht)]; rfl
 | some t=>
  obtain ⟨v,hv⟩:∃ v,d[j]? = some v:=⟨_,aW (by rw [h.len]; exact (bH.1 ht).1)⟩
  obtain ⟨_,_,a3,_⟩:=h.lo j t v ht hv
  rw [hv,a3 (Nat.lt_succ_of_le (JS _ _))]; rfl
def jB:Nat->Ty->Nat
 | 0,_=>0
 | N + 1,t=>t.e.foldl (fun m u=>max m (1 + jB N u)) 0
abbrev lF (N:Nat):Nat->Ty->Nat:=fun m u=>max m (1 + jB N u)
theorem RC (N:Nat):∀ (l:List Ty) (m:Nat),m<=l.foldl (lF N) m
 | [],_=>Nat.le_refl _
 | u :: l,m=>Nat.le_trans (Nat.le_max_left _ _) (RC N l (max m (1 + jB N u)))
theorem aBD {N:Nat} {l:List Ty} {u:Ty} (h:u ∈ l):∀ m,1 + jB N u<=l.foldl (lF N) m:=by
 induction l with
 | nil=>cases h
 | cons v l ih=>
  intro m
  rcases List.mem_cons.1 h with rfl | h
  · exact Nat.le_trans (Nat.le_max_right m _) (RC N l _)
  · exact ih h _
theorem UK:∀ (N:Nat) (t:Ty),jB N t < N->t.h<=jB N t + 1
 | 0,_,h=>absurd h (Nat.not_lt_zero _)
 | N + 1,.mk k s n e,h=>by
  have hu:∀ u ∈ e,u.h<=jB (N + 1) (.mk k s n e):=fun u hu=>by
   have h1:1 + jB N u<=jB (N + 1) (.mk k s n e):=aBD (N:=N) (l:=e) hu 0
   have:=UK N u (by omega)
   omega
  rw [Ty.h]
  have:∀ (l:List Ty),(∀ u ∈ l,u.h<=jB (N + 1) (.mk k s n e))->Ty.hs l<=jB (N + 1) (.mk k s n e):=by
   intro l
   induction l with
   | nil=>exact fun _=>Nat.zero_le _
   | cons v l ih=>
    intro h
    rw [Ty.hs]
    exact Nat.max_le.2 ⟨h v List.mem_cons_self,ih fun u hu=>h u (List.mem_cons_of_mem _ hu)⟩
  have:=this e hu
  omega
mutual
def qF:Ty->Bool
 | .mk k s n e=>bif decide (40 < (bl n).length) || decide (3 < e.length) || decide (8 < jB 20 (.mk k s n e)) then false else C7 e
def C7:List Ty->Bool
 | []=>true
 | t :: r=>qF t && C7 r
end
theorem BG:∀ l:List Ty,C7 l=l.all qF
 | []=>rfl
 | t :: r=>by rw [C7,BG r]; rfl
theorem R5 {k s:Int} {n:ByteArray} {e:List Ty} (h:qF (.mk k s n e)=true):((bl n).length<=40/\e.length<=3/\jB 20 (.mk k s n e)<=8)/\∀ u ∈ e,qF u=true:=by
 rw [qF] at h
 cases c:decide (40 < (bl n).length) || decide (3 < e.length) || decide (8 < jB 20 (.mk k s n e)) with
 | true=>rw [c] at h; cases h
 | false=>
  rw [c] at h
  simp only [Bool.or_eq_false_iff,decide_eq_false_iff_not] at c
  refine ⟨by omega,fun u hu=>?_⟩
  simp only [aV,BG,List.all_eq_true] at h
  exact h u hu
theorem aH0 {t:Ty} (h:qF t=true):t.h<=9:=by
 obtain ⟨k,s,n,e⟩:=t
 have h1:=(R5 h).1.2.2
 have:=UK 20 (.mk k s n e) (by omega)
 omega
theorem MD:∀ (N:Nat) (t:Ty),t.h<=N->qF t=true->TySm t
 | 0,t,h,_=>absurd h (by have:=t.h_pos; omega)
 | N + 1,.mk k s n e,h,hf=>by
  obtain ⟨⟨_,h2,_⟩,h3⟩:=R5 hf
  refine .mk (by omega) fun u hu=>MD N u ?_ (h3 u hu)
  have:=Ty.hs_mem hu; rw [Ty.h] at h; omega
theorem aCR:∀ (N:Nat) (t:Ty),t.h<=N->(bO t).1<=t.h
 | 0,t,h=>absurd h (by have:=t.h_pos; omega)
 | N + 1,.mk k s n e,h=>by
  cases c:(k == 5 && decide (0 < (e.length:Int))) with
  | false=>rw [P9 c]; exact Nat.zero_le _
  | true=>
   simp only [Bool.and_eq_true,beq_iff_eq,decide_eq_true_eq] at c
   obtain ⟨rfl,c⟩:=c
   cases e with
   | nil=>simp at c
   | cons u r=>
    rw [QV]
    have h2:=aCR N u (by rw [Ty.h,Ty.hs] at h; omega)
    rw [Ty.h,Ty.hs]; simp only; omega
def aDP (e:En):Bool:=!(decide (40 < (bl e.nm).length) || decide (18 < e.ns.length) || decide (18 < e.vs.length)) && e.ns.all fun n=>!(decide (40 < (bl n).length))
def RR (f:Fl):Bool:=!(decide (40 < (bl f.nm).length) || !(qF f.ty))
def S3 (t:St):Bool:=!(decide (40 < (bl t.nm).length) || decide (18 < t.fs.length)) && t.fs.all RR
def PZ (s:Sc):Bool:=!(decide (18 < s.es.length) || decide (18 < s.ss.length)) && (s.es.all aDP && s.ss.all S3)
theorem WV {s:Sc} (h:s.ok) (hf:PZ s=true):s.fit:=by
 unfold PZ at hf
 simp only [Bool.and_eq_true,List.all_eq_true,Bool.not_eq_true',Bool.or_eq_false_iff,decide_eq_false_iff_not] at hf
 obtain ⟨_,he,hs⟩:=hf
 have hfl:∀ t ∈ s.ss,t.fs.length<=18/\∀ f ∈ t.fs,qF f.ty=true:=fun t ht=>by
  have:=hs t ht
  unfold S3 at this
  simp only [Bool.and_eq_true,List.all_eq_true,Bool.not_eq_true',Bool.or_eq_false_iff,decide_eq_false_iff_not] at this
  refine ⟨by omega,fun f hf=>?_⟩
  have:=this.2 f hf
  unfold RR at this
  simp only [Bool.not_eq_true',Bool.or_eq_false_iff,Bool.not_eq_false'] at this
  exact this.2
 refine ⟨h,fun t ht f hf=>?_,fun t ht=>⟨by have:=(hfl t ht).1; omega,fun f hf=>MD _ _ (Nat.le_refl _) ((hfl t ht).2 f hf)⟩,fun e hm=>?_⟩
 · have h1:=aH0 ((hfl t ht).2 f hf)
   have h2:=aCR _ f.ty (Nat.le_refl _)
   omega
 · have:=he e hm
   unfold aDP at this
   simp only [Bool.and_eq_true,List.all_eq_true,Bool.not_eq_true',Bool.or_eq_false_iff,decide_eq_false_iff_not] at this
   omega
theorem PL {α:Type} {l:List α} {i:Nat} {x:α} (hx:l[i]? = some x) (p:α->Bool):(l.drop i).all p=(p x && (l.drop (i + 1)).all p):=by
 obtain ⟨h,rfl⟩:=bH.1 hx
 rw [List.drop_eq_getElem_cons h,List.all_cons]
theorem VX {α:Type} {l:List α} (p:α->Bool):(l.drop l.length).all p=true:=by rw [List.drop_length]; rfl
def QT:PC:=.seq (.reg [.e 3 (.bx 25 (.t 0)),.e 4 (.bx 42 (.t 1)),.e 5 (.bx 29 (.t 2)),.q 6 (.mv (.i 0))]) (.seq (.seq (.reg [.l 7 (.ldn 5 (.t 5)),.a 8 (.cq 41 [(.t 7),(.i 6)]),.q 9 (.bin .gtr true (.t 8) (.i 6))]) (.cond (.t 9) (.seq (.reg [.q 6 (.mv (.i 9))]) .ret) .skip)) (.seq (.reg [.l 10 (.ldn 3 (.t 3)),.q 11 (.bd [(.int .i64 0),(.slice none 0 0),(.slice none 0 0)] [(0,3,(.t 10))]),.l 12 (.ldn 4 (.t 4)),.l 13 (.ldn 5 (.t 5)),.a 14 (.cq 42 [(.t 11),(.t 12),(.t 13)]),.v 6 14]) .ret))
def QE:List RV:=[.mv (.t 6)]
theorem aK2:aR Tryz.prog true ⟨fun r k=>if r=1/\k=1 then .q else if r=3/\k=4 then .q else .own [],fun _=>false⟩ Tryz.f24=some (QT,QE):=by kernel_rfl
def O9:PC:=.seq (.reg [.e 2 (.bx 29 (.t 0)),.q 4 (.mv (.i 0))]) (.seq (.seq (.reg [.q 10 (.fa 0 (.t 2)),.l 11 (.ld1 (.t 10)),.q 12 (.bin .neq true (.t 11) (.i 5)),.v 13 12,⟨some 14,(some (13,true)),.q (.fa 0 (.t 2))⟩,⟨some 15,(some (13,true)),.l (.ld1 (.t 14))⟩,⟨some 16,(some (13,true)),.q (.bin .neq true (.t 15) (.i 6))⟩,.a 17 (.pick (.t 13) (.t 16) (.k (.bool false))),.v 18 17,⟨some 19,(some (18,true)),.q (.fa 3 (.t 2))⟩,⟨some 20,(some (18,true)),.l (.ld1 (.t 19))⟩,⟨some 21,(some (18,true)),.q (.lnL (.t 20))⟩,⟨some 22,(some (18,true)),.q (.bin .eql true (.t 21) (.i 0))⟩,.a 23 (.pick (.t 18) (.t 22) (.k (.bool false))),.v 24 23,⟨some 25,(some (24,true)),.q (.fa 4 (.t 2))⟩,⟨some 26,(some (24,true)),.l (.ld1 (.t 25))⟩,⟨some 27,(some (24,true)),.q (.lnL (.t 26))⟩,⟨some 28,(some (24,true)),.q (.bin .eql true (.t 27) (.i 0))⟩,.a 29 (.pick (.t 24) (.t 28) (.k (.bool false)))]) (.cond (.t 29) (.seq (.reg [.q 4 (.mv (.i 0))]) .ret) .skip)) (.seq (.reg [.q 5 (.mv (.i 0))]) (.seq (.seq (.reg [.q 30 (.fa 3 (.t 2)),.l 31 (.ld1 (.t 30)),.q 32 (.lnL (.t 31)),.q 33 (.mv (.i 0))]) (.block 0 (.loop (.seq (.reg [.q 34 (.bin .lss true (.t 33) (.t 32))]) (.seq (.cond (.t 34) .skip (.exit 0)) (.seq (.block 1 (.seq (.reg [.l 35 (.ia 5 (.t 31) (.t 33)),.l 36 (.ldn 5 (.t 35)),.e 7 (.al (.agg #[(.int .i64 0),(.int .i64 0),(.string (mk [])),(.slice none 0 0),(.slice none 0 0)]) 29),.s (.st 5 (.t 7) (.t 36))]) (.seq (.reg [.v 37 5,.v 38 1,.q 39 (.bin .leq true (.t 37) (.t 38))]) (.cond (.t 39) (.reg [.v 40 5,.l 41 (.ldn 5 (.t 7)),.v 42 1,.q 43 (.bin .sub true (.t 42) (.i 1)),.a 44 (.cq 41 [(.t 41),(.t 43)]),.q 45 (.mx true (.t 40) (.t 44)),.v 5 45]) .skip)))) (.reg [.q 46 (.bin .add true (.t 33) (.i 1)),.v 33 46]))))))) (.seq (.seq (.reg [.q 47 (.fa 4 (.t 2)),.l 48 (.ld1 (.t 47)),.q 49 (.lnL (.t 48)),.q 50 (.mv (.i 0))]) (.block 2 (.loop (.seq (.reg [.q 51 (.bin .lss true (.t 50) (.t 49))]) (.seq (.cond (.t 51) .skip (.exit 2)) (.seq (.block 3 (.seq (.reg [.l 52 (.ia 6 (.t 48) (.t 50)),.l 53 (.ldn 6 (.t 52)),.e 9 (.al (.agg #[(.int .i64 0),(.int .i64 0),(.int .i64 0),(.string (mk [])),(.slice none 0 0),(.slice none 0 0)]) 76),.s (.st 6 (.t 9) (.t 53))]) (.seq (.reg [.v 54 5,.v 55 1,.q 56 (.bin .leq true (.t 54) (.t 55))]) (.cond (.t 56) (.reg [.v 57 5,.q 58 (.fa 1 (.t 9)),.l 59 (.ldn 5 (.t 58)),.v 60 1,.q 61 (.bin .sub true (.t 60) (.i 1)),.a 62 (.cq 41 [(.t 59),(.t 61)]),.q 63 (.mx true (.t 57) (.t 62)),.v 5 63]) .skip)))) (.reg [.q 64 (.bin .add true (.t 50) (.i 1)),.v 50 64]))))))) (.seq (.reg [.v 65 5,.q 66 (.bin .add true (.i 1) (.t 65)),.v 4 66]) .ret)))))
def P5:List RV:=[.mv (.t 4)]
theorem aKQ:aR Tryz.prog true ⟨fun r k=>if r=8/\k=4 then .q else if r=14/\k=5 then .q else .own [],fun _=>false⟩ Tryz.f41=some (O9,P5):=by kernel_rfl
def vU:PC:=.seq (.reg [.e 3 (.bx 93 (.t 0)),.e 4 (.bx 42 (.t 1)),.e 5 (.bx 29 (.t 2)),.q 6 (.mv (.i 0))]) (.seq (.seq (.reg [.l 8 (.ldn 3 (.t 3)),.l 9 (.ldn 4 (.t 4)),.a 10 (.cq 75 [(.t 8),(.t 9)]),.q 11 (.not (.t 10)),.v 12 11,⟨some 13,(some (12,false)),.q (.fa 0 (.t 5))⟩,⟨some 14,(some (12,false)),.l (.ld1 (.t 13))⟩,⟨some 15,(some (12,false)),.q (.fa 0 (.t 4))⟩,⟨some 16,(some (12,false)),.l (.ld1 (.t 15))⟩,⟨some 17,(some (12,false)),.q (.bin .neq true (.t 14) (.t 16))⟩,.a 18 (.pick (.t 12) (.k (.bool true)) (.t 17))]) (.cond (.t 18) (.seq (.reg [.q 6 (.mv (.i 13))]) .ret) .skip)) (.seq (.reg [.l 19 (.ldn 3 (.t 3)),.q 20 (.mh 76 [(.t 19)]),.v 7 20]) (.seq (.seq (.reg [.q 21 (.fa 0 (.t 4)),.l 22 (.ld1 (.t 21))]) (.block 0 (.seq (.reg [.q 24 (.bin .eql true (.t 22) (.i 4)),.v 23 24]) (.cond (.t 23) (.reg [.l 25 (.ldn 3 (.t 3)),.q 26 (.mh 77 [(.t 25)]),.v 7 26]) (.seq (.reg [.q 28 (.bin .eql true (.t 22) (.i 5)),.v 27 28]) (.cond (.t 27) (.reg [.l 29 (.ldn 3 (.t 3)),.q 30 (.mh 78 [(.t 29)]),.v 7 30]) (.seq (.reg [.q 32 (.bin .eql true (.t 22) (.i 6)),.v 31 32]) (.cond (.t 31) (.reg [.l 33 (.ldn 3 (.t 3)),.q 34 (.mh 79 [(.t 33)]),.v 7 34]) .skip)))))))) (.seq (.reg [.v 35 7,.l 36 (.ldn 4 (.t 4)),.l 37 (.ldn 5 (.t 5)),.a 38 (.ca (.t 35) [(.t 36),(.t 37)] []),.v 6 38]) .ret))))
def uG:List RV:=[.mv (.t 6)]
theorem aM6:aR Tryz.prog true ⟨fun r k=>if r=1/\k=2 then .q else .own [],fun _=>false⟩ Tryz.f42=some (vU,uG):=by kernel_rfl
def aCV:PC:=.seq (.reg [.e 2 (.bx 25 (.t 0)),.e 3 (.bx 42 (.t 1)),.e 4 (.al (.agg #[(.int .i64 0),(.int .i64 0),(.string (mk [])),(.slice none 0 0),(.slice none 0 0)]) 29)]) (.seq (.reg [.l 5 (.ldn 3 (.t 2)),.q 6 (.bd [(.int .i64 0),(.slice none 0 0),(.slice none 0 0)] [(0,3,(.t 5))]),.l 7 (.ldn 4 (.t 3)),.a 8 (.cl 83 [(.t 6),(.t 7),(.i 22)] []),.s (.st 5 (.t 4) (.t 8))]) .ret)
def aAV:List RV:=[.ld (.ldn 5 (.t 4))]
theorem aJ6:aR Tryz.prog true ⟨fun _ _=>.own [],fun _=>false⟩ Tryz.f45=some (aCV,aAV):=by kernel_rfl
def mI:PC:=.seq (.gh (.reg [.v 31 5,.v 32 31,⟨some 33,(some (32,true)),.q (.fa 1 (.t 3))⟩,⟨some 34,(some (32,true)),.l (.ld1 (.t 33))⟩,⟨some 35,(some (32,true)),.q (.bin .eql true (.t 34) (.i 8))⟩,⟨some 36,(some (32,true)),.q (.mv (.t 35))⟩,⟨some 37,(some (36,false)),.q (.fa 1 (.t 3))⟩,⟨some 38,(some (36,false)),.l (.ld1 (.t 37))⟩,⟨some 39,(some (36,false)),.q (.bin .eql true (.t 38) (.i 16))⟩,⟨some 40,(some (32,true)),.pick (.t 36) (.k (.bool true)) (.t 39)⟩,⟨some 41,(some (32,true)),.q (.mv (.t 40))⟩,⟨some 42,(some (41,false)),.q (.fa 1 (.t 3))⟩,⟨some 43,(some (41,false)),.l (.ld1 (.t 42))⟩,⟨some 44,(some (41,false)),.q (.bin .eql true (.t 43) (.i 32))⟩,⟨some 45,(some (32,true)),.pick (.t 41) (.k (.bool true)) (.t 44)⟩,⟨some 46,(some (32,true)),.q (.mv (.t 45))⟩,⟨some 47,(some (46,false)),.q (.fa 1 (.t 3))⟩,⟨some 48,(some (46,false)),.l (.ld1 (.t 47))⟩,⟨some 49,(some (46,false)),.q (.bin .eql true (.t 48) (.i 64))⟩,⟨some 50,(some (32,true)),.pick (.t 46) (.k (.bool true)) (.t 49)⟩,.a 51 (.pick (.t 32) (.t 50) (.k (.bool false))),.v 4 51])) .ret
@[go_sem ↓] theorem aM1:aO mI:=aP _
def oG:PC:=.seq (.gh (.reg [.v 54 5,.v 55 54,⟨some 56,(some (55,true)),.q (.fa 1 (.t 3))⟩,⟨some 57,(some (55,true)),.l (.ld1 (.t 56))⟩,⟨some 58,(some (55,true)),.q (.bin .eql true (.t 57) (.i 8))⟩,⟨some 59,(some (55,true)),.q (.mv (.t 58))⟩,⟨some 60,(some (59,false)),.q (.fa 1 (.t 3))⟩,⟨some 61,(some (59,false)),.l (.ld1 (.t 60))⟩,⟨some 62,(some (59,false)),.q (.bin .eql true (.t 61) (.i 16))⟩,⟨some 63,(some (55,true)),.pick (.t 59) (.k (.bool true)) (.t 62)⟩,⟨some 64,(some (55,true)),.q (.mv (.t 63))⟩,⟨some 65,(some (64,false)),.q (.fa 1 (.t 3))⟩,⟨some 66,(some (64,false)),.l (.ld1 (.t 65))⟩,⟨some 67,(some (64,false)),.q (.bin .eql true (.t 66) (.i 32))⟩,⟨some 68,(some (55,true)),.pick (.t 64) (.k (.bool true)) (.t 67)⟩,.a 69 (.pick (.t 55) (.t 68) (.k (.bool false))),.v 4 69])) .ret
@[go_sem ↓] theorem aOC:aO oG:=aP _
def jT:PC:=.seq (.gh (.reg [.q 85 (.fa 2 (.t 3)),.l 86 (.ld1 (.t 85)),.q 87 (.bin .eql true (.t 86) (.k (.string (mk [])))),.v 88 87,⟨some 89,(some (88,true)),.q (.fa 1 (.t 3))⟩,⟨some 90,(some (88,true)),.l (.ld1 (.t 89))⟩,⟨some 91,(some (88,true)),.q (.bin .geq true (.t 90) (.i 1))⟩,.a 92 (.pick (.t 88) (.t 91) (.k (.bool false))),.v 93 92,⟨some 94,(some (93,true)),.q (.fa 1 (.t 3))⟩,⟨some 95,(some (93,true)),.l (.ld1 (.t 94))⟩,⟨some 96,(some (93,true)),.q (.bin .leq true (.t 95) (.i 32))⟩,.a 97 (.pick (.t 93) (.t 96) (.k (.bool false))),.v 98 97,⟨some 99,(some (98,true)),.q (.fa 3 (.t 3))⟩,⟨some 100,(some (98,true)),.l (.ld1 (.t 99))⟩,⟨some 101,(some (98,true)),.q (.lnL (.t 100))⟩,⟨some 102,(some (98,true)),.q (.bin .eql true (.t 101) (.i 1))⟩,.a 103 (.pick (.t 98) (.t 102) (.k (.bool false))),.v 104 103,⟨some 105,(some (104,true)),.l (.ldn 3 (.t 2))⟩,⟨some 106,(some (104,true)),.q (.fa 3 (.t 3))⟩,⟨some 107,(some (104,true)),.l (.ld1 (.t 106))⟩,⟨some 108,(some (104,true)),.l (.ia 4 (.t 107) (.i 0))⟩,⟨some 109,(some (104,true)),.l (.ldn 4 (.t 108))⟩,⟨some 110,(some (104,true)),.cq 75 [(.t 105),(.t 109)]⟩,.a 111 (.pick (.t 104) (.t 110) (.k (.bool false))),.v 4 111])) .ret
@[go_sem ↓] theorem aI8:aO jT:=aP _
def AP:PC:=.seq (.gh (.reg [.v 122 7,.v 123 122,⟨some 124,(some (123,true)),.q (.fa 1 (.t 3))⟩,⟨some 125,(some (123,true)),.l (.ld1 (.t 124))⟩,⟨some 126,(some (123,true)),.q (.bin .eql true (.t 125) (.i 0))⟩,.a 127 (.pick (.t 123) (.t 126) (.k (.bool false))),.v 128 127,⟨some 129,(some (128,true)),.q (.fa 3 (.t 3))⟩,⟨some 130,(some (128,true)),.l (.ld1 (.t 129))⟩,⟨some 131,(some (128,true)),.q (.lnL (.t 130))⟩,⟨some 132,(some (128,true)),.q (.bin .eql true (.t 131) (.i 0))⟩,.a 133 (.pick (.t 128) (.t 132) (.k (.bool false))),.v 4 133])) .ret
@[go_sem ↓] theorem aJ0:aO AP:=aP _
def AN:PC:=.seq (.gh (.reg [.q 115 (.fa 0 (.t 2)),.l 116 (.ldn 3 (.t 115)),.q 117 (.fa 2 (.t 3)),.l 118 (.ld1 (.t 117)),.a 119 (.cl 40 [(.t 116),(.t 118)] []),.v 114 119,.q 120 (.ex (.t 114) 0),.q 121 (.ex (.t 114) 1),.e 6 (.al (.agg #[(.string (mk [])),(.slice none 0 0)]) 48),.s (.st 2 (.t 6) (.t 120)),.v 7 121])) (AP)
@[go_sem ↓] theorem aJV:aO AN:=aP _
def yK:PC:=.seq (.gh (.reg [.v 144 9,.v 145 144,⟨some 146,(some (145,true)),.q (.fa 1 (.t 3))⟩,⟨some 147,(some (145,true)),.l (.ld1 (.t 146))⟩,⟨some 148,(some (145,true)),.q (.bin .eql true (.t 147) (.i 0))⟩,.a 149 (.pick (.t 145) (.t 148) (.k (.bool false))),.v 150 149,⟨some 151,(some (150,true)),.q (.fa 3 (.t 3))⟩,⟨some 152,(some (150,true)),.l (.ld1 (.t 151))⟩,⟨some 153,(some (150,true)),.q (.lnL (.t 152))⟩,⟨some 154,(some (150,true)),.q (.bin .eql true (.t 153) (.i 0))⟩,.a 155 (.pick (.t 150) (.t 154) (.k (.bool false))),.v 4 155])) .ret
@[go_sem ↓] theorem aJN:aO yK:=aP _
def A6:PC:=.seq (.gh (.reg [.q 137 (.fa 0 (.t 2)),.l 138 (.ldn 3 (.t 137)),.q 139 (.fa 2 (.t 3)),.l 140 (.ld1 (.t 139)),.a 141 (.cl 113 [(.t 138),(.t 140)] []),.v 136 141,.q 142 (.ex (.t 136) 0),.q 143 (.ex (.t 136) 1),.e 8 (.al (.agg #[(.string (mk [])),(.slice none 0 0),(.slice none 0 0)]) 118),.s (.st 3 (.t 8) (.t 142)),.v 9 143])) (yK)
@[go_sem ↓] theorem aJI:aO A6:=aP _
def zO:PC:=.seq (.gh (.reg [.q 135 (.bin .eql true (.t 20) (.i 7)),.v 134 135])) (.cond (.t 134) (A6) .skip)
@[go_sem ↓] theorem aIN:aO zO:=aP _
def yX:PC:=.seq (.gh (.reg [.q 113 (.bin .eql true (.t 20) (.i 6)),.v 112 113])) (.cond (.t 112) (AN) (zO))
@[go_sem ↓] theorem aJB:aO yX:=aP _
def AD:PC:=.seq (.gh (.reg [.q 84 (.bin .eql true (.t 20) (.i 5)),.v 83 84])) (.cond (.t 83) (jT) (yX))
@[go_sem ↓] theorem aIC:aO AD:=aP _
def FL:PC:=.seq (.gh (.reg [.q 71 (.bin .eql true (.t 20) (.i 4)),.v 70 71])) (.cond (.t 70) (.seq (.reg [.v 72 5,.v 73 72,⟨some 74,(some (73,true)),.q (.fa 1 (.t 3))⟩,⟨some 75,(some (73,true)),.l (.ld1 (.t 74))⟩,⟨some 76,(some (73,true)),.q (.bin .geq true (.t 75) (.i 1))⟩,.a 77 (.pick (.t 73) (.t 76) (.k (.bool false))),.v 78 77,⟨some 79,(some (78,true)),.q (.fa 1 (.t 3))⟩,⟨some 80,(some (78,true)),.l (.ld1 (.t 79))⟩,⟨some 81,(some (78,true)),.q (.bin .leq true (.t 80) (.i 2000))⟩,.a 82 (.pick (.t 78) (.t 81) (.k (.bool false))),.v 4 82]) .ret) (AD))
@[go_sem ↓] theorem aKF:aO FL:=aP _
def DX:PC:=.seq (.gh (.reg [.q 53 (.bin .eql true (.t 20) (.i 3)),.v 52 53])) (.cond (.t 52) (oG) (FL))
@[go_sem ↓] theorem aK3:aO DX:=aP _
def F4:PC:=.seq (.gh (.reg [.q 30 (.bin .eql true (.t 20) (.i 2)),.v 29 30])) (.cond (.t 29) (mI) (DX))
@[go_sem ↓] theorem aLV:aO F4:=aP _
def aA9:PC:=.seq (.reg [.e 2 (.bx 93 (.t 0)),.e 3 (.bx 42 (.t 1)),.q 4 (.mv (.k (.bool false)))]) (.seq (.reg [.q 10 (.fa 2 (.t 3)),.l 11 (.ld1 (.t 10)),.q 12 (.bin .eql true (.t 11) (.k (.string (mk [])))),.v 13 12,⟨some 14,(some (13,true)),.q (.fa 3 (.t 3))⟩,⟨some 15,(some (13,true)),.l (.ld1 (.t 14))⟩,⟨some 16,(some (13,true)),.q (.lnL (.t 15))⟩,⟨some 17,(some (13,true)),.q (.bin .eql true (.t 16) (.i 0))⟩,.a 18 (.pick (.t 13) (.t 17) (.k (.bool false))),.v 5 18]) (.seq (.seq (.reg [.q 19 (.fa 0 (.t 3)),.l 20 (.ld1 (.t 19))]) (.block 0 (.seq (.reg [.q 22 (.bin .eql true (.t 20) (.i 1)),.v 21 22]) (.cond (.t 21) (.seq (.reg [.v 23 5,.v 24 23,⟨some 25,(some (24,true)),.q (.fa 1 (.t 3))⟩,⟨some 26,(some (24,true)),.l (.ld1 (.t 25))⟩,⟨some 27,(some (24,true)),.q (.bin .eql true (.t 26) (.i 0))⟩,.a 28 (.pick (.t 24) (.t 27) (.k (.bool false))),.v 4 28]) .ret) (F4))))) (.seq (.reg [.q 4 (.mv (.k (.bool false)))]) .ret)))
def aAW:List RV:=[.mv (.t 4)]
theorem aMK:aR Tryz.prog true ⟨fun r k=>if r=12/\k=25 then .q else .own [],fun r=>[5,6,7,8,9,11,12,13,14,15,16,17,18].contains r⟩ Tryz.f75=some (aA9,aAW):=by kernel_rfl
def GS:PC:=.gh (.reg [.q 29 (.fa 1 (.t 5)),.l 30 (.ld1 (.t 29)),.q 31 (.bin .eql true (.t 30) (.i 0)),.v 32 31,⟨some 33,(some (32,false)),.q (.fa 1 (.t 5))⟩,⟨some 34,(some (32,false)),.l (.ld1 (.t 33))⟩,⟨some 35,(some (32,false)),.q (.bin .eql true (.t 34) (.i 1))⟩,.a 36 (.pick (.t 32) (.k (.bool true)) (.t 35)),.v 7 36])
@[go_sem ↓] theorem aMI:aO GS:=aP _
def xC:PC:=.gh (.reg [.q 39 (.fa 1 (.t 4)),.l 40 (.ld1 (.t 39)),.q 41 (.bin .eql true (.t 40) (.i 64)),.v 42 41,⟨some 43,(some (42,false)),.q (.fa 1 (.t 5))⟩,⟨some 44,(some (42,false)),.l (.ld1 (.t 43))⟩,⟨some 45,(some (42,false)),.q (.fa 1 (.t 4))⟩,⟨some 46,(some (42,false)),.l (.ld1 (.t 45))⟩,⟨some 47,(some (42,false)),.q (.bin .sub true (.t 46) (.i 1))⟩,⟨some 48,(some (42,false)),.q (.bin .shl true (.i (-1)) (.t 47))⟩,⟨some 49,(some (42,false)),.q (.bin .geq true (.t 44) (.t 48))⟩,⟨some 50,(some (42,false)),.q (.mv (.t 49))⟩,⟨some 51,(some (50,true)),.q (.fa 1 (.t 5))⟩,⟨some 52,(some (50,true)),.l (.ld1 (.t 51))⟩,⟨some 53,(some (50,true)),.q (.fa 1 (.t 4))⟩,⟨some 54,(some (50,true)),.l (.ld1 (.t 53))⟩,⟨some 55,(some (50,true)),.q (.bin .sub true (.t 54) (.i 1))⟩,⟨some 56,(some (50,true)),.q (.bin .shl true (.i 1) (.t 55))⟩,⟨some 57,(some (50,true)),.q (.bin .lss true (.t 52) (.t 56))⟩,⟨some 58,(some (42,false)),.pick (.t 50) (.t 57) (.k (.bool false))⟩,.a 59 (.pick (.t 42) (.k (.bool true)) (.t 58)),.v 7 59])
@[go_sem ↓] theorem aNI:aO xC:=aP _
def yQ:PC:=.gh (.reg [.q 62 (.fa 1 (.t 5)),.l 63 (.ld1 (.t 62)),.q 64 (.bin .geq true (.t 63) (.i 0)),.v 65 64,⟨some 66,(some (65,true)),.q (.fa 1 (.t 5))⟩,⟨some 67,(some (65,true)),.l (.ld1 (.t 66))⟩,⟨some 68,(some (65,true)),.q (.fa 1 (.t 4))⟩,⟨some 69,(some (65,true)),.l (.ld1 (.t 68))⟩,⟨some 70,(some (65,true)),.q (.bin .shl true (.i 1) (.t 69))⟩,⟨some 71,(some (65,true)),.q (.bin .lss true (.t 67) (.t 70))⟩,.a 72 (.pick (.t 65) (.t 71) (.k (.bool false))),.v 7 72])
@[go_sem ↓] theorem aJT:aO yQ:=aP _
def AW:PC:=.gh (.reg [.q 83 (.fa 2 (.t 8)),.l 84 (.ld1 (.t 83)),.q 85 (.mf 115 [(.t 5)]),.a 86 (.cl 114 [(.t 84),(.t 85)] [2]),.v 7 86])
@[go_sem ↓] theorem aI0:aO AW:=aP _
def AQ:PC:=.seq (.gh (.reg [.q 76 (.fa 0 (.t 3)),.l 77 (.ldn 3 (.t 76)),.q 78 (.fa 2 (.t 4)),.l 79 (.ld1 (.t 78)),.a 80 (.cl 113 [(.t 77),(.t 79)] []),.v 75 80,.q 81 (.ex (.t 75) 0),.q 82 (.ex (.t 75) 1),.e 8 (.al (.agg #[(.string (mk [])),(.slice none 0 0),(.slice none 0 0)]) 118),.s (.st 3 (.t 8) (.t 81)),.v 9 82])) (AW)
@[go_sem ↓] theorem aIE:aO AQ:=aP _
def AG:PC:=.seq (.gh (.reg [.q 74 (.bin .eql true (.t 26) (.i 7)),.v 73 74])) (.cond (.t 73) (AQ) .skip)
@[go_sem ↓] theorem aJR:aO AG:=aP _
def F5:PC:=.seq (.gh (.reg [.q 61 (.bin .eql true (.t 26) (.i 3)),.v 60 61])) (.cond (.t 60) (yQ) (AG))
@[go_sem ↓] theorem aLI:aO F5:=aP _
def ED:PC:=.seq (.gh (.reg [.q 38 (.bin .eql true (.t 26) (.i 2)),.v 37 38])) (.cond (.t 37) (xC) (F5))
@[go_sem ↓] theorem aKN:aO ED:=aP _
def iV:PC:=.seq (.seq (.gh (.reg [.v 87 7,.q 88 (.not (.t 87))])) (.cond (.t 88) (.seq (.reg [.q 6 (.mv (.i 4))]) .ret) .skip)) (.seq (.reg [.q 6 (.mv (.i 0))]) .ret)
@[go_sem ↓] theorem aIV:aO iV:=aP _
def FY:PC:=.seq (.reg [.e 3 (.bx 93 (.t 0)),.e 4 (.bx 42 (.t 1)),.e 5 (.bx 29 (.t 2)),.q 6 (.mv (.i 0))]) (.seq (.seq (.reg [.q 10 (.fa 2 (.t 5)),.l 11 (.ld1 (.t 10)),.q 12 (.bin .neq true (.t 11) (.k (.string (mk [])))),.v 13 12,⟨some 14,(some (13,false)),.q (.fa 3 (.t 5))⟩,⟨some 15,(some (13,false)),.l (.ld1 (.t 14))⟩,⟨some 16,(some (13,false)),.q (.lnL (.t 15))⟩,⟨some 17,(some (13,false)),.q (.bin .gtr true (.t 16) (.i 0))⟩,.a 18 (.pick (.t 13) (.k (.bool true)) (.t 17)),.v 19 18,⟨some 20,(some (19,false)),.q (.fa 4 (.t 5))⟩,⟨some 21,(some (19,false)),.l (.ld1 (.t 20))⟩,⟨some 22,(some (19,false)),.q (.lnL (.t 21))⟩,⟨some 23,(some (19,false)),.q (.bin .gtr true (.t 22) (.i 0))⟩,.a 24 (.pick (.t 19) (.k (.bool true)) (.t 23))]) (.cond (.t 24) (.seq (.reg [.q 6 (.mv (.i 13))]) .ret) .skip)) (.seq (.reg [.q 7 (.mv (.k (.bool false)))]) (.seq (.seq (.reg [.q 25 (.fa 0 (.t 4)),.l 26 (.ld1 (.t 25))]) (.block 0 (.seq (.reg [.q 28 (.bin .eql true (.t 26) (.i 1)),.v 27 28]) (.cond (.t 27) (GS) (ED))))) (iV))))
def FX:List RV:=[.mv (.t 6)]
theorem aME:aR Tryz.prog true ⟨fun r k=>if r=13/\k=3 then .own [2] else .own [],fun r=>[7,9,11,12,14,6,8,10,13].contains r⟩ Tryz.f76=some (FY,FX):=by kernel_rfl
def aAU:PC:=.seq (.reg [.e 3 (.bx 93 (.t 0)),.e 4 (.bx 42 (.t 1)),.e 5 (.bx 29 (.t 2)),.q 6 (.mv (.i 0))]) (.seq (.block 0 (.seq (.reg [.q 8 (.fa 1 (.t 5)),.l 9 (.ld1 (.t 8)),.q 10 (.bin .neq true (.t 9) (.i 0)),.v 11 10,⟨some 12,(some (11,false)),.q (.fa 3 (.t 5))⟩,⟨some 13,(some (11,false)),.l (.ld1 (.t 12))⟩,⟨some 14,(some (11,false)),.q (.lnL (.t 13))⟩,⟨some 15,(some (11,false)),.q (.bin .gtr true (.t 14) (.i 0))⟩,.a 16 (.pick (.t 11) (.k (.bool true)) (.t 15)),.v 17 16,⟨some 18,(some (17,false)),.q (.fa 4 (.t 5))⟩,⟨some 19,(some (17,false)),.l (.ld1 (.t 18))⟩,⟨some 20,(some (17,false)),.q (.lnL (.t 19))⟩,⟨some 21,(some (17,false)),.q (.bin .gtr true (.t 20) (.i 0))⟩,.a 22 (.pick (.t 17) (.k (.bool true)) (.t 21)),.v 7 22]) (.cond (.t 7) (.seq (.reg [.q 6 (.mv (.i 13))]) .ret) (.seq (.reg [.q 24 (.fa 2 (.t 5)),.l 25 (.ld1 (.t 24)),.q 26 (.lnS (.t 25)),.q 27 (.fa 1 (.t 4)),.l 28 (.ld1 (.t 27)),.q 29 (.bin .gtr true (.t 26) (.t 28)),.v 23 29]) (.cond (.t 23) (.seq (.reg [.q 6 (.mv (.i 3))]) .ret) .skip))))) (.seq (.reg [.q 6 (.mv (.i 0))]) .ret))
def ZX:List RV:=[.mv (.t 6)]
theorem aKK:aR Tryz.prog true ⟨fun _ _=>.own [],fun _=>false⟩ Tryz.f77=some (aAU,ZX):=by kernel_rfl
def K8:PC:=.seq (.reg [.e 3 (.bx 93 (.t 0)),.e 4 (.bx 42 (.t 1)),.e 5 (.bx 29 (.t 2)),.q 6 (.mv (.i 0))]) (.seq (.block 0 (.seq (.reg [.q 11 (.fa 1 (.t 5)),.l 12 (.ld1 (.t 11)),.q 13 (.bin .neq true (.t 12) (.i 0)),.v 14 13,⟨some 15,(some (14,false)),.q (.fa 2 (.t 5))⟩,⟨some 16,(some (14,false)),.l (.ld1 (.t 15))⟩,⟨some 17,(some (14,false)),.q (.bin .neq true (.t 16) (.k (.string (mk []))))⟩,.a 18 (.pick (.t 14) (.k (.bool true)) (.t 17)),.v 19 18,⟨some 20,(some (19,false)),.q (.fa 4 (.t 5))⟩,⟨some 21,(some (19,false)),.l (.ld1 (.t 20))⟩,⟨some 22,(some (19,false)),.q (.lnL (.t 21))⟩,⟨some 23,(some (19,false)),.q (.bin .gtr true (.t 22) (.i 0))⟩,.a 24 (.pick (.t 19) (.k (.bool true)) (.t 23)),.v 10 24]) (.cond (.t 10) (.seq (.reg [.q 6 (.mv (.i 13))]) .ret) (.seq (.reg [.q 26 (.fa 3 (.t 5)),.l 27 (.ld1 (.t 26)),.q 28 (.lnL (.t 27)),.q 29 (.fa 1 (.t 4)),.l 30 (.ld1 (.t 29)),.q 31 (.bin .gtr true (.t 28) (.t 30)),.v 25 31]) (.cond (.t 25) (.seq (.reg [.q 6 (.mv (.i 3))]) .ret) .skip))))) (.seq (.seq (.reg [.q 32 (.fa 3 (.t 5)),.l 33 (.ld1 (.t 32)),.q 34 (.lnL (.t 33)),.q 35 (.mv (.i 0))]) (.block 1 (.loop (.seq (.reg [.q 36 (.bin .lss true (.t 35) (.t 34))]) (.seq (.cond (.t 36) .skip (.exit 1)) (.seq (.block 2 (.seq (.reg [.l 37 (.ia 5 (.t 33) (.t 35)),.l 38 (.ldn 5 (.t 37)),.e 8 (.al (.agg #[(.int .i64 0),(.int .i64 0),(.string (mk [])),(.slice none 0 0),(.slice none 0 0)]) 29),.s (.st 5 (.t 8) (.t 38))]) (.seq (.reg [.l 39 (.ldn 3 (.t 3)),.q 40 (.fa 3 (.t 4)),.l 41 (.ld1 (.t 40)),.l 42 (.ia 4 (.t 41) (.i 0)),.l 43 (.ldn 4 (.t 42)),.l 44 (.ldn 5 (.t 8)),.a 45 (.cq 42 [(.t 39),(.t 43),(.t 44)]),.v 9 45]) (.seq (.reg [.v 46 9,.q 47 (.bin .neq true (.t 46) (.i 0))]) (.cond (.t 47) (.seq (.reg [.v 48 9,.v 6 48]) .ret) .skip))))) (.reg [.q 49 (.bin .add true (.t 35) (.i 1)),.v 35 49]))))))) (.seq (.reg [.q 6 (.mv (.i 0))]) .ret)))
def J3:List RV:=[.mv (.t 6)]
theorem aK5:aR Tryz.prog true ⟨fun r k=>if r=8/\k=6 then .q else .own [],fun _=>false⟩ Tryz.f78=some (K8,J3):=by kernel_rfl
def yC:PC:=.seq (.gh (.reg [.v 63 13,.q 64 (.bin .neq true (.t 63) (.i 0))])) (.cond (.t 64) (.seq (.reg [.v 65 13,.v 6 65]) .ret) .skip)
@[go_sem ↓] theorem aLK:aO yC:=aP _
def EA:PC:=.seq (.gh (.reg [.l 57 (.ldn 3 (.t 3)),.q 58 (.fa 2 (.t 11)),.l 59 (.ldn 4 (.t 58)),.q 60 (.fa 1 (.t 10)),.l 61 (.ldn 5 (.t 60)),.a 62 (.cq 42 [(.t 57),(.t 59),(.t 61)]),.v 13 62])) (yC)
@[go_sem ↓] theorem aMP:aO EA:=aP _
def GC:PC:=.seq (.gh (.reg [.l 51 (.ldn 2 (.t 7)),.q 52 (.fa 0 (.t 10)),.l 53 (.ld1 (.t 52)),.a 54 (.cl 54 [(.t 51),(.t 53)] []),.v 50 54,.q 55 (.ex (.t 50) 0),.q 56 (.ex (.t 50) 1),.e 11 (.al (.agg #[(.int .i64 0),(.string (mk [])),(.int .i64 0),(.int .i64 0),(.string (mk [])),(.slice none 0 0),(.bool false)]) 52),.s (.st 7 (.t 11) (.t 55)),.v 12 56])) (EA)
@[go_sem ↓] theorem aKD:aO GC:=aP _
def x9:PC:=.seq (.seq (.gh (.reg [.q 22 (.fa 1 (.t 5)),.l 23 (.ld1 (.t 22)),.q 24 (.bin .neq true (.t 23) (.i 0)),.v 25 24,⟨some 26,(some (25,false)),.q (.fa 2 (.t 5))⟩,⟨some 27,(some (25,false)),.l (.ld1 (.t 26))⟩,⟨some 28,(some (25,false)),.q (.bin .neq true (.t 27) (.k (.string (mk []))))⟩,.a 29 (.pick (.t 25) (.k (.bool true)) (.t 28)),.v 30 29,⟨some 31,(some (30,false)),.q (.fa 3 (.t 5))⟩,⟨some 32,(some (30,false)),.l (.ld1 (.t 31))⟩,⟨some 33,(some (30,false)),.q (.lnL (.t 32))⟩,⟨some 34,(some (30,false)),.q (.bin .gtr true (.t 33) (.i 0))⟩,.a 35 (.pick (.t 30) (.k (.bool true)) (.t 34)),.v 36 35,⟨some 37,(some (36,false)),.l (.ldn 2 (.t 7))⟩,⟨some 38,(some (36,false)),.q (.fa 4 (.t 5))⟩,⟨some 39,(some (36,false)),.l (.ld1 (.t 38))⟩,⟨some 40,(some (36,false)),.cq 116 [(.t 37),(.t 39)]⟩,⟨some 41,(some (36,false)),.q (.not (.t 40))⟩,.a 42 (.pick (.t 36) (.k (.bool true)) (.t 41))])) (.cond (.t 42) (.seq (.reg [.q 6 (.mv (.i 13))]) .ret) .skip)) (.seq (.seq (.reg [.q 43 (.fa 4 (.t 5)),.l 44 (.ld1 (.t 43)),.q 45 (.lnL (.t 44)),.q 46 (.mv (.i 0))]) (.block 0 (.loop (.seq (.reg [.q 47 (.bin .lss true (.t 46) (.t 45))]) (.seq (.cond (.t 47) .skip (.exit 0)) (.seq (.block 1 (.seq (.reg [.l 48 (.ia 6 (.t 44) (.t 46)),.l 49 (.ldn 6 (.t 48)),.e 10 (.al (.agg #[(.int .i64 0),(.int .i64 0),(.int .i64 0),(.string (mk [])),(.slice none 0 0),(.slice none 0 0)]) 76),.s (.st 6 (.t 10) (.t 49))]) (GC))) (.reg [.q 66 (.bin .add true (.t 46) (.i 1)),.v 46 66]))))))) (.seq (.reg [.q 6 (.mv (.i 0))]) .ret))
@[go_sem ↓] theorem aK7:aO x9:=aP _
def aAL:PC:=.seq (.reg [.e 3 (.bx 93 (.t 0)),.e 4 (.bx 42 (.t 1)),.e 5 (.bx 29 (.t 2)),.q 6 (.mv (.i 0))]) (.seq (.reg [.q 15 (.fa 0 (.t 3)),.l 16 (.ldn 3 (.t 15)),.q 17 (.fa 2 (.t 4)),.l 18 (.ld1 (.t 17)),.a 19 (.cl 40 [(.t 16),(.t 18)] []),.v 14 19,.q 20 (.ex (.t 14) 0),.q 21 (.ex (.t 14) 1),.e 7 (.al (.agg #[(.string (mk [])),(.slice none 0 0)]) 48),.s (.st 2 (.t 7) (.t 20)),.v 8 21]) (x9))
def aB1:List RV:=[.mv (.t 6)]
theorem aL5:aR Tryz.prog true ⟨fun r k=>if r=2/\k=18 then .q else if r=8/\k=5 then .q else .own [],fun r=>[2,7,8,9].contains r⟩ Tryz.f79=some (aAL,aB1):=by kernel_rfl
def EM:PC:=.seq (.reg [.e 3 (.bx 93 (.t 0)),.e 4 (.bx 42 (.t 1)),.e 6 (.al (.agg #[(.int .i64 0),(.int .i64 0),(.string (mk [])),(.slice none 0 0),(.slice none 0 0)]) 29)]) (.seq (.seq (.reg [.v 12 2,.q 13 (.bin .lss true (.t 12) (.i 0)),.v 14 13,⟨some 15,(some (14,false)),.l (.ldn 3 (.t 3))⟩,⟨some 16,(some (14,false)),.l (.ldn 4 (.t 4))⟩,⟨some 17,(some (14,false)),.cq 75 [(.t 15),(.t 16)]⟩,⟨some 18,(some (14,false)),.q (.not (.t 17))⟩,.a 19 (.pick (.t 14) (.k (.bool true)) (.t 18))]) (.cond (.t 19) (.seq (.reg [.q 20 (.bd [(.int .i64 0),(.int .i64 0),(.string (mk [])),(.slice none 0 0),(.slice none 0 0)] []),.s (.st 5 (.t 6) (.t 20))]) .ret) .skip)) (.seq (.reg [.q 21 (.fa 0 (.t 4)),.l 22 (.ld1 (.t 21)),.q 23 (.bd [(.int .i64 0),(.int .i64 0),(.string (mk [])),(.slice none 0 0),(.slice none 0 0)] [(0,1,(.t 22))]),.e 7 (.al (.agg #[(.int .i64 0),(.int .i64 0),(.string (mk [])),(.slice none 0 0),(.slice none 0 0)]) 29),.s (.st 5 (.t 7) (.t 23))]) (.seq (.seq (.reg [.q 24 (.fa 0 (.t 4)),.l 25 (.ld1 (.t 24)),.q 26 (.bin .neq true (.t 25) (.i 6))]) (.cond (.t 26) (.seq (.reg [.l 27 (.ldn 5 (.t 7)),.s (.st 5 (.t 6) (.t 27))]) .ret) .skip)) (.seq (.reg [.q 29 (.fa 0 (.t 3)),.l 30 (.ldn 3 (.t 29)),.q 31 (.fa 2 (.t 4)),.l 32 (.ld1 (.t 31)),.a 33 (.cl 40 [(.t 30),(.t 32)] []),.v 28 33,.q 34 (.ex (.t 28) 0),.q 35 (.ex (.t 28) 1),.e 8 (.al (.agg #[(.string (mk [])),(.slice none 0 0)]) 48),.s (.st 2 (.t 8) (.t 34)),.v 9 35]) (.seq (.seq (.reg [.q 36 (.fa 1 (.t 8)),.l 37 (.ld1 (.t 36)),.q 38 (.lnL (.t 37)),.q 39 (.mv (.i 0))]) (.block 0 (.loop (.seq (.reg [.q 40 (.bin .lss true (.t 39) (.t 38))]) (.seq (.cond (.t 40) .skip (.exit 0)) (.seq (.block 1 (.seq (.reg [.l 41 (.ia 7 (.t 37) (.t 39)),.l 42 (.ldn 7 (.t 41)),.e 11 (.al (.agg #[(.int .i64 0),(.string (mk [])),(.int .i64 0),(.int .i64 0),(.string (mk [])),(.slice none 0 0),(.bool false)]) 52),.s (.st 7 (.t 11) (.t 42))]) (.seq (.reg [.q 43 (.fa 6 (.t 11)),.l 44 (.ld1 (.t 43)),.q 45 (.not (.t 44))]) (.cond (.t 45) (.ord  [.q (.q 46 (.fa 4 (.t 7))),.q (.l 47 (.ld1 (.t 46))),.q (.q 48 (.fa 0 (.t 11))),.q (.l 49 (.ld1 (.t 48))),.q (.l 50 (.ldn 3 (.t 3))),.q (.q 51 (.fa 2 (.t 11))),.q (.l 52 (.ldn 4 (.t 51))),.q (.v 53 2),.q (.q 54 (.bin .sub true (.t 53) (.i 1))),.m (.a 55 (.cl 83 [(.t 50),(.t 52),(.t 54)] [])),.rc (.q 46 (.fa 4 (.t 7))),.rc (.l 47 (.ld1 (.t 46))),.rc (.q 48 (.fa 0 (.t 11))),.rc (.l 49 (.ld1 (.t 48))),.q (.q 56 (.bd [(.int .i64 0),(.int .i64 0),(.int .i64 0),(.string (mk [])),(.slice none 0 0),(.slice none 0 0)] [(0,1,(.t 49)),(1,5,(.t 55))])),.m (.e 57 (.bsl 76 6 [(.t 56)])),.rc (.q 46 (.fa 4 (.t 7))),.rc (.l 47 (.ld1 (.t 46))),.m (.e 58 (.ap 76 6 88 (.t 47) (.t 57))),.q (.q 59 (.fa 4 (.t 7))),.m (.s (.st 1 (.t 59) (.t 58)))]) .skip)))) (.reg [.q 60 (.bin .add true (.t 39) (.i 1)),.v 39 60]))))))) (.seq (.reg [.l 61 (.ldn 5 (.t 7)),.s (.st 5 (.t 6) (.t 61))]) .ret))))))
def G3:List RV:=[.ld (.ldn 5 (.t 6))]
theorem aNQ:aR Tryz.prog true ⟨fun r k=>if r=1/\k=5 then .q else .own [],fun _=>false⟩ Tryz.f83=some (EM,G3):=by kernel_rfl
def TL:PC:=.seq (.reg [.q 3 (.mv (.k (.bool false)))]) (.seq (.reg [.v 4 0,.q 5 (.fa 1 (.t 1)),.l 6 (.ld1 (.t 5)),.q 7 (.bin .eql true (.t 4) (.t 6)),.v 3 7]) .ret)
def U2:List RV:=[.mv (.t 3)]
theorem aFL:aR Tryz.prog true ⟨fun _ _=>.own [],fun _=>false⟩ Tryz.f115=some (TL,U2):=by kernel_rfl
def l9:PC:=.seq (.gh (.reg [.v 25 8,.q 26 (.not (.t 25)),.v 27 26,⟨some 28,(some (27,false)),.q (.mv (.t 5))⟩,⟨some 29,(some (27,false)),.q (.bin .gtr true (.t 28) (.i 0))⟩,⟨some 30,(some (27,false)),.q (.mv (.t 29))⟩,⟨some 31,(some (30,true)),.q (.mv (.t 1))⟩,⟨some 32,(some (30,true)),.q (.mv (.t 5))⟩,⟨some 33,(some (30,true)),.q (.bin .sub true (.t 32) (.i 1))⟩,⟨some 34,(some (30,true)),.l (.ia 6 (.t 31) (.t 33))⟩,⟨some 35,(some (30,true)),.q (.fa 0 (.t 34))⟩,⟨some 36,(some (30,true)),.l (.ld1 (.t 35))⟩,⟨some 37,(some (30,true)),.q (.fa 0 (.t 6))⟩,⟨some 38,(some (30,true)),.l (.ld1 (.t 37))⟩,⟨some 39,(some (30,true)),.q (.bin .geq true (.t 36) (.t 38))⟩,⟨some 40,(some (27,false)),.pick (.t 30) (.t 39) (.k (.bool false))⟩,.a 41 (.pick (.t 27) (.k (.bool true)) (.t 40))])) (.cond (.t 41) (.seq (.reg [.q 4 (.mv (.k (.bool false)))]) .ret) .skip)
@[go_sem ↓] theorem aI9:aO l9:=aP _
def yT:PC:=.seq (.gh (.reg [.l 19 (.ldn 2 (.t 2)),.q 20 (.fa 0 (.t 6)),.l 21 (.ld1 (.t 20)),.a 22 (.cl 54 [(.t 19),(.t 21)] []),.v 18 22,.q 23 (.ex (.t 18) 0),.q 24 (.ex (.t 18) 1),.e 7 (.al (.agg #[(.int .i64 0),(.string (mk [])),(.int .i64 0),(.int .i64 0),(.string (mk [])),(.slice none 0 0),(.bool false)]) 52),.s (.st 7 (.t 7) (.t 23)),.v 8 24])) (l9)
@[go_sem ↓] theorem aIS:aO yT:=aP _
def pS:PC:=.seq (.gh (.reg [.q 50 (.fa 6 (.t 10)),.l 51 (.ld1 (.t 50)),.q 52 (.not (.t 51)),.v 53 52,⟨some 54,(some (53,true)),.q (.mv (.t 1))⟩,⟨some 55,(some (53,true)),.q (.mf 151 [(.t 10)])⟩,⟨some 56,(some (53,true)),.cl 150 [(.t 54),(.t 55)] [1]⟩,⟨some 57,(some (53,true)),.q (.not (.t 56))⟩,.a 58 (.pick (.t 53) (.t 57) (.k (.bool false)))])) (.cond (.t 58) (.seq (.reg [.q 4 (.mv (.k (.bool false)))]) .ret) .skip)
@[go_sem ↓] theorem aEY:aO pS:=aP _
def AH:PC:=.seq (.seq (.gh (.reg [.q 43 (.fa 1 (.t 2)),.l 44 (.ld1 (.t 43)),.q 45 (.lnL (.t 44)),.q 46 (.mv (.i 0))])) (.block 2 (.loop (.seq (.reg [.q 47 (.bin .lss true (.t 46) (.t 45))]) (.seq (.cond (.t 47) .skip (.exit 2)) (.seq (.block 3 (.seq (.reg [.l 48 (.ia 7 (.t 44) (.t 46)),.l 49 (.ldn 7 (.t 48)),.e 10 (.al (.agg #[(.int .i64 0),(.string (mk [])),(.int .i64 0),(.int .i64 0),(.string (mk [])),(.slice none 0 0),(.bool false)]) 52),.s (.st 7 (.t 10) (.t 49))]) (pS))) (.reg [.q 59 (.bin .add true (.t 46) (.i 1)),.v 46 59]))))))) (.seq (.reg [.q 4 (.mv (.k (.bool true)))]) .ret)
@[go_sem ↓] theorem aIJ:aO AH:=aP _
def SZ:PC:=.seq (.reg [.e 2 (.bx 48 (.t 0)),.q 4 (.mv (.k (.bool false)))]) (.seq (.seq (.reg [.v 11 1,.q 12 (.lnL (.t 11)),.q 13 (.mv (.i 0))]) (.block 0 (.loop (.seq (.reg [.q 14 (.bin .lss true (.t 13) (.t 12))]) (.seq (.cond (.t 14) .skip (.exit 0)) (.seq (.block 1 (.seq (.reg [.v 15 13,.l 16 (.ia 6 (.t 11) (.t 13)),.l 17 (.ldn 6 (.t 16)),.e 6 (.al (.agg #[(.int .i64 0),(.int .i64 0),(.int .i64 0),(.string (mk [])),(.slice none 0 0),(.slice none 0 0)]) 76),.v 5 15,.s (.st 6 (.t 6) (.t 17))]) (yT))) (.reg [.q 42 (.bin .add true (.t 13) (.i 1)),.v 13 42]))))))) (AH))
def T3:List RV:=[.mv (.t 4)]
theorem aFA:aR Tryz.prog true ⟨fun r k=>if r=11/\k=6 then .own [1] else .own [],fun r=>[4,5,8,11].contains r⟩ Tryz.f116=some (SZ,T3):=by kernel_rfl
def UG:PC:=.seq (.reg [.e 2 (.bx 76 (.t 0)),.q 3 (.mv (.k (.bool false)))]) (.seq (.reg [.q 4 (.fa 0 (.t 2)),.l 5 (.ld1 (.t 4)),.q 6 (.fa 0 (.t 1)),.l 7 (.ld1 (.t 6)),.q 8 (.bin .eql true (.t 5) (.t 7)),.v 3 8]) .ret)
def TM:List RV:=[.mv (.t 3)]
theorem aEU:aR Tryz.prog true ⟨fun _ _=>.own [],fun _=>false⟩ Tryz.f151=some (UG,TM):=by kernel_rfl
def jO (v:Vl):Bool:=(v.k != 5) && (v.k != 6) && ((v.l.length:Int) == 0) && ((v.f.length:Int) == 0)
def lI (g:Vl->Int) (most:Int) (d:Int) (x:Vl):Int:=bif decide (d<=most) then max d (g x) else d
def n8 (g:Vl->Int) (most:Int) (d:Int) (x:Int × Vl):Int:=bif decide (d<=most) then max d (g x.2) else d
def GN (g:Vl->Int) (most:Int) (v:Vl):Int:=bif jO v then 0 else 1 + v.f.foldl (n8 g most) (v.l.foldl (lI g most) 0)
def qY:Nat->Vl->Int
 | 0=>GN (fun _=>0) (-1)
 | n + 1=>GN (qY n) n
def gN:Nat->Vl->Int
 | 0=>fun _=>0
 | n + 1=>qY n
theorem xH (n:Nat):qY n=GN (gN n) ((n:Int) - 1):=by
 cases n with
 | zero=>rfl
 | succ n=>rw [qY,gN]; congr 1; omega
theorem FO {g:Vl->Int} {most B:Int} (hg:∀ x,0<=g x/\g x<=B) {d:Int} (h:0<=d/\d<=B) (x:Vl):0<=lI g most d x/\lI g most d x<=B:=by
 unfold lI
 cases decide (d<=most)
 · exact h
 · have:=hg x; show 0<=max d (g x)/\max d (g x)<=B; omega
theorem M4 {g:Vl->Int} {most B:Int} (hg:∀ x,0<=g x/\g x<=B) {d:Int} (h:0<=d/\d<=B) (x:Int × Vl):0<=n8 g most d x/\n8 g most d x<=B:=FO hg h x.2
theorem oH {α:Type} {f:Int->α->Int} {B:Int} (h:∀ d x,0<=d/\d<=B->0<=f d x/\f d x<=B):∀ (l:List α) (d:Int),0<=d/\d<=B->0<=l.foldl f d/\l.foldl f d<=B
 | [],_,hd=>hd
 | x :: l,d,hd=>oH h l (f d x) (h d x hd)
theorem oJ:∀ (n:Nat) (x:Vl),0<=gN n x/\gN n x<=n
 | 0,_=>⟨Int.le_refl _,Int.le_refl _⟩
 | n + 1,x=>by
  rw [gN,xH]
  unfold GN
  have h1:=oH (f:=lI (gN n) ((n:Int) - 1)) (fun d x h=>FO (oJ n) h x) x.l 0 ⟨Int.le_refl _,by omega⟩
  have h2:=oH (f:=n8 (gN n) ((n:Int) - 1)) (fun d x h=>M4 (oJ n) h x) x.f _ h1
  cases jO x
  · show 0<=1 + _/\1 + _<=_; omega
  · show (0:Int)<=0/\(0:Int)<=_; omega
theorem B8 {α β:Type} {f:β->α->β} {l:List α} {i:Nat} {x:α} (h:l[i]? = some x) (d:β):(l.take (i + 1)).foldl f d=f ((l.take i).foldl f d) x:=by rw [fK h,List.foldl_append]; rfl
def xG (n:Nat):List S->Prop:=fun av=>match av with
 | [.va (.gs r),.va (.c1 (.vl (.int .i64 k)))]=>0 < n/\kD r/\k=(n:Int) - 2/\n<=100
 | _=>False
theorem kR {n:Nat} {av:List S} (h:xG n av):∃ m v,n=m + 1/\av=[.va (.gs (aM v)),iS .i64 ((m:Int) - 1)]/\VlOk v/\m<=99:=by
 unfold xG at h
 split at h
 · obtain ⟨h0,⟨v,rfl,hv⟩,rfl,hn⟩:=h
   refine ⟨n - 1,v,by omega,?_,hv,by omega⟩
   rw [show (n:Int) - 2=((n - 1:Nat):Int) - 1 by omega]
 · exact h.elim
noncomputable def L9 (n:Nat):List S->A:=fun av=>match av with
 | [.va (.gs r),.va (.c1 (.vl (.int .i64 _)))]=>iA .i64 (gN n (C.vv r))
 | _=>.gs []
noncomputable def DG (n:Nat):Fun:=⟨xG n,L9 n,fun av h=>by obtain ⟨m,v,_,rfl,_⟩:=kR h; trivial⟩
theorem MW {n:Nat}:∀ av H K,(DG n).sp av H K->av.length=2:=fun av H K h=>by obtain ⟨m,v,_,rfl,_⟩:=kR h.1.1; rfl
attribute [go_sem] DG xG L9
theorem JG:∀ n,Meets Tryz.prog 41 (DG n).sp
 | 0=>⟨by kernel_rfl,by rintro xs vs E ro w K _ _ _ ⟨⟨h,_⟩,_⟩; obtain ⟨m,_,h,_⟩:=kR h; omega⟩
 | n + 1=>by
  refine aD Tryz.func41 aKQ 2 (by rw [Tryz.ntmps41]; decide) (aG (JG n) (aA _)) MW ?_
  rintro av H K ⟨⟨h,rfl⟩,hK⟩
  obtain ⟨m,v,hm,rfl,hv,hm99⟩:=kR h
  obtain rfl:m=n:=by omega
  have hK:K (iS .i64 (qY m v)) []:=by
   have:(DG (m + 1)).val [.va (.gs (aM v)),iS .i64 ((m:Int) - 1)]=iA .i64 (qY m v):=by simp -dsimp only [go_sem,gN]
   rw [this] at hK; exact hK
  clear h hm
  rw [xH] at hK
  unfold GN at hK
  have hll:=hv.ll
  have hlf:=hv.lf
  have bd1:=fun i=>oH (f:=lI (gN m) ((m:Int) - 1)) (fun d x h=>FO (oJ m) h x) (v.l.take i) 0 ⟨Int.le_refl _,by omega⟩
  have fin:∀ (z:Int) (R:Hp),(bif jO v then 0 else 1 + v.f.foldl (n8 (gN m) ((m:Int) - 1)) (v.l.foldl (lI (gN m) ((m:Int) - 1)) 0))=z->W.Fin 0 K (iS .i64 z) R:=fun z R h=>by
   rw [h] at hK; exact .sel [] (by simp) (by simp) rfl (.done (by simpa [go_sem] using hK))
  clear hK
  cases hsc:jO v with
  | true=>
   have hs':=hsc
   unfold jO at hs'
   simp (maxSteps:=1000000) -dsimp only [go_sem,aJ v,O9,P5,hs']
   exact fin _ _ (by rw [hsc]; rfl)
  | false=>
   have hs':=hsc
   unfold jO at hs'
   rw [hsc] at fin
   simp (maxSteps:=1000000) -dsimp only [go_sem,aJ v,O9,P5,hs']
   refine aS (α:=Nat) (fun i=>[(1,iS .i64 ((m:Int) - 1)),(2,.va (.c1 (.pt 0 0))),(5,iS .i64 ((v.l.take i).foldl (lI (gN m) ((m:Int) - 1)) 0)),(31,.va (.c1 (.fz (v.l.map aM)))),(32,iS .i64 v.l.length),(33,iS .i64 i)]) (fun _=>[.cells (bJ v) 29])
    (fun i=>i<=v.l.length) (fun i=>v.l.length - i) 0 1 (Nat.zero_le _) ?_ ?_ ?_
   · simp -dsimp only [go_sem]<;>simp
   · simp -dsimp only [go_sem,bJ]<;>simp
   intro i hi
   rcases bE i v.l.length with hlt | hge
   · have hg:decide ((i:Int) < (v.l.length:Int))=true:=by simp; omega
     obtain ⟨x,hx⟩:∃ t,v.l[i]? = some t:=⟨_,aW hlt⟩
     have q1:=nJ hx
     have hxm:=cC hx
     have k1:=cD (hv.l x hxm)
     have k2:=dS x
     have ft:=B8 (f:=lI (gN m) ((m:Int) - 1)) hx 0
     have hbd:=bd1 i
     generalize hd:(v.l.take i).foldl (lI (gN m) ((m:Int) - 1)) 0=d at *
     have hgb:=oJ m x
     cases hc:decide (d<=(m:Int) - 1) with
     | true=>
      have hm0:0 < m:=by have:=of_decide_eq_true hc; omega
      have he:(m:Int) - 1 - 1=(m:Int) - 2:=by omega
      have hn:m<=100:=by omega
      simp (maxSteps:=1000000) -dsimp only [go_sem,hg,↓q1,bJ,k1,k2,hc,he,hm0,hn]
      refine ⟨by omega,by omega,by omega,aE (i + 1) 1 (by omega) (by omega) ?_ ?_⟩
      · simp -dsimp only [go_sem,ft,lI,hc]<;>simp
      · simp -dsimp only [go_sem,bJ]<;>simp [bJ]
     | false=>
      simp (maxSteps:=1000000) -dsimp only [go_sem,hg,↓q1,bJ,hc]
      refine ⟨by omega,by omega,aE (i + 1) 1 (by omega) (by omega) ?_ ?_⟩
      · simp -dsimp only [go_sem,ft,lI,hc]<;>simp
      · simp -dsimp only [go_sem,bJ]<;>simp [bJ]
   · have hg:decide ((i:Int) < (v.l.length:Int))=false:=by simp; omega
     obtain rfl:i=v.l.length:=by omega
     have hbd:=bd1 v.l.length
     rw [List.take_length] at hbd ⊢
     simp (maxSteps:=1000000) -dsimp only [go_sem,hg,bJ]
     generalize v.l.foldl (lI (gN m) ((m:Int) - 1)) 0=D at *
     have bd2:=fun i=>oH (f:=n8 (gN m) ((m:Int) - 1)) (fun d x h=>M4 (oJ m) h x) (v.f.take i) D hbd
     clear hi hge hg bd1
     refine aS (α:=Nat) (fun i=>[(1,iS .i64 ((m:Int) - 1)),(2,.va (.c1 (.pt 0 0))),(5,iS .i64 ((v.f.take i).foldl (n8 (gN m) ((m:Int) - 1)) D)),(48,.va (.c1 (.fz (v.f.map bC)))),(49,iS .i64 v.f.length),(50,iS .i64 i)]) (fun _=>[.cells (bJ v) 29])
      (fun i=>i<=v.f.length) (fun i=>v.f.length - i) 0 1 (Nat.zero_le _) ?_ ?_ ?_
     · simp -dsimp only [go_sem]<;>simp
     · simp -dsimp only [go_sem,bJ]<;>simp
     intro i hi
     rcases bE i v.f.length with hlt | hge
     · have hg:decide ((i:Int) < (v.f.length:Int))=true:=by simp; omega
       obtain ⟨x,hx⟩:∃ t,v.f[i]? = some t:=⟨_,aW hlt⟩
       have q1:=gG hx
       have hxm:=cC hx
       have k1:=cD (hv.f x hxm)
       have k2:=dS x.2
       have ft:=B8 (f:=n8 (gN m) ((m:Int) - 1)) hx D
       have hbd2:=bd2 i
       generalize hd:(v.f.take i).foldl (n8 (gN m) ((m:Int) - 1)) D=d at *
       have hgb:=oJ m x.2
       cases hc:decide (d<=(m:Int) - 1) with
       | true=>
        have hm0:0 < m:=by have:=of_decide_eq_true hc; omega
        have he:(m:Int) - 1 - 1=(m:Int) - 2:=by omega
        have hn:m<=100:=by omega
        simp (maxSteps:=1000000) -dsimp only [go_sem,hg,↓q1,bJ,k1,k2,hc,he,hm0,hn]
        refine ⟨by omega,by omega,by omega,aE (i + 1) 1 (by omega) (by omega) ?_ ?_⟩
        · simp -dsimp only [go_sem,ft,n8,hc]<;>simp
        · simp -dsimp only [go_sem,bJ]<;>simp [bJ]
       | false=>
        simp (maxSteps:=1000000) -dsimp only [go_sem,hg,↓q1,bJ,hc]
        refine ⟨by omega,by omega,aE (i + 1) 1 (by omega) (by omega) ?_ ?_⟩
        · simp -dsimp only [go_sem,ft,n8,hc]<;>simp
        · simp -dsimp only [go_sem,bJ]<;>simp [bJ]
     · have hg:decide ((i:Int) < (v.f.length:Int))=false:=by simp; omega
       obtain rfl:i=v.f.length:=by omega
       have hbd2:=bd2 v.f.length
       rw [List.take_length] at hbd2 ⊢
       simp (maxSteps:=1000000) -dsimp only [go_sem,hg,bJ]
       exact ⟨by omega,fin _ _ rfl⟩
theorem wG:∀ N,Meets Tryz.prog 75 (AU N).sp
 | 0=>⟨by kernel_rfl,by rintro xs vs E ro w K _ _ _ ⟨⟨h,_⟩,_⟩; obtain ⟨_,a,_,_,_,h⟩:=gU h; have:=a.h_pos; omega⟩
 | N + 1=>by
  refine aD Tryz.func75 aMK 2 (by rw [Tryz.ntmps75]; decide) (aG (wG N) (aC j0 (aC F3 (aA _)))) DY ?_
  rintro av H K ⟨⟨h,rfl⟩,hK⟩
  obtain ⟨sc,t,rfl,hs,ht,hh⟩:=gU h
  have hK:K (bS (valF sc.ss sc.es t)) []:=by
   have:(AU (N + 1)).val [.va (.gs (aF sc)),.va (.gs (aU t))]=bA (valF sc.ss sc.es t):=by simp -dsimp only [go_sem]
   rw [this] at hK; exact hK
  clear h
  have fin:∀ (b:Bool) (R:Hp),valF sc.ss sc.es t=b->W.Fin 0 K (bS b) R:=fun b R h=>by
   rw [h] at hK
   exact .sel [] (by simp) (by simp) rfl (.done (by simp -dsimp only [go_sem]; simpa using hK))
  clear hK
  cases t with
  | mk k s n e=>
  have hF:=valF.eq_1 sc.ss sc.es k s n e
  simp (maxSteps:=1000000) -dsimp only [go_sem,aF,aU,bB,aA9,aAW]
  refine ⟨fun k1=>fin _ _ (by rw [hF,k1]; simp only [bD]; ac_rfl),fun k1=>aB rfl (.done ?_)⟩
  rw [k1,aV] at hF
  simp (maxSteps:=1000000) -dsimp only [go_sem,F4]
  refine ⟨fun k2=>aB rfl (.done ?_),fun k2=>aB rfl (.done ?_)⟩
  · rw [k2,bD] at hF
    have hF':valF sc.ss sc.es (.mk k s n e)=((bl n == [] && (e.length:Int) == 0) && (s == 8 || s == 16 || s == 32 || s == 64)):=by rw [hF]; ac_rfl
    clear hF
    cases hp:(bl n == [] && (e.length:Int) == 0) with
    | false=>
     simp (maxSteps:=1000000) -dsimp only [go_sem,mI]
     exact fin _ _ (by rw [hF',hp]; rfl)
    | true=>
     rw [hp,Bool.true_and] at hF'
     cases h8:s == 8 with
     | true=>
      simp (maxSteps:=1000000) -dsimp only [go_sem,mI,h8]
      exact fin _ _ (by rw [hF',h8]; rfl)
     | false=>
     cases h16:s == 16 with
     | true=>
      simp (maxSteps:=1000000) -dsimp only [go_sem,mI,h8,h16]
      exact fin _ _ (by rw [hF',h8,h16]; rfl)
     | false=>
     cases h32:s == 32 with
     | true=>
      simp (maxSteps:=1000000) -dsimp only [go_sem,mI,h8,h16,h32]
      exact fin _ _ (by rw [hF',h8,h16,h32]; rfl)
     | false=>
      simp (maxSteps:=1000000) -dsimp only [go_sem,mI,h8,h16,h32]
      exact fin _ _ (by rw [hF',h8,h16,h32]; rfl)
  rw [k2,aV] at hF
  simp (maxSteps:=1000000) -dsimp only [go_sem,DX]
  refine ⟨fun k3=>aB rfl (.done ?_),fun k3=>aB rfl (.done ?_)⟩
  · rw [k3] at hF
    simp only [bD,Bool.and_false,Bool.or_false] at hF
    have hF':valF sc.ss sc.es (.mk k s n e)=((bl n == [] && (e.length:Int) == 0) && (s == 8 || s == 16 || s == 32)):=by rw [hF]; ac_rfl
    clear hF
    cases hp:(bl n == [] && (e.length:Int) == 0) with
    | false=>
     simp (maxSteps:=1000000) -dsimp only [go_sem,oG]
     exact fin _ _ (by rw [hF',hp]; rfl)
    | true=>
     rw [hp,Bool.true_and] at hF'
     cases h8:s == 8 with
     | true=>
      simp (maxSteps:=1000000) -dsimp only [go_sem,oG,h8]
      exact fin _ _ (by rw [hF',h8]; rfl)
     | false=>
     cases h16:s == 16 with
     | true=>
      simp (maxSteps:=1000000) -dsimp only [go_sem,oG,h8,h16]
      exact fin _ _ (by rw [hF',h8,h16]; rfl)
     | false=>
      simp (maxSteps:=1000000) -dsimp only [go_sem,oG,h8,h16]
      exact fin _ _ (by rw [hF',h8,h16]; rfl)
  rw [k3,aV] at hF
  simp (maxSteps:=1000000) -dsimp only [go_sem,FL]
  refine ⟨fun k4=>fin _ _ (by rw [hF,k4]; simp only [bD]; ac_rfl),fun k4=>aB rfl (.done ?_)⟩
  rw [k4,aV] at hF
  simp (maxSteps:=1000000) -dsimp only [go_sem,AD]
  refine ⟨fun k5=>aB rfl (.done ?_),fun k5=>aB rfl (.done ?_)⟩
  · rw [k5,bD] at hF
    have no:∀ {R:Hp},(bl n == [])=false\/decide (1<=s)=false\/decide (s<=32)=false\/((e.length:Int) == 1)=false->W.Fin 0 K (bS false) R:=fun h=>fin _ _ (by
     rw [hF]
     rcases h with h | h | h | h
     · rw [h,Bool.and_false,Bool.false_and]
     · rw [h,Bool.false_and,Bool.false_and,Bool.false_and]
     · rw [h,Bool.and_false,Bool.false_and,Bool.false_and]
     · match e,h with
       | [],_=>simp [jE]
       | [u],h=>simp at h
       | u :: v :: r,_=>simp [jE])
    cases h1:bl n == [] with
    | false=>
     simp (maxSteps:=1000000) -dsimp only [go_sem,jT,h1]
     exact no (.inl h1)
    | true=>
    cases h2:decide (1<=s) with
    | false=>
     simp (maxSteps:=1000000) -dsimp only [go_sem,jT,h1,h2]
     exact no (.inr (.inl h2))
    | true=>
    cases h3:decide (s<=32) with
    | false=>
     simp (maxSteps:=1000000) -dsimp only [go_sem,jT,h1,h2,h3]
     exact no (.inr (.inr (.inl h3)))
    | true=>
    cases h4:(e.length:Int) == 1 with
    | false=>
     simp (maxSteps:=1000000) -dsimp only [go_sem,jT,h1,h2,h3,h4]
     exact no (.inr (.inr (.inr h4)))
    | true=>
     have hl1:(e.length:Int)=1:=by simpa using h4
     obtain ⟨u,rfl⟩:∃ u,e=[u]:=List.length_eq_one_iff.1 (by omega)
     have hF':valF sc.ss sc.es (.mk k s n [u])=valF sc.ss sc.es u:=by rw [hF,h1,h2,h3]; simp [jE]
     have hu2:u.h<=N:=by rw [Ty.h,Ty.hs,Ty.hs] at hh; omega
     have hu:jZ (aU u):=iT (ht.e u (by simp [Ty.e]))
     have hsf:=kA hs
     rw [aF] at hsf
     have hsd:=jH sc
     rw [aF] at hsd
     have h4':(((1:Nat):Int) == 1)=true:=rfl
     simp (maxSteps:=1000000) -dsimp only [go_sem,jT,h1,h2,h3,h4']
     refine ⟨⟨by omega,fun r hr=>by subst hr; exact dB u⟩,fun r hr=>?_⟩
     subst hr
     simp (maxSteps:=1000000) -dsimp only [go_sem,hsf,hsd,hu,dB]
     exact ⟨hu2,fin _ _ hF'⟩
  rw [k5,aV] at hF
  simp (maxSteps:=1000000) -dsimp only [go_sem,yX]
  refine ⟨fun k6=>aB rfl (.done ?_),fun k6=>aB rfl (.done ?_)⟩
  · rw [k6,bD] at hF
    simp (maxSteps:=1000000) -dsimp only [go_sem,AN]
    refine gW hs ?_
    simp (maxSteps:=1000000) -dsimp only [go_sem,aI]
    refine aB rfl (.done ?_)
    cases h1:cJ sc.ss n<;>cases h2:s == 0 <;>
    · simp (maxSteps:=1000000) -dsimp only [go_sem,AP,h2]
      exact fin _ _ (by rw [hF,h1,h2]; rfl)
  rw [k6,aV] at hF
  simp (maxSteps:=1000000) -dsimp only [go_sem,zO]
  refine ⟨fun k7=>aB rfl (.done ?_),fun k7=>fin _ _ (by rw [hF,k7]; rfl)⟩
  rw [k7,bD] at hF
  simp (maxSteps:=1000000) -dsimp only [go_sem,A6]
  refine oM hs ?_
  simp (maxSteps:=1000000) -dsimp only [go_sem,aY]
  refine aB rfl (.done ?_)
  cases h1:dE sc.es n<;>cases h2:s == 0 <;>
  · simp (maxSteps:=1000000) -dsimp only [go_sem,yK,h2]
    exact fin _ _ (by rw [hF,h1,h2]; rfl)
theorem uD:Meets Tryz.prog 75 r0Fn.sp:=dX 0 wG fun av H K ⟨⟨h,e⟩,hK⟩=>by
 obtain ⟨a,b,rfl,ha,hb⟩:=jF h
 exact ⟨b.h,⟨⟨⟨kA ha,iT hb,by rw [kY]; exact Nat.le_refl _⟩,e⟩,hK⟩⟩
def fA (s:Sc) (t:Ty) (n:Int):Bool:=
 bif t.k == 1 then n == 0 || n == 1
 else bif t.k == 2 then t.s == 64 || (decide (-(2 ^ (t.s.toNat - 1):Int)<=n) && decide (n < (2 ^ (t.s.toNat - 1):Int)))
 else bif t.k == 3 then decide (0<=n) && decide (n < (2 ^ t.s.toNat:Int))
 else bif t.k == 7 then ((c9 s.es t.n).getD default).vs.any fun x=>x == n else false
def jM (s:Sc) (t:Ty) (n:Int) (str:ByteArray) (ll lf:Int):Int:=bif !(bl str == []) || decide (0 < ll) || decide (0 < lf) then 13 else bif fA s t n then 0 else 4
def iI (t:Ty) (n:Int) (str:ByteArray) (ll lf:Int):Int:=bif n != 0 || decide (0 < ll) || decide (0 < lf) then 13 else bif decide (t.s < ((bl str).length:Int)) then 3 else 0
def TW:Option Int->Int->Bool
 | none,_=>true
 | some q,n=>decide (q < n)
def ftA (fs:List Fl):Option Int->List (Int × Vl)->Bool
 | _,[]=>true
 | p,x :: r=>(fF fs x.1).isSome && TW p x.1 && ftA fs (some x.1) r
theorem mH (fs:List Fl) (p:Option Int) (x:Int × Vl) (r:List (Int × Vl)):ftA fs p (x :: r)=((fF fs x.1).isSome && TW p x.1 && ftA fs (some x.1) r):=by rw [ftA.eq_def]
theorem y6 (fs:List Fl) (p:Option Int):ftA fs p []=true:=by rw [ftA.eq_def]
def iN (l:List (Int × Vl)) (n:Int):Bool:=l.any fun y=>y.1 == n
def bY (fs:List Fl) (l:List (Int × Vl)):Bool:=ftA fs none l && fs.all fun f=>f.opt || iN l f.num
mutual
def cH (s:Sc) (t:Ty):Vl->Int
 | .mk k n str l f=>
  bif !(valF s.ss s.es t) || k != t.k then 13
  else bif t.k == 4 then iI t n str l.length f.length
  else bif t.k == 5 then (bif n != 0 || !(bl str == []) || decide (0 < (f.length:Int)) then 13 else bif decide (t.s < (l.length:Int)) then 3 else f7 s (t.e.headD default) l)
  else bif t.k == 6 then (bif n != 0 || !(bl str == []) || decide (0 < (l.length:Int)) || !(bY ((fS s.ss t.n).getD default).fs f) then 13 else hY s ((fS s.ss t.n).getD default).fs f)
  else jM s t n str l.length f.length
def f7 (s:Sc) (t:Ty):List Vl->Int
 | []=>0
 | v :: r=>bif cH s t v != 0 then cH s t v else f7 s t r
def hY (s:Sc) (fs:List Fl):List (Int × Vl)->Int
 | []=>0
 | (i,v) :: r=>bif cH s ((fF fs i).getD default).ty v != 0 then cH s ((fF fs i).getD default).ty v else hY s fs r
end
theorem kU (s:Sc) (t:Ty) (v:Vl):cH s t v=bif !(valF s.ss s.es t) || v.k != t.k then 13
 else bif t.k == 4 then iI t v.n v.s v.l.length v.f.length
 else bif t.k == 5 then (bif v.n != 0 || !(bl v.s == []) || decide (0 < (v.f.length:Int)) then 13 else bif decide (t.s < (v.l.length:Int)) then 3 else f7 s (t.e.headD default) v.l)
 else bif t.k == 6 then (bif v.n != 0 || !(bl v.s == []) || decide (0 < (v.l.length:Int)) || !(bY ((fS s.ss t.n).getD default).fs v.f) then 13 else hY s ((fS s.ss t.n).getD default).fs v.f)
 else jM s t v.n v.s v.l.length v.f.length:=by cases v; rw [cH]; rfl
theorem uI (s:Sc) (fs:List Fl) (x:Int × Vl) (r:List (Int × Vl)):hY s fs (x :: r)=bif cH s ((fF fs x.1).getD default).ty x.2 != 0 then cH s ((fF fs x.1).getD default).ty x.2 else hY s fs r:=by cases x; rw [hY]
abbrev MK:S:=.va (.c1 (.fn 115 [(false,[.pt 0 0])]))
def aA7:W.Spec:=fun av H K=>∃ (x:Int) (v:Vl),av=[iS .i64 x,.va (.c1 (.pt 0 0))]/\H=[.cells (bJ v) 29]/\K (bS (x == v.n)) [.cells (bJ v) 29]
theorem aAJ {x:Int} {v:Vl} {K:S->Hp->Prop} (hK:K (bS (x == v.n)) [.cells (bJ v) 29]):aA7 [iS .i64 x,.va (.c1 (.pt 0 0))] [.cells (bJ v) 29] K:=⟨x,v,rfl,rfl,hK⟩
theorem QC:Meets Tryz.prog 115 aA7:=by
 refine aD Tryz.func115 aFL 2 (by rw [Tryz.ntmps115]; decide) (aA _) (fun av H K h=>by obtain ⟨_,_,rfl,_⟩:=h; rfl) ?_
 rintro av H K ⟨x,v,rfl,rfl,hK⟩
 simp -dsimp only [go_sem,bJ,TL,U2]
 exact .sel [0] (by simp) (by simp) rfl (.done (by simpa [go_sem,bJ] using hK))
def wT (p:Int->Bool):List Int->Nat->Int
 | [],_=>-1
 | x :: l,i=>bif p x then (i:Int) else wT p l (i + 1)
theorem H7 (p:Int->Bool):∀ (l:List Int) (i:Nat),decide (0<=wT p l i)=l.any p
 | [],_=>rfl
 | x :: l,i=>by
  rw [List.any_cons,wT]
  cases h:p x
  · rw [aV,H7 p l (i + 1),Bool.false_or]
  · simp
def ZZ:W.Spec:=fun av H K=>∃ (l:List Int) (v:Vl),av=[.va (.c1 (.fz (l.map eK))),MK]/\H=[.cells (bJ v) 29]/\l.length<=9223372036854775807/\K (iS .i64 (wT (fun x=>x == v.n) l 0)) [.cells (bJ v) 29]
theorem aAF {l:List Int} {v:Vl} {K:S->Hp->Prop} (h:l.length<=9223372036854775807) (hK:K (iS .i64 (wT (fun x=>x == v.n) l 0)) [.cells (bJ v) 29]):ZZ [.va (.c1 (.fz (l.map eK))),MK] [.cells (bJ v) 29] K:=⟨l,v,rfl,rfl,h,hK⟩
theorem XH:Meets Tryz.prog 149 ZZ:=by
 refine aD Tryz.func149 aFE 2 (by rw [Tryz.ntmps149]; decide) (aC QC (aA _)) (fun av H K h=>by obtain ⟨_,_,rfl,_⟩:=h; rfl) ?_
 rintro av H K ⟨l,v,rfl,rfl,hl,hK⟩
 simp -dsimp only [go_sem,S4,UC]
 refine aS (α:=Nat) (fun i=>[(0,.va (.c1 (.fz (l.map eK)))),(1,MK),(7,iS .i64 l.length),(8,iS .i64 i)]) (fun _=>[.cells (bJ v) 29])
  (fun i=>i<=l.length/\wT (fun x=>x == v.n) (l.drop i) i=wT (fun x=>x == v.n) l 0) (fun i=>l.length - i) 0 1 ⟨Nat.zero_le _,rfl⟩ ?_ ?_ ?_
 · simp -dsimp only [go_sem]<;>simp
 · simp -dsimp only [go_sem,bJ]<;>simp
 rintro i ⟨hi,ho⟩
 rcases bE i l.length with hlt | hge
 · have hg:decide ((i:Int) < (l.length:Int))=true:=by simp; omega
   have hx:l[i]? = some l[i]:=aW hlt
   have q2:=a7 (row:=eK) hx
   rw [List.drop_eq_getElem_cons hlt,wT] at ho
   generalize l[i]=y at *
   simp -dsimp only [go_sem,hg,↓q2]
   refine ⟨by omega,aAJ ?_⟩
   cases hc:y == v.n with
   | true=>
    rw [hc,bD] at ho
    simp -dsimp only [go_sem]
    exact .sel [0] (by simp) (by simp) rfl (.done (by simpa [go_sem,bJ,ho] using hK))
   | false=>
    rw [hc,aV] at ho
    simp -dsimp only [go_sem]
    refine ⟨by omega,aE (i + 1) 1 ⟨by omega,ho⟩ (by omega) ?_ ?_⟩
    · simp -dsimp only [go_sem]<;>simp
    · simp -dsimp only [go_sem,bJ]<;>simp [bJ]
 · have hg:decide ((i:Int) < (l.length:Int))=false:=by simp; omega
   have:l.drop i=[]:=List.drop_eq_nil_iff.2 (by omega)
   rw [this] at ho
   simp -dsimp only [go_sem,hg]
   exact .sel [0] (by simp) (by simp) rfl (.done (by rw [show wT (fun x=>x == v.n) l 0=-1 from ho.symm] at hK; simpa [go_sem,bJ] using hK))
def ZS:W.Spec:=fun av H K=>∃ (l:List Int) (v:Vl),av=[.va (.c1 (.fz (l.map eK))),MK]/\H=[.cells (bJ v) 29]/\l.length<=9223372036854775807/\K (bS (l.any fun x=>x == v.n)) [.cells (bJ v) 29]
theorem Z9 {l:List Int} {v:Vl} {K:S->Hp->Prop} (h:l.length<=9223372036854775807) (hK:K (bS (l.any fun x=>x == v.n)) [.cells (bJ v) 29]):ZS [.va (.c1 (.fz (l.map eK))),MK] [.cells (bJ v) 29] K:=⟨l,v,rfl,rfl,h,hK⟩
theorem K7:Meets Tryz.prog 114 ZS:=by
 refine aD Tryz.func114 aHD 2 (by rw [Tryz.ntmps114]; decide) (aC XH (aA _)) (fun av H K h=>by obtain ⟨_,_,rfl,_⟩:=h; rfl) ?_
 rintro av H K ⟨l,v,rfl,rfl,hl,hK⟩
 simp -dsimp only [go_sem,bJ,SI,S2]
 refine aAF hl ?_
 simp -dsimp only [go_sem,bJ,H7]
 exact .sel [0] (by simp) (by simp) rfl (.done (by simpa [go_sem,bJ] using hK))
abbrev LY:S:=.va (.c1 (.fn 151 [(false,[.pt 0 0])]))
def JH (x:Int × Vl):List C:=[.vl (.int .i64 x.1),.vl (.int .i64 x.2.k),.vl (.int .i64 x.2.n),.vl (.string x.2.s),.fz (x.2.l.map aM),.fz (x.2.f.map bC)]
def UF:W.Spec:=fun av H K=>∃ (x:Int × Vl) (f:Fl),av=[.va (.gs (JH x)),.va (.c1 (.pt 0 0))]/\H=[.cells (aT f) 52]/\K (bS (x.1 == f.num)) [.cells (aT f) 52]
theorem XA {x:Int × Vl} {f:Fl} {K:S->Hp->Prop} (hK:K (bS (x.1 == f.num)) [.cells (aT f) 52]):UF [.va (.gs (JH x)),.va (.c1 (.pt 0 0))] [.cells (aT f) 52] K:=⟨x,f,rfl,rfl,hK⟩
theorem aDK:Meets Tryz.prog 151 UF:=by
 refine aD Tryz.func151 aEU 2 (by rw [Tryz.ntmps151]; decide) (aA _) (fun av H K h=>by obtain ⟨_,_,rfl,_⟩:=h; rfl) ?_
 rintro av H K ⟨x,f,rfl,rfl,hK⟩
 simp -dsimp only [go_sem,JH,aT,UG,TM]
 exact .sel [0] (by simp) (by simp) rfl (.done (by simpa [go_sem,aT] using hK))
def i5 (n:Int):List (Int × Vl)->Nat->Int
 | [],_=>-1
 | x :: l,i=>bif x.1 == n then (i:Int) else i5 n l (i + 1)
theorem HM (n:Int):∀ (l:List (Int × Vl)) (i:Nat),decide (0<=i5 n l i)=iN l n
 | [],_=>rfl
 | x :: l,i=>by
  rw [iN,List.any_cons,i5]
  cases h:x.1 == n
  · rw [aV,HM n l (i + 1),Bool.false_or]; rfl
  · simp
def aC5:W.Spec:=fun av H K=>∃ (l:List (Int × Vl)) (f:Fl),av=[.va (.c1 (.fz (l.map bC))),LY]/\H=[.cells (aT f) 52]/\l.length<=9223372036854775807/\K (iS .i64 (i5 f.num l 0)) [.cells (aT f) 52]
theorem Y8 {l:List (Int × Vl)} {f:Fl} {K:S->Hp->Prop} (h:l.length<=9223372036854775807) (hK:K (iS .i64 (i5 f.num l 0)) [.cells (aT f) 52]):aC5 [.va (.c1 (.fz (l.map bC))),LY] [.cells (aT f) 52] K:=⟨l,f,rfl,rfl,h,hK⟩
theorem XV:Meets Tryz.prog 117 aC5:=by
 refine aD Tryz.func117 TK 2 (by rw [Tryz.ntmps117]; decide) (aC aDK (aA _)) (fun av H K h=>by obtain ⟨_,_,rfl,_⟩:=h; rfl) ?_
 rintro av H K ⟨l,f,rfl,rfl,hl,hK⟩
 simp -dsimp only [go_sem,KT,J8]
 refine aS (α:=Nat) (fun i=>[(0,.va (.c1 (.fz (l.map bC)))),(1,LY),(7,iS .i64 l.length),(8,iS .i64 i)]) (fun _=>[.cells (aT f) 52])
  (fun i=>i<=l.length/\i5 f.num (l.drop i) i=i5 f.num l 0) (fun i=>l.length - i) 0 1 ⟨Nat.zero_le _,rfl⟩ ?_ ?_ ?_
 · simp -dsimp only [go_sem]<;>simp
 · simp -dsimp only [go_sem,aT]<;>simp
 rintro i ⟨hi,ho⟩
 rcases bE i l.length with hlt | hge
 · have hg:decide ((i:Int) < (l.length:Int))=true:=by simp; omega
   have hx:l[i]? = some l[i]:=aW hlt
   have q2:=gG hx
   rw [List.drop_eq_getElem_cons hlt,i5] at ho
   generalize l[i]=y at *
   simp -dsimp only [go_sem,hg,↓q2]
   refine ⟨by omega,XA ?_⟩
   cases hc:y.1 == f.num with
   | true=>
    rw [hc,bD] at ho
    simp -dsimp only [go_sem]
    exact .sel [0] (by simp) (by simp) rfl (.done (by simpa [go_sem,aT,ho] using hK))
   | false=>
    rw [hc,aV] at ho
    simp -dsimp only [go_sem]
    refine ⟨by omega,aE (i + 1) 1 ⟨by omega,ho⟩ (by omega) ?_ ?_⟩
    · simp -dsimp only [go_sem]<;>simp
    · simp -dsimp only [go_sem,aT]<;>simp [aT]
 · have hg:decide ((i:Int) < (l.length:Int))=false:=by simp; omega
   have:l.drop i=[]:=List.drop_eq_nil_iff.2 (by omega)
   rw [this] at ho
   simp -dsimp only [go_sem,hg]
   exact .sel [0] (by simp) (by simp) rfl (.done (by rw [show i5 f.num l 0=-1 from ho.symm] at hK; simpa [go_sem,aT] using hK))
def ZN:W.Spec:=fun av H K=>∃ (l:List (Int × Vl)) (f:Fl),av=[.va (.c1 (.fz (l.map bC))),LY]/\H=[.cells (aT f) 52]/\l.length<=9223372036854775807/\K (bS (iN l f.num)) [.cells (aT f) 52]
theorem aBZ {l:List (Int × Vl)} {f:Fl} {K:S->Hp->Prop} (h:l.length<=9223372036854775807) (hK:K (bS (iN l f.num)) [.cells (aT f) 52]):ZN [.va (.c1 (.fz (l.map bC))),LY] [.cells (aT f) 52] K:=⟨l,f,rfl,rfl,h,hK⟩
theorem LD:Meets Tryz.prog 150 ZN:=by
 refine aD Tryz.func150 aHS 2 (by rw [Tryz.ntmps150]; decide) (aC XV (aA _)) (fun av H K h=>by obtain ⟨_,_,rfl,_⟩:=h; rfl) ?_
 rintro av H K ⟨l,f,rfl,rfl,hl,hK⟩
 simp -dsimp only [go_sem,aT,VN,VJ]
 refine Y8 hl ?_
 simp -dsimp only [go_sem,aT,HM]
 exact .sel [0] (by simp) (by simp) rfl (.done (by simpa [go_sem,aT] using hK))
def C3 (P:Sc->Ty->Vl->Prop):List S->Prop:=fun av=>match av with
 | [.va (.gs r),.va (.gs q),.va (.gs p)]=>lZ r/\jZ q/\kD p/\P (C.sc r) (C.ty q) (C.vv p)
 | _=>False
theorem qI {P:Sc->Ty->Vl->Prop} {av:List S} (h:C3 P av):∃ s t v,av=[.va (.gs (aF s)),.va (.gs (aU t)),.va (.gs (aM v))]/\s.fit/\TyOk t/\VlOk v/\P s t v:=by
 unfold C3 at h
 split at h
 · obtain ⟨⟨s,rfl,hs⟩,⟨t,rfl,ht⟩,⟨v,rfl,hv⟩,h⟩:=h
   rw [jH,kY,fG] at h
   exact ⟨s,t,v,rfl,hs,ht,hv,h⟩
 · exact h.elim
noncomputable def TV (f:Sc->Ty->Vl->Value):List S->A:=fun av=>match av with
 | [.va (.gs r),.va (.gs q),.va (.gs p)]=>.c1 (.vl (f (C.sc r) (C.ty q) (C.vv p)))
 | _=>.gs []
noncomputable def eC (P:Sc->Ty->Vl->Prop) (f:Sc->Ty->Vl->Value):Fun:=⟨C3 P,TV f,fun av h=>by obtain ⟨_,_,_,rfl,_⟩:=qI h; trivial⟩
theorem eF {P:Sc->Ty->Vl->Prop} {f:Sc->Ty->Vl->Value}:∀ av H K,(eC P f).sp av H K->av.length=3:=fun av H K h=>by obtain ⟨_,_,_,rfl,_⟩:=qI h.1.1; rfl
attribute [go_sem] eC C3 TV
theorem dF {P:Sc->Ty->Vl->Prop} {f:Sc->Ty->Vl->Value} {av:List S} {H:Hp} {K:S->Hp->Prop} (h:(eC P f).sp av H K) :
 ∃ s t v,av=[.va (.gs (aF s)),.va (.gs (aU t)),.va (.gs (aM v))]/\H=[]/\s.fit/\TyOk t/\VlOk v/\P s t v/\K (.va (.c1 (.vl (f s t v)))) []:=by
 obtain ⟨⟨h,rfl⟩,hK⟩:=h
 obtain ⟨s,t,v,rfl,hs,ht,hv,hp⟩:=qI h
 have:(eC P f).val [.va (.gs (aF s)),.va (.gs (aU t)),.va (.gs (aM v))]=.c1 (.vl (f s t v)):=by simp -dsimp only [go_sem]
 rw [this] at hK
 exact ⟨s,t,v,rfl,rfl,hs,ht,hv,hp,hK⟩
theorem aDU:Meets Tryz.prog 77 (eC (fun _ _ _=>True) fun _ t v=>.int .i64 (iI t v.n v.s v.l.length v.f.length)).sp:=by
 refine aD Tryz.func77 aKK 3 (by rw [Tryz.ntmps77]; decide) (aA _) eF ?_
 intro av H K h
 obtain ⟨s,t,v,rfl,rfl,hs,ht,hv,_,hK⟩:=dF h
 clear h
 have fin:∀ (z:Int) (R:Hp),iI t v.n v.s v.l.length v.f.length=z->W.Fin 0 K (iS .i64 z) R:=fun z R h=>by
  rw [h] at hK; exact .sel [] (by simp) (by simp) rfl (.done (by simpa [go_sem] using hK))
 clear hK
 unfold iI at fin
 cases h1:v.n != 0<;>cases h2:decide (0 < (v.l.length:Int))<;>cases h3:decide (0 < (v.f.length:Int))<;>cases h4:decide (t.s < ((bl v.s).length:Int)) <;>
 · rw [h1,h2,h3,h4] at fin
   simp (maxSteps:=1000000) -dsimp only [go_sem,aF,aL t,aJ v,aAU,ZX,h1,h2,h3,h4]
   exact fin _ _ rfl
theorem aA6 {ss:List St} {es:List En} {t:Ty} (h:valF ss es t=true) (k:(t.k == 2)=true):t.s=8\/t.s=16\/t.s=32\/t.s=64:=by
 cases t with
 | mk k0 s n e=>
  obtain rfl:k0=2:=by have k:(k0 == 2)=true:=k; simpa using k
  rw [valF] at h
  have:(s == 8 || s == 16 || s == 32 || s == 64)=true:=by
   simp only [show ((2:Int) == 1)=false from rfl,show ((2:Int) == 2)=true from rfl,bD,aV,Bool.and_eq_true] at h
   exact h.1.1
  show s=8\/s=16\/s=32\/s=64
  simp only [Bool.or_eq_true,beq_iff_eq] at this
  omega
theorem OW {ss:List St} {es:List En} {t:Ty} (h:valF ss es t=true) (k:(t.k == 3)=true):t.s=8\/t.s=16\/t.s=32:=by
 cases t with
 | mk k0 s n e=>
  obtain rfl:k0=3:=by have k:(k0 == 3)=true:=k; simpa using k
  rw [valF] at h
  have:(s == 8 || s == 16 || s == 32)=true:=by
   simp only [show ((3:Int) == 1)=false from rfl,show ((3:Int) == 2)=false from rfl,show ((3:Int) == 3)=true from rfl,bD,aV,Bool.and_eq_true,Bool.and_false,Bool.or_false] at h
   exact h.1.1
  show s=8\/s=16\/s=32
  simp only [Bool.or_eq_true,beq_iff_eq] at this
  omega
theorem P6:Meets Tryz.prog 76 (eC (fun s t _=>valF s.ss s.es t=true) fun s t v=>.int .i64 (jM s t v.n v.s v.l.length v.f.length)).sp:=by
 refine aD Tryz.func76 aME 3 (by rw [Tryz.ntmps76]; decide) (aC F3 (aC K7 (aA _))) eF ?_
 intro av H K h
 obtain ⟨s,t,v,rfl,rfl,hs,ht,hv,hp,hK⟩:=dF h
 clear h
 have fin:∀ (z:Int) (R:Hp),jM s t v.n v.s v.l.length v.f.length=z->W.Fin 0 K (iS .i64 z) R:=fun z R h=>by
  rw [h] at hK; exact .sel [] (by simp) (by simp) rfl (.done (by simpa [go_sem] using hK))
 clear hK
 unfold jM at fin
 cases h1:bl v.s == [] with
 | false=>
  rw [h1] at fin
  simp (maxSteps:=1000000) -dsimp only [go_sem,aF,aL t,aJ v,FY,FX,h1]
  exact fin _ _ rfl
 | true=>
 cases h2:decide (0 < (v.l.length:Int)) with
 | true=>
  rw [h1,h2] at fin
  simp (maxSteps:=1000000) -dsimp only [go_sem,aF,aL t,aJ v,FY,FX,h1,h2]
  exact fin _ _ rfl
 | false=>
 cases h3:decide (0 < (v.f.length:Int)) with
 | true=>
  rw [h1,h2,h3] at fin
  simp (maxSteps:=1000000) -dsimp only [go_sem,aF,aL t,aJ v,FY,FX,h1,h2,h3]
  exact fin _ _ rfl
 | false=>
 rw [h1,h2,h3] at fin
 simp only [Bool.not_true,Bool.or_self,aV] at fin
 unfold fA at fin
 simp (maxSteps:=1000000) -dsimp only [go_sem,aF,aL t,aJ v,FY,FX,h1,h2,h3]
 refine ⟨fun k1=>aB rfl (.done ?_),fun k1=>aB rfl (.done ?_)⟩
 · rw [k1,bD] at fin
   simp (maxSteps:=1000000) -dsimp only [go_sem,GS]
   refine aB rfl (.done ?_)
   cases h4:(v.n == 0 || v.n == 1) <;>
   · rw [h4] at fin
     simp (maxSteps:=1000000) -dsimp only [go_sem,iV]
     exact fin _ _ rfl
 rw [k1,aV] at fin
 simp (maxSteps:=1000000) -dsimp only [go_sem,ED]
 refine ⟨fun k2=>aB rfl (.done ?_),fun k2=>aB rfl (.done ?_)⟩
 · rw [k2,bD] at fin
   cases h64:t.s == 64 with
   | true=>
    rw [h64] at fin
    simp (maxSteps:=1000000) -dsimp only [go_sem,xC,h64,Bool.false_and]
    refine aB rfl (.done ?_)
    simp (maxSteps:=1000000) -dsimp only [go_sem,iV]
    exact fin _ _ rfl
   | false=>
    rw [h64,Bool.false_or] at fin
    obtain ⟨b1,b2,e1,e2⟩:8<=t.s/\t.s<=32/\IntKind.i64.wrap (-1 * 2 ^ min (t.s - 1).toNat 64)=-(2 ^ (t.s.toNat - 1):Int)/\IntKind.i64.wrap (1 * 2 ^ min (t.s - 1).toNat 64)=(2 ^ (t.s.toNat - 1):Int):=by
     rcases aA6 hp k2 with hz | hz | hz | hz
     · rw [hz]; decide
     · rw [hz]; decide
     · rw [hz]; decide
     · rw [hz] at h64; simp at h64
    have f1:(0<=t.s - 1)=True:=eq_true (by omega)
    have f2:(-9223372036854775808<=t.s - 1)=True:=eq_true (by omega)
    have f3:(t.s - 1<=9223372036854775807)=True:=eq_true (by omega)
    generalize (2 ^ (t.s.toNat - 1):Int)=hi at *
    cases h4:decide (-hi<=v.n)<;>cases h5:decide (v.n < hi) <;>
    · rw [h4,h5] at fin
      simp (maxSteps:=1000000) -dsimp only [go_sem,xC,h64,e1,e2,h4,h5,f1,f2,f3]
      refine aB rfl (.done ?_)
      simp (maxSteps:=1000000) -dsimp only [go_sem,iV]
      exact fin _ _ rfl
 rw [k2,aV] at fin
 simp (maxSteps:=1000000) -dsimp only [go_sem,F5]
 refine ⟨fun k3=>aB rfl (.done ?_),fun k3=>aB rfl (.done ?_)⟩
 · rw [k3,bD] at fin
   obtain ⟨b1,e1⟩:0<=t.s/\IntKind.i64.wrap (1 * 2 ^ min t.s.toNat 64)=(2 ^ t.s.toNat:Int):=by
    rcases OW hp k3 with hz | hz | hz
    · rw [hz]; decide
    · rw [hz]; decide
    · rw [hz]; decide
   generalize (2 ^ t.s.toNat:Int)=hi at *
   cases h4:decide (0<=v.n)<;>cases h5:decide (v.n < hi) <;>
   · rw [h4,h5] at fin
     simp (maxSteps:=1000000) -dsimp only [go_sem,yQ,e1,h4,h5,b1]
     refine aB rfl (.done ?_)
     simp (maxSteps:=1000000) -dsimp only [go_sem,iV]
     exact fin _ _ rfl
 rw [k3,aV] at fin
 simp (maxSteps:=1000000) -dsimp only [go_sem,AG]
 refine ⟨fun k7=>aB rfl (.done ?_),fun k7=>aB rfl (.done ?_)⟩
 · rw [k7,bD] at fin
   simp (maxSteps:=1000000) -dsimp only [go_sem,AQ]
   refine oM (s:=s) hs ?_
   generalize hu:(c9 s.es t.n).getD default=u at *
   have hul:u.vs.length<=9223372036854775807:=by
    rw [<-hu]
    cases hf:c9 s.es t.n with
    | none=>exact Nat.zero_le _
    | some w=>exact (hs.ok.es w (A4 hf).1).lv
   simp (maxSteps:=1000000) -dsimp only [go_sem,aY]
   refine aB rfl (.done ?_)
   simp (maxSteps:=1000000) -dsimp only [go_sem,AW]
   refine Z9 hul ?_
   simp (maxSteps:=1000000) -dsimp only [go_sem,bJ]
   refine aB rfl (.done ?_)
   cases h4:u.vs.any fun x=>x == v.n <;>
   · rw [h4] at fin
     simp (maxSteps:=1000000) -dsimp only [go_sem,iV]
     exact fin _ _ rfl
 rw [k7] at fin
 simp (maxSteps:=1000000) -dsimp only [go_sem,iV]
 exact fin _ _ rfl
theorem HS {a b:Int × Vl} (h:bC a=bC b):a=b:=by
 obtain ⟨i,x⟩:=a
 obtain ⟨j,y⟩:=b
 obtain ⟨h1,h2⟩:=List.cons.inj h
 have e:i=j:=by simpa using h1
 have e2:x=y:=sK h2
 rw [e,e2]
instance:Inhabited (Int × Vl):=⟨(0,default)⟩
noncomputable def C.ve:=qN bC
@[go_sem] theorem aRX (v:Int × Vl):C.ve (bC v)=v:=iF HS v
@[go_sem] theorem aBR (l:List (Int × Vl)):(l.map bC).map C.ve=l:=kC HS l
def DO (r:List C):Prop:=∃ u:St,r=aI u/\u.ok/\∀ f ∈ u.fs,TySm f.ty
def Y1 (rs:List (List C)):Prop:=∃ l:List (Int × Vl),rs=l.map bC/\l.length * 88<=140737488355328/\∀ x ∈ l,bU x.1/\VlOk x.2
theorem V8 {v:Vl} (h:VlOk v):Y1 (v.f.map bC):=⟨v.f,rfl,h.lf,fun x hx=>⟨h.fn x hx,h.f x hx⟩⟩
theorem FH {s:Sc} (hs:s.fit) (n:ByteArray):DO (aI ((fS s.ss n).getD default)):=by
 refine ⟨_,rfl,?_⟩
 cases hf:fS s.ss n with
 | none=>exact ⟨St.ok_default,fun f hf=>(List.not_mem_nil hf).elim⟩
 | some w=>exact ⟨hs.ok.ss w (gO hf).1,(hs.sm w (gO hf).1).2⟩
def wL:List S->Prop:=fun av=>match av with
 | [.va (.gs r),.va (.c1 (.fz rs))]=>DO r/\Y1 rs
 | _=>False
theorem nR {av:List S} (h:wL av):∃ (u:St) (l:List (Int × Vl)),av=[.va (.gs (aI u)),.va (.c1 (.fz (l.map bC)))]/\u.ok/\(∀ f ∈ u.fs,TySm f.ty)/\l.length * 88<=140737488355328/\∀ x ∈ l,bU x.1/\VlOk x.2:=by
 unfold wL at h
 split at h
 · obtain ⟨⟨u,rfl,h1,h2⟩,⟨l,rfl,h3,h4⟩⟩:=h; exact ⟨u,l,rfl,h1,h2,h3,h4⟩
 · exact h.elim
noncomputable def NZ:List S->A:=fun av=>match av with
 | [.va (.gs r),.va (.c1 (.fz rs))]=>bA (bY (C.st r).fs (rs.map C.ve))
 | _=>.gs []
noncomputable def ftFn1:Fun:=⟨wL,NZ,fun av h=>by obtain ⟨_,_,rfl,_⟩:=nR h; trivial⟩
theorem LK:∀ av H K,ftFn1.sp av H K->av.length=2:=fun av H K h=>by obtain ⟨_,_,rfl,_⟩:=nR h.1.1; rfl
attribute [go_sem] ftFn1 wL NZ
def t6 (l:List (Int × Vl)):Nat->Option Int
 | 0=>none
 | j + 1=>(l[j]?).map (·.1)
theorem M8 {l:List (Int × Vl)} {n:Int} {x:Int × Vl} (h:l[n.toNat]? = some x) (p:List C->Prop):(∀ r,(l.map bC)[n.toNat]? = some r->p r)=p [.vl (.int .i64 x.1),.vl (.int .i64 x.2.k),.vl (.int .i64 x.2.n),.vl (.string x.2.s),.fz (x.2.l.map aM),.fz (x.2.f.map bC)]:=by
 rw [<-jN]; exact LX (row:=bC) h p
theorem aAM:Meets Tryz.prog 116 ftFn1.sp:=by
 refine aD Tryz.func116 aFA 2 (by rw [Tryz.ntmps116]; decide) (aC qZ (aC LD (aA _))) LK ?_
 rintro av H K ⟨⟨h,rfl⟩,hK⟩
 obtain ⟨u,l,rfl,hu,hus,hl,hlo⟩:=nR h
 replace hK:K (bS (bY u.fs l)) []:=by
  have:ftFn1.val [.va (.gs (aI u)),.va (.c1 (.fz (l.map bC)))]=bA (bY u.fs l):=by simp -dsimp only [go_sem]
  rw [this] at hK; exact hK
 clear h
 have fin:∀ (b:Bool) (R:Hp),bY u.fs l=b->W.Fin 0 K (bS b) R:=fun b R h=>by
  rw [h] at hK; exact .sel [] (by simp) (by simp) rfl (.done (by simpa [go_sem] using hK))
 clear hK
 have hfl:=hu.len
 generalize hR:u.fs.all (fun f=>f.opt || iN l f.num)=R2
 have hF:bY u.fs l=(ftA u.fs none l && R2):=by rw [<-hR]; rfl
 rw [hF] at fin
 generalize hR0:(ftA u.fs none l && R2)=R0 at fin
 clear hF
 simp (maxSteps:=1000000) -dsimp only [go_sem,aI,SZ,T3]
 refine aS (α:=Nat) (fun i=>[(1,.va (.c1 (.fz (l.map bC)))),(2,.va (.c1 (.pt 0 0))),(11,.va (.c1 (.fz (l.map bC)))),(12,iS .i64 l.length),(13,iS .i64 i)]) (fun _=>[.cells (aI u) 48])
  (fun i=>i<=l.length/\(ftA u.fs (t6 l i) (l.drop i) && R2)=R0) (fun i=>l.length - i) 0 1 ⟨Nat.zero_le _,hR0⟩ ?_ ?_ ?_
 · simp -dsimp only [go_sem]<;>simp
 · simp -dsimp only [go_sem,aI]<;>simp
 rintro i ⟨hi,ho⟩
 rcases bE i l.length with hlt | hge
 · have hg:decide ((i:Int) < (l.length:Int))=true:=by simp; omega
   obtain ⟨x,hx⟩:∃ t,l[i]? = some t:=⟨_,aW hlt⟩
   have q1:=gG hx
   have hdr:l.drop i=x :: l.drop (i + 1):=by
    obtain ⟨h,rfl⟩:=bH.1 hx
    exact List.drop_eq_getElem_cons h
   have hpv:t6 l (i + 1)=some x.1:=by rw [t6,hx]; rfl
   rw [hdr,mH,<-hpv] at ho
   simp (maxSteps:=1000000) -dsimp only [go_sem,hg,↓q1,aI]
   refine ⟨by omega,aB rfl (.done ?_)⟩
   simp (maxSteps:=1000000) -dsimp only [go_sem,yT]
   refine zJ (t:=u) hu hus ?_
   cases hf:fF u.fs x.1 with
   | none=>
    rw [hf] at ho
    simp (maxSteps:=1000000) -dsimp only [go_sem,sJ,Option.getD_none,Option.isSome_none]
    refine aB rfl (.done ?_)
    simp (maxSteps:=1000000) -dsimp only [go_sem,l9,Bool.false_and]
    exact fin _ _ ho.symm
   | some g=>
    rw [hf,Option.isSome_some,Bool.true_and] at ho
    simp (maxSteps:=1000000) -dsimp only [go_sem,aT,Option.getD_some,Option.isSome_some]
    refine aB rfl (.done ?_)
    cases hz:decide ((0:Int) < (i:Int)) with
    | false=>
     obtain rfl:i=0:=by have:=of_decide_eq_false hz; omega
     simp (maxSteps:=1000000) -dsimp only [go_sem,l9,hz]
     refine ⟨by omega,aE (0 + 1) 1 ⟨by omega,ho⟩ (by omega) ?_ ?_⟩
     · simp -dsimp only [go_sem]<;>simp
     · simp -dsimp only [go_sem,aI]<;>simp [aI]
    | true=>
     have hz':=of_decide_eq_true hz
     obtain ⟨y,hy⟩:∃ t,l[i - 1]? = some t:=⟨_,aW (by omega)⟩
     have hti:((i:Int) - 1).toNat=i - 1:=by omega
     have q2:=fun p=>M8 (n:=(i:Int) - 1) (x:=y) (by rw [hti]; exact hy) p
     have hpi:t6 l i=some y.1:=by
      match i,hz',hy with
      | j + 1,_,hy=>rw [t6]; rw [show j + 1 - 1=j by omega] at hy; rw [hy]; rfl
     rw [hpi,TW] at ho
     have f1:(0<=(i:Int) - 1)=True:=eq_true (by omega)
     have f2:((i:Int) - 1 < (l.length:Int))=True:=eq_true (by omega)
     cases hc:decide (x.1<=y.1) with
     | true=>
      have:decide (y.1 < x.1)=false:=by have:=of_decide_eq_true hc; simp; omega
      rw [this] at ho
      simp (maxSteps:=1000000) -dsimp only [go_sem,l9,hz,↓q2,hc,f1,f2]
      exact ⟨by omega,fin _ _ ho.symm⟩
     | false=>
      have:decide (y.1 < x.1)=true:=by have:=of_decide_eq_false hc; simp; omega
      rw [this,Bool.true_and] at ho
      simp (maxSteps:=1000000) -dsimp only [go_sem,l9,hz,↓q2,hc,f1,f2]
      refine ⟨by omega,by omega,aE (i + 1) 1 ⟨by omega,ho⟩ (by omega) ?_ ?_⟩
      · simp -dsimp only [go_sem]<;>simp
      · simp -dsimp only [go_sem,aI]<;>simp [aI]
 · have hg:decide ((i:Int) < (l.length:Int))=false:=by simp; omega
   obtain rfl:i=l.length:=by omega
   rw [List.drop_length,y6,Bool.true_and] at ho
   simp (maxSteps:=1000000) -dsimp only [go_sem,hg,aI]
   refine aB rfl (.done ?_)
   simp (maxSteps:=1000000) -dsimp only [go_sem,AH]
   clear hi hge hg hR0
   rw [<-hR] at ho
   clear hR
   refine aS (α:=Nat) (fun i=>[(1,.va (.c1 (.fz (l.map bC)))),(2,.va (.c1 (.pt 0 0))),(44,.va (.c1 (.fz (u.fs.map aT)))),(45,iS .i64 u.fs.length),(46,iS .i64 i)]) (fun _=>[.cells (aI u) 48])
    (fun i=>i<=u.fs.length/\(u.fs.drop i).all (fun f=>f.opt || iN l f.num)=R0) (fun i=>u.fs.length - i) 0 1 ⟨Nat.zero_le _,ho⟩ ?_ ?_ ?_
   · simp -dsimp only [go_sem]<;>simp
   · simp -dsimp only [go_sem,aI]<;>simp
   clear ho
   rintro i ⟨hi,ho⟩
   rcases bE i u.fs.length with hlt | hge
   · have hg:decide ((i:Int) < (u.fs.length:Int))=true:=by simp; omega
     obtain ⟨f,hx⟩:∃ t,u.fs[i]? = some t:=⟨_,aW hlt⟩
     have q1:=a7 (row:=aT) hx
     rw [PL hx] at ho
     simp (maxSteps:=1000000) -dsimp only [go_sem,hg,↓q1,aI,aT]
     refine ⟨by omega,aB rfl (.done ?_)⟩
     cases hop:f.opt with
     | true=>
      rw [hop,Bool.true_or,Bool.true_and] at ho
      simp (maxSteps:=1000000) -dsimp only [go_sem,pS]
      refine ⟨by omega,aE (i + 1) 1 ⟨by omega,ho⟩ (by omega) ?_ ?_⟩
      · simp -dsimp only [go_sem]<;>simp
      · simp -dsimp only [go_sem,aI]<;>simp [aI]
     | false=>
      rw [hop,Bool.false_or] at ho
      have cu:=fun K h=>aBZ (l:=l) (f:=f) (K:=K) (by omega) h
      rw [aT,hop] at cu
      simp (maxSteps:=1000000) -dsimp only [go_sem,pS]
      refine cu _ ?_
      cases hc:iN l f.num with
      | false=>
       rw [hc,Bool.false_and] at ho
       simp (maxSteps:=1000000) -dsimp only [go_sem]
       exact fin _ _ ho.symm
      | true=>
       rw [hc,Bool.true_and] at ho
       simp (maxSteps:=1000000) -dsimp only [go_sem]
       refine ⟨by omega,aE (i + 1) 1 ⟨by omega,ho⟩ (by omega) ?_ ?_⟩
       · simp -dsimp only [go_sem]<;>simp
       · simp -dsimp only [go_sem,aI]<;>simp [aI]
   · have hg:decide ((i:Int) < (u.fs.length:Int))=false:=by simp; omega
     obtain rfl:i=u.fs.length:=by omega
     rw [VX] at ho
     simp (maxSteps:=1000000) -dsimp only [go_sem,hg,aI]
     exact fin _ _ ho.symm
abbrev UT (s:Sc) (t:Ty) (v:Vl):Value:=.int .i64 (cH s t v)
abbrev qW (N:Nat):Sc->Ty->Vl->Prop:=fun _ _ v=>v.h<=N
def JX (s:Sc) (t:Ty) (v:Vl):Int:=bif v.n != 0 || !(bl v.s == []) || decide (0 < (v.f.length:Int)) then 13 else bif decide (t.s < (v.l.length:Int)) then 3 else f7 s (t.e.headD default) v.l
def KG (s:Sc) (t:Ty) (v:Vl):Int:=bif v.n != 0 || !(bl v.s == []) || decide (0 < (v.l.length:Int)) || !(bY ((fS s.ss t.n).getD default).fs v.f) then 13 else hY s ((fS s.ss t.n).getD default).fs v.f
theorem d7 {t:Ty} (h:TyOk t):jZ [.vl (.int .i64 t.k),.vl (.int .i64 t.s),.vl (.string t.n),.fz (t.e.map aU)]:=by rw [<-aL]; exact iT h
theorem iP (t:Ty):C.ty [.vl (.int .i64 t.k),.vl (.int .i64 t.s),.vl (.string t.n),.fz (t.e.map aU)]=t:=by rw [<-aL,kY]
theorem dQ {s:Sc} (h:s.fit):lZ [.vl (.int .i64 s.ver),.fz (s.es.map aY),.fz (s.ss.map aI)]:=kA h
theorem iB (s:Sc):C.sc [.vl (.int .i64 s.ver),.fz (s.es.map aY),.fz (s.ss.map aI)]=s:=jH s
theorem rR {ss:List St} {es:List En} {t:Ty} (h:valF ss es t=true) (k:(t.k == 5)=true):∃ u,t.e=[u]/\valF ss es u=true:=by
 cases t with
 | mk k0 s n e=>
  obtain rfl:k0=5:=by have k:(k0 == 5)=true:=k; simpa using k
  exact GH h
theorem aB4 (N:Nat) (hc:Meets Tryz.prog 42 (eC (qW N) UT).sp):Meets Tryz.prog 78 (eC (fun s t v=>valF s.ss s.es t=true/\(t.k == 5)=true/\v.h<=N + 1) fun s t v=>.int .i64 (JX s t v)).sp:=by
 refine aD Tryz.func78 aK5 3 (by rw [Tryz.ntmps78]; decide) (aG hc (aA _)) eF ?_
 intro av H K h
 obtain ⟨s,t,v,rfl,rfl,hs,ht,hv,⟨hp,hk,hh⟩,hK⟩:=dF h
 clear h
 have fin:∀ (z:Int) (R:Hp),JX s t v=z->W.Fin 0 K (iS .i64 z) R:=fun z R h=>by
  rw [h] at hK; exact .sel [] (by simp) (by simp) rfl (.done (by simpa [go_sem] using hK))
 clear hK
 unfold JX at fin
 obtain ⟨u,he,hu⟩:=rR hp hk
 have huo:TyOk u:=ht.e u (by rw [he]; simp)
 have hll:=hv.ll
 rw [he] at fin
 simp only [List.headD_cons] at fin
 cases h0:(v.n != 0 || !(bl v.s == []) || decide (0 < (v.f.length:Int))) with
 | true=>
  rw [h0] at fin
  cases h1:v.n != 0<;>cases h2:bl v.s == []<;>cases h3:decide (0 < (v.f.length:Int)) <;>
  first
   | (exfalso; rw [h1,h2,h3] at h0; exact absurd h0 (by decide))
   | (simp (maxSteps:=1000000) -dsimp only [go_sem,aF,aL t,aJ v,K8,J3,h1,h2,h3]
      exact fin _ _ rfl)
 | false=>
 rw [h0] at fin
 obtain ⟨h1,h2,h3⟩:(v.n != 0)=false/\(bl v.s == [])=true/\decide (0 < (v.f.length:Int))=false:=by
  simp only [Bool.or_eq_false_iff,Bool.not_eq_false'] at h0; exact ⟨h0.1.1,h0.1.2,h0.2⟩
 cases h4:decide (t.s < (v.l.length:Int)) with
 | true=>
  rw [h4] at fin
  simp (maxSteps:=1000000) -dsimp only [go_sem,aF,aL t,aJ v,K8,J3,h1,h2,h3,h4]
  exact fin _ _ rfl
 | false=>
 rw [h4] at fin
 simp only [aV] at fin
 simp (maxSteps:=1000000) -dsimp only [go_sem,aF,aL t,aJ v,K8,J3,h1,h2,h3,h4]
 refine aS (α:=Nat) (fun i=>[(3,.va (.c1 (.pt 0 0))),(4,.va (.c1 (.pt 1 0))),(5,.va (.c1 (.pt 2 0))),(33,.va (.c1 (.fz (v.l.map aM)))),(34,iS .i64 v.l.length),(35,iS .i64 i)]) (fun _=>[.cells (aF s) 93,.cells [.vl (.int .i64 t.k),.vl (.int .i64 t.s),.vl (.string t.n),.fz (t.e.map aU)] 42,.cells (bJ v) 29])
  (fun i=>i<=v.l.length/\f7 s u (v.l.drop i)=f7 s u v.l) (fun i=>v.l.length - i) 0 3 ⟨Nat.zero_le _,rfl⟩ ?_ ?_ ?_
 · simp -dsimp only [go_sem]<;>simp
 · simp -dsimp only [go_sem,bJ,aF]<;>simp
 rintro i ⟨hi,ho⟩
 rcases bE i v.l.length with hlt | hge
 · have hg:decide ((i:Int) < (v.l.length:Int))=true:=by simp; omega
   obtain ⟨x,hx⟩:∃ t,v.l[i]? = some t:=⟨_,aW hlt⟩
   have q1:=nJ hx
   have hxm:=cC hx
   have k1:=cD (hv.l x hxm)
   have k2:=dS x
   have k3:x.h<=N:=by have:=Vl.h_l hxm; omega
   have hdr:v.l.drop i=x :: v.l.drop (i + 1):=by
    obtain ⟨h,rfl⟩:=bH.1 hx
    exact List.drop_eq_getElem_cons h
   have k4:=d7 huo
   have k5:=iP u
   have k6:=dQ hs
   have k7:=iB s
   rw [hdr,f7] at ho
   rw [he]
   cases h5:cH s u x != 0 with
   | true=>
    rw [h5,bD] at ho
    simp (maxSteps:=1000000) -dsimp only [go_sem,hg,↓q1,bJ,aF,aL u,k1,k2,k3,k4,k5,k6,k7,h5,List.getElem?_cons_zero,aH,forall_eq']
    exact ⟨by omega,by omega,fin _ _ ho.symm⟩
   | false=>
    rw [h5,aV] at ho
    simp (maxSteps:=1000000) -dsimp only [go_sem,hg,↓q1,bJ,aF,aL u,k1,k2,k3,k4,k5,k6,k7,h5,List.getElem?_cons_zero,aH,forall_eq']
    refine ⟨by omega,by omega,by omega,aE (i + 1) 3 ⟨by omega,ho⟩ (by omega) ?_ ?_⟩
    · simp -dsimp only [go_sem]<;>simp
    · simp -dsimp only [go_sem,bJ,aF]<;>simp [aL u]
 · have hg:decide ((i:Int) < (v.l.length:Int))=false:=by simp; omega
   obtain rfl:i=v.l.length:=by omega
   rw [List.drop_length,f7] at ho
   simp (maxSteps:=1000000) -dsimp only [go_sem,hg,bJ,aF]
   exact fin _ _ ho.symm
theorem EH:TyOk default:=.mk (by unfold bU; decide) (by unfold bU; decide) (by decide) (by decide) (fun _ h=>by cases h)
theorem aC1 {fs:List Fl} {u:St} (hu:u.ok) (e:fs=u.fs) (k:Int):TyOk ((fF fs k).getD default).ty:=by
 subst e
 cases hf:fF u.fs k with
 | none=>exact EH
 | some g=>exact (hu.fs g (List.mem_of_find?_eq_some hf)).ty
theorem MX (N:Nat) (hc:Meets Tryz.prog 42 (eC (qW N) UT).sp):Meets Tryz.prog 79 (eC (fun _ _ v=>v.h<=N + 1) fun s t v=>.int .i64 (KG s t v)).sp:=by
 refine aD Tryz.func79 aL5 3 (by rw [Tryz.ntmps79]; decide) (aG hc (aC j0 (aG aAM (aC qZ (aA _))))) eF ?_
 intro av H K h
 obtain ⟨s,t,v,rfl,rfl,hs,ht,hv,hh,hK⟩:=dF h
 clear h
 have fin:∀ (z:Int) (R:Hp),KG s t v=z->W.Fin 0 K (iS .i64 z) R:=fun z R h=>by
  rw [h] at hK; exact .sel [] (by simp) (by simp) rfl (.done (by simpa [go_sem] using hK))
 clear hK
 unfold KG at fin
 have hlf:=hv.lf
 have kS:=FH hs t.n
 have kE:=V8 hv
 simp (maxSteps:=1000000) -dsimp only [go_sem,aF,aL t,aJ v,aAL,aB1]
 refine gW (s:=s) hs ?_
 generalize (fS s.ss t.n).getD default=u at *
 obtain ⟨huo,hus⟩:u.ok/\∀ f ∈ u.fs,TySm f.ty:=by
  obtain ⟨w,hw,h1,h2⟩:=kS
  obtain rfl:=sX hw
  exact ⟨h1,h2⟩
 have kd:=wJ u
 have kv:=aBR v.f
 rw [aI] at kS kd
 simp (maxSteps:=1000000) -dsimp only [go_sem,aI]
 refine aB rfl (.done ?_)
 cases h0:(v.n != 0 || !(bl v.s == []) || decide (0 < (v.l.length:Int)) || !(bY u.fs v.f)) with
 | true=>
  rw [h0] at fin
  cases h1:v.n != 0<;>cases h2:bl v.s == []<;>cases h3:decide (0 < (v.l.length:Int))<;>cases h4:bY u.fs v.f <;>
  first
   | (exfalso; rw [h1,h2,h3,h4] at h0; exact absurd h0 (by decide))
   | (simp (maxSteps:=1000000) -dsimp only [go_sem,x9,h1,h2,h3,h4,kS,kE,kd]
      exact fin _ _ rfl)
 | false=>
 rw [h0] at fin
 simp only [aV] at fin
 obtain ⟨h1,h2,h3,h4⟩:(v.n != 0)=false/\(bl v.s == [])=true/\decide (0 < (v.l.length:Int))=false/\bY u.fs v.f=true:=by
  simp only [Bool.or_eq_false_iff,Bool.not_eq_false'] at h0; exact ⟨h0.1.1.1,h0.1.1.2,h0.1.2,h0.2⟩
 simp (maxSteps:=1000000) -dsimp only [go_sem,x9,h1,h2,h3,h4,kS,kE,kd]
 refine aS (α:=Nat) (fun i=>[(3,.va (.c1 (.pt 0 0))),(4,.va (.c1 (.pt 1 0))),(5,.va (.c1 (.pt 2 0))),(7,.va (.c1 (.pt 3 0))),(44,.va (.c1 (.fz (v.f.map bC)))),(45,iS .i64 v.f.length),(46,iS .i64 i)]) (fun _=>[.cells (aF s) 93,.cells [.vl (.int .i64 t.k),.vl (.int .i64 t.s),.vl (.string t.n),.fz (t.e.map aU)] 42,.cells (bJ v) 29,.cells (aI u) 48])
  (fun i=>i<=v.f.length/\hY s u.fs (v.f.drop i)=hY s u.fs v.f) (fun i=>v.f.length - i) 0 4 ⟨Nat.zero_le _,rfl⟩ ?_ ?_ ?_
 · simp -dsimp only [go_sem]<;>simp
 · simp -dsimp only [go_sem,bJ,aF,aI]<;>simp
 rintro i ⟨hi,ho⟩
 rcases bE i v.f.length with hlt | hge
 · have hg:decide ((i:Int) < (v.f.length:Int))=true:=by simp; omega
   obtain ⟨x,hx⟩:∃ t,v.f[i]? = some t:=⟨_,aW hlt⟩
   have q1:=gG hx
   have hxm:=cC hx
   have k1:=cD (hv.f x hxm)
   have k2:=dS x.2
   have k3:x.2.h<=N:=by have:=Vl.h_f hxm; omega
   have hdr:v.f.drop i=x :: v.f.drop (i + 1):=by
    obtain ⟨h,rfl⟩:=bH.1 hx
    exact List.drop_eq_getElem_cons h
   have k6:=dQ hs
   have k7:=iB s
   rw [hdr,uI] at ho
   have hgo:=aC1 huo rfl x.1
   simp (maxSteps:=1000000) -dsimp only [go_sem,hg,↓q1,bJ,aF,aI]
   refine ⟨by omega,aB rfl (.done ?_)⟩
   simp (maxSteps:=1000000) -dsimp only [go_sem,GC]
   refine zJ (t:=u) huo hus ?_
   generalize (fF u.fs x.1).getD default=g at *
   have k4:=d7 hgo
   have k5:=iP g.ty
   simp (maxSteps:=1000000) -dsimp only [go_sem,aT]
   refine aB rfl (.done ?_)
   simp (maxSteps:=1000000) -dsimp only [go_sem,EA,k1,k2,k3,k4,k5,k6,k7]
   refine aB rfl (.done ?_)
   cases h5:cH s g.ty x.2 != 0 with
   | true=>
    rw [h5,bD] at ho
    simp (maxSteps:=1000000) -dsimp only [go_sem,yC,h5]
    exact fin _ _ ho.symm
   | false=>
    rw [h5,aV] at ho
    simp (maxSteps:=1000000) -dsimp only [go_sem,yC,h5]
    refine ⟨by omega,aE (i + 1) 4 ⟨by omega,ho⟩ (by omega) ?_ ?_⟩
    · simp -dsimp only [go_sem]<;>simp
    · simp -dsimp only [go_sem,bJ,aF,aI]<;>simp [bJ,aF,aI]
 · have hg:decide ((i:Int) < (v.f.length:Int))=false:=by simp; omega
   obtain rfl:i=v.f.length:=by omega
   rw [List.drop_length,hY] at ho
   simp (maxSteps:=1000000) -dsimp only [go_sem,hg,bJ,aF,aI]
   exact fin _ _ ho.symm
theorem A3:∀ N,Meets Tryz.prog 42 (eC (qW N) UT).sp
 | 0=>⟨by kernel_rfl,by rintro xs vs E ro w K _ _ _ h; obtain ⟨_,_,v,_,_,_,_,_,h,_⟩:=dF h; have:=v.h_pos; have h:v.h<=0:=h; omega⟩
 | N + 1=>by
  refine aD Tryz.func42 aM6 3 (by rw [Tryz.ntmps42]; decide) (aG uD (aG P6 (aG aDU (aG (aB4 N (A3 N)) (aG (MX N (A3 N)) (aA _)))))) eF ?_
  intro av H K h
  obtain ⟨s,t,v,rfl,rfl,hs,ht,hv,hh,hK⟩:=dF h
  clear h
  have hh:v.h<=N + 1:=hh
  have fin:∀ (z:Int) (R:Hp),cH s t v=z->W.Fin 0 K (iS .i64 z) R:=fun z R h=>by
   have hK:K (iS .i64 (cH s t v)) []:=hK
   rw [h] at hK; exact .sel [] (by simp) (by simp) rfl (.done (by simpa [go_sem] using hK))
  clear hK
  rw [kU] at fin
  have k1:=cD hv
  have k2:=dS v
  have k4:=d7 ht
  have k5:=iP t
  have k6:=dQ hs
  have k7:=iB s
  cases h1:valF s.ss s.es t with
  | false=>
   rw [h1] at fin
   simp (maxSteps:=1000000) -dsimp only [go_sem,aF,aL t,aJ v,vU,uG,k4,k5,k6,k7,h1]
   exact fin _ _ rfl
  | true=>
  cases h2:v.k != t.k with
  | true=>
   rw [h1,h2] at fin
   simp (maxSteps:=1000000) -dsimp only [go_sem,aF,aL t,aJ v,vU,uG,k4,k5,k6,k7,h1,h2]
   exact fin _ _ rfl
  | false=>
  rw [h1,h2] at fin
  simp only [Bool.not_true,Bool.or_self,aV] at fin
  cases h4:t.k == 4 with
  | true=>
   rw [h4,bD] at fin
   simp (maxSteps:=1000000) -dsimp only [go_sem,aF,aL t,aJ v,vU,uG,k1,k2,k4,k5,k6,k7,h1,h2,h4,List.all_cons,List.all_nil]
   exact fin _ _ rfl
  | false=>
  rw [h4,aV] at fin
  cases h5:t.k == 5 with
  | true=>
   rw [h5,bD] at fin
   simp (maxSteps:=1000000) -dsimp only [go_sem,aF,aL t,aJ v,vU,uG,k1,k2,k4,k5,k6,k7,h1,h2,h4,h5,hh,List.all_cons,List.all_nil]
   exact fin _ _ rfl
  | false=>
  rw [h5,aV] at fin
  cases h6:t.k == 6 with
  | true=>
   rw [h6,bD] at fin
   simp (maxSteps:=1000000) -dsimp only [go_sem,aF,aL t,aJ v,vU,uG,k1,k2,k4,k5,k6,k7,h1,h2,h4,h5,h6,hh,List.all_cons,List.all_nil]
   exact fin _ _ rfl
  | false=>
  rw [h6,aV] at fin
  simp (maxSteps:=1000000) -dsimp only [go_sem,aF,aL t,aJ v,vU,uG,k1,k2,k4,k5,k6,k7,h1,h2,h4,h5,h6,List.all_cons,List.all_nil]
  exact fin _ _ rfl
def gH (s:Sc) (t:Ty) (v:Vl):Int:=bif decide (6 < qY 7 v) then 9 else cH s t v
theorem WN:Meets Tryz.prog 42 (eC (fun _ _ _=>True) UT).sp:=dX 0 A3 fun av H K h=>by
 obtain ⟨s,t,v,rfl,rfl,hs,ht,hv,_,hK⟩:=dF h
 refine ⟨v.h,⟨⟨kA hs,iT ht,H3 hv,?_⟩,rfl⟩,?_⟩
 · show (C.vv (aM v)).h<=v.h; rw [fG]; exact Nat.le_refl _
 · simpa -dsimp only [go_sem] using hK
theorem WS:Meets Tryz.prog 24 (eC (fun _ _ _=>True) fun s t v=>.int .i64 (gH s t v)).sp:=by
 refine aD Tryz.func24 aK2 3 (by rw [Tryz.ntmps24]; decide) (aG (JG 8) (aG WN (aA _))) eF ?_
 intro av H K h
 obtain ⟨s,t,v,rfl,rfl,hs,ht,hv,_,hK⟩:=dF h
 clear h
 have fin:∀ (z:Int) (R:Hp),gH s t v=z->W.Fin 0 K (iS .i64 z) R:=fun z R h=>by
  rw [h] at hK; exact .sel [] (by simp) (by simp) rfl (.done (by simpa [go_sem] using hK))
 clear hK
 unfold gH at fin
 have k1:=cD hv
 have k2:=dS v
 have k4:=d7 ht
 have k5:=iP t
 have k6:=dQ hs
 have k7:=iB s
 have e8:((6:Int)=((8:Nat):Int) - 2)=True:=by decide
 have e9:gN 8 v=qY 7 v:=rfl
 cases h1:decide (6 < qY 7 v) with
 | true=>
  rw [h1] at fin
  simp (maxSteps:=1000000) -dsimp only [go_sem,aF,aL t,aJ v,QT,QE,k1,k2,e8,e9,h1]
  exact fin _ _ rfl
 | false=>
  rw [h1] at fin
  simp (maxSteps:=1000000) -dsimp only [go_sem,aF,aL t,aJ v,QT,QE,k1,k2,k4,k5,k6,k7,e8,e9,h1]
  exact fin _ _ rfl
structure Told (l:List UInt8) (p:Nat) (k:Int) (x:List UInt8) (n:Int) (z:Nat):Prop where
 zero:k=0->p=l.length/\x=[]/\n=0
 one:k ≠ 0->∃ c,l[p]? = some c/\p < z/\z<=l.length/\0 < k/\k<=4/\32 < c.toNat/\c.toNat ≠ 35/\(c == 34)=(k == 3)/\(k == 1)=jJ c.toNat
def Got:R->ByteArray->Int->Int->Int->Int->Prop
 | .ok _ x n z,x',n',z',e',t'=>x'=mk x/\n'=n/\z'=z/\e'=0/\t'=0
 | .bad e t,_,_,_,e',t'=>e'=e/\t'=t
theorem Got.bad {r:R} {e t:Int} (h:r=.bad e t) {x:ByteArray} {n z:Int}:Got r x n z e t:=by subst h; exact ⟨rfl,rfl⟩
theorem Got.ok {r:R} {k:Int} {x:List UInt8} {n:Int} {z:Nat} (h:r=.ok k x n z):Got r (mk x) n z 0 0:=by subst h; exact ⟨rfl,rfl,rfl,rfl,rfl⟩
structure Ends (ts:List Tk):Prop where
 pos:0 < ts.length
 le:ts.length<=4001
 last:∀ (i:Nat) (t:Tk),ts[i]? = some t->(t.k=0 ↔ i + 1=ts.length)
def hJ (ts:List Tk) (n:Nat):Nat:=if n + 1 < ts.length then n + 1 else n
def uY (k:Int) (w:List UInt8) (t:Tk):Bool:=t.k == k && t.x == w
def O8 (n:Nat):List UInt8:=(if h:n < 10 then [] else O8 (n / 10)) ++ [(48 + n % 10).toUInt8]
 termination_by n
 decreasing_by omega
def aKY (n:Int):List UInt8:=bif decide (n < 0) then 45 :: O8 n.natAbs else O8 n.natAbs
def aLR (c:UInt8):List UInt8:=bif c == 34 || c == 92 then [92,c] else [c]
def aKL (l:List UInt8):List UInt8:=34 :: l.flatMap aLR ++ [34]
def YH (c:UInt8):Bool:=decide (32<=c) && decide (c<=126)
def okK (k:Int) (x:List UInt8) (n:Int):Bool:=
 bif k == 1 then n == 0 && cZ x else bif k == 2 then x == [] else bif k == 3 then n == 0 && (decide (x.length<=200) && x.all YH) else bif k == 4 then n == 0 && (match x with | [c]=>wA c.toNat | _=>false) else false
structure Tx where
 k:Int
 x:List UInt8
 n:Int
 a:Int
structure TkFit (t:Tx):Prop where
 lo:-9223372036854775808<=t.n
 hi:t.n<=9223372036854775807
 len:t.x.length<=100000
structure Fs where
 bad:Bool
 off:Int
 n:Nat
instance:Inhabited Tk:=⟨⟨0,[],0,0⟩⟩
def gB (ts:List Tk) (n:Nat):Tk:=ts.getD n default
structure Tks (ts:List Tk):Prop where
 e:Ends ts
 n:∀ t ∈ ts,bU t.n
 x:∀ t ∈ ts,t.x.length<=4000
 a:∀ t ∈ ts,t.a<=4000
def iK (ts:List Tk) (z:Fs):Fs:=bif z.bad then z else ⟨true,(gB ts z.n).a,z.n⟩
def jI (w:List UInt8) (ts:List Tk) (z:Fs):Bool:=!z.bad && uY 4 w (gB ts z.n)
def tB (w:List UInt8) (ts:List Tk) (z:Fs):Fs:=bif jI w ts z then ⟨false,z.off,hJ ts z.n⟩ else z
def eQ (w:List UInt8) (ts:List Tk) (z:Fs):Fs:=bif jI w ts z then ⟨false,z.off,hJ ts z.n⟩ else iK ts z
def lY (k:Int) (ts:List Tk) (z:Fs):Bool:=!z.bad && (gB ts z.n).k == k
def RE (k:Int) (ts:List Tk) (z:Fs):Tk:=bif lY k ts z then gB ts z.n else default
def TA (k:Int) (ts:List Tk) (z:Fs):Fs:=bif lY k ts z then ⟨false,z.off,hJ ts z.n⟩ else iK ts z
theorem EX {ts:List Tk} {n:Nat} (h:n < ts.length):ts[n]? = some (gB ts n):=by simp [gB,List.getD_eq_getElem?_getD,aW h]
def S8:List UInt8:=[116,114,117,101]
def LQ:List UInt8:=[102,97,108,115,101]
def aGO (ts:List Tk) (z:Fs):Vl × Fs:=
 bif !z.bad && uY 1 S8 (gB ts z.n) then (.mk 1 1 (mk []) [] [],⟨false,z.off,hJ ts z.n⟩)
 else bif !z.bad && uY 1 LQ (gB ts z.n) then (.mk 1 0 (mk []) [] [],⟨false,z.off,hJ ts z.n⟩)
 else (.mk 1 0 (mk []) [] [],iK ts z)
def aMA (k:Int) (ts:List Tk) (z:Fs):Vl × Fs:=(.mk k (RE 2 ts z).n (mk []) [] [],TA 2 ts z)
def aEX (ts:List Tk) (z:Fs):Vl × Fs:=(.mk 4 0 (mk (RE 3 ts z).x) [] [],TA 3 ts z)
def PG (e:En) (ts:List Tk) (z:Fs):Int:=bif !z.bad && (gB ts z.n).k == 1 then oI e.ns (mk (gB ts z.n).x) 0 else -1
def aFV (e:En) (ts:List Tk) (z:Fs):Vl × Fs:=
 bif decide (PG e ts z < 0) || decide ((e.vs.length:Int)<=PG e ts z) then (.mk 7 0 (mk []) [] [],iK ts z)
 else (.mk 7 (e.vs.getD (PG e ts z).toNat 0) (mk []) [] [],⟨false,z.off,hJ ts z.n⟩)
abbrev HP:Type:=Sc->List Tk->Ty->Fs->Vl × Fs
def yP {α:Type} (one:α->Fs->α × Fs) (ts:List Tk):Nat->α->Fs->α × Fs
 | 0,a,z=>(a,z)
 | f + 1,a,z=>bif z.bad then (a,z) else bif jI [44] ts (one a z).2 then yP one ts f (one a z).1 (tB [44] ts (one a z).2) else one a z
theorem MS {α:Type} (one:α->Fs->α × Fs) (ts:List Tk) (f:Nat) (a:α) (z:Fs):yP one ts (f + 1) a z=bif z.bad then (a,z) else bif jI [44] ts (one a z).2 then yP one ts f (one a z).1 (tB [44] ts (one a z).2) else one a z:=rfl
def KD {α:Type} (one:α->Fs->α × Fs) (op sh:List UInt8) (ts:List Tk) (a:α) (z:Fs):α × Fs:=
 bif jI sh ts (eQ op ts z) then (a,tB sh ts (eQ op ts z))
 else ((yP one ts (ts.length + 1) a (eQ op ts z)).1,eQ sh ts (yP one ts (ts.length + 1) a (eQ op ts z)).2)
theorem aCL {ts:List Tk} {n:Nat} (h:n < ts.length):n<=hJ ts n/\hJ ts n < ts.length:=by
 unfold hJ; split<;>omega
theorem XN (ts:List Tk) (z:Fs):(iK ts z).n=z.n:=by unfold iK; cases z.bad<;>rfl
theorem HR {w:List UInt8} {ts:List Tk} {z:Fs} (h:z.n < ts.length):z.n<=(eQ w ts z).n/\(eQ w ts z).n < ts.length:=by
 unfold eQ
 cases jI w ts z
 · rw [aV,XN]; exact ⟨Nat.le_refl _,h⟩
 · exact aCL h
def Onw {α:Type} (one:α->Fs->α × Fs) (ts:List Tk):Prop:=∀ a z,z.n < ts.length->z.n<=(one a z).2.n/\(one a z).2.n < ts.length
def aBA (P:HP) (s:Sc) (ts:List Tk) (u:Ty):List Vl->Fs->List Vl × Fs:=fun l z=>(l ++ [(P s ts u z).1],(P s ts u z).2)
def aGR (P:HP) (s:Sc) (ts:List Tk) (u:Ty) (z:Fs):Vl × Fs:=(.mk 5 0 (mk []) (KD (aBA P s ts u) [91] [93] ts [] z).1 [],(KD (aBA P s ts u) [91] [93] ts [] z).2)
def aBH (n:List UInt8):List Fl->Nat->Int
 | [],_=>-1
 | x :: l,i=>bif bl x.nm == n then (i:Int) else aBH n l (i + 1)
abbrev Fst:Type:=Int × List (Int × Vl)
def sR (ts:List Tk) (u:St) (z:Fs):Int:=aBH (gB ts z.n).x u.fs 0
def aAQ (ts:List Tk) (u:St) (last:Int) (z:Fs):Bool:=(gB ts z.n).k != 1 || decide (sR ts u z < 0) || decide ((u.fs.getD (sR ts u z).toNat default).num<=last)
def aC8 (ts:List Tk) (z:Fs):Fs:=eQ [61] ts ⟨z.bad,z.off,hJ ts z.n⟩
def aCG (P:HP) (s:Sc) (ts:List Tk) (u:St):Fst->Fs->Fst × Fs:=fun a z=>
 bif aAQ ts u a.1 z then (a,iK ts z)
 else (((u.fs.getD (sR ts u z).toNat default).num,a.2 ++ [((u.fs.getD (sR ts u z).toNat default).num,(P s ts (u.fs.getD (sR ts u z).toNat default).ty (aC8 ts z)).1)]),(P s ts (u.fs.getD (sR ts u z).toNat default).ty (aC8 ts z)).2)
def stOf (s:Sc) (t:Ty):St:=(fS s.ss t.n).getD default
def XT (P:HP) (s:Sc) (ts:List Tk) (u:St) (z:Fs):Vl × Fs:=(.mk 6 0 (mk []) [] (KD (aCG P s ts u) [123] [125] ts (0,[]) z).1.2,(KD (aCG P s ts u) [123] [125] ts (0,[]) z).2)
theorem fH {s:Sc} (hs:s.fit) (t:Ty):(stOf s t).ok:=by
 unfold stOf
 cases h:fS s.ss t.n with
 | none=>exact ⟨by decide,by decide,fun _ h=>(by cases h)⟩
 | some u=>exact hs.ok.ss u (List.mem_of_find?_eq_some h)
def pP:Nat->HP
 | 0=>fun _ _ _ z=>(default,z)
 | N + 1=>fun s ts t z=>bif t.k == 1 then aGO ts z else bif t.k == 4 then aEX ts z else bif t.k == 7 then aFV ((c9 s.es t.n).getD default) ts z
  else bif t.k == 5 then aGR (pP N) s ts (t.e.headD default) z else bif t.k == 6 then XT (pP N) s ts (stOf s t) z else aMA t.k ts z
def zF (s:Sc):Nat->Ty->Vl
 | 0,_=>.mk 0 0 (mk []) [] []
 | n + 1,t=>bif valF s.ss s.es t then (bif t.k == 6 then .mk 6 0 (mk []) [] (((stOf s t).fs.filter fun f=>!f.opt).map fun f=>(f.num,zF s n f.ty)) else .mk t.k 0 (mk []) [] []) else .mk 0 0 (mk []) [] []
def zE (s:Sc) (n:Nat) (l:List Fl):List (Int × Vl):=(l.filter fun f=>!f.opt).map fun f=>(f.num,zF s n f.ty)
theorem n6 (s:Sc) (n:Nat) (t:Ty):zF s (n + 1) t=bif valF s.ss s.es t then (bif t.k == 6 then .mk 6 0 (mk []) [] (zE s n (stOf s t).fs) else .mk t.k 0 (mk []) [] []) else .mk 0 0 (mk []) [] []:=rfl
theorem XL {s:Sc} {n i:Nat} {l:List Fl} {f:Fl} (h:l[i]? = some f):zE s n (l.take (i + 1))=bif f.opt then zE s n (l.take i) else zE s n (l.take i) ++ [(f.num,zF s n f.ty)]:=by
 unfold zE
 rw [List.take_add_one,h,List.filter_append,List.map_append]
 cases hf:f.opt<;>simp [hf]
theorem NQ (s:Sc) (n:Nat) (l:List Fl):(zE s n l).length<=l.length:=by
 unfold zE; rw [List.length_map]; exact List.length_filter_le _ _
theorem IC {s:Sc} (hs:s.fit) (t:Ty):(stOf s t).fs.length<=1000000000:=by
 unfold stOf
 cases h:fS s.ss t.n with
 | none=>exact Nat.zero_le _
 | some u=>exact (hs.sm u (List.mem_of_find?_eq_some h)).1
def aCN (N:Nat):W.Spec:=fun av H K=>∃ (s:Sc) (t:Ty) (n:Nat),av=[.va (.gs (aF s)),.va (.gs (aU t)),iS .i64 ((n:Int) - 1)]/\H=[]/\s.fit/\TyOk t/\n < N/\N<=100/\K (.va (.gs (aM (zF s n t)))) []
theorem MM {N:Nat} {s:Sc} {t:Ty} {n:Nat} {K:S->Hp->Prop} (h1:s.fit) (h2:TyOk t) (h3:n < N) (h4:N<=100) (hK:K (.va (.gs (aM (zF s n t)))) []):aCN N [.va (.gs [.vl (.int .i64 s.ver),.fz (s.es.map aY),.fz (s.ss.map aI)]),.va (.gs [.vl (.int .i64 t.k),.vl (.int .i64 t.s),.vl (.string t.n),.fz (t.e.map aU)]),iS .i64 ((n:Int) - 1)] [] K:=⟨s,t,n,by rw [aL]; rfl,rfl,h1,h2,h3,h4,hK⟩
theorem MB:∀ N,Meets Tryz.prog 83 (aCN N)
 | 0=>⟨by kernel_rfl,by rintro xs vs E ro w K _ _ _ ⟨_,_,n,_,_,_,_,h,_⟩; exact absurd h (Nat.not_lt_zero n)⟩
 | N + 1=>by
  refine aD Tryz.func83 aNQ 3 (by rw [Tryz.ntmps83]; decide) (aG uD (aC j0 (aC (MB N) (aA _)))) (fun av H K h=>by obtain ⟨_,_,_,rfl,_⟩:=h; rfl) ?_
  rintro av H K ⟨s,t,n,rfl,rfl,hs,ht,hn,hN,hK⟩
  have k4:=d7 ht
  have k5:=iP t
  have k6:=dQ hs
  have k7:=iB s
  have fin:∀ {v:Vl} (R:Hp),zF s n t=v->W.Fin 0 K (.va (.gs (aM v))) R:=fun {v} R h=>by
   rw [h] at hK; refine .sel [] (by simp) (by simp) rfl (.done ?_)
   rw [aJ] at hK ⊢
   simpa [go_sem] using hK
  cases n with
  | zero=>
   have g:decide (((0:Nat):Int) - 1 < 0)=true:=rfl
   simp (maxSteps:=1000000) -dsimp only [go_sem,aF,aL t,EM,G3,g,k4,k5,k6,k7]
   exact fin (v:=.mk 0 0 (mk []) [] []) _ rfl
  | succ n=>
   have g:decide (((n + 1:Nat):Int) - 1 < 0)=false:=by rw [decide_eq_false_iff_not]; omega
   have g':((n + 1:Nat):Int) - 1=n:=by omega
   rw [g'] at g ⊢
   rw [n6] at fin
   cases h1:valF s.ss s.es t with
   | false=>
    rw [h1,aV] at fin
    simp (maxSteps:=1000000) -dsimp only [go_sem,aF,aL t,EM,G3,g,k4,k5,k6,k7,h1]
    exact fin _ rfl
   | true=>
   rw [h1,bD] at fin
   cases h2:t.k == 6 with
   | false=>
    have h2':(t.k != 6)=true:=by rw [bne,h2]; rfl
    rw [h2,aV] at fin
    simp (maxSteps:=1000000) -dsimp only [go_sem,aF,aL t,EM,G3,g,k4,k5,k6,k7,h1,h2']
    exact fin _ rfl
   | true=>
   have h2':(t.k != 6)=false:=by rw [bne,h2]; rfl
   rw [h2,bD] at fin
   simp (maxSteps:=1000000) -dsimp only [go_sem,aF,aL t,EM,G3,g,k4,k5,k6,k7,h1,h2']
   refine gW hs ?_
   rw [show (fS s.ss t.n).getD default=stOf s t from rfl]
   have hok:=fH hs t
   have hsm:=IC hs t
   have hz6:zF s (n + 1) t=.mk 6 0 (mk []) [] (zE s n (stOf s t).fs):=by rw [n6,h1,h2]; rfl
   rw [hz6,aJ] at hK
   clear hz6 fin
   generalize stOf s t=u at *
   simp (maxSteps:=1000000) -dsimp only [go_sem,aI]
   have hlen:=fun i=>Nat.le_trans (NQ s n (u.fs.take i)) (Nat.le_trans (List.length_take_le' i u.fs) hsm)
   refine eP (α:=Nat) (fun i=>[(2,iS .i64 n),(3,.va (.c1 (.pt 0 0))),(4,.va (.c1 (.pt 1 0))),(6,.va (.c1 (.pt 2 0))),(7,.va (.c1 (.pt 3 0))),(37,.va (.c1 (.fz (u.fs.map aT)))),(38,iS .i64 u.fs.length),(39,iS .i64 i)])
    (fun i=>[.cells [.vl (.int .i64 s.ver),.fz (s.es.map aY),.fz (s.ss.map aI)] 93,.cells [.vl (.int .i64 t.k),.vl (.int .i64 t.s),.vl (.string t.n),.fz (t.e.map aU)] 42,.cells [.vl (.int .i64 0),.vl (.int .i64 0),.vl (.string (mk [])),.vl (.slice none 0 0),.vl (.slice none 0 0)] 29,
      .cells [.vl (.int .i64 t.k),.vl (.int .i64 0),.vl (.string (mk [])),.vl (.slice none 0 0),.sl 5 (zE s n (u.fs.take i)).length] 29,.cells [.vl (.string u.nm),.fz (u.fs.map aT)] 48,.row ((zE s n (u.fs.take i)).map bC) 76 6])
    (fun i=>i<=u.fs.length) (fun i=>u.fs.length - i) (.nilc 3 4 76 6 _ _ rfl rfl (p7 0 6 (Nat.zero_le _) ?_ ?_)) ?_
   · simp -dsimp only [go_sem]<;>simp
   · simp -dsimp only [go_sem]<;>simp [zE]
   intro i hi
   have hli:=hlen i
   rcases bE i u.fs.length with hlt | hge
   · have hg:decide ((i:Int) < (u.fs.length:Int))=true:=by simp; omega
     have hx:u.fs[i]? = some u.fs[i]:=aW hlt
     have q2:=a7 (row:=aT) hx
     have hfo:=(hok.fs _ (List.getElem_mem hlt)).ty
     generalize u.fs[i]=f at *
     have hz:=XL (s:=s) (n:=n) hx
     cases ho:f.opt with
     | true=>
      rw [ho,bD] at hz
      simp (maxSteps:=1000000) -dsimp only [go_sem,hg,↓q2,aT,ho,List.take_succ_cons,List.take_zero,List.length_cons]
      refine ⟨by omega,by omega,aE (i + 1) 6 (by omega) (by omega) ?_ ?_⟩
      · simp -dsimp only [go_sem]<;>simp
      · simp -dsimp only [go_sem,hz]<;>simp
     | false=>
      rw [ho,aV] at hz
      simp (maxSteps:=1000000) -dsimp only [go_sem,hg,↓q2,aT,ho,List.take_succ_cons,List.take_zero,List.length_cons]
      refine ⟨⟨by omega,by omega⟩,⟨by omega,by omega⟩,MM hs hfo (by omega) (by omega) ?_⟩
      generalize zF s n f.ty=v at *
      simp (maxSteps:=1000000) -dsimp only [go_sem,aJ v]
      refine ⟨by omega,by omega,aE (i + 1) 6 (by omega) (by omega) ?_ ?_⟩
      · simp -dsimp only [go_sem]<;>simp
      · simp -dsimp only [go_sem,hz]<;>simp [bC,aJ v]
   · have hg:decide ((i:Int) < (u.fs.length:Int))=false:=by simp; omega
     rw [List.take_of_length_le hge] at *
     have h6:t.k=6:=eq_of_beq h2
     simp (maxSteps:=1000000) -dsimp only [go_sem,hg,h6]
     refine .pub 5 _ _ _ rfl (.sel [] (by simp) (by simp [dA]) rfl (.done ?_))
     simp -dsimp only [go_sem,dA]
     exact hK
def FT:W.Spec:=fun av H K=>∃ (s:Sc) (t:Ty),av=[.va (.gs (aF s)),.va (.gs (aU t))]/\H=[]/\s.fit/\TyOk t/\K (.va (.gs (aM (zF s 23 t)))) []
theorem yU {s:Sc} {t:Ty} {K:S->Hp->Prop} (h1:s.fit) (h2:TyOk t) (hK:K (.va (.gs (aM (zF s 23 t)))) []):FT [.va (.gs [.vl (.int .i64 s.ver),.fz (s.es.map aY),.fz (s.ss.map aI)]),.va (.gs [.vl (.int .i64 t.k),.vl (.int .i64 t.s),.vl (.string t.n),.fz (t.e.map aU)])] [] K:=⟨s,t,by rw [aL]; rfl,rfl,h1,h2,hK⟩
theorem TJ:Meets Tryz.prog 45 FT:=by
 refine aD Tryz.func45 aJ6 2 (by rw [Tryz.ntmps45]; decide) (aC (MB 24) (aA _)) (fun av H K h=>by obtain ⟨_,_,rfl,_⟩:=h; rfl) ?_
 rintro av H K ⟨s,t,rfl,rfl,hs,ht,hK⟩
 simp (maxSteps:=1000000) -dsimp only [go_sem,aF,aL t,aCV,aAV]
 refine MM (n:=23) hs ht (by decide) (by decide) ?_
 rw [aJ] at hK ⊢
 simp (maxSteps:=1000000) -dsimp only [go_sem]
 refine .sel [] (by simp) (by simp) rfl (.done ?_)
 simp -dsimp only [go_sem]
 exact hK
theorem C0 {s:Sc} (hs:s.fit):∀ (n:Nat) (t:Ty),TyOk t->VlOk (zF s n t)
 | 0,t,ht=>.mk ⟨by decide,by decide⟩ ⟨by decide,by decide⟩ (by decide) (by simp) (by simp) (by simp) (by simp) (by simp)
 | n + 1,t,ht=>by
  have hok:=fH hs t
  have hsm:=IC hs t
  rw [n6]
  cases valF s.ss s.es t with
  | false=>exact .mk ⟨by decide,by decide⟩ ⟨by decide,by decide⟩ (by decide) (by simp) (by simp) (by simp) (by simp) (by simp)
  | true=>
   cases t.k == 6 with
   | false=>exact .mk ht.k ⟨by decide,by decide⟩ (by decide) (by simp) (by simp) (by simp) (by simp) (by simp)
   | true=>
    have hl:=NQ s n (stOf s t).fs
    have hm:∀ x ∈ zE s n (stOf s t).fs,∃ f ∈ (stOf s t).fs,x=(f.num,zF s n f.ty):=fun x hx=>by
     unfold zE at hx
     obtain ⟨f,hf,rfl⟩:=List.mem_map.1 hx
     exact ⟨f,(List.mem_filter.1 hf).1,rfl⟩
    refine .mk ⟨by decide,by decide⟩ ⟨by decide,by decide⟩ (by decide) (by simp) (by omega) (by simp) (fun x hx=>?_) (fun x hx=>?_)
    · obtain ⟨f,hf,rfl⟩:=hm x hx; exact (hok.fs f hf).num
    · obtain ⟨f,hf,rfl⟩:=hm x hx; exact C0 hs n f.ty (hok.fs f hf).ty
def pmF (s:Sc) (t:Ty):Bool:=gH s t (zF s 23 t) == 0
theorem FD {k n:Int} {s:ByteArray} (hk:bU k) (hn:bU n) (hs:s.size<=9223372036854775807):VlOk (.mk k n s [] []):=.mk hk hn hs (by simp) (by simp) (by simp) (by simp) (by simp)
def v0:Vl:=.mk 0 0 (mk []) [] []
def ZO (ts:List Tk) (z:Fs):Fs:=bif (gB ts z.n).k != 0 then iK ts z else z
def aL4 (s:Sc) (t:Ty) (ts:List Tk) (r:Vl × Fs):Vl × Int × Int:=
 bif (ZO ts r.2).bad then (v0,2,(ZO ts r.2).off) else bif gH s t r.1 != 0 then (v0,gH s t r.1,0) else (r.1,0,0)
def KJ (P:HP) (s:Sc) (t:Ty) (x:List UInt8):Vl × Int × Int:=
 bif !pmF s t then (v0,13,0) else bif (yD x).err != 0 then (v0,(yD x).err,(yD x).off) else aL4 s t (yD x).toks (P s (yD x).toks t ⟨false,0,0⟩)
abbrev ND:Type:=Sc->Ty->Vl->List UInt8 × Bool
def tvB (n:Int):List UInt8:=bif n == 1 then S8 else LQ
def tvT (x:List UInt8):List UInt8:=bif decide (x.length<=200) && x.all YH then aKL x else []
def nmF (ns:List ByteArray) (n:Int):List Int->Nat->ByteArray
 | [],_=>mk []
 | m :: l,i=>bif m == n && decide ((i:Int) < (ns.length:Int)) then ns.getD i (mk []) else nmF ns n l (i + 1)
def enOf (s:Sc) (t:Ty):En:=(c9 s.es t.n).getD default
theorem W0 {s:Sc} (hs:s.fit) (t:Ty):(enOf s t).ok:=by
 unfold enOf
 cases h:c9 s.es t.n with
 | none=>exact ⟨by decide,by decide,by decide,fun _ h=>(by cases h),fun _ h=>(by cases h)⟩
 | some e=>exact hs.ok.es e (List.mem_of_find?_eq_some h)
def PN:Bool->List (List UInt8)->List UInt8
 | _,[]=>[]
 | c,x :: r=>(bif c then [44,32] else []) ++ x ++ PN true r
def aHH (F:ND) (s:Sc) (u:Ty) (l:List Vl):List UInt8 × Bool:=([91] ++ PN false (l.map fun x=>(F s u x).1) ++ [93],l.any fun x=>(F s u x).2)
def gQ (u:St) (n:Int):Fl:=(fF u.fs n).getD default
def itF (F:ND) (s:Sc) (u:St) (x:Int × Vl):List UInt8:=bl (gQ u x.1).nm ++ [32,61,32] ++ (F s (gQ u x.1).ty x.2).1
def W1 (F:ND) (s:Sc) (u:St) (l:List (Int × Vl)):List UInt8 × Bool:=([123] ++ PN false (l.map (itF F s u)) ++ [125],l.any fun x=>(F s (gQ u x.1).ty x.2).2)
theorem WE {u:St} (hu:u.ok) (n:Int):(gQ u n).ok:=by
 unfold gQ
 cases h:fF u.fs n with
 | none=>exact ⟨⟨by decide,by decide⟩,by decide,.mk ⟨by decide,by decide⟩ ⟨by decide,by decide⟩ (by decide) (by decide) (fun _ h=>by cases h)⟩
 | some d=>exact hu.fs d (List.mem_of_find?_eq_some h)
theorem OT {s:Sc} (hs:s.fit) (t:Ty):∀ f ∈ (stOf s t).fs,TySm f.ty:=by
 unfold stOf
 cases h:fS s.ss t.n with
 | none=>exact fun _ h=>(by cases h)
 | some u=>exact (hs.sm u (List.mem_of_find?_eq_some h)).2
theorem FA {t:St} {k:Int} {K:S->Hp->Prop} (h:t.ok) (h2:∀ f ∈ t.fs,TySm f.ty) (hK:K (.tu [.gs (aT (gQ t k)),bA (fF t.fs k).isSome]) []):qA [.va (.gs [.vl (.string t.nm),.fz (t.fs.map aT)]),iS .i64 k] [] K:=⟨t,k,rfl,rfl,h,h2,hK⟩
def fP:Nat->ND
 | 0=>fun _ _ _=>([],false)
 | N + 1=>fun s t v=>bif t.k == 1 then (tvB v.n,false) else bif t.k == 4 then (tvT (bl v.s),tvT (bl v.s) == []) else bif t.k == 7 then (bl (nmF (enOf s t).ns v.n (enOf s t).vs 0),false)
  else bif t.k == 5 then aHH (fP N) s (t.e.headD default) v.l else bif t.k == 6 then W1 (fP N) s (stOf s t) v.f else (aKY v.n,false)
def aMM (F:ND) (s:Sc) (t:Ty) (v:Vl):List UInt8:=bif gH s t v != 0 then [] else bif (F s t v).2 || decide (4000 < ((F s t v).1.length:Int)) then [] else (F s t v).1
theorem FR:Meets Tryz.prog 62 o9:=by
 refine aD Tryz.func62 aOE 2 (by rw [Tryz.ntmps62]; decide) (aA _) (fun av H K h=>by obtain ⟨_,_,rfl,_⟩:=h; rfl) ?_
 rintro av H K ⟨s,n,rfl,rfl,hs,hK⟩
 rw [<-n9] at hK
 have hl:=hs.ok.ls
 simp -dsimp only [go_sem,aF,aD6,aAO]
 refine aS (α:=Nat) (fun i=>[(1,tS n),(2,.va (.c1 (.pt 0 0))),(4,.va (.c1 (.pt 1 0))),(6,iS .i64 i)]) (fun _=>[.cells (aF s) 25,.cells [.vl (.string (mk [])),.vl (.slice none 0 0)] 48])
  (fun i=>i<=s.ss.length/\fS (s.ss.drop i) n=fS s.ss n) (fun i=>s.ss.length - i) 0 2 ⟨Nat.zero_le _,rfl⟩ ?_ ?_ ?_
 · simp [go_sem]
 · simp [go_sem,aF]
 rintro i ⟨hi,ho⟩
 rcases bE i s.ss.length with hlt | hge
 · have hg:decide ((i:Int) < (s.ss.length:Int))=true:=by simp; omega
   obtain ⟨t,hx⟩:∃ e,s.ss[i]? = some e:=⟨_,aW hlt⟩
   have q2:=a7 (row:=aI) hx
   rw [fS,fQ hx] at ho
   cases hc:decide (t.nm=n) with
   | true=>
    rw [hc,bD] at ho
    rw [<-ho] at hK
    simp (maxSteps:=1000000) -dsimp only [go_sem,hg,↓q2,aI,aF,cS,hc]
    refine ⟨by omega,by omega,.sel [] (by simp) (by simp) rfl (.done (by simpa [go_sem,aI] using hK))⟩
   | false=>
    rw [hc,aV] at ho
    simp (maxSteps:=1000000) -dsimp only [go_sem,hg,↓q2,aI,aF,cS,hc]
    refine ⟨by omega,by omega,aE (i + 1) 2 ⟨by omega,ho⟩ (by omega) ?_ ?_⟩
    · simp [go_sem]
    · simp [go_sem,aF]
 · have hg:decide ((i:Int) < (s.ss.length:Int))=false:=by simp; omega
   obtain rfl:i=s.ss.length:=by omega
   rw [List.drop_length] at ho
   rw [<-ho] at hK
   simp -dsimp only [go_sem,hg,aF]
   exact .sel [] (by simp) (by simp) rfl (.done (by simpa [go_sem,fS,yO] using hK))
theorem aED:Meets Tryz.prog 105 wX:=by
 refine aD Tryz.func105 aGE 2 (by rw [Tryz.ntmps105]; decide) (aA _) (fun av H K h=>by obtain ⟨_,_,rfl,_⟩:=h; rfl) ?_
 rintro av H K ⟨s,n,rfl,rfl,hs,hK⟩
 rw [<-oU] at hK
 have hl:=hs.ok.le
 simp -dsimp only [go_sem,aF,U8,RH]
 refine aS (α:=Nat) (fun i=>[(1,tS n),(2,.va (.c1 (.pt 0 0))),(4,.va (.c1 (.pt 1 0))),(6,iS .i64 i)]) (fun _=>[.cells (aF s) 25,.cells [.vl (.string (mk [])),.vl (.slice none 0 0),.vl (.slice none 0 0)] 118])
  (fun i=>i<=s.es.length/\c9 (s.es.drop i) n=c9 s.es n) (fun i=>s.es.length - i) 0 2 ⟨Nat.zero_le _,rfl⟩ ?_ ?_ ?_
 · simp [go_sem]
 · simp [go_sem,aF]
 rintro i ⟨hi,ho⟩
 rcases bE i s.es.length with hlt | hge
 · have hg:decide ((i:Int) < (s.es.length:Int))=true:=by simp; omega
   obtain ⟨t,hx⟩:∃ e,s.es[i]? = some e:=⟨_,aW hlt⟩
   have q2:=a7 (row:=aY) hx
   rw [c9,fQ hx] at ho
   cases hc:decide (t.nm=n) with
   | true=>
    rw [hc,bD] at ho
    rw [<-ho] at hK
    simp (maxSteps:=1000000) -dsimp only [go_sem,hg,↓q2,aY,aF,cS,hc]
    refine ⟨by omega,by omega,.sel [] (by simp) (by simp) rfl (.done (by simpa [go_sem,aY] using hK))⟩
   | false=>
    rw [hc,aV] at ho
    simp (maxSteps:=1000000) -dsimp only [go_sem,hg,↓q2,aY,aF,cS,hc]
    refine ⟨by omega,by omega,aE (i + 1) 2 ⟨by omega,ho⟩ (by omega) ?_ ?_⟩
    · simp [go_sem]
    · simp [go_sem,aF]
 · have hg:decide ((i:Int) < (s.es.length:Int))=false:=by simp; omega
   obtain rfl:i=s.es.length:=by omega
   rw [List.drop_length] at ho
   rw [<-ho] at hK
   simp -dsimp only [go_sem,hg,aF]
   exact .sel [] (by simp) (by simp) rfl (.done (by simpa [go_sem,c9,A1] using hK))
theorem IW:Meets Tryz.prog 63 qA:=by
 refine aD Tryz.func63 aMF 2 (by rw [Tryz.ntmps63]; decide) (aA _) (fun av H K h=>by obtain ⟨_,_,rfl,_⟩:=h; rfl) ?_
 rintro av H K ⟨s,n,rfl,rfl,hs,hsm,hK⟩
 have hl:=hs.len
 simp -dsimp only [go_sem,aI,aAY,aB9]
 refine aS (α:=Nat) (fun i=>[(1,iS .i64 n),(2,.va (.c1 (.pt 0 0))),(4,.va (.c1 (.pt 1 0))),(6,iS .i64 i)]) (fun _=>[.cells (aI s) 48,.cells [.vl (.int .i64 0),.vl (.string (mk [])),.vl (.int .i64 0),.vl (.int .i64 0),.vl (.string (mk [])),.vl (.slice none 0 0),.vl (.bool false)] 52])
  (fun i=>i<=s.fs.length/\fF (s.fs.drop i) n=fF s.fs n) (fun i=>s.fs.length - i) 0 2 ⟨Nat.zero_le _,rfl⟩ ?_ ?_ ?_
 · simp [go_sem]
 · simp [go_sem,aI]
 rintro i ⟨hi,ho⟩
 rcases bE i s.fs.length with hlt | hge
 · have hg:decide ((i:Int) < (s.fs.length:Int))=true:=by simp; omega
   obtain ⟨t,hx⟩:∃ e,s.fs[i]? = some e:=⟨_,aW hlt⟩
   have q2:=a7 (row:=aT) hx
   rw [fF,fQ hx] at ho
   have hq:(t.num == n)=decide (t.num=n):=rfl
   cases hc:decide (t.num=n) with
   | true=>
    rw [hc,bD] at ho
    rw [<-ho] at hK
    simp (maxSteps:=1000000) -dsimp only [go_sem,hg,↓q2,aT,aI,hq,hc]
    refine ⟨by omega,by omega,.sel [] (by simp) (by simp) rfl (.done (by simpa [go_sem,aT] using hK))⟩
   | false=>
    rw [hc,aV] at ho
    simp (maxSteps:=1000000) -dsimp only [go_sem,hg,↓q2,aT,aI,hq,hc]
    refine ⟨by omega,by omega,aE (i + 1) 2 ⟨by omega,ho⟩ (by omega) ?_ ?_⟩
    · simp [go_sem]
    · simp [go_sem,aI]
 · have hg:decide ((i:Int) < (s.fs.length:Int))=false:=by simp; omega
   obtain rfl:i=s.fs.length:=by omega
   rw [List.drop_length] at ho
   rw [<-ho] at hK
   simp -dsimp only [go_sem,hg,aI]
   exact .sel [] (by simp) (by simp) rfl (.done (by simpa [go_sem,fF,sJ] using hK))
def bX (l:List (Int × Vl)) (k:Int):Option (Int × Vl):=l.find? fun x=>decide (x.1=k)
def OF:W.Spec:=fun av H K=>∃ (v:Vl) (k:Int),av=[.va (.gs (aM v)),iS .i64 k]/\H=[]/\VlOk v/\v.k=6/\K (.tu [.gs (aM (((bX v.f k).map (·.2)).getD default)),bA (bX v.f k).isSome]) []
theorem L5 {v:Vl} {k:Int} {K:S->Hp->Prop} (h:VlOk v) (h6:v.k=6) (hK:K (.tu [.gs (aM (((bX v.f k).map (·.2)).getD default)),bA (bX v.f k).isSome]) []):OF [.va (.gs [.vl (.int .i64 v.k),.vl (.int .i64 v.n),.vl (.string v.s),.fz (v.l.map aM),.fz (v.f.map bC)]),iS .i64 k] [] K:=⟨v,k,by rw [aJ],rfl,h,h6,hK⟩
theorem AE:aM default=[.vl (.int .i64 0),.vl (.int .i64 0),.vl (.string (mk [])),.fz [],.fz []]:=rfl
theorem X1:Meets Tryz.prog 50 OF:=by
 refine aD Tryz.func50 aOD 2 (by rw [Tryz.ntmps50]; decide) (aA _) (fun av H K h=>by obtain ⟨_,_,rfl,_⟩:=h; rfl) ?_
 rintro av H K ⟨v,k,rfl,rfl,hv,h6,hK⟩
 have hl:=hv.lf
 simp -dsimp only [go_sem,aJ v,YL,aBL]
 refine aS (α:=Nat) (fun i=>[(1,iS .i64 k),(2,.va (.c1 (.pt 0 0))),(4,.va (.c1 (.pt 1 0))),(6,iS .i64 i)]) (fun _=>[.cells [.vl (.int .i64 v.k),.vl (.int .i64 v.n),.vl (.string v.s),.fz (v.l.map aM),.fz (v.f.map bC)] 29,.cells [.vl (.int .i64 0),.vl (.int .i64 0),.vl (.string (mk [])),.vl (.slice none 0 0),.vl (.slice none 0 0)] 29])
  (fun i=>i<=v.f.length/\bX (v.f.drop i) k=bX v.f k) (fun i=>v.f.length - i) 0 2 ⟨Nat.zero_le _,rfl⟩ ?_ ?_ ?_
 · simp -dsimp only [go_sem]<;>simp
 · simp -dsimp only [go_sem]<;>simp
 rintro i ⟨hi,ho⟩
 rcases bE i v.f.length with hlt | hge
 · have hg:decide ((i:Int) < (v.f.length:Int))=true:=by simp; omega
   have g6:(v.k == 6)=true:=by rw [h6]; rfl
   obtain ⟨x,hx⟩:∃ x,v.f[i]? = some x:=⟨_,aW hlt⟩
   have q2:=a7 (row:=bC) hx
   rw [bX,fQ hx] at ho
   obtain ⟨n,w⟩:=x
   cases hc:decide (n=k) with
   | true=>
    simp only [hc,bD] at ho
    rw [<-ho] at hK
    have hc':(n == k)=true:=by simpa using hc
    simp (maxSteps:=1000000) -dsimp only [go_sem,hg,g6,↓q2,bC,aJ w,hc',List.take_succ_cons,List.take_zero,List.length_cons]
    exact ⟨⟨by omega,by omega⟩,⟨by omega,by omega⟩,.sel [] (by simp) (by simp) rfl (.done (by simpa [go_sem,aJ w] using hK))⟩
   | false=>
    simp only [hc,aV] at ho
    have hc':(n == k)=false:=by simpa using hc
    simp (maxSteps:=1000000) -dsimp only [go_sem,hg,g6,↓q2,bC,aJ w,hc']
    refine ⟨⟨by omega,by omega⟩,⟨by omega,by omega⟩,aE (i + 1) 2 ⟨by omega,ho⟩ (by omega) ?_ ?_⟩
    · simp -dsimp only [go_sem]<;>simp
    · simp -dsimp only [go_sem]<;>simp
 · have hg:decide ((i:Int) < (v.f.length:Int))=false:=by simp; omega
   obtain rfl:i=v.f.length:=by omega
   rw [List.drop_length] at ho
   rw [<-ho] at hK
   simp (maxSteps:=1000000) -dsimp only [go_sem,hg]
   exact .sel [] (by simp) (by simp) rfl (.done (by simpa [go_sem,bX,AE] using hK))
def zB:PC:=.seq (.gh (.reg [.l 80 (.ldn 2 (.t 7)),.l 81 (.ldn 5 (.t 5)),.a 82 (.cq 104 [(.t 80),(.t 81)]),.v 6 82])) .ret
@[go_sem ↓] theorem aIX:aO zB:=aP _
def pcN60_7:PC:=.seq (.gh (.reg [.l 74 (.ldn 3 (.t 3)),.q 75 (.fa 2 (.t 4)),.l 76 (.ld1 (.t 75)),.a 77 (.cl 62 [(.t 74),(.t 76)] []),.v 73 77,.q 78 (.ex (.t 73) 0),.q 79 (.ex (.t 73) 1),.e 7 (.al (.agg #[(.string (mk [])),(.slice none 0 0)]) 48),.s (.st 2 (.t 7) (.t 78)),.v 8 79])) (zB)
@[go_sem ↓] theorem aH8:aO pcN60_7:=aP _
def AZ:PC:=.seq (.seq (.gh (.reg [.q 70 (.fa 0 (.t 5)),.l 71 (.ld1 (.t 70)),.q 72 (.bin .neq true (.t 71) (.i 6))])) (.cond (.t 72) (.seq (.reg [.q 6 (.mv (.k (.bool true)))]) .ret) .skip)) (pcN60_7)
@[go_sem ↓] theorem aIO:aO AZ:=aP _
def pcN60_3:PC:=.seq (.seq (.gh (.reg [.q 52 (.fa 0 (.t 5)),.l 53 (.ld1 (.t 52)),.q 54 (.bin .eql true (.t 53) (.i 4)),.v 55 54,⟨some 56,(some (55,false)),.q (.fa 0 (.t 5))⟩,⟨some 57,(some (55,false)),.l (.ld1 (.t 56))⟩,⟨some 58,(some (55,false)),.q (.bin .eql true (.t 57) (.i 5))⟩,.a 59 (.pick (.t 55) (.k (.bool true)) (.t 58)),.v 60 59,⟨some 61,(some (60,false)),.q (.fa 0 (.t 5))⟩,⟨some 62,(some (60,false)),.l (.ld1 (.t 61))⟩,⟨some 63,(some (60,false)),.q (.bin .eql true (.t 62) (.i 6))⟩,.a 64 (.pick (.t 60) (.k (.bool true)) (.t 63)),.v 65 64,⟨some 66,(some (65,true)),.q (.fa 1 (.t 5))⟩,⟨some 67,(some (65,true)),.l (.ld1 (.t 66))⟩,⟨some 68,(some (65,true)),.q (.bin .neq true (.t 67) (.i 0))⟩,.a 69 (.pick (.t 65) (.t 68) (.k (.bool false)))])) (.cond (.t 69) (.seq (.reg [.q 6 (.mv (.k (.bool false)))]) .ret) .skip)) (AZ)
@[go_sem ↓] theorem aIW:aO pcN60_3:=aP _
def yB:PC:=.seq (.reg [.e 3 (.bx 25 (.t 0)),.e 4 (.bx 42 (.t 1)),.e 5 (.bx 29 (.t 2)),.q 6 (.mv (.k (.bool false)))]) (.seq (.seq (.reg [.l 9 (.ldn 3 (.t 3)),.l 10 (.ldn 4 (.t 4)),.a 11 (.cq 103 [(.t 9),(.t 10)]),.q 12 (.not (.t 11)),.v 13 12,⟨some 14,(some (13,false)),.q (.fa 0 (.t 5))⟩,⟨some 15,(some (13,false)),.l (.ld1 (.t 14))⟩,⟨some 16,(some (13,false)),.q (.fa 0 (.t 4))⟩,⟨some 17,(some (13,false)),.l (.ld1 (.t 16))⟩,⟨some 18,(some (13,false)),.q (.bin .neq true (.t 15) (.t 17))⟩,.a 19 (.pick (.t 13) (.k (.bool true)) (.t 18)),.v 20 19,⟨some 21,(some (20,false)),.q (.fa 0 (.t 5))⟩,⟨some 22,(some (20,false)),.l (.ld1 (.t 21))⟩,⟨some 23,(some (20,false)),.q (.bin .neq true (.t 22) (.i 4))⟩,⟨some 24,(some (20,false)),.q (.mv (.t 23))⟩,⟨some 25,(some (24,true)),.q (.fa 2 (.t 5))⟩,⟨some 26,(some (24,true)),.l (.ld1 (.t 25))⟩,⟨some 27,(some (24,true)),.q (.bin .neq true (.t 26) (.k (.string (mk []))))⟩,⟨some 28,(some (20,false)),.pick (.t 24) (.t 27) (.k (.bool false))⟩,.a 29 (.pick (.t 20) (.k (.bool true)) (.t 28)),.v 30 29,⟨some 31,(some (30,false)),.q (.fa 0 (.t 5))⟩,⟨some 32,(some (30,false)),.l (.ld1 (.t 31))⟩,⟨some 33,(some (30,false)),.q (.bin .neq true (.t 32) (.i 5))⟩,⟨some 34,(some (30,false)),.q (.mv (.t 33))⟩,⟨some 35,(some (34,true)),.q (.fa 3 (.t 5))⟩,⟨some 36,(some (34,true)),.l (.ld1 (.t 35))⟩,⟨some 37,(some (34,true)),.q (.lnL (.t 36))⟩,⟨some 38,(some (34,true)),.q (.bin .gtr true (.t 37) (.i 0))⟩,⟨some 39,(some (30,false)),.pick (.t 34) (.t 38) (.k (.bool false))⟩,.a 40 (.pick (.t 30) (.k (.bool true)) (.t 39)),.v 41 40,⟨some 42,(some (41,false)),.q (.fa 0 (.t 5))⟩,⟨some 43,(some (41,false)),.l (.ld1 (.t 42))⟩,⟨some 44,(some (41,false)),.q (.bin .neq true (.t 43) (.i 6))⟩,⟨some 45,(some (41,false)),.q (.mv (.t 44))⟩,⟨some 46,(some (45,true)),.q (.fa 4 (.t 5))⟩,⟨some 47,(some (45,true)),.l (.ld1 (.t 46))⟩,⟨some 48,(some (45,true)),.q (.lnL (.t 47))⟩,⟨some 49,(some (45,true)),.q (.bin .gtr true (.t 48) (.i 0))⟩,⟨some 50,(some (41,false)),.pick (.t 45) (.t 49) (.k (.bool false))⟩,.a 51 (.pick (.t 41) (.k (.bool true)) (.t 50))]) (.cond (.t 51) (.seq (.reg [.q 6 (.mv (.k (.bool false)))]) .ret) .skip)) (pcN60_3))
def lT:List RV:=[.mv (.t 6)]
theorem aFG:aR Tryz.prog true ⟨fun r k=>if r=1/\k=2 then .q else if r=8/\k=2 then .q else .own [],fun r=>[3,5,7,8].contains r⟩ Tryz.f60=some (yB,lT):=by kernel_rfl
def jX:PC:=.seq (.gh (.reg [.v 29 7,.q 30 (.not (.t 29)),.v 31 30,⟨some 32,(some (31,false)),.q (.mv (.t 5))⟩,⟨some 33,(some (31,false)),.q (.bin .gtr true (.t 32) (.i 0))⟩,⟨some 34,(some (31,false)),.q (.mv (.t 33))⟩,⟨some 35,(some (34,true)),.q (.fa 4 (.t 3))⟩,⟨some 36,(some (34,true)),.l (.ld1 (.t 35))⟩,⟨some 37,(some (34,true)),.q (.mv (.t 5))⟩,⟨some 38,(some (34,true)),.l (.ia 6 (.t 36) (.t 37))⟩,⟨some 39,(some (34,true)),.q (.fa 0 (.t 38))⟩,⟨some 40,(some (34,true)),.l (.ld1 (.t 39))⟩,⟨some 41,(some (34,true)),.q (.fa 4 (.t 3))⟩,⟨some 42,(some (34,true)),.l (.ld1 (.t 41))⟩,⟨some 43,(some (34,true)),.q (.mv (.t 5))⟩,⟨some 44,(some (34,true)),.q (.bin .sub true (.t 43) (.i 1))⟩,⟨some 45,(some (34,true)),.l (.ia 6 (.t 42) (.t 44))⟩,⟨some 46,(some (34,true)),.q (.fa 0 (.t 45))⟩,⟨some 47,(some (34,true)),.l (.ld1 (.t 46))⟩,⟨some 48,(some (34,true)),.q (.bin .leq true (.t 40) (.t 47))⟩,⟨some 49,(some (31,false)),.pick (.t 34) (.t 48) (.k (.bool false))⟩,.a 50 (.pick (.t 31) (.k (.bool true)) (.t 49))])) (.cond (.t 50) (.seq (.reg [.q 4 (.mv (.k (.bool false)))]) .ret) .skip)
@[go_sem ↓] theorem aEZ:aO jX:=aP _
def lD:PC:=.seq (.gh (.reg [.v 69 10,.q 70 (.not (.t 69)),.v 71 70,⟨some 72,(some (71,true)),.q (.fa 1 (.t 2))⟩,⟨some 73,(some (71,true)),.l (.ld1 (.t 72))⟩,⟨some 74,(some (71,true)),.q (.mv (.t 8))⟩,⟨some 75,(some (71,true)),.l (.ia 7 (.t 73) (.t 74))⟩,⟨some 76,(some (71,true)),.q (.fa 6 (.t 75))⟩,⟨some 77,(some (71,true)),.l (.ld1 (.t 76))⟩,⟨some 78,(some (71,true)),.q (.not (.t 77))⟩,.a 79 (.pick (.t 71) (.t 78) (.k (.bool false)))])) (.cond (.t 79) (.seq (.reg [.q 4 (.mv (.k (.bool false)))]) .ret) .skip)
@[go_sem ↓] theorem aEL:aO lD:=aP _
def M7:PC:=.seq (.reg [.e 2 (.bx 48 (.t 0)),.e 3 (.bx 29 (.t 1)),.q 4 (.mv (.k (.bool false)))]) (.seq (.seq (.reg [.q 5 (.mv (.i 0))]) (.block 0 (.loop (.seq (.seq (.reg [.v 11 5,.q 12 (.fa 4 (.t 3)),.l 13 (.ld1 (.t 12)),.q 14 (.lnL (.t 13)),.q 15 (.bin .lss true (.t 11) (.t 14))]) (.cond (.t 15) .skip (.exit 0))) (.seq (.block 1 (.seq (.ord  [.q (.l 19 (.ldn 2 (.t 2))),.q (.q 20 (.fa 4 (.t 3))),.q (.l 21 (.ld1 (.t 20))),.q (.v 22 5),.q (.l 23 (.ia 6 (.t 21) (.t 22))),.q (.q 24 (.fa 0 (.t 23))),.q (.l 25 (.ld1 (.t 24))),.m (.a 26 (.cl 63 [(.t 19),(.t 25)] [])),.q (.v 18 26),.q (.q 27 (.ex (.t 18) 0)),.q (.q 28 (.ex (.t 18) 1)),.m (.e 6 (.al (.agg #[(.int .i64 0),(.string (mk [])),(.int .i64 0),(.int .i64 0),(.string (mk [])),(.slice none 0 0),(.bool false)]) 52)),.rc (.v 18 26),.rc (.q 27 (.ex (.t 18) 0)),.rc (.q 28 (.ex (.t 18) 1)),.m (.s (.st 7 (.t 6) (.t 27))),.rc (.q 28 (.ex (.t 18) 1)),.m (.v 7 28)]) (jX))) (.reg [.v 16 5,.q 17 (.bin .add true (.t 16) (.i 1)),.v 5 17])))))) (.seq (.seq (.reg [.q 8 (.mv (.i 0))]) (.block 2 (.loop (.seq (.seq (.reg [.v 51 8,.q 52 (.fa 1 (.t 2)),.l 53 (.ld1 (.t 52)),.q 54 (.lnL (.t 53)),.q 55 (.bin .lss true (.t 51) (.t 54))]) (.cond (.t 55) .skip (.exit 2))) (.seq (.block 3 (.seq (.ord  [.q (.l 59 (.ldn 5 (.t 3))),.q (.q 60 (.fa 1 (.t 2))),.q (.l 61 (.ld1 (.t 60))),.q (.v 62 8),.q (.l 63 (.ia 7 (.t 61) (.t 62))),.q (.q 64 (.fa 0 (.t 63))),.q (.l 65 (.ld1 (.t 64))),.m (.a 66 (.cl 50 [(.t 59),(.t 65)] [])),.q (.v 58 66),.q (.q 67 (.ex (.t 58) 0)),.q (.q 68 (.ex (.t 58) 1)),.m (.e 9 (.al (.agg #[(.int .i64 0),(.int .i64 0),(.string (mk [])),(.slice none 0 0),(.slice none 0 0)]) 29)),.rc (.v 58 66),.rc (.q 67 (.ex (.t 58) 0)),.rc (.q 68 (.ex (.t 58) 1)),.m (.s (.st 5 (.t 9) (.t 67))),.rc (.q 68 (.ex (.t 58) 1)),.m (.v 10 68)]) (lD))) (.reg [.v 56 8,.q 57 (.bin .add true (.t 56) (.i 1)),.v 8 57])))))) (.seq (.reg [.q 4 (.mv (.k (.bool true)))]) .ret)))
def NK:List RV:=[.mv (.t 4)]
theorem aA3:aR Tryz.prog true ⟨fun _ _=>.own [],fun r=>[5,11].contains r⟩ Tryz.f104=some (M7,NK):=by kernel_rfl
theorem G7:Meets Tryz.prog 103 r0Fn.sp:=by
 refine aD Tryz.func103 aEN 2 (by rw [Tryz.ntmps103]; decide) (aG XB (aA _)) (fun av H K h=>by obtain ⟨_,_,rfl,_⟩:=jF h.1.1; rfl) ?_
 rintro av H K ⟨⟨h,rfl⟩,hK⟩
 obtain ⟨s,t,rfl,hs,ht⟩:=jF h
 have k4:=d7 ht
 have k5:=iP t
 have k6:=dQ hs
 have k7:=iB s
 have e:r0Fn.val [.va (.gs (aF s)),.va (.gs (aU t))]=bA (valF s.ss s.es t):=by
  show bA (valF (C.sc (aF s)).ss (C.sc (aF s)).es (C.ty (aU t)))=_
  rw [jH,kY]
 rw [e] at hK
 simp (maxSteps:=1000000) -dsimp only [go_sem,aF,aL t,UA,S1,k4,k5,k6,k7]
 exact .sel [] (by simp) (by simp) rfl (.done (by simpa [go_sem] using hK))
def DB:List S->Prop:=fun av=>match av with
 | [.va (.gs r),.va (.gs q)]=>DO r/\kD q/\(C.vv q).k=6
 | _=>False
theorem pJ {av:List S} (h:DB av):∃ (u:St) (v:Vl),av=[.va (.gs (aI u)),.va (.gs (aM v))]/\u.ok/\(∀ f ∈ u.fs,TySm f.ty)/\VlOk v/\v.k=6:=by
 unfold DB at h
 split at h
 · obtain ⟨⟨u,rfl,h1,h2⟩,⟨v,rfl,h3⟩,h4⟩:=h
   rw [fG] at h4
   exact ⟨u,v,rfl,h1,h2,h3,h4⟩
 · exact h.elim
noncomputable def UE:List S->A:=fun av=>match av with
 | [.va (.gs r),.va (.gs q)]=>bA (bY (C.st r).fs (C.vv q).f)
 | _=>.gs []
noncomputable def s9Fn:Fun:=⟨DB,UE,fun av h=>by obtain ⟨_,_,rfl,_⟩:=pJ h; trivial⟩
attribute [go_sem] s9Fn DB UE
theorem XW (l:List (Int × Vl)) (k:Int):(bX l k).isSome=iN l k:=by
 unfold bX iN
 rw [Bool.eq_iff_iff,List.find?_isSome,List.any_eq_true]
 simp
theorem OY {α:Type} {l:List α} {i:Nat} {x:α} (h:l[i]? = some x) (p:α->Bool):(l.drop i).all p=(p x && (l.drop (i + 1)).all p):=by
 obtain ⟨h1,h2⟩:=bH.1 h
 subst h2
 rw [List.drop_eq_getElem_cons h1,List.all_cons]
theorem O5:Meets Tryz.prog 104 s9Fn.sp:=by
 refine aD Tryz.func104 aA3 2 (by rw [Tryz.ntmps104]; decide) (aC IW (aC X1 (aA _))) (fun av H K h=>by obtain ⟨_,_,rfl,_⟩:=pJ h.1.1; rfl) ?_
 rintro av H K ⟨⟨h,rfl⟩,hK⟩
 obtain ⟨u,v,rfl,hu,hus,hv,hk6⟩:=pJ h
 replace hK:K (bS (bY u.fs v.f)) []:=by
  have:s9Fn.val [.va (.gs (aI u)),.va (.gs (aM v))]=bA (bY u.fs v.f):=by simp -dsimp only [go_sem]
  rw [this] at hK; exact hK
 clear h
 have fin:∀ (b:Bool) (R:Hp),bY u.fs v.f=b->W.Fin 0 K (bS b) R:=fun b R h=>by
  rw [h] at hK; exact .sel [] (by simp) (by simp) rfl (.done (by simpa [go_sem] using hK))
 clear hK
 have hfl:=hu.len
 have hll:=hv.lf
 generalize hR:u.fs.all (fun f=>f.opt || iN v.f f.num)=R2
 have hF:bY u.fs v.f=(ftA u.fs none v.f && R2):=by rw [<-hR]; rfl
 rw [hF] at fin
 generalize hR0:(ftA u.fs none v.f && R2)=R0 at fin
 clear hF
 simp (maxSteps:=1000000) -dsimp only [go_sem,aI,aJ v,M7,NK]
 refine aS (α:=Nat) (fun i=>[(2,.va (.c1 (.pt 0 0))),(3,.va (.c1 (.pt 1 0))),(5,iS .i64 i)]) (fun _=>[.cells [.vl (.string u.nm),.fz (u.fs.map aT)] 48,.cells [.vl (.int .i64 v.k),.vl (.int .i64 v.n),.vl (.string v.s),.fz (v.l.map aM),.fz (v.f.map bC)] 29])
  (fun i=>i<=v.f.length/\(ftA u.fs (t6 v.f i) (v.f.drop i) && R2)=R0) (fun i=>v.f.length - i) 0 2 ⟨Nat.zero_le _,hR0⟩ ?_ ?_ ?_
 · simp -dsimp only [go_sem]<;>simp
 · simp -dsimp only [go_sem]<;>simp
 rintro i ⟨hi,ho⟩
 rcases bE i v.f.length with hlt | hge
 · have hg:decide ((i:Int) < (v.f.length:Int))=true:=by simp; omega
   obtain ⟨x,hx⟩:∃ t,v.f[i]? = some t:=⟨_,aW hlt⟩
   have q1:=gG hx
   have hdr:v.f.drop i=x :: v.f.drop (i + 1):=by
    obtain ⟨h,rfl⟩:=bH.1 hx
    exact List.drop_eq_getElem_cons h
   have hpv:t6 v.f (i + 1)=some x.1:=by rw [t6,hx]; rfl
   rw [hdr,mH,<-hpv] at ho
   simp (maxSteps:=1000000) -dsimp only [go_sem,hg,↓q1]
   refine ⟨by omega,FA hu hus ?_⟩
   cases hf:(fF u.fs x.1).isSome with
   | false=>
    rw [hf,Bool.false_and,Bool.false_and,Bool.false_and] at ho
    simp (maxSteps:=1000000) -dsimp only [go_sem,aT]
    refine aB rfl (.done ?_)
    simp (maxSteps:=1000000) -dsimp only [go_sem,jX,Bool.false_and]
    exact fin _ _ ho.symm
   | true=>
    rw [hf,Bool.true_and] at ho
    simp (maxSteps:=1000000) -dsimp only [go_sem,aT]
    refine aB rfl (.done ?_)
    cases hz:decide ((0:Int) < (i:Int)) with
    | false=>
     obtain rfl:i=0:=by have:=of_decide_eq_false hz; omega
     simp (maxSteps:=1000000) -dsimp only [go_sem,jX,hz]
     refine ⟨by omega,aE (0 + 1) 2 ⟨by omega,ho⟩ (by omega) ?_ ?_⟩
     · simp -dsimp only [go_sem]<;>simp
     · simp -dsimp only [go_sem]<;>simp
    | true=>
     have hz':=of_decide_eq_true hz
     obtain ⟨y,hy⟩:∃ t,v.f[i - 1]? = some t:=⟨_,aW (by omega)⟩
     have hti:((i:Int) - 1).toNat=i - 1:=by omega
     have q2:=fun p=>M8 (n:=(i:Int) - 1) (x:=y) (by rw [hti]; exact hy) p
     have hpi:t6 v.f i=some y.1:=by
      match i,hz',hy with
      | j + 1,_,hy=>rw [t6]; rw [show j + 1 - 1=j by omega] at hy; rw [hy]; rfl
     rw [hpi,TW] at ho
     have f1:(0<=(i:Int) - 1)=True:=eq_true (by omega)
     have f2:((i:Int) - 1 < (v.f.length:Int))=True:=eq_true (by omega)
     cases hc:decide (x.1<=y.1) with
     | true=>
      have:decide (y.1 < x.1)=false:=by have:=of_decide_eq_true hc; simp; omega
      rw [this] at ho
      simp (maxSteps:=1000000) -dsimp only [go_sem,jX,hz,↓q1,↓q2,hc,f1,f2]
      exact ⟨⟨by omega,by omega⟩,⟨by omega,by omega⟩,fin _ _ ho.symm⟩
     | false=>
      have:decide (y.1 < x.1)=true:=by have:=of_decide_eq_false hc; simp; omega
      rw [this,Bool.true_and] at ho
      simp (maxSteps:=1000000) -dsimp only [go_sem,jX,hz,↓q1,↓q2,hc,f1,f2]
      refine ⟨⟨by omega,by omega⟩,⟨by omega,by omega⟩,⟨by omega,by omega⟩,aE (i + 1) 2 ⟨by omega,ho⟩ (by omega) ?_ ?_⟩
      · simp -dsimp only [go_sem]<;>simp
      · simp -dsimp only [go_sem]<;>simp
 · have hg:decide ((i:Int) < (v.f.length:Int))=false:=by simp; omega
   obtain rfl:i=v.f.length:=by omega
   rw [List.drop_length,y6,Bool.true_and] at ho
   simp (maxSteps:=1000000) -dsimp only [go_sem,hg]
   clear hi hge hg hR0
   rw [<-hR] at ho
   refine aS (α:=Nat) (fun i=>[(2,.va (.c1 (.pt 0 0))),(3,.va (.c1 (.pt 1 0))),(8,iS .i64 i)]) (fun _=>[.cells [.vl (.string u.nm),.fz (u.fs.map aT)] 48,.cells [.vl (.int .i64 v.k),.vl (.int .i64 v.n),.vl (.string v.s),.fz (v.l.map aM),.fz (v.f.map bC)] 29])
    (fun i=>i<=u.fs.length/\((u.fs.drop i).all fun f=>f.opt || iN v.f f.num)=R0) (fun i=>u.fs.length - i) 0 2 ⟨Nat.zero_le _,ho⟩ ?_ ?_ ?_
   · simp -dsimp only [go_sem]<;>simp
   · simp -dsimp only [go_sem]<;>simp
   clear ho
   rintro i ⟨hi,ho⟩
   rcases bE i u.fs.length with hlt | hge
   · have hg:decide ((i:Int) < (u.fs.length:Int))=true:=by simp; omega
     obtain ⟨f,hx⟩:∃ t,u.fs[i]? = some t:=⟨_,aW hlt⟩
     have q1:=a7 (row:=aT) hx
     rw [OY hx,<-XW] at ho
     simp (maxSteps:=1000000) -dsimp only [go_sem,hg,↓q1,aT]
     refine ⟨by omega,L5 hv hk6 ?_⟩
     generalize ((bX v.f f.num).map (·.2)).getD default=w
     cases h1:(bX v.f f.num).isSome with
     | true=>
      rw [h1,Bool.or_true,Bool.true_and] at ho
      simp (maxSteps:=1000000) -dsimp only [go_sem,aJ w]
      refine aB rfl (.done ?_)
      simp (maxSteps:=1000000) -dsimp only [go_sem,lD]
      refine ⟨by omega,aE (i + 1) 2 ⟨by omega,ho⟩ (by omega) ?_ ?_⟩
      · simp -dsimp only [go_sem]<;>simp
      · simp -dsimp only [go_sem]<;>simp
     | false=>
      rw [h1,Bool.or_false] at ho
      cases h2:f.opt with
      | true=>
       rw [h2,Bool.true_and] at ho
       simp (maxSteps:=1000000) -dsimp only [go_sem,aJ w]
       refine aB rfl (.done ?_)
       simp (maxSteps:=1000000) -dsimp only [go_sem,lD,↓q1,aT,h2]
       refine ⟨⟨by omega,by omega⟩,by omega,aE (i + 1) 2 ⟨by omega,ho⟩ (by omega) ?_ ?_⟩
       · simp -dsimp only [go_sem]<;>simp
       · simp -dsimp only [go_sem]<;>simp
      | false=>
       rw [h2,Bool.false_and] at ho
       simp (maxSteps:=1000000) -dsimp only [go_sem,aJ w]
       refine aB rfl (.done ?_)
       simp (maxSteps:=1000000) -dsimp only [go_sem,lD,↓q1,aT,h2]
       exact ⟨⟨by omega,by omega⟩,fin _ _ ho.symm⟩
   · have hg:decide ((i:Int) < (u.fs.length:Int))=false:=by simp; omega
     obtain rfl:i=u.fs.length:=by omega
     rw [List.drop_length] at ho
     simp (maxSteps:=1000000) -dsimp only [go_sem,hg]
     exact fin _ _ ho.symm
def yG (v:Vl):Bool:=(v.k != 4 && !(bl v.s == [])) || (v.k != 5 && decide (0 < (v.l.length:Int))) || (v.k != 6 && decide (0 < (v.f.length:Int)))
def GW (v:Vl):Bool:=(v.k == 4 || v.k == 5 || v.k == 6) && v.n != 0
def gP (s:Sc) (t:Ty) (v:Vl):Bool:=bif !(valF s.ss s.es t) || v.k != t.k || yG v then false else bif GW v then false else bif v.k != 6 then true else bY (stOf s t).fs v.f
theorem OS {s:Sc} (hs:s.fit) (t:Ty):DO (aI (stOf s t)):=FH hs t.n
theorem X3:Meets Tryz.prog 60 (eC (fun _ _ _=>True) fun s t v=>.bool (gP s t v)).sp:=by
 refine aD Tryz.func60 aFG 3 (by rw [Tryz.ntmps60]; decide) (aG G7 (aC FR (aG O5 (aA _)))) eF ?_
 intro av H K h
 obtain ⟨s,t,v,rfl,rfl,hs,ht,hv,_,hK⟩:=dF h
 clear h
 have fin:∀ (b:Bool) (R:Hp),gP s t v=b->W.Fin 0 K (bS b) R:=fun b R h=>by
  rw [h] at hK; exact .sel [] (by simp) (by simp) rfl (.done (by simpa [go_sem] using hK))
 clear hK
 unfold gP at fin
 have k1:=cD hv
 have k2:=dS v
 have k4:=d7 ht
 have k5:=iP t
 have k6:=dQ hs
 have k7:=iB s
 have e:∀ (a b:Bool),(a=true->b=true)->True:=fun _ _ _=>trivial
 clear e
 have tail7:(v.k == 6)=true->(∀ (b:Bool) (R:Hp),bY (stOf s t).fs v.f=b->W.Fin 0 K (bS b) R)->vc [(103,.f r0Fn),(62,.s o9),(104,.f s9Fn)] 0 pcN60_7.ungh
  (eM [(3,.va (.c1 (.pt 0 0))),(4,.va (.c1 (.pt 1 0))),(5,.va (.c1 (.pt 2 0)))]) [.cells [.vl (.int .i64 s.ver),.fz (s.es.map aY),.fz (s.ss.map aI)] 25,.cells [.vl (.int .i64 t.k),.vl (.int .i64 t.s),.vl (.string t.n),.fz (t.e.map aU)] 42,.cells [.vl (.int .i64 v.k),.vl (.int .i64 v.n),.vl (.string v.s),.fz (v.l.map aM),.fz (v.f.map bC)] 29] (jC 0 lT K):=fun h6 fin=>by
  have hk6:v.k=6:=eq_of_beq h6
  have u1:=OS hs t
  have u2:C.st (aI (stOf s t))=stOf s t:=wJ _
  simp (maxSteps:=1000000) -dsimp only [go_sem,pcN60_7,lT]
  refine gW hs ?_
  rw [show (fS s.ss t.n).getD default=stOf s t from rfl]
  generalize stOf s t=u at *
  unfold aI at u1 u2
  simp (maxSteps:=1000000) -dsimp only [go_sem,aI]
  refine aB rfl (.done ?_)
  simp (maxSteps:=1000000) -dsimp only [go_sem,zB,k1,k2,u1,u2]
  exact ⟨hk6,fin _ _ rfl⟩
 have tail3:(∀ (b:Bool) (R:Hp),(bif GW v then false else bif v.k != 6 then true else bY (stOf s t).fs v.f)=b->W.Fin 0 K (bS b) R)->vc [(103,.f r0Fn),(62,.s o9),(104,.f s9Fn)] 0 pcN60_3.ungh
  (eM [(3,.va (.c1 (.pt 0 0))),(4,.va (.c1 (.pt 1 0))),(5,.va (.c1 (.pt 2 0)))]) [.cells [.vl (.int .i64 s.ver),.fz (s.es.map aY),.fz (s.ss.map aI)] 25,.cells [.vl (.int .i64 t.k),.vl (.int .i64 t.s),.vl (.string t.n),.fz (t.e.map aU)] 42,.cells [.vl (.int .i64 v.k),.vl (.int .i64 v.n),.vl (.string v.s),.fz (v.l.map aM),.fz (v.f.map bC)] 29] (jC 0 lT K):=fun fin=>by
  unfold GW at fin
  cases b4:v.k == 4<;>cases b5:v.k == 5<;>cases b6:v.k == 6<;>cases bn:v.n != 0<;>rw [b4,b5,b6,bn] at fin <;>
  · simp (maxSteps:=1000000) -dsimp only [go_sem,pcN60_3,lT,b4,b5,b6,bn]
    first
     | exact fin false _ rfl
     | (refine aB rfl (.done ?_)
        have c6:(v.k != 6)=!(v.k == 6):=rfl
        rw [b6] at c6
        simp (maxSteps:=1000000) -dsimp only [go_sem,AZ,c6,Bool.not_false,Bool.not_true]
        first
         | exact fin true _ (by rw [c6]; rfl)
         | (refine eO 3 (tail7 b6 fun b R h=>fin b R (by rw [c6]; exact h)) ?_ ?_
            · simp -dsimp only [go_sem]<;>simp
            · simp -dsimp only [go_sem]<;>simp))
 cases h1:valF s.ss s.es t with
 | false=>
  rw [h1] at fin
  simp (maxSteps:=1000000) -dsimp only [go_sem,aF,aL t,aJ v,yB,lT,k4,k5,k6,k7,h1,Bool.not_false]
  exact fin false _ rfl
 | true=>
 cases h2:v.k != t.k with
 | true=>
  rw [h1,h2] at fin
  simp (maxSteps:=1000000) -dsimp only [go_sem,aF,aL t,aJ v,yB,lT,k4,k5,k6,k7,h1,h2,Bool.not_true]
  exact fin false _ rfl
 | false=>
 rw [h1,h2,Bool.not_true,Bool.false_or,Bool.false_or] at fin
 have hA:∀ b:Bool,yG v=b->((v.k != 4 && !(bl v.s == [])) || (v.k != 5 && decide (0 < (v.l.length:Int))) || (v.k != 6 && decide (0 < (v.f.length:Int))))=b:=fun b h=>h
 cases hA':yG v with
 | true=>
  have hA:=hA true hA'
  rw [hA'] at fin
  cases a1:v.k != 4<;>cases a2:bl v.s == []<;>cases a3:v.k != 5<;>cases a4:decide (0 < (v.l.length:Int))<;>cases a5:v.k != 6<;>cases a6:decide (0 < (v.f.length:Int)) <;>
  first
   | (exfalso; rw [a1,a2,a3,a4,a5,a6] at hA; exact absurd hA (by decide))
   | (simp (maxSteps:=1000000) -dsimp only [go_sem,aF,aL t,aJ v,yB,lT,k4,k5,k6,k7,h1,h2,a1,a2,a3,a4,a5,a6,Bool.not_true,Bool.false_and]
      exact fin false _ rfl)
 | false=>
  have hA:=hA false hA'
  rw [hA',aV] at fin
  cases a1:v.k != 4<;>cases a2:bl v.s == []<;>cases a3:v.k != 5<;>cases a4:decide (0 < (v.l.length:Int))<;>cases a5:v.k != 6<;>cases a6:decide (0 < (v.f.length:Int)) <;>
  first
   | (exfalso; rw [a1,a2,a3,a4,a5,a6] at hA; exact absurd hA (by decide))
   | (simp (maxSteps:=1000000) -dsimp only [go_sem,aF,aL t,aJ v,yB,lT,k4,k5,k6,k7,h1,h2,a1,a2,a3,a4,a5,a6,Bool.not_true,Bool.not_false,Bool.true_and,Bool.and_false]
      refine eO 3 (tail3 fin) ?_ ?_
      · simp -dsimp only [go_sem]<;>simp
      · simp -dsimp only [go_sem]<;>simp)
def o8:PC:=.seq (.gh (.reg [.v 105 14,.q 106 (.bin .neq true (.t 105) (.i 0))])) (.cond (.t 106) (.seq (.reg [.v 107 14,.v 6 107]) .ret) .skip)
@[go_sem ↓] theorem aFS:aO o8:=aP _
def p6:PC:=.seq (.gh (.reg [.l 95 (.ldn 3 (.t 3)),.q 96 (.fa 2 (.t 12)),.l 97 (.ldn 4 (.t 96)),.q 98 (.fa 4 (.t 5)),.l 99 (.ld1 (.t 98)),.v 100 11,.l 101 (.ia 6 (.t 99) (.t 100)),.q 102 (.fa 1 (.t 101)),.l 103 (.ldn 5 (.t 102)),.a 104 (.cq 34 [(.t 95),(.t 97),(.t 103)]),.v 14 104])) (o8)
@[go_sem ↓] theorem aHV:aO p6:=aP _
def uJ:PC:=.seq (.seq (.gh (.reg [.q 11 (.mv (.i 0))])) (.block 2 (.loop (.seq (.seq (.reg [.v 77 11,.q 78 (.fa 4 (.t 5)),.l 79 (.ld1 (.t 78)),.q 80 (.lnL (.t 79)),.q 81 (.bin .lss true (.t 77) (.t 80))]) (.cond (.t 81) .skip (.exit 2))) (.seq (.block 3 (.seq (.ord  [.q (.l 85 (.ldn 2 (.t 9))),.q (.q 86 (.fa 4 (.t 5))),.q (.l 87 (.ld1 (.t 86))),.q (.v 88 11),.q (.l 89 (.ia 6 (.t 87) (.t 88))),.q (.q 90 (.fa 0 (.t 89))),.q (.l 91 (.ld1 (.t 90))),.m (.a 92 (.cl 63 [(.t 85),(.t 91)] [])),.q (.v 84 92),.q (.q 93 (.ex (.t 84) 0)),.q (.q 94 (.ex (.t 84) 1)),.m (.e 12 (.al (.agg #[(.int .i64 0),(.string (mk [])),(.int .i64 0),(.int .i64 0),(.string (mk [])),(.slice none 0 0),(.bool false)]) 52)),.rc (.v 84 92),.rc (.q 93 (.ex (.t 84) 0)),.rc (.q 94 (.ex (.t 84) 1)),.m (.s (.st 7 (.t 12) (.t 93))),.rc (.q 94 (.ex (.t 84) 1)),.m (.v 13 94)]) (p6))) (.reg [.v 82 11,.q 83 (.bin .add true (.t 82) (.i 1)),.v 11 83])))))) (.seq (.reg [.q 6 (.mv (.i 0))]) .ret)
@[go_sem ↓] theorem aGQ:aO uJ:=aP _
def uZ:PC:=.seq (.gh (.reg [.l 71 (.ldn 3 (.t 3)),.q 72 (.fa 2 (.t 4)),.l 73 (.ld1 (.t 72)),.a 74 (.cl 62 [(.t 71),(.t 73)] []),.v 70 74,.q 75 (.ex (.t 70) 0),.q 76 (.ex (.t 70) 1),.e 9 (.al (.agg #[(.string (mk [])),(.slice none 0 0)]) 48),.s (.st 2 (.t 9) (.t 75)),.v 10 76])) (uJ)
@[go_sem ↓] theorem aFT:aO uZ:=aP _
def pcM34_7:PC:=.seq (.seq (.gh (.reg [.q 7 (.mv (.i 0))])) (.block 0 (.loop (.seq (.seq (.reg [.v 49 7,.q 50 (.fa 3 (.t 5)),.l 51 (.ld1 (.t 50)),.q 52 (.lnL (.t 51)),.q 53 (.bin .lss true (.t 49) (.t 52))]) (.cond (.t 53) .skip (.exit 0))) (.seq (.block 1 (.seq (.reg [.l 56 (.ldn 3 (.t 3)),.q 57 (.fa 3 (.t 4)),.l 58 (.ld1 (.t 57)),.l 59 (.ia 4 (.t 58) (.i 0)),.l 60 (.ldn 4 (.t 59)),.q 61 (.fa 3 (.t 5)),.l 62 (.ld1 (.t 61)),.v 63 7,.l 64 (.ia 5 (.t 62) (.t 63)),.l 65 (.ldn 5 (.t 64)),.a 66 (.cq 34 [(.t 56),(.t 60),(.t 65)]),.v 8 66]) (.seq (.reg [.v 67 8,.q 68 (.bin .neq true (.t 67) (.i 0))]) (.cond (.t 68) (.seq (.reg [.v 69 8,.v 6 69]) .ret) .skip)))) (.reg [.v 54 7,.q 55 (.bin .add true (.t 54) (.i 1)),.v 7 55])))))) (uZ)
@[go_sem ↓] theorem aJG:aO pcM34_7:=aP _
def sI:PC:=.seq (.seq (.gh (.reg [.q 25 (.fa 0 (.t 4)),.l 26 (.ld1 (.t 25)),.q 27 (.bin .eql true (.t 26) (.i 4)),.v 28 27,⟨some 29,(some (28,true)),.q (.fa 2 (.t 5))⟩,⟨some 30,(some (28,true)),.l (.ld1 (.t 29))⟩,⟨some 31,(some (28,true)),.q (.lnS (.t 30))⟩,⟨some 32,(some (28,true)),.q (.fa 1 (.t 4))⟩,⟨some 33,(some (28,true)),.l (.ld1 (.t 32))⟩,⟨some 34,(some (28,true)),.q (.bin .gtr true (.t 31) (.t 33))⟩,.a 35 (.pick (.t 28) (.t 34) (.k (.bool false))),.v 36 35,⟨some 37,(some (36,false)),.q (.fa 0 (.t 4))⟩,⟨some 38,(some (36,false)),.l (.ld1 (.t 37))⟩,⟨some 39,(some (36,false)),.q (.bin .eql true (.t 38) (.i 5))⟩,⟨some 40,(some (36,false)),.q (.mv (.t 39))⟩,⟨some 41,(some (40,true)),.q (.fa 3 (.t 5))⟩,⟨some 42,(some (40,true)),.l (.ld1 (.t 41))⟩,⟨some 43,(some (40,true)),.q (.lnL (.t 42))⟩,⟨some 44,(some (40,true)),.q (.fa 1 (.t 4))⟩,⟨some 45,(some (40,true)),.l (.ld1 (.t 44))⟩,⟨some 46,(some (40,true)),.q (.bin .gtr true (.t 43) (.t 45))⟩,⟨some 47,(some (36,false)),.pick (.t 40) (.t 46) (.k (.bool false))⟩,.a 48 (.pick (.t 36) (.k (.bool true)) (.t 47))])) (.cond (.t 48) (.seq (.reg [.q 6 (.mv (.i 3))]) .ret) .skip)) (pcM34_7)
@[go_sem ↓] theorem aIH:aO sI:=aP _
def tH:PC:=.seq (.seq (.gh (.reg [.l 20 (.ldn 3 (.t 3)),.l 21 (.ldn 4 (.t 4)),.l 22 (.ldn 5 (.t 5)),.a 23 (.cq 61 [(.t 20),(.t 21),(.t 22)]),.q 24 (.not (.t 23))])) (.cond (.t 24) (.seq (.reg [.q 6 (.mv (.i 4))]) .ret) .skip)) (sI)
@[go_sem ↓] theorem aIF:aO tH:=aP _
def KC:PC:=.seq (.reg [.e 3 (.bx 25 (.t 0)),.e 4 (.bx 42 (.t 1)),.e 5 (.bx 29 (.t 2)),.q 6 (.mv (.i 0))]) (.seq (.seq (.reg [.l 15 (.ldn 3 (.t 3)),.l 16 (.ldn 4 (.t 4)),.l 17 (.ldn 5 (.t 5)),.a 18 (.cq 60 [(.t 15),(.t 16),(.t 17)]),.q 19 (.not (.t 18))]) (.cond (.t 19) (.seq (.reg [.q 6 (.mv (.i 13))]) .ret) .skip)) (tH))
def xX:List RV:=[.mv (.t 6)]
theorem aFN:aR Tryz.prog true ⟨fun r k=>if r=1/\k=3 then .q else if r=3/\k=3 then .q else if r=10/\k=10 then .q else if r=18/\k=9 then .q else .own [],fun r=>[3,5,7,13,14,18,19].contains r⟩ Tryz.f34=some (KC,xX):=by kernel_rfl
def y7:PC:=.seq (.gh (.reg [.q 28 (.fa 1 (.t 5)),.l 29 (.ld1 (.t 28)),.q 30 (.bin .eql true (.t 29) (.i 0)),.v 31 30,⟨some 32,(some (31,false)),.q (.fa 1 (.t 5))⟩,⟨some 33,(some (31,false)),.l (.ld1 (.t 32))⟩,⟨some 34,(some (31,false)),.q (.bin .eql true (.t 33) (.i 1))⟩,.a 35 (.pick (.t 31) (.k (.bool true)) (.t 34)),.v 6 35])) .ret
@[go_sem ↓] theorem aJZ:aO y7:=aP _
def pB:PC:=.seq (.gh (.reg [.q 38 (.fa 1 (.t 4)),.l 39 (.ld1 (.t 38)),.q 40 (.bin .eql true (.t 39) (.i 64)),.v 41 40,⟨some 42,(some (41,false)),.q (.fa 1 (.t 5))⟩,⟨some 43,(some (41,false)),.l (.ld1 (.t 42))⟩,⟨some 44,(some (41,false)),.q (.mv (.t 7))⟩,⟨some 45,(some (41,false)),.q (.bin .sub true (.i 0) (.t 44))⟩,⟨some 46,(some (41,false)),.q (.bin .geq true (.t 43) (.t 45))⟩,⟨some 47,(some (41,false)),.q (.mv (.t 46))⟩,⟨some 48,(some (47,true)),.q (.fa 1 (.t 5))⟩,⟨some 49,(some (47,true)),.l (.ld1 (.t 48))⟩,⟨some 50,(some (47,true)),.q (.mv (.t 7))⟩,⟨some 51,(some (47,true)),.q (.bin .lss true (.t 49) (.t 50))⟩,⟨some 52,(some (41,false)),.pick (.t 47) (.t 51) (.k (.bool false))⟩,.a 53 (.pick (.t 41) (.k (.bool true)) (.t 52)),.v 6 53])) .ret
@[go_sem ↓] theorem aGM:aO pB:=aP _
def uV:PC:=.seq (.gh (.reg [.q 56 (.fa 1 (.t 5)),.l 57 (.ld1 (.t 56)),.q 58 (.bin .geq true (.t 57) (.i 0)),.v 59 58,⟨some 60,(some (59,true)),.q (.fa 1 (.t 5))⟩,⟨some 61,(some (59,true)),.l (.ld1 (.t 60))⟩,⟨some 62,(some (59,true)),.q (.mv (.t 7))⟩,⟨some 63,(some (59,true)),.q (.bin .mul true (.i 2) (.t 62))⟩,⟨some 64,(some (59,true)),.q (.bin .lss true (.t 61) (.t 63))⟩,.a 65 (.pick (.t 59) (.t 64) (.k (.bool false))),.v 6 65])) .ret
@[go_sem ↓] theorem aFZ:aO uV:=aP _
def uK:PC:=.seq (.gh (.reg [.l 69 (.ldn 3 (.t 3)),.q 70 (.fa 2 (.t 4)),.l 71 (.ld1 (.t 70)),.a 72 (.cl 105 [(.t 69),(.t 71)] []),.v 68 72,.q 73 (.ex (.t 68) 0),.q 74 (.ex (.t 68) 1),.e 9 (.al (.agg #[(.string (mk [])),(.slice none 0 0),(.slice none 0 0)]) 118),.s (.st 3 (.t 9) (.t 73)),.v 10 74])) (.seq (.seq (.reg [.q 11 (.mv (.i 0))]) (.block 3 (.loop (.seq (.seq (.reg [.v 75 11,.q 76 (.fa 2 (.t 9)),.l 77 (.ld1 (.t 76)),.q 78 (.lnL (.t 77)),.q 79 (.bin .lss true (.t 75) (.t 78))]) (.cond (.t 79) .skip (.exit 3))) (.seq (.block 4 (.seq (.reg [.q 82 (.fa 2 (.t 9)),.l 83 (.ld1 (.t 82)),.v 84 11,.l 85 (.ia 1 (.t 83) (.t 84)),.l 86 (.ld1 (.t 85)),.q 87 (.fa 1 (.t 5)),.l 88 (.ld1 (.t 87)),.q 89 (.bin .eql true (.t 86) (.t 88))]) (.cond (.t 89) (.seq (.reg [.q 6 (.mv (.k (.bool true)))]) .ret) .skip))) (.reg [.v 80 11,.q 81 (.bin .add true (.t 80) (.i 1)),.v 11 81])))))) (.seq (.reg [.q 6 (.mv (.k (.bool false)))]) .ret))
@[go_sem ↓] theorem aE8:aO uK:=aP _
def pcM61_6:PC:=.seq (.seq (.gh (.reg [.q 24 (.fa 0 (.t 4)),.l 25 (.ld1 (.t 24))])) (.block 2 (.seq (.reg [.q 27 (.bin .eql true (.t 25) (.i 1)),.v 26 27]) (.cond (.t 26) (y7) (.seq (.reg [.q 37 (.bin .eql true (.t 25) (.i 2)),.v 36 37]) (.cond (.t 36) (pB) (.seq (.reg [.q 55 (.bin .eql true (.t 25) (.i 3)),.v 54 55]) (.cond (.t 54) (uV) (.seq (.reg [.q 67 (.bin .eql true (.t 25) (.i 7)),.v 66 67]) (.cond (.t 66) (uK) .skip)))))))))) (.seq (.reg [.q 6 (.mv (.k (.bool true)))]) .ret)
@[go_sem ↓] theorem aH6:aO pcM61_6:=aP _
def SG:PC:=.seq (.reg [.e 3 (.bx 25 (.t 0)),.e 4 (.bx 42 (.t 1)),.e 5 (.bx 29 (.t 2)),.q 6 (.mv (.k (.bool false)))]) (.seq (.reg [.q 7 (.mv (.i 1))]) (.seq (.seq (.reg [.q 8 (.mv (.i 1))]) (.block 0 (.loop (.seq (.seq (.reg [.v 12 8,.q 13 (.fa 1 (.t 4)),.l 14 (.ld1 (.t 13)),.q 15 (.bin .lss true (.t 12) (.t 14)),.v 16 15,⟨some 17,(some (16,true)),.q (.mv (.t 8))⟩,⟨some 18,(some (16,true)),.q (.bin .lss true (.t 17) (.i 63))⟩,.a 19 (.pick (.t 16) (.t 18) (.k (.bool false)))]) (.cond (.t 19) .skip (.exit 0))) (.seq (.block 1 (.reg [.v 22 7,.q 23 (.bin .mul true (.i 2) (.t 22)),.v 7 23])) (.reg [.v 20 8,.q 21 (.bin .add true (.t 20) (.i 1)),.v 8 21])))))) (pcM61_6)))
def nE:List RV:=[.mv (.t 6)]
theorem aH1:aR Tryz.prog true ⟨fun _ _=>.own [],fun r=>[6,8,10,12,14].contains r⟩ Tryz.f61=some (SG,nE):=by kernel_rfl
def m5 (i:Nat):Int:=2 ^ (i - 1)
theorem JN {i:Nat} (h:1<=i):2 * m5 i=m5 (i + 1):=by
 unfold m5
 obtain ⟨j,rfl⟩:∃ j,i=j + 1:=⟨i - 1,by omega⟩
 rw [Nat.add_sub_cancel,Nat.add_sub_cancel,Int.pow_succ,Int.mul_comm]
theorem KS {i:Nat} (h:i<=63):1<=m5 i/\m5 i<=4611686018427387904:=by
 unfold m5
 have h1:(2:Nat) ^ (i - 1)<=2 ^ 62:=Nat.pow_le_pow_right (by decide) (by omega)
 have h2:1<=(2:Nat) ^ (i - 1):=Nat.one_le_two_pow
 have e:((2:Int) ^ (i - 1))=(((2:Nat) ^ (i - 1):Nat):Int):=by rw [Int.natCast_pow]; rfl
 rw [e]
 have:(2:Nat) ^ 62=4611686018427387904:=by decide
 omega
theorem va2 {ss:List St} {es:List En} {t:Ty} (h:valF ss es t=true) (hk:(t.k == 2)=true):t.s=8\/t.s=16\/t.s=32\/t.s=64:=by
 obtain ⟨k,s,n,e⟩:=t
 have hk:k=2:=eq_of_beq hk
 subst hk
 rw [valF] at h
 simp at h
 show s=8\/s=16\/s=32\/s=64
 omega
theorem va3 {ss:List St} {es:List En} {t:Ty} (h:valF ss es t=true) (hk:(t.k == 3)=true):t.s=8\/t.s=16\/t.s=32:=by
 obtain ⟨k,s,n,e⟩:=t
 have hk:k=3:=eq_of_beq hk
 subst hk
 rw [valF] at h
 simp at h
 show s=8\/s=16\/s=32
 omega
def mX (s:Sc) (t:Ty) (n:Int):Bool:=
 bif t.k == 1 then n == 0 || n == 1
 else bif t.k == 2 then t.s == 64 || (decide (-(2 ^ (t.s.toNat - 1):Int)<=n) && decide (n < (2 ^ (t.s.toNat - 1):Int)))
 else bif t.k == 3 then decide (0<=n) && decide (n < (2 ^ t.s.toNat:Int))
 else bif t.k == 7 then (enOf s t).vs.any fun x=>x == n else true
theorem QS:Meets Tryz.prog 61 (eC (fun s t _=>valF s.ss s.es t=true) fun s t v=>.bool (mX s t v.n)).sp:=by
 refine aD Tryz.func61 aH1 3 (by rw [Tryz.ntmps61]; decide) (aC aED (aA _)) eF ?_
 intro av H K h
 obtain ⟨s,t,v,rfl,rfl,hs,ht,hv,hp,hK⟩:=dF h
 clear h
 have fin:∀ (b:Bool) (R:Hp),mX s t v.n=b->W.Fin 0 K (bS b) R:=fun b R h=>by
  rw [h] at hK; exact .sel [] (by simp) (by simp) rfl (.done (by simpa [go_sem] using hK))
 clear hK
 unfold mX at fin
 have hts:=ht.s
 have hts1:=hts.1
 have hts2:=hts.2
 have he:=W0 hs t
 have tail:∀ i:Nat,i<=63->(i=1\/(i:Int)<=t.s)->(t.s<=(i:Int)\/i=63)->vc [(105,.s wX)] 0 pcM61_6.ungh
  (eM [(3,.va (.c1 (.pt 0 0))),(4,.va (.c1 (.pt 1 0))),(5,.va (.c1 (.pt 2 0))),(7,iS .i64 (m5 i))]) [.cells [.vl (.int .i64 s.ver),.fz (s.es.map aY),.fz (s.ss.map aI)] 25,.cells [.vl (.int .i64 t.k),.vl (.int .i64 t.s),.vl (.string t.n),.fz (t.e.map aU)] 42,.cells [.vl (.int .i64 v.k),.vl (.int .i64 v.n),.vl (.string v.s),.fz (v.l.map aM),.fz (v.f.map bC)] 29] (jC 0 nE K):=fun i hi2 hi3 hi4=>by
  have hb:=KS hi2
  have hsz:2<=t.s->t.s<=63->m5 i=2 ^ (t.s.toNat - 1)/\2 * m5 i=2 ^ t.s.toNat:=fun h1 h2=>by
   have e:i=t.s.toNat:=by omega
   refine ⟨by rw [e]; rfl,?_⟩
   rw [JN (by omega),e]; rfl
  cases h1:t.k == 1 with
  | true=>
   rw [h1,bD] at fin
   cases n0:v.n == 0<;>cases n1:v.n == 1<;>rw [n0,n1] at fin <;>
   · simp (maxSteps:=1000000) -dsimp only [go_sem,pcM61_6,nE,h1]
     refine aB rfl (.done ?_)
     simp (maxSteps:=1000000) -dsimp only [go_sem,y7,n0,n1]
     exact fin _ _ rfl
  | false=>
  cases h2:t.k == 2 with
  | true=>
   rw [h1,h2,aV,bD] at fin
   simp (maxSteps:=1000000) -dsimp only [go_sem,pcM61_6,nE,h1,h2]
   refine aB rfl (.done ?_)
   have hs:=va2 hp h2
   cases c64:t.s == 64 with
   | true=>
    rw [c64,Bool.true_or] at fin
    simp (maxSteps:=1000000) -dsimp only [go_sem,pB,c64]
    exact fin _ _ rfl
   | false=>
    have hne:t.s ≠ 64:=by simpa using c64
    rw [c64,Bool.false_or,<-(hsz (by omega) (by omega)).1] at fin
    generalize m5 i=hh at *
    cases d1:decide (0 - hh<=v.n)<;>cases d2:decide (v.n < hh) <;>
    · have d1':decide (-hh<=v.n)=decide (0 - hh<=v.n):=by rw [Int.zero_sub]
      rw [d1',d1,d2] at fin
      simp (maxSteps:=1000000) -dsimp only [go_sem,pB,c64,d1,d2]
      exact ⟨⟨by omega,by omega⟩,fin _ _ rfl⟩
  | false=>
  cases h3:t.k == 3 with
  | true=>
   rw [h1,h2,h3,aV,aV,bD] at fin
   simp (maxSteps:=1000000) -dsimp only [go_sem,pcM61_6,nE,h1,h2,h3]
   refine aB rfl (.done ?_)
   have hs:=va3 hp h3
   have hb3:2 * m5 i<=4294967296:=by rw [(hsz (by omega) (by omega)).2]; rcases hs with h | h | h<;>rw [h]<;>decide
   rw [<-(hsz (by omega) (by omega)).2] at fin
   generalize m5 i=hh at *
   cases d1:decide (0<=v.n)<;>cases d2:decide (v.n < 2 * hh)<;>rw [d1,d2] at fin <;>
   · simp (maxSteps:=1000000) -dsimp only [go_sem,uV,d1,d2]
     first
      | exact fin _ _ rfl
      | exact ⟨⟨by omega,by omega⟩,fin _ _ rfl⟩
  | false=>
  cases h7:t.k == 7 with
  | false=>
   rw [h1,h2,h3,h7,aV,aV,aV,aV] at fin
   simp (maxSteps:=1000000) -dsimp only [go_sem,pcM61_6,nE,h1,h2,h3,h7]
   exact fin _ _ rfl
  | true=>
   rw [h1,h2,h3,h7,aV,aV,aV,bD] at fin
   simp (maxSteps:=1000000) -dsimp only [go_sem,pcM61_6,nE,h1,h2,h3,h7]
   refine aB rfl (.done ?_)
   simp (maxSteps:=1000000) -dsimp only [go_sem,uK]
   refine oM hs ?_
   rw [show (c9 s.es t.n).getD default=enOf s t from rfl]
   generalize enOf s t=e at *
   simp (maxSteps:=1000000) -dsimp only [go_sem,aY]
   have hel:=he.lv
   refine aS (α:=Nat) (fun i=>[(5,.va (.c1 (.pt 2 0))),(9,.va (.c1 (.pt 3 0))),(11,iS .i64 i)]) (fun _=>[.cells [.vl (.int .i64 s.ver),.fz (s.es.map aY),.fz (s.ss.map aI)] 25,.cells [.vl (.int .i64 t.k),.vl (.int .i64 t.s),.vl (.string t.n),.fz (t.e.map aU)] 42,.cells [.vl (.int .i64 v.k),.vl (.int .i64 v.n),.vl (.string v.s),.fz (v.l.map aM),.fz (v.f.map bC)] 29,.cells [.vl (.string e.nm),.fz (e.ns.map cE),.fz (e.vs.map eK)] 118])
    (fun i=>i<=e.vs.length/\((e.vs.drop i).any fun x=>x == v.n)=(e.vs.any fun x=>x == v.n)) (fun i=>e.vs.length - i) 0 4 ⟨Nat.zero_le _,rfl⟩ ?_ ?_ ?_
   · simp -dsimp only [go_sem]<;>simp
   · simp -dsimp only [go_sem]<;>simp
   rintro j ⟨hj,ho⟩
   rcases bE j e.vs.length with hlt | hge
   · have hg:decide ((j:Int) < (e.vs.length:Int))=true:=by simp; omega
     have hx:e.vs[j]? = some e.vs[j]:=aW hlt
     have q2:=a7 (row:=eK) hx
     rw [List.drop_eq_getElem_cons hlt,List.any_cons] at ho
     generalize e.vs[j]=m at *
     cases hc:m == v.n with
     | true=>
      rw [hc,Bool.true_or] at ho
      simp (maxSteps:=1000000) -dsimp only [go_sem,hg,↓q2,hc]
      exact ⟨⟨by omega,by omega⟩,fin _ _ ho.symm⟩
     | false=>
      rw [hc,Bool.false_or] at ho
      simp (maxSteps:=1000000) -dsimp only [go_sem,hg,↓q2,hc]
      refine ⟨⟨by omega,by omega⟩,⟨by omega,by omega⟩,aE (j + 1) 4 ⟨by omega,ho⟩ (by omega) ?_ ?_⟩
      · simp -dsimp only [go_sem]<;>simp
      · simp -dsimp only [go_sem]<;>simp
   · have hg:decide ((j:Int) < (e.vs.length:Int))=false:=by simp; omega
     have:e.vs.drop j=[]:=List.drop_eq_nil_iff.2 (by omega)
     rw [this,List.any_nil] at ho
     simp (maxSteps:=1000000) -dsimp only [go_sem,hg]
     exact fin _ _ ho.symm
 simp (maxSteps:=1000000) -dsimp only [go_sem,aF,aL t,aJ v,SG,nE]
 refine aS (α:=Nat) (fun i=>[(3,.va (.c1 (.pt 0 0))),(4,.va (.c1 (.pt 1 0))),(5,.va (.c1 (.pt 2 0))),(7,iS .i64 (m5 i)),(8,iS .i64 i)]) (fun _=>[.cells [.vl (.int .i64 s.ver),.fz (s.es.map aY),.fz (s.ss.map aI)] 25,.cells [.vl (.int .i64 t.k),.vl (.int .i64 t.s),.vl (.string t.n),.fz (t.e.map aU)] 42,.cells [.vl (.int .i64 v.k),.vl (.int .i64 v.n),.vl (.string v.s),.fz (v.l.map aM),.fz (v.f.map bC)] 29])
  (fun i=>1<=i/\i<=63/\(i=1\/(i:Int)<=t.s)) (fun i=>63 - i) 1 3 ⟨by omega,by omega,.inl rfl⟩ ?_ ?_ ?_
 · simp -dsimp only [go_sem]<;>simp [m5]
 · simp -dsimp only [go_sem]<;>simp
 rintro i ⟨hi1,hi2,hi3⟩
 have hb:=KS hi2
 cases hg:decide ((i:Int) < t.s) && decide ((i:Int) < 63) with
 | true=>
  obtain ⟨g1,g2⟩:decide ((i:Int) < t.s)=true/\decide ((i:Int) < 63)=true:=by simpa only [Bool.and_eq_true] using hg
  have hsu:=JN hi1
  have h1:=of_decide_eq_true g1
  have h2:=of_decide_eq_true g2
  have hb2:=KS (i:=i + 1) (by omega)
  simp (maxSteps:=1000000) -dsimp only [go_sem,g1,g2]
  refine ⟨⟨by omega,by omega⟩,⟨by omega,by omega⟩,aE (i + 1) 3 ⟨by omega,by omega,.inr (by omega)⟩ (by omega) ?_ ?_⟩
  · simp -dsimp only [go_sem,hsu]<;>simp
  · simp -dsimp only [go_sem]<;>simp
 | false=>
  have hg':(decide ((i:Int) < t.s)=false)\/(decide ((i:Int) < t.s)=true/\decide ((i:Int) < 63)=false):=by
   cases h:decide ((i:Int) < t.s) with
   | false=>exact .inl rfl
   | true=>rw [h,Bool.true_and] at hg; exact .inr ⟨rfl,hg⟩
  rcases hg' with g1 | ⟨g1,g2⟩
  · simp (maxSteps:=1000000) -dsimp only [go_sem,g1]
    refine eO 3 (tail i hi2 hi3 (.inl (by have:=of_decide_eq_false g1; omega))) ?_ ?_
    · simp -dsimp only [go_sem]<;>simp
    · simp -dsimp only [go_sem]<;>simp
  · simp (maxSteps:=1000000) -dsimp only [go_sem,g1,g2]
    refine eO 3 (tail i hi2 hi3 (.inr (by have:=of_decide_eq_false g2; omega))) ?_ ?_
    · simp -dsimp only [go_sem]<;>simp
    · simp -dsimp only [go_sem]<;>simp
def G0 (t:Ty) (a b:Int):Bool:=(t.k == 4 && decide (t.s < a)) || (t.k == 5 && decide (t.s < b))
mutual
def m7 (s:Sc) (t:Ty):Vl->Int
 | .mk k n str l f=>bif !(gP s t (.mk k n str l f)) then 13 else bif !(mX s t n) then 4 else bif G0 t (bl str).length l.length then 3
  else bif kW s (t.e.headD default) l != 0 then kW s (t.e.headD default) l else m1 s (stOf s t) f
def kW (s:Sc) (t:Ty):List Vl->Int
 | []=>0
 | v :: r=>bif m7 s t v != 0 then m7 s t v else kW s t r
def m1 (s:Sc) (u:St):List (Int × Vl)->Int
 | []=>0
 | (i,v) :: r=>bif m7 s (gQ u i).ty v != 0 then m7 s (gQ u i).ty v else m1 s u r
end
theorem n3 {α:Type} {l:List α} (h:decide (0 < (l.length:Int))=false):l=[]:=by
 have:=of_decide_eq_false h
 exact List.length_eq_zero_iff.1 (by omega)
theorem YW {s:Sc} {t:Ty} {n:Int} (hp:valF s.ss s.es t=true) (h4:(t.k == 4)=false) (h5:(t.k == 5)=false) (h6:(t.k == 6)=false):mX s t n=fA s t n:=by
 unfold mX fA
 cases h1:t.k == 1 with
 | true=>rfl
 | false=>
 cases h2:t.k == 2 with
 | true=>rfl
 | false=>
 cases h3:t.k == 3 with
 | true=>rfl
 | false=>
 cases h7:t.k == 7 with
 | true=>rfl
 | false=>
  exfalso
  obtain ⟨k,sz,nm,e⟩:=t
  have h1:(k == 1)=false:=h1
  have h2:(k == 2)=false:=h2
  have h3:(k == 3)=false:=h3
  have h4:(k == 4)=false:=h4
  have h5:(k == 5)=false:=h5
  have h6:(k == 6)=false:=h6
  have h7:(k == 7)=false:=h7
  rw [valF,h1,h2,h3,h4,h5,h6,h7] at hp
  cases hp
mutual
theorem EY (s:Sc) (t:Ty):∀ v:Vl,m7 s t v=cH s t v
 | .mk k n str l f=>by
  have hL:∀ u,kW s u l=f7 s u l:=fun u=>LM s u l
  have hE:m1 s (stOf s t) f=hY s ((fS s.ss t.n).getD default).fs f:=MR s (stOf s t) f
  rw [m7,cH,hL,hE]
  unfold gP
  cases hp:valF s.ss s.es t with
  | false=>rfl
  | true=>
  show (bif !(bif !true || k != t.k || yG (.mk k n str l f) then false else bif GW (.mk k n str l f) then false else bif k != 6 then true else bY (stOf s t).fs f) then 13 else _)=_
  cases hk:k != t.k with
  | true=>rfl
  | false=>
  have hk':k=t.k:=by simpa using hk
  subst hk'
  have eA:yG (.mk t.k n str l f)=((t.k != 4 && !(bl str == [])) || (t.k != 5 && decide (0 < (l.length:Int))) || (t.k != 6 && decide (0 < (f.length:Int)))):=rfl
  have eB:GW (.mk t.k n str l f)=((t.k == 4 || t.k == 5 || t.k == 6) && n != 0):=rfl
  rw [eA,eB]
  unfold G0
  cases h4:t.k == 4 with
  | true=>
   have e4:t.k=4:=eq_of_beq h4
   have er:mX s t n=true:=by unfold mX; rw [e4]; rfl
   rw [er,e4]
   unfold iI
   cases hn:n != 0<;>cases hl:decide (0 < (l.length:Int))<;>cases hf:decide (0 < (f.length:Int))<;>cases hs:decide (t.s < ((bl str).length:Int))<;>(try rw [n3 hl])<;>(try rw [n3 hf])<;>simp [f7,hY]
  | false=>
  cases h5:t.k == 5 with
  | true=>
   have e5:t.k=5:=eq_of_beq h5
   have er:mX s t n=true:=by unfold mX; rw [e5]; rfl
   rw [er,e5]
   generalize f7 s (t.e.headD default) l=q
   have hq:(bif q != 0 then q else 0)=q:=by
    cases hz:q != 0 with
    | true=>rfl
    | false=>
     have hq0:q=0:=by simpa using hz
     rw [hq0]; rfl
   cases hn:n != 0<;>cases hb:bl str == []<;>cases hf:decide (0 < (f.length:Int))<;>cases hs:decide (t.s < (l.length:Int))<;>(try rw [n3 hf])<;>simp [hY,hq]
  | false=>
  cases h6:t.k == 6 with
  | true=>
   have e6:t.k=6:=eq_of_beq h6
   have er:mX s t n=true:=by unfold mX; rw [e6]; rfl
   have ef:(stOf s t).fs=((fS s.ss t.n).getD default).fs:=rfl
   rw [er,e6,ef]
   cases hn:n != 0<;>cases hb:bl str == []<;>cases hl:decide (0 < (l.length:Int))<;>cases hs:bY ((fS s.ss t.n).getD default).fs f<;>(try rw [n3 hl])<;>simp [f7]
  | false=>
   rw [YW hp h4 h5 h6]
   have c4:(t.k != 4)=true:=by rw [bne,h4]; rfl
   have c5:(t.k != 5)=true:=by rw [bne,h5]; rfl
   have c6:(t.k != 6)=true:=by rw [bne,h6]; rfl
   rw [c4,c5,c6]
   unfold jM
   cases hb:bl str == []<;>cases hl:decide (0 < (l.length:Int))<;>cases hf:decide (0 < (f.length:Int))<;>cases hr:fA s t n<;>(try rw [n3 hl])<;>(try rw [n3 hf])<;>simp [f7,hY]
theorem LM (s:Sc) (t:Ty):∀ l:List Vl,kW s t l=f7 s t l
 | []=>by rw [kW,f7]
 | v :: r=>by rw [kW,f7,EY s t v,LM s t r]
theorem MR (s:Sc) (u:St):∀ l:List (Int × Vl),m1 s u l=hY s u.fs l
 | []=>by rw [m1,hY]
 | (i,v) :: r=>by
  rw [m1,hY,EY s (gQ u i).ty v,MR s u r]; rfl
end
theorem WQ (s:Sc) (t:Ty) (v:Vl):m7 s t v=bif !(gP s t v) then 13 else bif !(mX s t v.n) then 4 else bif G0 t (bl v.s).length v.l.length then 3
 else bif kW s (t.e.headD default) v.l != 0 then kW s (t.e.headD default) v.l else m1 s (stOf s t) v.f:=by cases v; rw [m7]; rfl
theorem H8:∀ N,Meets Tryz.prog 34 (eC (qW N) fun s t v=>.int .i64 (m7 s t v)).sp
 | 0=>⟨by kernel_rfl,by rintro xs vs E ro w K _ _ _ h; obtain ⟨_,_,v,_,_,_,_,_,h,_⟩:=dF h; have:=v.h_pos; have h:v.h<=0:=h; omega⟩
 | N + 1=>by
  refine aD Tryz.func34 aFN 3 (by rw [Tryz.ntmps34]; decide) (aG X3 (aG QS (aG (H8 N) (aC FR (aC IW (aA _)))))) eF ?_
  intro av H K h
  obtain ⟨s,t,v,rfl,rfl,hs,ht,hv,hh,hK⟩:=dF h
  clear h
  have hh:v.h<=N + 1:=hh
  have fin:∀ (z:Int) (R:Hp),m7 s t v=z->W.Fin 0 K (iS .i64 z) R:=fun z R h=>by
   have hK:K (iS .i64 (m7 s t v)) []:=hK
   rw [h] at hK; exact .sel [] (by simp) (by simp) rfl (.done (by simpa [go_sem] using hK))
  clear hK
  rw [WQ] at fin
  have k1:=cD hv
  have k2:=dS v
  have k4:=d7 ht
  have k5:=iP t
  have k6:=dQ hs
  have k7:=iB s
  cases h1:gP s t v with
  | false=>
   rw [h1] at fin
   simp (maxSteps:=1000000) -dsimp only [go_sem,aF,aL t,aJ v,KC,xX,k1,k2,k4,k5,k6,k7,h1]
   exact fin 13 _ rfl
  | true=>
  have hp:valF s.ss s.es t=true:=by
   cases hp:valF s.ss s.es t with
   | true=>rfl
   | false=>unfold gP at h1; rw [hp] at h1; cases h1
  rw [h1] at fin
  simp (maxSteps:=1000000) -dsimp only [go_sem,aF,aL t,aJ v,KC,xX,k1,k2,k4,k5,k6,k7,h1]
  refine aB rfl (.done ?_)
  cases h2:mX s t v.n with
  | false=>
   rw [h2] at fin
   simp (maxSteps:=1000000) -dsimp only [go_sem,tH,k1,k2,k4,k5,k6,k7,hp,h2]
   exact fin 4 _ rfl
  | true=>
  rw [h2] at fin
  simp (maxSteps:=1000000) -dsimp only [go_sem,tH,k1,k2,k4,k5,k6,k7,hp,h2]
  refine aB rfl (.done ?_)
  simp only [Bool.not_true,aV] at fin
  have hne:0 < v.l.length->∃ u,t.e=[u]/\TyOk u:=fun hl=>by
   have hk5:v.k=5:=by
    cases h5:v.k != 5 with
    | false=>simpa using h5
    | true=>
     unfold gP yG at h1
     rw [h5,decide_eq_true (show (0:Int) < (v.l.length:Int) by omega)] at h1
     simp at h1
   have hkt:v.k=t.k:=by
    cases hkt:v.k != t.k with
    | false=>simpa using hkt
    | true=>unfold gP at h1; rw [hkt] at h1; simp at h1
   obtain ⟨u,he,_⟩:=rR hp (by rw [<-hkt,hk5]; rfl)
   exact ⟨u,he,ht.e u (by rw [he]; simp)⟩
  have tail:(∀ (z:Int) (R:Hp),(bif kW s (t.e.headD default) v.l != 0 then kW s (t.e.headD default) v.l else m1 s (stOf s t) v.f)=z->W.Fin 0 K (iS .i64 z) R)->vc [(60,.f (eC (fun _ _ _=>True) fun s t v=>.bool (gP s t v))),(61,.f (eC (fun s t _=>valF s.ss s.es t=true) fun s t v=>.bool (mX s t v.n))),(34,.f (eC (qW N) fun s t v=>.int .i64 (m7 s t v))),(62,.s o9),(63,.s qA)] 0 pcM34_7.ungh
   (eM [(3,.va (.c1 (.pt 0 0))),(4,.va (.c1 (.pt 1 0))),(5,.va (.c1 (.pt 2 0)))]) [.cells [.vl (.int .i64 s.ver),.fz (s.es.map aY),.fz (s.ss.map aI)] 25,.cells [.vl (.int .i64 t.k),.vl (.int .i64 t.s),.vl (.string t.n),.fz (t.e.map aU)] 42,.cells [.vl (.int .i64 v.k),.vl (.int .i64 v.n),.vl (.string v.s),.fz (v.l.map aM),.fz (v.f.map bC)] 29] (jC 0 xX K):=fun fin=>by
   have hll:=hv.ll
   simp (maxSteps:=1000000) -dsimp only [go_sem,pcM34_7,xX]
   refine aS (α:=Nat) (fun i=>[(3,.va (.c1 (.pt 0 0))),(4,.va (.c1 (.pt 1 0))),(5,.va (.c1 (.pt 2 0))),(7,iS .i64 i)]) (fun _=>[.cells [.vl (.int .i64 s.ver),.fz (s.es.map aY),.fz (s.ss.map aI)] 25,.cells [.vl (.int .i64 t.k),.vl (.int .i64 t.s),.vl (.string t.n),.fz (t.e.map aU)] 42,.cells [.vl (.int .i64 v.k),.vl (.int .i64 v.n),.vl (.string v.s),.fz (v.l.map aM),.fz (v.f.map bC)] 29])
    (fun i=>i<=v.l.length/\(bif kW s (t.e.headD default) (v.l.drop i) != 0 then kW s (t.e.headD default) (v.l.drop i) else m1 s (stOf s t) v.f)=(bif kW s (t.e.headD default) v.l != 0 then kW s (t.e.headD default) v.l else m1 s (stOf s t) v.f)) (fun i=>v.l.length - i) 0 3 ⟨Nat.zero_le _,rfl⟩ ?_ ?_ ?_
   · simp -dsimp only [go_sem]<;>simp
   · simp -dsimp only [go_sem]<;>simp
   rintro i ⟨hi,ho⟩
   rcases bE i v.l.length with hlt | hge
   · have hg:decide ((i:Int) < (v.l.length:Int))=true:=by simp; omega
     have hx:v.l[i]? = some v.l[i]:=aW hlt
     have q2:=a7 (row:=aM) hx
     obtain ⟨u,he,hu⟩:=hne (by omega)
     rw [he,List.headD_cons] at ho
     rw [List.drop_eq_getElem_cons hlt,kW] at ho
     have hxo:=hv.l _ (List.getElem_mem hlt)
     have hxh:=Vl.h_l (List.getElem_mem hlt)
     generalize v.l[i]=x at *
     have j1:=cD hxo
     have j2:=dS x
     have j4:=d7 hu
     have j5:=iP u
     have j8:qW N s u x:=show x.h<=N by omega
     have z0:(0:Int) < ((1:Nat):Int):=by decide
     have z1:(0:Int)<=0:=by decide
     cases hz:m7 s u x != 0 with
     | true=>
      rw [hz,bD,hz,bD] at ho
      simp (maxSteps:=1000000) -dsimp only [go_sem,hg,↓q2,he,aL u,aJ x,forall_eq',z0,z1,List.length_cons,List.length_nil,List.take_succ_cons,List.take_zero,j1,j2,j4,j5,j8,k6,k7,hz]
      exact ⟨⟨by omega,by omega⟩,fin _ _ (by rw [he]; exact ho.symm)⟩
     | false=>
      rw [hz,aV] at ho
      simp (maxSteps:=1000000) -dsimp only [go_sem,hg,↓q2,he,aL u,aJ x,forall_eq',z0,z1,List.length_cons,List.length_nil,List.take_succ_cons,List.take_zero,j1,j2,j4,j5,j8,k6,k7,hz]
      refine ⟨⟨by omega,by omega⟩,⟨by omega,by omega⟩,aE (i + 1) 3 ⟨by omega,by rw [he]; exact ho⟩ (by omega) ?_ ?_⟩
      · simp -dsimp only [go_sem]<;>simp
      · simp -dsimp only [go_sem]<;>simp [he,aL u]
   · have hg:decide ((i:Int) < (v.l.length:Int))=false:=by simp; omega
     have:v.l.drop i=[]:=List.drop_eq_nil_iff.2 (by omega)
     rw [this,kW] at ho
     have ho:m1 s (stOf s t) v.f=_:=ho
     rw [<-ho] at fin
     simp (maxSteps:=1000000) -dsimp only [go_sem,hg]
     refine aB rfl (.done ?_)
     simp (maxSteps:=1000000) -dsimp only [go_sem,uZ]
     refine gW hs ?_
     rw [show (fS s.ss t.n).getD default=stOf s t from rfl]
     have hwo:=fH hs t
     have hws:=OT hs t
     generalize stOf s t=w at *
     have hlf:=hv.lf
     simp (maxSteps:=1000000) -dsimp only [go_sem,aI]
     refine aB rfl (.done ?_)
     simp (maxSteps:=1000000) -dsimp only [go_sem,uJ]
     clear ho this hg hge hi
     refine aS (α:=Nat) (fun i=>[(3,.va (.c1 (.pt 0 0))),(5,.va (.c1 (.pt 2 0))),(9,.va (.c1 (.pt 3 0))),(11,iS .i64 i)]) (fun _=>[.cells [.vl (.int .i64 s.ver),.fz (s.es.map aY),.fz (s.ss.map aI)] 25,.cells [.vl (.int .i64 t.k),.vl (.int .i64 t.s),.vl (.string t.n),.fz (t.e.map aU)] 42,.cells [.vl (.int .i64 v.k),.vl (.int .i64 v.n),.vl (.string v.s),.fz (v.l.map aM),.fz (v.f.map bC)] 29,.cells [.vl (.string w.nm),.fz (w.fs.map aT)] 48])
      (fun i=>i<=v.f.length/\m1 s w (v.f.drop i)=m1 s w v.f) (fun i=>v.f.length - i) 0 4 ⟨Nat.zero_le _,rfl⟩ ?_ ?_ ?_
     · simp -dsimp only [go_sem]<;>simp
     · simp -dsimp only [go_sem]<;>simp
     rintro j ⟨hj,ho⟩
     rcases bE j v.f.length with hlt | hge
     · have hg:decide ((j:Int) < (v.f.length:Int))=true:=by simp; omega
       have hx:v.f[j]? = some v.f[j]:=aW hlt
       have q2:=gG hx
       rw [List.drop_eq_getElem_cons hlt] at ho
       have hxo:=hv.f _ (List.getElem_mem hlt)
       have hxh:=Vl.h_f (List.getElem_mem hlt)
       generalize v.f[j]=x at *
       obtain ⟨n,x⟩:=x
       rw [m1] at ho
       have hdo:=WE hwo n
       simp only at hxo hxh q2
       have j1:=cD hxo
       have j2:=dS x
       have j8:∀ d:Ty,qW N s d x:=fun d=>show x.h<=N by omega
       simp (maxSteps:=1000000) -dsimp only [go_sem,hg,↓q2]
       refine ⟨⟨by omega,by omega⟩,FA hwo hws ?_⟩
       generalize gQ w n=d at *
       have j4:=d7 hdo.ty
       have j5:=iP d.ty
       have j8:=j8 d.ty
       simp (maxSteps:=1000000) -dsimp only [go_sem,aT]
       refine aB rfl (.done ?_)
       cases hz:m7 s d.ty x != 0 with
       | true=>
        rw [hz,bD] at ho
        simp (maxSteps:=1000000) -dsimp only [go_sem,p6,↓q2,j1,j2,j4,j5,j8,k6,k7,List.take_succ_cons,List.take_zero,List.length_cons,List.length_nil]
        refine ⟨⟨by omega,by omega⟩,aB rfl (.done ?_)⟩
        simp (maxSteps:=1000000) -dsimp only [go_sem,o8,hz]
        exact fin _ _ ho.symm
       | false=>
        rw [hz,aV] at ho
        simp (maxSteps:=1000000) -dsimp only [go_sem,p6,↓q2,j1,j2,j4,j5,j8,k6,k7,List.take_succ_cons,List.take_zero,List.length_cons,List.length_nil]
        refine ⟨⟨by omega,by omega⟩,aB rfl (.done ?_)⟩
        simp (maxSteps:=1000000) -dsimp only [go_sem,o8,hz]
        refine ⟨⟨by omega,by omega⟩,aE (j + 1) 4 ⟨by omega,ho⟩ (by omega) ?_ ?_⟩
        · simp -dsimp only [go_sem]<;>simp
        · simp -dsimp only [go_sem]<;>simp
     · have hg:decide ((j:Int) < (v.f.length:Int))=false:=by simp; omega
       have:v.f.drop j=[]:=List.drop_eq_nil_iff.2 (by omega)
       rw [this,m1] at ho
       simp (maxSteps:=1000000) -dsimp only [go_sem,hg]
       exact fin _ _ ho.symm
  have hA:∀ b:Bool,G0 t (bl v.s).length v.l.length=b->((t.k == 4 && decide (t.s < ((bl v.s).length:Int))) || (t.k == 5 && decide (t.s < (v.l.length:Int))))=b:=fun b h=>h
  cases h3:G0 t (bl v.s).length v.l.length with
  | true=>
   have hA:=hA true h3
   rw [h3,bD] at fin
   cases a1:t.k == 4<;>cases a2:decide (t.s < ((bl v.s).length:Int))<;>cases a3:t.k == 5<;>cases a4:decide (t.s < (v.l.length:Int)) <;>
   first
    | (exfalso; rw [a1,a2,a3,a4] at hA; exact absurd hA (by decide))
    | (simp (maxSteps:=1000000) -dsimp only [go_sem,sI,a1,a2,a3,a4,Bool.false_and,Bool.true_and,Bool.and_false]
       exact fin 3 _ rfl)
  | false=>
   have hA:=hA false h3
   rw [h3,aV] at fin
   cases a1:t.k == 4<;>cases a2:decide (t.s < ((bl v.s).length:Int))<;>cases a3:t.k == 5<;>cases a4:decide (t.s < (v.l.length:Int)) <;>
   first
    | (exfalso; rw [a1,a2,a3,a4] at hA; exact absurd hA (by decide))
    | (simp (maxSteps:=1000000) -dsimp only [go_sem,sI,a1,a2,a3,a4,Bool.true_and,Bool.and_false]
       refine eO 3 (tail fin) ?_ ?_
       · simp -dsimp only [go_sem]<;>simp
       · simp -dsimp only [go_sem]<;>simp)
mutual
def bT:Vl->Int
 | .mk k n s l f=>bif jO (.mk k n s l f) then 0 else 1 + eE (cX 0 l) f
def cX (d:Int):List Vl->Int
 | []=>d
 | v :: r=>cX (max d (bT v)) r
def eE (d:Int):List (Int × Vl)->Int
 | []=>d
 | (_,v) :: r=>eE (max d (bT v)) r
end
theorem lA (v:Vl):bT v=bif jO v then 0 else 1 + eE (cX 0 v.l) v.f:=by cases v; rw [bT]; rfl
theorem D9 {g:Vl->Int} {n:Nat} (hg:∀ x,g x=min (bT x) n) (D:Int) (x:Vl):lI g ((n:Int) - 1) (min D n) x=min (max D (bT x)) n:=by
 unfold lI
 rw [hg x]
 cases h:decide (min D (n:Int)<=(n:Int) - 1) with
 | true=>have:=of_decide_eq_true h; rw [bD]; omega
 | false=>have:=of_decide_eq_false h; rw [aV]; omega
theorem RK {g:Vl->Int} {n:Nat} (hg:∀ x,g x=min (bT x) n):∀ (l:List Vl) (D:Int),l.foldl (lI g ((n:Int) - 1)) (min D n)=min (cX D l) n
 | [],D=>by rw [cX]; rfl
 | x :: l,D=>by rw [List.foldl_cons,D9 hg,RK hg l,cX]
theorem TB {g:Vl->Int} {n:Nat} (hg:∀ x,g x=min (bT x) n):∀ (l:List (Int × Vl)) (D:Int),l.foldl (n8 g ((n:Int) - 1)) (min D n)=min (eE D l) n
 | [],D=>by rw [eE]; rfl
 | (i,x) :: l,D=>by
  rw [List.foldl_cons,show n8 g ((n:Int) - 1) (min D n) (i,x)=lI g ((n:Int) - 1) (min D n) x from rfl,D9 hg,TB hg l,eE]
theorem UD {g:Vl->Int} {n:Nat} (hg:∀ x,g x=min (bT x) n) (v:Vl):GN g ((n:Int) - 1) v=min (bT v) ((n:Int) + 1):=by
 unfold GN
 rw [lA]
 cases jO v with
 | true=>rw [bD,bD]; omega
 | false=>
  rw [aV,aV]
  have h1:=RK hg v.l 0
  rw [show min (0:Int) (n:Int)=0 by omega] at h1
  rw [h1,TB hg v.f]
  omega
mutual
theorem V2:∀ v:Vl,0<=bT v
 | .mk k n s l f=>by
  rw [bT]
  have h1:=oF l 0
  have h2:=nV f (cX 0 l)
  cases jO (.mk k n s l f) with
  | true=>exact Int.le_refl _
  | false=>rw [aV]; omega
theorem oF:∀ (l:List Vl) (d:Int),d<=cX d l
 | [],d=>by rw [cX]; exact Int.le_refl _
 | v :: r,d=>by
  rw [cX]
  have:=oF r (max d (bT v))
  omega
theorem nV:∀ (l:List (Int × Vl)) (d:Int),d<=eE d l
 | [],d=>by rw [eE]; exact Int.le_refl _
 | (_,v) :: r,d=>by
  rw [eE]
  have:=nV r (max d (bT v))
  omega
end
theorem JA:∀ (n:Nat) (x:Vl),gN n x=min (bT x) n
 | 0,x=>by have:=V2 x; show (0:Int)=min (bT x) 0; omega
 | n + 1,x=>by
  rw [gN,xH,UD (JA n) x]
  omega
theorem WA (n:Nat) (v:Vl):qY n v=min (bT v) ((n:Int) + 1):=by rw [xH,UD (JA n) v]
theorem zD (v:Vl):decide (6 < qY 7 v)=decide (6 < bT v):=by
 rw [WA]
 rw [Bool.eq_iff_iff,decide_eq_true_iff,decide_eq_true_iff]
 omega
def pcL33_3:PC:=.seq (.gh (.reg [.q 3 (.mv (.i 0))])) (.seq (.seq (.reg [.q 4 (.mv (.i 0))]) (.block 0 (.loop (.seq (.seq (.reg [.v 28 4,.q 29 (.fa 3 (.t 1)),.l 30 (.ld1 (.t 29)),.q 31 (.lnL (.t 30)),.q 32 (.bin .lss true (.t 28) (.t 31))]) (.cond (.t 32) .skip (.exit 0))) (.seq (.block 1 (.seq (.reg [.q 35 (.fa 3 (.t 1)),.l 36 (.ld1 (.t 35)),.v 37 4,.l 38 (.ia 5 (.t 36) (.t 37)),.l 39 (.ldn 5 (.t 38)),.a 40 (.cq 33 [(.t 39)]),.v 5 40]) (.seq (.reg [.v 41 5,.v 42 3,.q 43 (.bin .gtr true (.t 41) (.t 42))]) (.cond (.t 43) (.reg [.v 44 5,.v 3 44]) .skip)))) (.reg [.v 33 4,.q 34 (.bin .add true (.t 33) (.i 1)),.v 4 34])))))) (.seq (.seq (.reg [.q 6 (.mv (.i 0))]) (.block 2 (.loop (.seq (.seq (.reg [.v 45 6,.q 46 (.fa 4 (.t 1)),.l 47 (.ld1 (.t 46)),.q 48 (.lnL (.t 47)),.q 49 (.bin .lss true (.t 45) (.t 48))]) (.cond (.t 49) .skip (.exit 2))) (.seq (.block 3 (.seq (.reg [.q 52 (.fa 4 (.t 1)),.l 53 (.ld1 (.t 52)),.v 54 6,.l 55 (.ia 6 (.t 53) (.t 54)),.q 56 (.fa 1 (.t 55)),.l 57 (.ldn 5 (.t 56)),.a 58 (.cq 33 [(.t 57)]),.v 7 58]) (.seq (.reg [.v 59 7,.v 60 3,.q 61 (.bin .gtr true (.t 59) (.t 60))]) (.cond (.t 61) (.reg [.v 62 7,.v 3 62]) .skip)))) (.reg [.v 50 6,.q 51 (.bin .add true (.t 50) (.i 1)),.v 6 51])))))) (.seq (.reg [.v 63 3,.q 64 (.bin .add true (.t 63) (.i 1)),.v 2 64]) .ret)))
@[go_sem ↓] theorem aH5:aO pcL33_3:=aP _
def KM:PC:=.seq (.reg [.e 1 (.bx 29 (.t 0)),.q 2 (.mv (.i 0))]) (.seq (.seq (.reg [.q 8 (.fa 0 (.t 1)),.l 9 (.ld1 (.t 8)),.q 10 (.bin .neq true (.t 9) (.i 5)),.v 11 10,⟨some 12,(some (11,true)),.q (.fa 0 (.t 1))⟩,⟨some 13,(some (11,true)),.l (.ld1 (.t 12))⟩,⟨some 14,(some (11,true)),.q (.bin .neq true (.t 13) (.i 6))⟩,.a 15 (.pick (.t 11) (.t 14) (.k (.bool false))),.v 16 15,⟨some 17,(some (16,true)),.q (.fa 3 (.t 1))⟩,⟨some 18,(some (16,true)),.l (.ld1 (.t 17))⟩,⟨some 19,(some (16,true)),.q (.lnL (.t 18))⟩,⟨some 20,(some (16,true)),.q (.bin .eql true (.t 19) (.i 0))⟩,.a 21 (.pick (.t 16) (.t 20) (.k (.bool false))),.v 22 21,⟨some 23,(some (22,true)),.q (.fa 4 (.t 1))⟩,⟨some 24,(some (22,true)),.l (.ld1 (.t 23))⟩,⟨some 25,(some (22,true)),.q (.lnL (.t 24))⟩,⟨some 26,(some (22,true)),.q (.bin .eql true (.t 25) (.i 0))⟩,.a 27 (.pick (.t 22) (.t 26) (.k (.bool false)))]) (.cond (.t 27) (.seq (.reg [.q 2 (.mv (.i 0))]) .ret) .skip)) (pcL33_3))
def wY:List RV:=[.mv (.t 2)]
theorem aFP:aR Tryz.prog true ⟨fun r k=>if r=7/\k=5 then .q else if r=13/\k=6 then .q else .own [],fun r=>[3].contains r⟩ Tryz.f33=some (KM,wY):=by kernel_rfl
mutual
theorem KX:∀ v:Vl,bT v<=v.h
 | .mk k n s l f=>by
  rw [bT,Vl.h]
  have h1:=TU l 0
  have h2:=TF f (cX 0 l)
  cases jO (.mk k n s l f) with
  | true=>rw [bD]; omega
  | false=>rw [aV]; omega
theorem TU:∀ (l:List Vl) (d:Int),cX d l<=max d (Vl.hl l)
 | [],d=>by rw [cX,Vl.hl]; omega
 | v :: r,d=>by
  rw [cX,Vl.hl]
  have h1:=KX v
  have h2:=TU r (max d (bT v))
  omega
theorem TF:∀ (l:List (Int × Vl)) (d:Int),eE d l<=max d (Vl.hf l)
 | [],d=>by rw [eE,Vl.hf]; omega
 | (i,v) :: r,d=>by
  rw [eE,Vl.hf]
  have h1:=KX v
  have h2:=TF r (max d (bT v))
  omega
end
def DH (N:Nat):List S->Prop:=fun av=>match av with
 | [.va (.gs r)]=>kD r/\(C.vv r).h<=N/\N<=1000000
 | _=>False
theorem lX {N:Nat} {av:List S} (h:DH N av):∃ v,av=[.va (.gs (aM v))]/\VlOk v/\v.h<=N/\N<=1000000:=by
 unfold DH at h
 split at h
 · obtain ⟨⟨v,rfl,hv⟩,h1,h2⟩:=h; rw [fG] at h1; exact ⟨v,rfl,hv,h1,h2⟩
 · exact h.elim
noncomputable def RN:List S->A:=fun av=>match av with
 | [.va (.gs r)]=>iA .i64 (bT (C.vv r))
 | _=>.gs []
noncomputable def LA (N:Nat):Fun:=⟨DH N,RN,fun av h=>by obtain ⟨_,rfl,_⟩:=lX h; trivial⟩
attribute [go_sem] LA DH RN
theorem EZ:∀ N,Meets Tryz.prog 33 (LA N).sp
 | 0=>⟨by kernel_rfl,by rintro xs vs E ro w K _ _ _ ⟨⟨h,_⟩,_⟩; obtain ⟨v,_,_,h,_⟩:=lX h; have:=v.h_pos; omega⟩
 | N + 1=>by
  refine aD Tryz.func33 aFP 1 (by rw [Tryz.ntmps33]; decide) (aG (EZ N) (aA _)) (fun av H K h=>by obtain ⟨_,rfl,_⟩:=lX h.1.1; rfl) ?_
  rintro av H K ⟨⟨h,rfl⟩,hK⟩
  obtain ⟨v,rfl,hv,hh,hN⟩:=lX h
  have hK:K (iS .i64 (bT v)) []:=by
   have:(LA (N + 1)).val [.va (.gs (aM v))]=iA .i64 (bT v):=by show iA .i64 (bT (C.vv (aM v)))=_; rw [fG]
   rw [this] at hK; exact hK
  have fin:∀ (z:Int) (R:Hp),bT v=z->W.Fin 0 K (iS .i64 z) R:=fun z R h=>by
   rw [h] at hK; exact .sel [] (by simp) (by simp) rfl (.done (by simpa [go_sem] using hK))
  clear hK h
  have hvh:=KX v
  rw [lA] at fin hvh
  have hll:=hv.ll
  have hlf:=hv.lf
  have hs:∀ b:Bool,jO v=b->((v.k != 5) && (v.k != 6) && ((v.l.length:Int) == 0) && ((v.f.length:Int) == 0))=b:=fun b h=>h
  have tail:(∀ (z:Int) (R:Hp),1 + eE (cX 0 v.l) v.f=z->W.Fin 0 K (iS .i64 z) R)->1 + eE (cX 0 v.l) v.f<=1000001->vc [(33,.f (LA N))] 0 pcL33_3.ungh (eM [(1,.va (.c1 (.pt 0 0)))]) [.cells [.vl (.int .i64 v.k),.vl (.int .i64 v.n),.vl (.string v.s),.fz (v.l.map aM),.fz (v.f.map bC)] 29] (jC 0 wY K):=fun fin hb=>by
   simp (maxSteps:=1000000) -dsimp only [go_sem,pcL33_3,wY]
   refine aS (α:=Nat × Int) (fun x=>[(1,.va (.c1 (.pt 0 0))),(3,iS .i64 x.2),(4,iS .i64 x.1)]) (fun _=>[.cells [.vl (.int .i64 v.k),.vl (.int .i64 v.n),.vl (.string v.s),.fz (v.l.map aM),.fz (v.f.map bC)] 29])
    (fun x=>x.1<=v.l.length/\cX x.2 (v.l.drop x.1)=cX 0 v.l) (fun x=>v.l.length - x.1) (0,0) 1 ⟨Nat.zero_le _,rfl⟩ ?_ ?_ ?_
   · simp -dsimp only [go_sem]<;>simp
   · simp -dsimp only [go_sem]<;>simp
   rintro ⟨i,m⟩ ⟨hi,ho⟩
   simp only at hi ho
   rcases bE i v.l.length with hlt | hge
   · have hg:decide ((i:Int) < (v.l.length:Int))=true:=by simp; omega
     have hx:v.l[i]? = some v.l[i]:=aW hlt
     have q2:=a7 (row:=aM) hx
     rw [List.drop_eq_getElem_cons hlt,cX] at ho
     have hxo:=hv.l _ (List.getElem_mem hlt)
     have hxh:=Vl.h_l (List.getElem_mem hlt)
     generalize v.l[i]=x at *
     have j1:=cD hxo
     have j2:=dS x
     have j3:(x.h<=N)=True:=eq_true (by omega)
     have j4:(N<=1000000)=True:=eq_true (by omega)
     cases hz:decide (m < bT x) with
     | true=>
      have:=of_decide_eq_true hz
      rw [show max m (bT x)=bT x by omega] at ho
      simp (maxSteps:=1000000) -dsimp only [go_sem,hg,↓q2,aJ x,List.take_succ_cons,List.take_zero,List.length_cons,List.length_nil,j1,j2,j3,j4,hz]
      refine ⟨⟨by omega,by omega⟩,⟨by omega,by omega⟩,aE (i + 1,bT x) 1 ⟨by simp only; omega,ho⟩ (by simp only; omega) ?_ ?_⟩
      · simp -dsimp only [go_sem]<;>simp
      · simp -dsimp only [go_sem]<;>simp
     | false=>
      have:=of_decide_eq_false hz
      rw [show max m (bT x)=m by omega] at ho
      simp (maxSteps:=1000000) -dsimp only [go_sem,hg,↓q2,aJ x,List.take_succ_cons,List.take_zero,List.length_cons,List.length_nil,j1,j2,j3,j4,hz]
      refine ⟨⟨by omega,by omega⟩,⟨by omega,by omega⟩,aE (i + 1,m) 1 ⟨by simp only; omega,ho⟩ (by simp only; omega) ?_ ?_⟩
      · simp -dsimp only [go_sem]<;>simp
      · simp -dsimp only [go_sem]<;>simp
   · have hg:decide ((i:Int) < (v.l.length:Int))=false:=by simp; omega
     have:v.l.drop i=[]:=List.drop_eq_nil_iff.2 (by omega)
     rw [this,cX] at ho
     simp (maxSteps:=1000000) -dsimp only [go_sem,hg]
     clear hg this hi hge
     subst ho
     refine aS (α:=Nat × Int) (fun x=>[(1,.va (.c1 (.pt 0 0))),(3,iS .i64 x.2),(6,iS .i64 x.1)]) (fun _=>[.cells [.vl (.int .i64 v.k),.vl (.int .i64 v.n),.vl (.string v.s),.fz (v.l.map aM),.fz (v.f.map bC)] 29])
      (fun x=>x.1<=v.f.length/\eE x.2 (v.f.drop x.1)=eE (cX 0 v.l) v.f) (fun x=>v.f.length - x.1) (0,cX 0 v.l) 1 ⟨Nat.zero_le _,rfl⟩ ?_ ?_ ?_
     · simp -dsimp only [go_sem]<;>simp
     · simp -dsimp only [go_sem]<;>simp
     rintro ⟨j,m⟩ ⟨hj,ho⟩
     simp only at hj ho
     rcases bE j v.f.length with hlt | hge
     · have hg:decide ((j:Int) < (v.f.length:Int))=true:=by simp; omega
       have hx:v.f[j]? = some v.f[j]:=aW hlt
       have q2:=gG hx
       rw [List.drop_eq_getElem_cons hlt] at ho
       have hxo:=hv.f _ (List.getElem_mem hlt)
       have hxh:=Vl.h_f (List.getElem_mem hlt)
       generalize v.f[j]=x at *
       obtain ⟨n,x⟩:=x
       rw [eE] at ho
       simp only at hxo hxh q2
       have j1:=cD hxo
       have j2:=dS x
       have j3:(x.h<=N)=True:=eq_true (by omega)
       have j4:(N<=1000000)=True:=eq_true (by omega)
       cases hz:decide (m < bT x) with
       | true=>
        have:=of_decide_eq_true hz
        rw [show max m (bT x)=bT x by omega] at ho
        simp (maxSteps:=1000000) -dsimp only [go_sem,hg,↓q2,List.take_succ_cons,List.take_zero,List.length_cons,List.length_nil,j1,j2,j3,j4,hz]
        refine ⟨⟨by omega,by omega⟩,⟨by omega,by omega⟩,aE (j + 1,bT x) 1 ⟨by simp only; omega,ho⟩ (by simp only; omega) ?_ ?_⟩
        · simp -dsimp only [go_sem]<;>simp
        · simp -dsimp only [go_sem]<;>simp
       | false=>
        have:=of_decide_eq_false hz
        rw [show max m (bT x)=m by omega] at ho
        simp (maxSteps:=1000000) -dsimp only [go_sem,hg,↓q2,List.take_succ_cons,List.take_zero,List.length_cons,List.length_nil,j1,j2,j3,j4,hz]
        refine ⟨⟨by omega,by omega⟩,⟨by omega,by omega⟩,aE (j + 1,m) 1 ⟨by simp only; omega,ho⟩ (by simp only; omega) ?_ ?_⟩
        · simp -dsimp only [go_sem]<;>simp
        · simp -dsimp only [go_sem]<;>simp
     · have hg:decide ((j:Int) < (v.f.length:Int))=false:=by simp; omega
       have:v.f.drop j=[]:=List.drop_eq_nil_iff.2 (by omega)
       rw [this,eE] at ho
       have hm0:0<=eE (cX 0 v.l) v.f:=Int.le_trans (oF v.l 0) (nV v.f _)
       simp (maxSteps:=1000000) -dsimp only [go_sem,hg]
       exact ⟨⟨by omega,by omega⟩,fin _ _ (by omega)⟩
  cases h0:jO v with
  | true=>
   have hs:=hs true h0
   rw [h0,bD] at fin
   simp only [Bool.and_eq_true] at hs
   obtain ⟨⟨⟨a1,a2⟩,a3⟩,a4⟩:=hs
   simp (maxSteps:=1000000) -dsimp only [go_sem,aJ v,KM,wY,a1,a2,a3,a4]
   exact fin 0 _ rfl
  | false=>
   have hs:=hs false h0
   rw [h0,aV] at fin hvh
   cases a1:v.k != 5<;>cases a2:v.k != 6<;>cases a3:(v.l.length:Int) == 0<;>cases a4:(v.f.length:Int) == 0 <;>
   first
    | (exfalso; rw [a1,a2,a3,a4] at hs; exact absurd hs (by decide))
    | (simp (maxSteps:=1000000) -dsimp only [go_sem,aJ v,KM,wY,a1,a2,a3,a4]
       refine eO 1 (tail fin (by omega)) ?_ ?_
       · simp -dsimp only [go_sem]<;>simp
       · simp -dsimp only [go_sem]<;>simp)
theorem WL (N:Nat) (hN:N<=1000000):Meets Tryz.prog 15 (eC (qW N) fun s t v=>.int .i64 (gH s t v)).sp:=by
 refine aD Tryz.func15 aLX 3 (by rw [Tryz.ntmps15]; decide) (aG (EZ N) (aG (H8 N) (aA _))) eF ?_
 intro av H K h
 obtain ⟨s,t,v,rfl,rfl,hs,ht,hv,hh,hK⟩:=dF h
 clear h
 have fin:∀ (z:Int) (R:Hp),gH s t v=z->W.Fin 0 K (iS .i64 z) R:=fun z R h=>by
  have hK:K (iS .i64 (gH s t v)) []:=hK
  rw [h] at hK; exact .sel [] (by simp) (by simp) rfl (.done (by simpa [go_sem] using hK))
 clear hK
 unfold gH at fin
 rw [zD,<-EY] at fin
 have k1:=cD hv
 have k2:=dS v
 have k4:=d7 ht
 have k5:=iP t
 have k6:=dQ hs
 have k7:=iB s
 have k8:(v.h<=N)=True:=eq_true hh
 have k9:(N<=1000000)=True:=eq_true hN
 have k10:qW N s t v:=hh
 cases h1:decide (6 < bT v) with
 | true=>
  rw [h1] at fin
  simp (maxSteps:=1000000) -dsimp only [go_sem,aF,aL t,aJ v,Q0,O6,k1,k2,k8,k9,h1]
  exact fin 9 _ rfl
 | false=>
  rw [h1] at fin
  simp (maxSteps:=1000000) -dsimp only [go_sem,aF,aL t,aJ v,Q0,O6,k1,k2,k4,k5,k6,k7,k8,k9,h1]
  exact fin _ _ rfl
mutual
def prV:Vl->Bool
 | .mk _ _ s l f=>(decide ((bl s).length<=200) && (bl s).all YH) && (prL l && prG f)
def prL:List Vl->Bool
 | []=>true
 | v :: r=>prV v && prL r
def prG:List (Int × Vl)->Bool
 | []=>true
 | (_,v) :: r=>prV v && prG r
end
def aMB (s:Sc):Prop:=∀ e ∈ s.es,e.ns.length=e.vs.length
structure NSt (ss:List St) (es:List En) (u:St):Prop where
 l:u.fs.length<=16
 n:∀ f ∈ u.fs,1<=f.num/\f.num<=127
 m:∀ f ∈ u.fs,cZ (bl f.nm)=true
 v:∀ f ∈ u.fs,valF ss es f.ty=true
 a:∀ k f g,0 < k->u.fs[k - 1]? = some g->u.fs[k]? = some f->g.num < f.num
 d:∀ k f,u.fs[k]? = some f->(u.fs.take k).any (fun g=>decide (g.nm=f.nm))=false
structure NEn (e:En):Prop where
 l:e.ns.length=e.vs.length
 s:e.ns.length<=16
 m:∀ n ∈ e.ns,cZ (bl n)=true
 d:∀ k x,e.ns[k]? = some x->b8 (e.ns.take k) x=false
 a:∀ k x y,0 < k->e.vs[k - 1]? = some x->e.vs[k]? = some y->x < y
 n:∀ x ∈ e.vs,0<=x/\x<=127
structure Nice (s:Sc):Prop where
 st:∀ u ∈ s.ss,NSt s.ss s.es u
 en:∀ e ∈ s.es,NEn e
theorem eS {b:Bool} {x y:Int} (h:(bif b then x else y)=0) (hx:x ≠ 0):b=false/\y=0:=by
 cases b with
 | true=>exact absurd h hx
 | false=>exact ⟨rfl,h⟩
theorem M9 {x y:Int} (h:(bif x != 0 then x else y)=0):x=0/\y=0:=by
 by_cases c:x=0
 · subst c; exact ⟨rfl,h⟩
 · rw [show (x != 0)=true by simpa using c] at h; exact absurd h c
theorem ML {ss:List St} {es:List En} {t:St} {k:Nat} {f:Fl} (hx:t.fs[k]? = some f) (h:nN ss es t k=0) :
 (1<=f.num/\f.num<=127)/\(∀ g,0 < k->t.fs[k - 1]? = some g->g.num < f.num)/\cZ (bl f.nm)=true/\(t.fs.take k).any (fun g=>decide (g.nm=f.nm))=false/\valF ss es f.ty=true:=by
 unfold nN at h
 rw [hx] at h
 simp only at h
 obtain ⟨c1,h⟩:=eS h (by decide)
 obtain ⟨c2,h⟩:=eS h (by decide)
 obtain ⟨c3,h⟩:=eS h (by decide)
 obtain ⟨c4,h⟩:=eS h (by decide)
 obtain ⟨c5,h⟩:=eS h (by decide)
 simp only [Bool.or_eq_false_iff,decide_eq_false_iff_not] at c1
 refine ⟨⟨by omega,by omega⟩,fun g hk hg=>?_,by simpa using c3,c4,by simpa using c5⟩
 rw [hg] at c2
 simp only at c2
 rw [show decide (0 < (k:Int))=true by simp; omega,Bool.true_and] at c2
 have:=of_decide_eq_false c2
 omega
theorem BB {e:En} {k:Nat} {x:ByteArray} {n:Int} (hx:e.ns[k]? = some x) (hn:e.vs[k]? = some n) (h:j6 e k=0) :
 cZ (bl x)=true/\b8 (e.ns.take k) x=false/\(0<=n/\n<=127)/\(k=0->n=0)/\∀ m,0 < k->e.vs[k - 1]? = some m->m < n:=by
 unfold j6 at h
 rw [hx,hn] at h
 simp only at h
 obtain ⟨c3,h⟩:=eS h (by decide)
 obtain ⟨c4,h⟩:=eS h (by decide)
 obtain ⟨c1,h⟩:=eS h (by decide)
 obtain ⟨c2,h⟩:=eS h (by decide)
 rw [Bool.or_eq_false_iff] at c1 c2
 have a1:=of_decide_eq_false c1.1
 have a2:=of_decide_eq_false c1.2
 refine ⟨by simpa using c3,c4,⟨by omega,by omega⟩,fun hk=>?_,fun m hk hm=>?_⟩
 · have c2:=c2.1
   rw [show decide ((k:Int)=0)=true by simp; omega,Bool.true_and] at c2
   exact Decidable.of_not_not (of_decide_eq_false c2)
 · have c2:=c2.2
   rw [hm] at c2
   simp only at c2
   rw [show decide (0 < (k:Int))=true by simp; omega,Bool.true_and] at c2
   have:=of_decide_eq_false c2
   omega
theorem IZ {e:En} (h:nY e=0):0 < e.ns.length/\e.ns.length=e.vs.length/\∀ k < e.ns.length,j6 e k=0:=by
 unfold nY at h
 obtain ⟨c1,h⟩:=eS h (by decide)
 simp only [Bool.or_eq_false_iff,decide_eq_false_iff_not] at c1
 exact ⟨by omega,by omega,fun k hk=>kJ (m:=e.ns.length) (by rw [Nat.sub_zero]; exact h) k hk⟩
theorem qC {s:Sc} (h:bP s=0):eG s=false/\GZ s=0/\CM s=0/\kL s.ss=0:=by
 unfold bP at h
 obtain ⟨_,h⟩:=eS h (by decide)
 obtain ⟨c2,h⟩:=eS h (by decide)
 obtain ⟨c3,h⟩:=M9 h
 obtain ⟨c4,h⟩:=M9 h
 exact ⟨c2,c3,c4,h⟩
theorem WW {s:Sc} (h:bP s=0):Nice s:=by
 obtain ⟨c2,c3,c4,_⟩:=qC h
 obtain ⟨l1,l2,l3,l4⟩:=tV c2
 refine ⟨fun u hu=>?_,fun e he=>?_⟩
 · obtain ⟨i,hi⟩:=List.mem_iff_getElem?.1 hu
   have hc:=(HJ hi (kJ c4 i (bH.1 hi).1)).2
   have key:=fun k f (hx:u.fs[k]? = some f)=>ML hx (kJ hc k (bH.1 hx).1)
   have mem:∀ f ∈ u.fs,∃ k,u.fs[k]? = some f:=fun f hf=>List.mem_iff_getElem?.1 hf
   exact ⟨l4 u hu,fun f hf=>(mem f hf).elim fun k hx=>(key k f hx).1,fun f hf=>(mem f hf).elim fun k hx=>(key k f hx).2.2.1,fun f hf=>(mem f hf).elim fun k hx=>(key k f hx).2.2.2.2,
    fun k f g hk hg hf=>(key k f hf).2.1 g hk hg,fun k f hf=>(key k f hf).2.2.2.1⟩
 · obtain ⟨i,hi⟩:=List.mem_iff_getElem?.1 he
   obtain ⟨hp,hl,hc⟩:=IZ (IR hi (kJ c3 i (bH.1 hi).1)).2.2
   have key:=fun k x n (hx:e.ns[k]? = some x) (hn:e.vs[k]? = some n)=>BB hx hn (hc k (bH.1 hx).1)
   have oth:∀ k x,e.ns[k]? = some x->∃ n,e.vs[k]? = some n:=fun k x hx=>⟨_,aW (hl ▸ (bH.1 hx).1)⟩
   have oth2:∀ k n,e.vs[k]? = some n->∃ x,e.ns[k]? = some x:=fun k x hx=>⟨_,aW (hl ▸ (bH.1 hx).1)⟩
   refine ⟨hl,l3 e he,fun x hx=>?_,fun k x hx=>?_,fun k x y hk hx hy=>?_,fun n hn=>?_⟩
   · obtain ⟨k,hk⟩:=List.mem_iff_getElem?.1 hx
     obtain ⟨n,hn⟩:=oth k x hk
     exact (key k x n hk hn).1
   · obtain ⟨n,hn⟩:=oth k x hx
     exact (key k x n hx hn).2.1
   · obtain ⟨z,hz⟩:=oth2 k y hy
     exact (key k z y hz hy).2.2.2.2 x hk hx
   · obtain ⟨k,hk⟩:=List.mem_iff_getElem?.1 hn
     obtain ⟨z,hz⟩:=oth2 k n hk
     exact (key k z n hz hk).2.2.1
theorem ON {s:Sc} (h:bP s=0) {e:En} (he:e ∈ s.es):e.vs[0]? = some 0:=by
 obtain ⟨c2,c3,c4,_⟩:=qC h
 obtain ⟨i,hi⟩:=List.mem_iff_getElem?.1 he
 obtain ⟨hp,hl,hc⟩:=IZ (IR hi (kJ c3 i (bH.1 hi).1)).2.2
 have h1:e.ns[0]? = some e.ns[0]:=aW hp
 have h2:e.vs[0]? = some (e.vs[0]'(hl ▸ hp)):=aW (hl ▸ hp)
 rw [h2,(BB h1 h2 (hc 0 hp)).2.2.2.1 rfl]
theorem Nice.stOf {s:Sc} (h:Nice s) (t:Ty):NSt s.ss s.es (stOf s t):=by
 unfold Proofs.YthpbnmebjocbeaaGreat.stOf
 cases h1:fS s.ss t.n with
 | none=>exact ⟨by decide,fun _ h=>(by cases h),fun _ h=>(by cases h),fun _ h=>(by cases h),fun _ _ _ _ h=>(by cases h),fun _ _ h=>(by cases h)⟩
 | some u=>exact h.st u (List.mem_of_find?_eq_some h1)
theorem Nice.enOf {s:Sc} (h:Nice s) (t:Ty):NEn (enOf s t):=by
 unfold Proofs.YthpbnmebjocbeaaGreat.enOf
 cases h1:c9 s.es t.n with
 | none=>exact ⟨rfl,by decide,fun _ h=>(by cases h),fun _ _ h=>(by cases h),fun _ _ _ _ h=>(by cases h),fun _ h=>(by cases h)⟩
 | some u=>exact h.en u (List.mem_of_find?_eq_some h1)
theorem Nice.eq {s:Sc} (h:Nice s):aMB s:=fun e he=>(h.en e he).l
theorem OU {x:List UInt8} (h:cZ x=true):x.length<=16:=by
 rcases bE 16 x.length with h1 | h1
 · rw [BZ h1] at h; cases h
 · exact h1
structure Ck (s:Sc) (t:Ty) (v:Vl):Prop where
 va:valF s.ss s.es t=true
 kk:v.k=t.k
 tx:(t.k == 4)=true->v.n=0/\v.l=[]/\v.f=[]/\((bl v.s).length:Int)<=t.s
 ls:(t.k == 5)=true->v.n=0/\bl v.s=[]/\v.f=[]/\(v.l.length:Int)<=t.s/\∀ x ∈ v.l,cH s (t.e.headD default) x=0
 st:(t.k == 6)=true->v.n=0/\bl v.s=[]/\v.l=[]/\bY (stOf s t).fs v.f=true/\∀ x ∈ v.f,cH s (gQ (stOf s t) x.1).ty x.2=0
 nu:(t.k == 4)=false->(t.k == 5)=false->(t.k == 6)=false->bl v.s=[]/\v.l=[]/\v.f=[]/\fA s t v.n=true
theorem FF {s:Sc} {t:Ty}:∀ {l:List Vl},f7 s t l=0->∀ x ∈ l,cH s t x=0
 | [],_,_,h=>by cases h
 | y :: l,h,x,hx=>by
  rw [f7] at h
  by_cases c:cH s t y=0
  · rw [c] at h
    rcases List.mem_cons.1 hx with rfl | hx
    · exact c
    · exact FF h x hx
  · rw [show (cH s t y != 0)=true by simpa using c] at h; exact absurd h c
theorem FE {s:Sc} {fs:List Fl}:∀ {l:List (Int × Vl)},hY s fs l=0->∀ x ∈ l,cH s ((fF fs x.1).getD default).ty x.2=0
 | [],_,_,h=>by cases h
 | y :: l,h,x,hx=>by
  rw [uI] at h
  by_cases c:cH s ((fF fs y.1).getD default).ty y.2=0
  · rw [c] at h
    rcases List.mem_cons.1 hx with rfl | hx
    · exact c
    · exact FE h x hx
  · rw [show (cH s ((fF fs y.1).getD default).ty y.2 != 0)=true by simpa using c] at h; exact absurd h c
theorem l0 {α:Type} {l:List α} (h:¬ 0 < (l.length:Int)):l=[]:=List.eq_nil_of_length_eq_zero (by omega)
theorem bK {k a b:Int} (h:(k == a)=true) (hab:a ≠ b):(k == b)=false:=by
 have:=eq_of_beq h; simp; omega
theorem jY {s:Sc} {t:Ty} {v:Vl} (h:cH s t v=0):Ck s t v:=by
 rw [kU] at h
 cases c1:!(valF s.ss s.es t) || v.k != t.k with
 | true=>rw [c1] at h; simp at h
 | false=>
 rw [c1,aV] at h
 rw [Bool.or_eq_false_iff] at c1
 have va:valF s.ss s.es t=true:=by simpa using c1.1
 have kk:v.k=t.k:=by simpa using c1.2
 cases c4:t.k == 4 with
 | true=>
  rw [c4,bD] at h
  unfold iI at h
  cases d1:v.n != 0 || decide (0 < (v.l.length:Int)) || decide (0 < (v.f.length:Int)) with
  | true=>rw [d1] at h; simp at h
  | false=>
   rw [d1,aV] at h
   cases d2:decide (t.s < ((bl v.s).length:Int)) with
   | true=>rw [d2] at h; simp at h
   | false=>
    simp only [Bool.or_eq_false_iff,decide_eq_false_iff_not,bne_eq_false_iff_eq] at d1 d2
    refine ⟨va,kk,fun _=>⟨d1.1.1,l0 d1.1.2,l0 d1.2,by omega⟩,fun h=>?_,fun h=>?_,fun h _ _=>?_⟩
    · rw [bK c4 (by decide)] at h; cases h
    · rw [bK c4 (by decide)] at h; cases h
    · rw [c4] at h; cases h
 | false=>
 rw [c4,aV] at h
 cases c5:t.k == 5 with
 | true=>
  rw [c5,bD] at h
  cases d1:v.n != 0 || !(bl v.s == []) || decide (0 < (v.f.length:Int)) with
  | true=>rw [d1] at h; simp at h
  | false=>
   rw [d1,aV] at h
   cases d2:decide (t.s < (v.l.length:Int)) with
   | true=>rw [d2] at h; simp at h
   | false=>
    rw [d2,aV] at h
    simp only [Bool.or_eq_false_iff,decide_eq_false_iff_not,bne_eq_false_iff_eq,Bool.not_eq_false'] at d1 d2
    refine ⟨va,kk,fun h=>?_,fun _=>⟨d1.1.1,eq_of_beq d1.1.2,l0 d1.2,by omega,FF h⟩,fun h=>?_,fun _ h _=>?_⟩
    · rw [c4] at h; cases h
    · rw [bK c5 (by decide)] at h; cases h
    · rw [c5] at h; cases h
 | false=>
 rw [c5,aV] at h
 cases c6:t.k == 6 with
 | true=>
  rw [c6,bD] at h
  cases d1:v.n != 0 || !(bl v.s == []) || decide (0 < (v.l.length:Int)) || !(bY ((fS s.ss t.n).getD default).fs v.f) with
  | true=>rw [d1] at h; simp at h
  | false=>
   rw [d1,aV] at h
   simp only [Bool.or_eq_false_iff,decide_eq_false_iff_not,bne_eq_false_iff_eq,Bool.not_eq_false'] at d1
   refine ⟨va,kk,fun h=>?_,fun h=>?_,fun _=>⟨d1.1.1.1,eq_of_beq d1.1.1.2,l0 d1.1.2,d1.2,FE h⟩,fun _ _ h=>?_⟩
   · rw [c4] at h; cases h
   · rw [c5] at h; cases h
   · rw [c6] at h; cases h
 | false=>
 rw [c6,aV] at h
 unfold jM at h
 cases d1:!(bl v.s == []) || decide (0 < (v.l.length:Int)) || decide (0 < (v.f.length:Int)) with
 | true=>rw [d1] at h; simp at h
 | false=>
  rw [d1,aV] at h
  cases d2:fA s t v.n with
  | false=>rw [d2] at h; simp at h
  | true=>
   simp only [Bool.or_eq_false_iff,decide_eq_false_iff_not,Bool.not_eq_false'] at d1
   refine ⟨va,kk,fun h=>?_,fun h=>?_,fun h=>?_,fun _ _ _=>⟨eq_of_beq d1.1.1,l0 d1.1.2,l0 d1.2,d2⟩⟩
   · rw [c4] at h; cases h
   · rw [c5] at h; cases h
   · rw [c6] at h; cases h
def fY:Nat->Nat
 | 0=>500
 | m + 1=>40 * fY m
theorem uS {s:Sc} {t:Ty} {v:Vl} (h:gH s t v=0):cH s t v=0/\bT v<=6:=by
 unfold gH at h
 rw [zD] at h
 cases c:decide (6 < bT v) with
 | true=>rw [c] at h; simp at h
 | false=>rw [c] at h; exact ⟨h,by have:=of_decide_eq_false c; omega⟩
def qU (a b:Int × Int):Int × Int:=(IntKind.i64.wrap (a.1 + b.1),max a.2 b.2)
mutual
def nA:Vl->Int->Int × Int
 | .mk _ _ _ l f,lev=>bif decide (20 < lev) then (1,lev) else GJ f (lev + 1) (tX l (lev + 1) (1,lev))
def tX:List Vl->Int->Int × Int->Int × Int
 | [],_,a=>a
 | v :: r,lev,a=>tX r lev (qU a (nA v lev))
def GJ:List (Int × Vl)->Int->Int × Int->Int × Int
 | [],_,a=>a
 | (_,v) :: r,lev,a=>GJ r lev (qU a (nA v lev))
end
mutual
theorem XC:∀ (v:Vl) (lev:Int),lev<=(nA v lev).2
 | .mk k n s l f,lev=>by
  rw [nA]
  cases decide (20 < lev) with
  | true=>exact Int.le_refl _
  | false=>
   have h1:=sF l (lev + 1) (1,lev)
   have h2:=s3 f (lev + 1) (tX l (lev + 1) (1,lev))
   rw [aV]
   simp only at h1
   omega
theorem sF:∀ (l:List Vl) (lev:Int) (a:Int × Int),a.2<=(tX l lev a).2
 | [],_,_=>by rw [tX]; exact Int.le_refl _
 | v :: r,lev,a=>by
  have h:=sF r lev (qU a (nA v lev))
  rw [tX]
  unfold qU at h ⊢
  simp only at h
  omega
theorem s3:∀ (l:List (Int × Vl)) (lev:Int) (a:Int × Int),a.2<=(GJ l lev a).2
 | [],_,_=>by rw [GJ]; exact Int.le_refl _
 | (i,v) :: r,lev,a=>by
  have h:=s3 r lev (qU a (nA v lev))
  rw [GJ]
  unfold qU at h ⊢
  simp only at h
  omega
end
mutual
theorem RU:∀ (v:Vl) (lev:Int),(nA v lev).2<=12->lev + v.h<=13
 | .mk k n s l f,lev,h=>by
  have h0:=XC (.mk k n s l f) lev
  rw [nA] at h h0
  cases c:decide (20 < lev) with
  | true=>have:=of_decide_eq_true c; rw [c,bD] at h; simp only at h; omega
  | false=>
   rw [c,aV] at h h0
   have h1:=sF l (lev + 1) (1,lev)
   have h2:=s3 f (lev + 1) (tX l (lev + 1) (1,lev))
   have h3:=T5 f (lev + 1) (tX l (lev + 1) (1,lev)) h
   have h4:=T8 l (lev + 1) (1,lev) (by omega)
   rw [Vl.h]
   simp only at h1
   omega
theorem T8:∀ (l:List Vl) (lev:Int) (a:Int × Int),(tX l lev a).2<=12->Vl.hl l=0\/lev + Vl.hl l<=13
 | [],_,_,_=>.inl (by rw [Vl.hl])
 | v :: r,lev,a,h=>by
  rw [tX] at h
  have h1:=sF r lev (qU a (nA v lev))
  have h2:(nA v lev).2<=(qU a (nA v lev)).2:=by unfold qU; simp only; omega
  have h3:=RU v lev (by omega)
  have h4:=T8 r lev _ h
  rw [Vl.hl]
  omega
theorem T5:∀ (l:List (Int × Vl)) (lev:Int) (a:Int × Int),(GJ l lev a).2<=12->Vl.hf l=0\/lev + Vl.hf l<=13
 | [],_,_,_=>.inl (by rw [Vl.hf])
 | (i,v) :: r,lev,a,h=>by
  rw [GJ] at h
  have h1:=s3 r lev (qU a (nA v lev))
  have h2:(nA v lev).2<=(qU a (nA v lev)).2:=by unfold qU; simp only; omega
  have h3:=RU v lev (by omega)
  have h4:=T5 r lev _ h
  rw [Vl.hf]
  omega
end
theorem aBG {ts:List Tk} {n:Nat} (he:Ends ts) (hn:n < ts.length) (hk:(gB ts n).k ≠ 0):hJ ts n=n + 1:=by
 have h:=he.last n _ (EX hn)
 unfold hJ
 rw [if_pos]
 by_cases e:n + 1=ts.length
 · exact absurd (h.2 e) hk
 · omega
abbrev hZ (n:Nat):Fs:=⟨false,0,n⟩
def moN (w:List UInt8) (ts:List Tk) (n:Nat):Fs:=bif jI [44] ts (hZ n) then tB [44] ts (hZ n) else eQ w ts (hZ n)
theorem MN {ts:List Tk} {z:Fs} (h:z.bad=true):iK ts z=z:=by unfold iK; rw [h]; rfl
theorem F9 {w:List UInt8} {ts:List Tk} {z:Fs} (h:z.bad=true):jI w ts z=false:=by unfold jI; rw [h]; rfl
theorem BF {w:List UInt8} {ts:List Tk} {z:Fs} (h:z.bad=true):eQ w ts z=z:=by unfold eQ; rw [F9 h]; exact MN h
structure Vr {α:Type} (ts:List Tk) (r:α × Fs) (v:α) (n:Nat) (b:Bool):Prop where
 hb:r.2.bad=b
 hn:n < ts.length
 ok:b=false->v=r.1/\r.2=hZ n
 er:b=true->r.2.off=((gB ts n).a:Int)
theorem WC {ts:List Tk} {n:Nat} (he:Ends ts) (hn:n < ts.length) (hk:(gB ts n).k ≠ 0):n + 1 < ts.length:=by
 have h:=he.last n _ (EX hn)
 by_cases e:n + 1=ts.length
 · exact absurd (h.2 e) hk
 · omega
theorem NR {k:Int} {w:List UInt8} {t:Tk} (h:uY k w t=true):t.k=k:=by unfold uY at h; rw [Bool.and_eq_true] at h; exact eq_of_beq h.1
end Go.Proofs.YthpbnmebjocbeaaGreat
namespace Go.W
section
variable {P:Program} {f:FuncId} {s t:Spec}
def C.pl:C->C->Prop
 | .vl v,c'=>c'=.vl v
 | c,c'=>∃ u,c'=.vl u/\(c.one->u.oneCell'=true)
def A.pl:A->A->Prop
 | .c1 c,.c1 c'=>C.pl c c'
 | .gs cs,.gs cs'=>All2 C.pl cs cs'
 | _,_=>False
def S.pl:S->S->Prop
 | .va a,s=>∃ b,s=.va b/\A.pl a b
 | .tu l,s=>∃ m,s=.tu m/\All2 A.pl l m
 | _,s=>s=.un
end
end Go.W
namespace Go.Proofs.YthpbnmebjocbeaaGreat
open Go.W
theorem aHA {α:Type} {ts:List Tk} {n:Nat} {v:α} {z:Fs} (h:z=hZ z.n\/z=iK ts (hZ n)) (hn:n < ts.length) (hz:z.n < ts.length):Vr ts (v,z) v z.n z.bad:=by
 rcases h with h | h
 · rw [h]; exact ⟨rfl,hz,fun _=>⟨rfl,rfl⟩,fun h=>(by cases h)⟩
 · rw [h]; exact ⟨rfl,hn,fun h=>(by cases h),fun _=>rfl⟩
theorem OI (w:List UInt8) (ts:List Tk) (n:Nat):eQ w ts (hZ n)=hZ (eQ w ts (hZ n)).n\/eQ w ts (hZ n)=iK ts (hZ n):=by
 unfold eQ
 cases jI w ts (hZ n) with
 | true=>exact .inl rfl
 | false=>exact .inr rfl
abbrev B6:List (Nat × S):=[(0,.va (.c1 (.pt 0 0))),(4,.va (.c1 (.pt 1 0))),(5,.va (.c1 (.pt 2 0))),(6,.va (.c1 (.pt 3 0))),(7,.va (.c1 (.pt 4 0)))]
theorem sP {ss:List St} {es:List En} {t:Ty} (h:valF ss es t=true):(t.k == 1)=true\/(t.k == 2)=true\/(t.k == 3)=true\/(t.k == 4)=true\/(t.k == 5)=true\/(t.k == 6)=true\/(t.k == 7)=true:=by
 obtain ⟨k,s,n,e⟩:=t
 show (k == 1)=true\/_
 rw [valF.eq_def] at h
 simp only at h
 cases h1:k == 1<;>cases h2:k == 2<;>cases h3:k == 3<;>cases h4:k == 4<;>cases h5:k == 5<;>cases h6:k == 6<;>cases h7:k == 7 <;>
 first
  | (simp [Ty.k,h1,h2,h3,h4,h5,h6,h7]; done)
  | (rw [h1,h2,h3,h4,h5,h6,h7] at h; cases h)
theorem MJ {w:List UInt8} {ts:List Tk} {n:Nat}:jI w ts (hZ n)=uY 4 w (gB ts n):=by unfold jI; rw [Bool.not_false,Bool.true_and]
theorem D4 {w:List UInt8} {ts:List Tk} {n:Nat} (he:Ends ts) (hn:n < ts.length) (h:uY 4 w (gB ts n)=true):tB w ts (hZ n)=hZ (n + 1):=by
 unfold tB; rw [MJ,h,aBG he hn (by rw [NR h]; decide)]; rfl
structure Ser {α:Type} (one:α->Fs->α × Fs) (sh:List UInt8) (ts:List Tk) (Q:α × Fs) (f:Nat) (m:Bool) (a:α) (n:Nat) (b:Bool):Prop where
 hn:n < ts.length
 go:m=true->b=false/\ts.length < n + f/\yP one ts f a (hZ n)=Q
 no:m=false->Vr ts (Q.1,eQ sh ts Q.2) a n b
theorem Ser.next {α:Type} {one:α->Fs->α × Fs} {sh:List UInt8} {ts:List Tk} {Q:α × Fs} {f:Nat} {a a':α} {n n':Nat} {b':Bool} (he:Ends ts) (ho:Onw one ts) (h:Ser one sh ts Q (f + 1) true a n false) (hr:Vr ts (one a (hZ n)) a' n' b') :
 (b'=true->Ser one sh ts Q f false a' n' true)/\(b'=false->Ser one sh ts Q f (jI [44] ts (hZ n')) a' (moN sh ts n').n (moN sh ts n').bad):=by
 obtain ⟨_,h2,h3⟩:=h.go rfl
 rw [MS] at h3
 simp only [aV] at h3
 refine ⟨fun hb=>?_,fun hb=>?_⟩
 · have hbad:(one a (hZ n)).2.bad=true:=by rw [hr.hb,hb]
   rw [F9 hbad,aV] at h3
   refine ⟨hr.hn,fun h=>(by cases h),fun _=>?_⟩
   rw [<-h3]
   exact ⟨by rw [BF hbad,hbad],hr.hn,fun h=>(by cases h),fun _=>by rw [BF hbad]; exact hr.er hb⟩
 · obtain ⟨e1,e2⟩:=hr.ok hb
   have hn':=hr.hn
   rw [e2] at h3
   unfold moN
   cases hc:jI [44] ts (hZ n') with
   | true=>
    have hc':=hc
    rw [MJ] at hc'
    have hm:=WC he hn' (by rw [NR hc']; decide)
    rw [hc,bD,D4 he hn' hc'] at h3
    rw [bD,D4 he hn' hc']
    refine ⟨hm,fun _=>⟨rfl,?_,by rw [e1]; exact h3⟩,fun h=>(by cases h)⟩
    have h5:=(ho a (hZ n) h.hn).1
    rw [e2] at h5
    show ts.length < n' + 1 + f
    have h5:n<=n':=h5
    omega
   | false=>
    rw [hc,aV] at h3
    rw [aV]
    have hq:Q=(a',hZ n'):=by rw [<-h3,e1,<-e2]
    refine ⟨(HR (w:=sh) hn').2,fun h=>(by cases h),fun _=>?_⟩
    rw [hq]
    exact aHA (OI sh ts n') hn' (HR (w:=sh) hn').2
structure Gtk (k:Int) (x:List UInt8) (n:Int):Prop where
 e:k=0->x=[]/\n=0
 o:k ≠ 0->okK k x n=true
 i:bU n
theorem WR {k:Int} {x:List UInt8} {n:Int} (h:okK k x n=true):x.length<=200:=by
 unfold okK at h
 cases c1:k == 1 with
 | true=>rw [c1,bD,Bool.and_eq_true] at h; have:=OU h.2; omega
 | false=>
 rw [c1,aV] at h
 cases c2:k == 2 with
 | true=>rw [c2,bD] at h; rw [eq_of_beq h]; exact Nat.zero_le _
 | false=>
 rw [c2,aV] at h
 cases c3:k == 3 with
 | true=>rw [c3,bD,Bool.and_eq_true,Bool.and_eq_true] at h; exact of_decide_eq_true h.2.1
 | false=>
 rw [c3,aV] at h
 cases c4:k == 4 with
 | false=>rw [c4] at h; cases h
 | true=>
  rw [c4,bD,Bool.and_eq_true] at h
  match x,h with
  | [],_=>exact Nat.zero_le _
  | [_],_=>exact (by decide:1<=200)
  | _ :: _ :: _,h=>exact absurd h.2 (by simp)
theorem Gtk.len {k:Int} {x:List UInt8} {n:Int} (h:Gtk k x n):x.length<=200:=by
 by_cases hk:k=0
 · rw [(h.e hk).1]; exact Nat.zero_le _
 · exact WR (h.o hk)
end Go.Proofs.YthpbnmebjocbeaaGreat
