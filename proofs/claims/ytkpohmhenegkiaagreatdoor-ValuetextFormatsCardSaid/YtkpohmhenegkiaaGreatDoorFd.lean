/- Lemmas and walks for the proof. -/
import Derived.Test.YtkpohmhenegkiaaGreatDoorFc
import Derived.Shelf.Slices.Clone
import Derived.Test.YtkpohmhenegkiaaGreatDoorProg
set_option maxRecDepth 100000
set_option maxHeartbeats 8000000
namespace Go.Proofs.YtkpohmhenegkiaaGreatDoor
open Go.W
theorem IC:Meets Tryz.prog 85 (xW fun l=>.bool (t6 l)).sp:=by
  refine aF Tryz.func85 aL8 1 (by rw [Tryz.ntmps85]; decide) (aG v8 (aA _)) q8 ?_
  rintro xs H K ⟨⟨h,rfl⟩,hK⟩
  obtain ⟨s,rfl⟩:=iN h
  have hK':K (.va (.c1 (.vl (.bool (t6 (bl s)))))) []:=hK
  clear hK h
  unfold t6 at hK'
  cases hn:cH (bl s) with
  | false=>
    rw [hn] at hK'
    simp -dsimp only [go_sem,TO,RW,hn]
    exact .done hK'
  | true=>
    cases hl:bl s with
    | nil=>rw [hl] at hn; cases hn
    | cons c r=>
      rw [hl] at hn hK'
      rw [hn] at hK'
      simp -dsimp only [go_sem,TO,RW,hl,hn]
      refine ⟨by omega,fun d hd=>⟨fun _=>by omega,fun e he=>?_⟩⟩
      subst hd
      cases hc:decide (65<=(c.toNat:Int)) with
      | false=>simp only [hc,Bool.true_and,Bool.false_and] at hK'; exact .done hK'
      | true=>
        obtain rfl:=he hc
        simp only [hc,Bool.true_and] at hK'; exact .done hK'
theorem Y7:Meets Tryz.prog 116 (rZ eK C.ty fun t=>.bool ((t.e.length:Int) == 0)).sp:=by
  refine aF Tryz.func116 aGS 1 (by rw [Tryz.ntmps116]; decide) (aA _) oT ?_
  rintro av H K ⟨⟨h,rfl⟩,hK⟩
  obtain ⟨_,rfl,t,rfl,ht⟩:=f7 h
  have hK:K (bS ((t.e.length:Int) == 0)) []:=by
    have:(rZ eK C.ty fun t=>.bool ((t.e.length:Int) == 0)).val [.va (.gs (aM t))]=bA ((t.e.length:Int) == 0):=by simp -dsimp only [go_sem]
    rw [this] at hK; exact hK
  simp (maxSteps:=1000000) -dsimp only [go_sem,aH,WQ,TU]
  exact .sel [] (by simp) (by simp) rfl (.done (by simpa [go_sem] using hK))
def D3:List S->Prop:=fun av=>match av with
  | [.va (.c1 (.fz rs)),.va (.c1 (.vl (.int .i64 k))),.va (.c1 (.vl (.string _)))]=>A4 rs/\0<=k/\k<=9223372036854775807
  | _=>False
theorem pR {av:List S} (h:D3 av):∃ (l:List ByteArray) (n:Nat) (x:ByteArray),av=[.va (.c1 (.fz (l.map bB))),iS .i64 n,tS x]/\l.length<=9223372036854775807/\(n:Int)<=9223372036854775807:=by
  unfold D3 at h
  split at h
  · obtain ⟨⟨l,rfl,h1⟩,h2,h3⟩:=h
    rename_i k x
    exact ⟨l,k.toNat,x,by rw [Int.toNat_of_nonneg h2],h1,by omega⟩
  · exact h.elim
noncomputable def W3:List S->A:=fun av=>match av with
  | [.va (.c1 (.fz rs)),.va (.c1 (.vl (.int .i64 k))),.va (.c1 (.vl (.string x)))]=>bA (cS ((rs.map C.bs).take k.toNat) x)
  | _=>.gs []
noncomputable def inFn:Fun:=⟨D3,W3,fun av h=>by obtain ⟨l,n,x,rfl,_⟩:=pR h; trivial⟩
theorem RK:∀ av H K,inFn.sp av H K->av.length=3:=fun av H K h=>by obtain ⟨l,n,x,rfl,_⟩:=pR h.1.1; rfl
attribute [go_sem] inFn D3 W3
theorem S2:Meets Tryz.prog 50 inFn.sp:=by
  refine aF Tryz.func50 aKI 3 (by rw [Tryz.ntmps50]; decide) (aA _) RK ?_
  rintro av H K ⟨⟨h,rfl⟩,hK⟩
  obtain ⟨l,n,x,rfl,hl,hn⟩:=pR h
  have hK:K (bS (cS (l.take n) x)) []:=by
    have:inFn.val [.va (.c1 (.fz (l.map bB))),iS .i64 n,tS x]=bA (cS (l.take n) x):=by simp -dsimp only [go_sem,Int.toNat_natCast]
    rw [this] at hK; exact hK
  clear h
  simp (maxSteps:=1000000) -dsimp only [go_sem,Z2,aE5]
  refine aK (α:=Nat) (fun i=>[(0,.va (.c1 (.fz (l.map bB)))),(1,iS .i64 n),(2,tS x),(7,iS .i64 i)]) (fun _=>[])
    (fun i=>i<=(l.take n).length/\cS ((l.take n).drop i) x=cS (l.take n) x) (fun i=>l.length - i) 0 0 ⟨Nat.zero_le _,rfl⟩ ?_ ?_ ?_
  · simp [go_sem]
  · simp [go_sem]
  rintro i ⟨hi,ho⟩
  have hlt0:(l.take n).length=min n l.length:=by simp
  rcases Nat.lt_or_ge i (l.take n).length with hlt | hge
  · have g1:decide ((i:Int) < (n:Int))=true:=by simp; omega
    have g2:decide ((i:Int) < (l.length:Int))=true:=by simp; omega
    obtain ⟨y,hx⟩:∃ y,l[i]? = some y:=⟨_,List.getElem?_eq_getElem (by omega)⟩
    have hx':(l.take n)[i]? = some y:=by rw [List.getElem?_take,if_pos (by omega)]; exact hx
    have q2:=aO (row:=bB) hx
    rw [cS,gJ hx'] at ho
    simp (maxSteps:=1000000) -dsimp only [go_sem,g1,g2,↓q2,cM]
    have hsy:decide (y=x)=decide (x=y):=by simp [eq_comm]
    refine ⟨by omega,fun hc=>?_,fun hc=>⟨by omega,aC (i + 1) 0 ⟨by omega,?_⟩ (by omega) ?_ ?_⟩⟩
    · rw [<-hsy,hc,Bool.true_or] at ho
      rw [<-ho] at hK
      exact .done hK
    · rw [<-hsy,hc,Bool.false_or] at ho
      exact ho
    · simp [go_sem]
    · simp [go_sem]
  · obtain rfl:i=(l.take n).length:=by omega
    rw [cS,o0] at ho
    rw [<-ho] at hK
    generalize hm:(l.take n).length=m at *
    rcases Nat.lt_or_ge m n with h1 | h1
    · have g1:decide ((m:Int) < (n:Int))=true:=by simp; omega
      have g2:decide ((m:Int) < (l.length:Int))=false:=by simp; omega
      simp (maxSteps:=1000000) -dsimp only [go_sem,g1,g2]
      exact .done hK
    · have g1:decide ((m:Int) < (n:Int))=false:=by simp; omega
      simp (maxSteps:=1000000) -dsimp only [go_sem,g1]
      exact .done hK
theorem vX:Meets Tryz.prog 69 jK:=by
  refine aF Tryz.func69 aL3 2 (by rw [Tryz.ntmps69]; decide) (aA _) (fun av H K h=>by obtain ⟨_,_,rfl,_⟩:=h; rfl) ?_
  rintro av H K ⟨s,n,rfl,rfl,hs,hK⟩
  rw [<-zZ] at hK
  have hl:=hs.ok.ls
  simp -dsimp only [go_sem,aE,aDT,Z6]
  refine aK (α:=Nat) (fun i=>[(1,tS n),(2,.va (.c1 (.pt 0 0))),(4,.va (.c1 (.pt 1 0))),(6,iS .i64 i)]) (fun _=>[.cells (aE s) 25,.cells [.vl (.string (mk [])),.vl (.slice none 0 0)] 95])
    (fun i=>i<=s.ss.length/\fS (s.ss.drop i) n=fS s.ss n) (fun i=>s.ss.length - i) 0 2 ⟨Nat.zero_le _,rfl⟩ ?_ ?_ ?_
  · simp [go_sem]
  · simp [go_sem,aE]
  rintro i ⟨hi,ho⟩
  rcases Nat.lt_or_ge i s.ss.length with hlt | hge
  · have hg:decide ((i:Int) < (s.ss.length:Int))=true:=by simp; omega
    obtain ⟨t,hx⟩:∃ e,s.ss[i]? = some e:=⟨_,List.getElem?_eq_getElem hlt⟩
    have q2:=aO (row:=aL) hx
    rw [fS,fT hx] at ho
    cases hc:decide (t.nm=n) with
    | true=>
      rw [hc,Bool.cond_true] at ho
      rw [<-ho] at hK
      simp (maxSteps:=1000000) -dsimp only [go_sem,hg,↓q2,aL,aE,cM,hc]
      refine ⟨by omega,by omega,.sel [] (by simp) (by simp) rfl (.done (by simpa [go_sem,aL] using hK))⟩
    | false=>
      rw [hc,Bool.cond_false] at ho
      simp (maxSteps:=1000000) -dsimp only [go_sem,hg,↓q2,aL,aE,cM,hc]
      refine ⟨by omega,by omega,aC (i + 1) 2 ⟨by omega,ho⟩ (by omega) ?_ ?_⟩
      · simp [go_sem]
      · simp [go_sem,aE]
  · have hg:decide ((i:Int) < (s.ss.length:Int))=false:=by simp; omega
    obtain rfl:i=s.ss.length:=by omega
    rw [List.drop_length] at ho
    rw [<-ho] at hK
    simp -dsimp only [go_sem,hg,aE]
    exact .sel [] (by simp) (by simp) rfl (.done (by simpa [go_sem,fS,AY] using hK))
def wX:W.Spec:=fun av H K=>∃ (s:Sc) (n:ByteArray),av=[.va (.gs (aE s)),tS n]/\H=[]/\s.fit/\K (.tu [.gs (aX ((bX s.es n).getD default)),bA (fO s.es n)]) []
theorem jA {s:Sc} {n:ByteArray} {K:S->Hp->Prop} (h:s.fit) (hK:K (.tu [.gs (aX ((bX s.es n).getD default)),bA (fO s.es n)]) []):wX [.va (.gs (aE s)),tS n] [] K:=⟨s,n,rfl,rfl,h,hK⟩
theorem BK:aX default=[.vl (.string (mk [])),.fz [],.fz []]:=rfl
theorem GS:Meets Tryz.prog 76 wX:=by
  refine aF Tryz.func76 aOC 2 (by rw [Tryz.ntmps76]; decide) (aA _) (fun av H K h=>by obtain ⟨_,_,rfl,_⟩:=h; rfl) ?_
  rintro av H K ⟨s,n,rfl,rfl,hs,hK⟩
  rw [<-AB] at hK
  have hl:=hs.ok.le
  simp -dsimp only [go_sem,aE,aA0,aEJ]
  refine aK (α:=Nat) (fun i=>[(1,tS n),(2,.va (.c1 (.pt 0 0))),(4,.va (.c1 (.pt 1 0))),(6,iS .i64 i)]) (fun _=>[.cells (aE s) 25,.cells [.vl (.string (mk [])),.vl (.slice none 0 0),.vl (.slice none 0 0)] 92])
    (fun i=>i<=s.es.length/\bX (s.es.drop i) n=bX s.es n) (fun i=>s.es.length - i) 0 2 ⟨Nat.zero_le _,rfl⟩ ?_ ?_ ?_
  · simp [go_sem]
  · simp [go_sem,aE]
  rintro i ⟨hi,ho⟩
  rcases Nat.lt_or_ge i s.es.length with hlt | hge
  · have hg:decide ((i:Int) < (s.es.length:Int))=true:=by simp; omega
    obtain ⟨t,hx⟩:∃ e,s.es[i]? = some e:=⟨_,List.getElem?_eq_getElem hlt⟩
    have q2:=aO (row:=aX) hx
    rw [bX,fT hx] at ho
    cases hc:decide (t.nm=n) with
    | true=>
      rw [hc,Bool.cond_true] at ho
      rw [<-ho] at hK
      simp (maxSteps:=1000000) -dsimp only [go_sem,hg,↓q2,aX,aE,cM,hc]
      refine ⟨by omega,by omega,.sel [] (by simp) (by simp) rfl (.done (by simpa [go_sem,aX] using hK))⟩
    | false=>
      rw [hc,Bool.cond_false] at ho
      simp (maxSteps:=1000000) -dsimp only [go_sem,hg,↓q2,aX,aE,cM,hc]
      refine ⟨by omega,by omega,aC (i + 1) 2 ⟨by omega,ho⟩ (by omega) ?_ ?_⟩
      · simp [go_sem]
      · simp [go_sem,aE]
  · have hg:decide ((i:Int) < (s.es.length:Int))=false:=by simp; omega
    obtain rfl:i=s.es.length:=by omega
    rw [List.drop_length] at ho
    rw [<-ho] at hK
    simp -dsimp only [go_sem,hg,aE]
    exact .sel [] (by simp) (by simp) rfl (.done (by simpa [go_sem,bX,BK] using hK))
theorem O5:Meets Tryz.prog 70 kM:=by
  refine aF Tryz.func70 aM3 2 (by rw [Tryz.ntmps70]; decide) (aA _) (fun av H K h=>by obtain ⟨_,_,rfl,_⟩:=h; rfl) ?_
  rintro av H K ⟨s,n,rfl,rfl,hs,hsm,hK⟩
  have hl:=hs.len
  simp -dsimp only [go_sem,aL,aAQ,aCI]
  refine aK (α:=Nat) (fun i=>[(1,iS .i64 n),(2,.va (.c1 (.pt 0 0))),(4,.va (.c1 (.pt 1 0))),(6,iS .i64 i)]) (fun _=>[.cells (aL s) 95,.cells [.vl (.int .i64 0),.vl (.string (mk [])),.vl (.int .i64 0),.vl (.int .i64 0),.vl (.string (mk [])),.vl (.slice none 0 0),.vl (.bool false)] 97])
    (fun i=>i<=s.fs.length/\fF (s.fs.drop i) n=fF s.fs n) (fun i=>s.fs.length - i) 0 2 ⟨Nat.zero_le _,rfl⟩ ?_ ?_ ?_
  · simp [go_sem]
  · simp [go_sem,aL]
  rintro i ⟨hi,ho⟩
  rcases Nat.lt_or_ge i s.fs.length with hlt | hge
  · have hg:decide ((i:Int) < (s.fs.length:Int))=true:=by simp; omega
    obtain ⟨t,hx⟩:∃ e,s.fs[i]? = some e:=⟨_,List.getElem?_eq_getElem hlt⟩
    have q2:=aO (row:=aR) hx
    rw [fF,fT hx] at ho
    have hq:(t.num == n)=decide (t.num=n):=rfl
    cases hc:decide (t.num=n) with
    | true=>
      rw [hc,Bool.cond_true] at ho
      rw [<-ho] at hK
      simp (maxSteps:=1000000) -dsimp only [go_sem,hg,↓q2,aR,aL,hq,hc]
      refine ⟨by omega,by omega,.sel [] (by simp) (by simp) rfl (.done (by simpa [go_sem,aR] using hK))⟩
    | false=>
      rw [hc,Bool.cond_false] at ho
      simp (maxSteps:=1000000) -dsimp only [go_sem,hg,↓q2,aR,aL,hq,hc]
      refine ⟨by omega,by omega,aC (i + 1) 2 ⟨by omega,ho⟩ (by omega) ?_ ?_⟩
      · simp [go_sem]
      · simp [go_sem,aL]
  · have hg:decide ((i:Int) < (s.fs.length:Int))=false:=by simp; omega
    obtain rfl:i=s.fs.length:=by omega
    rw [List.drop_length] at ho
    rw [<-ho] at hK
    simp -dsimp only [go_sem,hg,aL]
    exact .sel [] (by simp) (by simp) rfl (.done (by simpa [go_sem,fF,tP] using hK))
end Go.Proofs.YtkpohmhenegkiaaGreatDoor
namespace Go.Proofs
open Go.Shelf
def Tryz.lays16_ren:Go.Shelf.Ren:=⟨fun | 16=>126 | n=>n,fun | 24=>89 | n=>n,fun | n=>n⟩
theorem Tryz.lays16:Go.Proofs.Lays2.n16 Tryz.prog Tryz.lays16_ren:={
  mixed:=by kernel_rfl
  f16:=Tryz.func126.trans (congrArg some (by kernel_rfl))
  t4:=Tryz.underlying4
  a4:=Tryz.isAgg4
  z4:=Tryz.sizeOf4
  v4:=Tryz.zeroValue4
  t9:=Tryz.underlying9
  a9:=Tryz.isAgg9
  z9:=Tryz.sizeOf9
  v9:=Tryz.zeroValue9
  t24:=Tryz.underlying89
  a24:=Tryz.isAgg89
  z24:=Tryz.sizeOf89
  v24:=Tryz.zeroValue89
  i9:=by kernel_rfl }
def Tryz.lays15_ren:Go.Shelf.Ren:=⟨fun | 15=>127 | n=>n,fun | 22=>90 | n=>n,fun | n=>n⟩
theorem Tryz.lays15:Go.Proofs.Lays2.n15 Tryz.prog Tryz.lays15_ren:={
  mixed:=by kernel_rfl
  f15:=Tryz.func127.trans (congrArg some (by kernel_rfl))
  t3:=Tryz.underlying3
  a3:=Tryz.isAgg3
  z3:=Tryz.sizeOf3
  v3:=Tryz.zeroValue3
  t4:=Tryz.underlying4
  a4:=Tryz.isAgg4
  z4:=Tryz.sizeOf4
  v4:=Tryz.zeroValue4
  t22:=Tryz.underlying90
  a22:=Tryz.isAgg90
  z22:=Tryz.sizeOf90
  v22:=Tryz.zeroValue90
  i3:=by kernel_rfl }
end Go.Proofs
namespace Go.Proofs.YtkpohmhenegkiaaGreatDoor
open Go.W Go.RowKit
theorem ZY {X:Ctx} {E:Es} {ro:RO} {w w':World} (h:Rel X E ro w) {blk:B} {g:Gb} (hb:∀ k,k < w.heap.size->w'.heap[k]? = w.heap[k]?) (hsz:w.heap.size<=w'.heap.size)
    (h1:w'.os=w.os) (h2:w'.tape=w.tape) (h3:w'.output=w.output) (hob:∀ b,g.ob=some b->w.heap.size<=b) (hon:blk.On (gm (E ++ [(g,blk)])) ro w' g):Rel X (E ++ [(g,blk)]) ro w':=by
  have hext:GExt (gm E) (gm (E ++ [(g,blk)])):=cD _
  have hget:∀ (n:Nat) (y:Gb × B),(E ++ [(g,blk)])[n]? = some y->(n=E.length/\y=(g,blk))\/(n < E.length/\E[n]? = some y):=by
    intro n y hy
    rw [List.getElem?_append] at hy
    split at hy
    · exact .inr ⟨by assumption,hy⟩
    · have:n - E.length=0:=by
        rcases Nat.eq_zero_or_pos (n - E.length) with h0 | h0
        · exact h0
        · rw [List.getElem?_eq_none (by simp; omega)] at hy; cases hy
      rw [this] at hy
      exact .inl ⟨by omega,by simpa using hy.symm⟩
  have old:∀ (n k:Nat) (gn:Gb) (bk:B),E[n]? = some (gn,bk)->gn.ob=some k->bk.live=true->k < w.heap.size:=fun n k gn bk hy hk hl=>(h.own n _ bk hy).lt hl hk
  refine ⟨fun n g' bk hy=>?_,fun n m gn gm bn bm k hy hz en em ln lm=>?_,fun k off c hc n gn bk hy en=>?_,fun k off c hc=>?_,h.ro0,h.rob,fun n k gn bk hy en ln=>?_,h.gx.trans hext,Nat.le_trans h.sz hsz,fun k hk hp=>?_,by rw [h1]; exact h.os,by rw [h2]; exact h.tape,by rw [h3]; exact h.output⟩
  · rcases hget n _ hy with ⟨rfl,he⟩ | ⟨hlt,hy'⟩
    · simp only [Prod.mk.injEq] at he; obtain ⟨rfl,rfl⟩:=he; exact hon
    · by_cases hlv:bk.live=true
      · exact (h.own n g' bk hy').same hext (Ext.refl _) fun k hk=>hb k (old n k g' bk hy' hk hlv)
      · cases bk<;>simp [B.live] at hlv; trivial
  · rcases hget n _ hy with ⟨rfl,he⟩ | ⟨hlt,hy'⟩<;>rcases hget m _ hz with ⟨rfl,he2⟩ | ⟨hlt2,hz'⟩
    · rfl
    · simp only [Prod.mk.injEq] at he; obtain ⟨rfl,rfl⟩:=he; have:=old m k gm bm hz' em lm; have:=hob k en; omega
    · simp only [Prod.mk.injEq] at he2; obtain ⟨rfl,rfl⟩:=he2; have:=old n k gn bn hy' en ln; have:=hob k em; omega
    · exact h.inj n m gn gm bn bm k hy' hz' en em ln lm
  · rcases hget n _ hy with ⟨rfl,he⟩ | ⟨hlt,hy'⟩
    · simp only [Prod.mk.injEq] at he; obtain ⟨rfl,rfl⟩:=he; have:=h.cell_lt hc; have:=hob k en; omega
    · exact h.apart k off c hc n gn bk hy' en
  · have:=h.rd k off c hc
    rw [<-this]
    simp only [World.cell?,hb k (h.cell_lt hc)]
  · rcases hget n _ hy with ⟨rfl,he⟩ | ⟨hlt,hy'⟩
    · simp only [Prod.mk.injEq] at he; obtain ⟨rfl,rfl⟩:=he; have:=hob k en; have:=h.sz; exact .inl (by omega)
    · exact h.par n k gn bk hy' en ln
  · rw [hb k (by have:=h.sz; omega)]
    exact h.keep k hk hp
theorem JX {X:Ctx} {ro:RO} {w w':World} (h:Rel X [] ro w) (hX:X.g0.length=0) {T:TypeId} {v:Value} {cs:List Value} (hne:cs ≠ []) (_hone:∀ u ∈ cs,u.oneCell'=true) (ho:w'.ownsRow w.heap.size T 1 v cs.length cs) (hb:Below w.heap.size w w') {K:S->Hp->Prop} (hK:K (.va (.c1 (.fz (cs.map fun u=>[C.vl u])))) []) :
    ∃ r' E' ro',K r' (hp E')/\r'.rel (gm E') ro' v/\Rel X E' ro' w':=by
  have hlen:0 < cs.length:=List.length_pos_iff.2 hne
  obtain ⟨h1,h2⟩:=ho
  rcases h2 with ⟨_,h0⟩ | ⟨b,cap,cur,rfl,hbb,hcell,hcap,hmax,hcs,htk⟩
  · omega
  have hfl:(cs.map fun u=>[C.vl u]).flatten=cs.map C.vl:=by
    clear h1 hlen hcap htk hK hne _hone
    induction cs with
    | nil=>rfl
    | cons x l ih=>rw [List.map_cons,List.flatten_cons,ih]; rfl
  let g:Gb:=⟨some b,true,cs.length,cap,T,cs⟩
  have hR:Rel X ([] ++ [(g,.row (cs.map fun u=>[C.vl u]) T 1)]) ro w':=by
    refine ZY h (fun k hk=>hb.block k hk) hb.size hb.os hb.tape hb.output (fun b' hb'=>by cases hb'; exact hbb) ⟨rfl,by simp [g],fun x hx=>?_,fun c hc=>?_,⟨by simp [g],.inr ⟨b,cap,cur,?_,Nat.zero_le _,hcell,by simp; exact hcap,hmax,hcs,?_⟩⟩,?_,fun b' _=>(by show 0 < cap; omega)⟩
    · obtain ⟨y,_,rfl⟩:=List.mem_map.1 hx; rfl
    · rw [hfl] at hc; obtain ⟨y,_,rfl⟩:=List.mem_map.1 hc; rfl
    · simp [aZ,g]
    · rw [List.length_map]; exact htk
    · rw [hfl]
      refine ⟨by simp [g],fun i x y hx hy=>?_⟩
      rw [List.getElem?_map] at hx
      have hy:cs[i]? = some y:=hy
      rw [hy] at hx
      cases hx; rfl
  refine CE (X:=X) (k0:=0) hX (r:=.va (.c1 (.sl 0 (cs.map fun u=>[C.vl u]).length))) (.pub 0 _ T 1 (by rfl) (.sel [] (by simp) (by simp [cF]) rfl (.done ?_))) rfl ?_ hR
  · simp -dsimp only [go_sem,cF]; simpa using hK
  · refine ⟨g,rfl,rfl,by simp [g],⟨_,_,_,rfl⟩,fun _=>?_⟩
    simp [g,aZ]
theorem nU {X:Ctx} {ro:RO} {w w':World} (h:Rel X [] ro w) {o:Option Addr} {c:Nat} (hb:Below w.heap.size w w') {K:S->Hp->Prop} (hK:K (.va (.c1 (.fz []))) []) :
    ∃ r' E' ro',K r' (hp E')/\r'.rel (gm E') ro' (.slice o 0 c)/\Rel X E' ro' w':=
  ⟨.va (.c1 (.fz [])),[],ro,hK,FzR.mk (ro:=ro) [] 1 none o (fun h=>absurd rfl h) c (fun _=>undef) (by simp) (Nat.zero_le _) (by simp) (by simp) (by simp) (by simp) (by simp),h.aside (fun k hk=>hb.block k hk) hb.size hb.os hb.tape hb.output⟩
def XQ:W.Spec:=fun av H K=>∃ l:List ByteArray,av=[.va (.c1 (.fz (l.map bB)))]/\H=[]/\l.length<=1000000000/\K (.va (.c1 (.fz (l.map bB)))) []
theorem X3 {l:List ByteArray} {K:S->Hp->Prop} (h:l.length<=1000000000) (hK:K (.va (.c1 (.fz (l.map bB)))) []):XQ [.va (.c1 (.fz (l.map bB)))] [] K:=⟨l,rfl,rfl,h,hK⟩
theorem R9 (l:List ByteArray):(l.map bB).flatten=(l.map Value.string).map C.vl:=by
  induction l with
  | nil=>rfl
  | cons x l ih=>rw [List.map_cons,List.flatten_cons,ih]; rfl
theorem TC (l:List ByteArray):(l.map Value.string).map (fun u=>[C.vl u])=l.map bB:=by rw [List.map_map]; rfl
theorem aNB:Meets Tryz.prog 126 XQ:=by
  refine ⟨by kernel_rfl,fun av vs E ro w K hlen hrel hR hs _=>?_⟩
  obtain ⟨l,rfl,hH,hl,hK⟩:=hs
  match E,hH with
  | [],_=>
    match vs,hlen with
    | [v0],_=>
      have r0:FzR ro (l.map bB) v0:=hrel 0 _ _ rfl rfl
      cases hl0:l with
      | nil=>
        subst hl0
        generalize hx:([]:List ByteArray).map bB=xs at r0
        cases r0 with
        | mk xs sz o oa hoa cap us hz hc ho h1 h2 h3 h4=>
          subst hx
          have hK:K (.va (.c1 (.fz []))) []:=hK
          cases oa with
          | none=>
            refine (Any.slices_Clone_string_nil Tryz.lays16 0 cap w).mono ?_
            rintro e w' ⟨rfl,rfl⟩
            obtain ⟨r',E',ro',a1,a2,a3⟩:=nU (o:=none) (c:=0) hR (Below.refl _ _) hK
            exact ⟨r',_,E',ro',rfl,a2,a1,a3⟩
          | some a=>
            refine (Any.slices_Clone_string_zero Tryz.lays16 a cap w).mono ?_
            rintro e w' ⟨v',rfl,hown,_,hb⟩
            obtain ⟨o',c',rfl⟩:∃ o' c',v'=.slice o' 0 c':=by
              rcases hown.2 with ⟨rfl,_⟩ | ⟨b,c',cur,rfl,_⟩
              · exact ⟨none,0,rfl⟩
              · exact ⟨_,c',rfl⟩
            obtain ⟨r',E',ro',a1,a2,a3⟩:=nU (o:=o') (c:=c') hR hb hK
            exact ⟨r',_,E',ro',rfl,a2,a1,a3⟩
      | cons x0 lt=>
        have hne:l ≠ []:=by rw [hl0]; exact List.cons_ne_nil _ _
        clear hl0
        generalize hx:l.map bB=xs at r0
        cases r0 with
        | mk xs sz o oa hoa cap us hz hc ho h1 h2 h3 h4=>
          subst hx
          have hne2:l.map bB ≠ []:=by simpa using hne
          obtain ⟨⟨b,off⟩,rfl⟩:=Option.isSome_iff_exists.1 (ho hne2)
          obtain rfl:=hoa hne2
          have hcell:∀ j,j < l.length->w.cell? ⟨b,off + j,none⟩=some (Value.string (l.getD j ByteArray.empty)):=fun j hj=>by
            have hf:(l.map bB).flatten[j]? = some (.vl (Value.string (l.getD j ByteArray.empty))):=by
              rw [R9,List.getElem?_map,List.getElem?_map,List.getElem?_eq_getElem hj]
              simp [hj]
            have e1:=h1 j _ hf
            have e2:=h2 j _ hf
            rw [e2] at e1
            exact hR.rd b (off + j) _ e1
          have key:=Any.slices_Clone_string Tryz.lays16 b off l.length cap l w (Nat.le_refl _) (by omega) hcell
          rw [List.take_length] at key
          rw [List.length_map]
          refine key.mono ?_
          rintro e w' ⟨v',rfl,hown,_,hb⟩
          rw [<-List.length_map (f:=Value.string)] at hown
          obtain ⟨r',E',ro',a1,a2,a3⟩:=JX hR rfl (cs:=l.map Value.string) (by simpa using hne) (fun u hu=>by obtain ⟨y,_,rfl⟩:=List.mem_map.1 hu; rfl) hown hb (by rw [TC]; exact hK)
          exact ⟨r',_,E',ro',rfl,a2,a1,a3⟩
def W8:W.Spec:=fun av H K=>∃ l:List Int,av=[.va (.c1 (.fz (l.map bU)))]/\H=[]/\l.length<=1000000000/\K (.va (.c1 (.fz (l.map bU)))) []
theorem YW {l:List Int} {K:S->Hp->Prop} (h:l.length<=1000000000) (hK:K (.va (.c1 (.fz (l.map bU)))) []):W8 [.va (.c1 (.fz (l.map bU)))] [] K:=⟨l,rfl,rfl,h,hK⟩
theorem R4 (l:List Int):(l.map bU).flatten=(l.map (Value.int .i64)).map C.vl:=by
  induction l with
  | nil=>rfl
  | cons x l ih=>rw [List.map_cons,List.flatten_cons,ih]; rfl
theorem SJ (l:List Int):(l.map (Value.int .i64)).map (fun u=>[C.vl u])=l.map bU:=by rw [List.map_map]; rfl
theorem aL9:Meets Tryz.prog 127 W8:=by
  refine ⟨by kernel_rfl,fun av vs E ro w K hlen hrel hR hs _=>?_⟩
  obtain ⟨l,rfl,hH,hl,hK⟩:=hs
  match E,hH with
  | [],_=>
    match vs,hlen with
    | [v0],_=>
      have r0:FzR ro (l.map bU) v0:=hrel 0 _ _ rfl rfl
      cases hl0:l with
      | nil=>
        subst hl0
        generalize hx:([]:List Int).map bU=xs at r0
        cases r0 with
        | mk xs sz o oa hoa cap us hz hc ho h1 h2 h3 h4=>
          subst hx
          have hK:K (.va (.c1 (.fz []))) []:=hK
          cases oa with
          | none=>
            refine (Any.slices_Clone_int_nil Tryz.lays15 0 cap w).mono ?_
            rintro e w' ⟨rfl,rfl⟩
            obtain ⟨r',E',ro',a1,a2,a3⟩:=nU (o:=none) (c:=0) hR (Below.refl _ _) hK
            exact ⟨r',_,E',ro',rfl,a2,a1,a3⟩
          | some a=>
            refine (Any.slices_Clone_int_zero Tryz.lays15 a cap w).mono ?_
            rintro e w' ⟨v',rfl,hown,_,hb⟩
            obtain ⟨o',c',rfl⟩:∃ o' c',v'=.slice o' 0 c':=by
              rcases hown.2 with ⟨rfl,_⟩ | ⟨b,c',cur,rfl,_⟩
              · exact ⟨none,0,rfl⟩
              · exact ⟨_,c',rfl⟩
            obtain ⟨r',E',ro',a1,a2,a3⟩:=nU (o:=o') (c:=c') hR hb hK
            exact ⟨r',_,E',ro',rfl,a2,a1,a3⟩
      | cons x0 lt=>
        have hne:l ≠ []:=by rw [hl0]; exact List.cons_ne_nil _ _
        clear hl0
        generalize hx:l.map bU=xs at r0
        cases r0 with
        | mk xs sz o oa hoa cap us hz hc ho h1 h2 h3 h4=>
          subst hx
          have hne2:l.map bU ≠ []:=by simpa using hne
          obtain ⟨⟨b,off⟩,rfl⟩:=Option.isSome_iff_exists.1 (ho hne2)
          obtain rfl:=hoa hne2
          have hcell:∀ j,j < l.length->w.cell? ⟨b,off + j,none⟩=some (Value.int .i64 (l.getD j 0)):=fun j hj=>by
            have hf:(l.map bU).flatten[j]? = some (.vl (Value.int .i64 (l.getD j 0))):=by
              rw [R4,List.getElem?_map,List.getElem?_map,List.getElem?_eq_getElem hj]
              simp [hj]
            have e1:=h1 j _ hf
            have e2:=h2 j _ hf
            rw [e2] at e1
            exact hR.rd b (off + j) _ e1
          have key:=Any.slices_Clone_int Tryz.lays15 b off l.length cap l w (Nat.le_refl _) (by omega) hcell
          rw [List.take_length] at key
          rw [List.length_map]
          refine key.mono ?_
          rintro e w' ⟨v',rfl,hown,_,hb⟩
          rw [<-List.length_map (f:=(Value.int .i64))] at hown
          obtain ⟨r',E',ro',a1,a2,a3⟩:=JX hR rfl (cs:=l.map (Value.int .i64)) (by simpa using hne) (fun u hu=>by obtain ⟨y,_,rfl⟩:=List.mem_map.1 hu; rfl) hown hb (by rw [SJ]; exact hK)
          exact ⟨r',_,E',ro',rfl,a2,a1,a3⟩
end Go.Proofs.YtkpohmhenegkiaaGreatDoor
namespace Go.Proofs.YtkpohmhenegkiaaGreatDoor
open Go.W
theorem y9:Meets Tryz.prog 98 wX:=by
  refine aF Tryz.func98 aMF 2 (by rw [Tryz.ntmps98]; decide) (aB aNB (aB aL9 (aA _))) (fun av H K h=>by obtain ⟨_,_,rfl,_⟩:=h; rfl) ?_
  rintro av H K ⟨s,n,rfl,rfl,hs,hK⟩
  rw [<-AB] at hK
  have hl:=hs.ok.le
  simp -dsimp only [go_sem,aE,aEP,aDP]
  refine aK (α:=Nat) (fun i=>[(1,tS n),(2,.va (.c1 (.pt 0 0))),(4,.va (.c1 (.pt 1 0))),(9,.va (.c1 (.fz (s.es.map aX)))),(10,iS .i64 s.es.length),(11,iS .i64 i)]) (fun _=>[.cells (aE s) 25,.cells [.vl (.string (mk [])),.vl (.slice none 0 0),.vl (.slice none 0 0)] 92])
    (fun i=>i<=s.es.length/\bX (s.es.drop i) n=bX s.es n) (fun i=>s.es.length - i) 0 2 ⟨Nat.zero_le _,rfl⟩ ?_ ?_ ?_
  · simp [go_sem]
  · simp [go_sem,aE]
  rintro i ⟨hi,ho⟩
  rcases Nat.lt_or_ge i s.es.length with hlt | hge
  · have hg:decide ((i:Int) < (s.es.length:Int))=true:=by simp; omega
    obtain ⟨t,hx⟩:∃ e,s.es[i]? = some e:=⟨_,List.getElem?_eq_getElem hlt⟩
    have q2:=aO (row:=aX) hx
    have htm:=List.mem_of_getElem? hx
    rw [bX,fT hx] at ho
    cases hc:decide (t.nm=n) with
    | true=>
      rw [hc,Bool.cond_true] at ho
      rw [<-ho] at hK
      simp (maxSteps:=1000000) -dsimp only [go_sem,hg,↓q2,aX,aE,cM,hc]
      refine ⟨by omega,X3 (hs.en t htm).1 ?_⟩
      simp (maxSteps:=1000000) -dsimp only [go_sem]
      refine YW (hs.en t htm).2 ?_
      simp (maxSteps:=1000000) -dsimp only [go_sem]
      exact .sel [] (by simp) (by simp) rfl (.done (by simpa [go_sem,aX] using hK))
    | false=>
      rw [hc,Bool.cond_false] at ho
      simp (maxSteps:=1000000) -dsimp only [go_sem,hg,↓q2,aX,aE,cM,hc]
      refine ⟨by omega,by omega,aC (i + 1) 2 ⟨by omega,ho⟩ (by omega) ?_ ?_⟩
      · simp [go_sem]
      · simp [go_sem,aE]
  · have hg:decide ((i:Int) < (s.es.length:Int))=false:=by simp; omega
    obtain rfl:i=s.es.length:=by omega
    rw [List.drop_length] at ho
    rw [<-ho] at hK
    simp -dsimp only [go_sem,hg,aE]
    exact .sel [] (by simp) (by simp) rfl (.done (by simpa [go_sem,bX,BK] using hK))
end Go.Proofs.YtkpohmhenegkiaaGreatDoor
namespace Go.Proofs.YtkpohmhenegkiaaGreatDoor
open Go.W
noncomputable def eqB {α:Type} (a b:α):Bool:=@decide (a=b) (Classical.propDecidable _)
end Go.Proofs.YtkpohmhenegkiaaGreatDoor
namespace Go.Proofs.YtkpohmhenegkiaaGreatDoor
open Go.W
theorem Z8:Meets Tryz.prog 46 (rZ pX C.sc fun s=>.bool (dX s)).sp:=by
  refine aF Tryz.func46 aL1 1 (by rw [Tryz.ntmps46]; decide) (aA _) oT ?_
  rintro av H K ⟨⟨h,rfl⟩,hK⟩
  obtain ⟨_,rfl,s,rfl,hs⟩:=f7 h
  have hK:K (bS (dX s)) []:=by
    have:(rZ pX C.sc fun s=>.bool (dX s)).val [.va (.gs (aE s))]=bA (dX s):=by simp -dsimp only [go_sem]
    rw [this] at hK; exact hK
  obtain ⟨hv,hle,hls,hes,hss⟩:=hs
  have big:dX s=true->∀ R:Hp,W.Fin 0 K (bS true) R:=fun h R=>by
    rw [h] at hK
    exact .sel [] (by simp) (by simp) rfl (.done (by simpa [go_sem] using hK))
  cases d1:decide (16 < (s.es.length:Int)) with
  | true=>
    simp (maxSteps:=1000000) -dsimp only [go_sem,aE,HB,HS,d1]
    exact big (by unfold dX; rw [show decide (16 < s.es.length)=true by simp at d1 ⊢; omega]; simp) _
  | false=>
  cases d2:decide (16 < (s.ss.length:Int)) with
  | true=>
    simp (maxSteps:=1000000) -dsimp only [go_sem,aE,HB,HS,d1,d2]
    exact big (by unfold dX; rw [show decide (16 < s.es.length + s.ss.length)=true by simp at d2 ⊢; omega]; simp) _
  | false=>
  cases d3:decide (16 < (s.es.length:Int) + (s.ss.length:Int)) with
  | true=>
    simp (maxSteps:=1000000) -dsimp only [go_sem,aE,HB,HS,d1,d2,d3]
    exact ⟨by simp at d1 d2; omega,big (by unfold dX; rw [show decide (16 < s.es.length + s.ss.length)=true by simp at d3 ⊢; omega]; simp) _⟩
  | false=>
  simp (maxSteps:=1000000) -dsimp only [go_sem,aE,HB,HS,d1,d2,d3]
  simp only [decide_eq_false_iff_not] at d1 d2 d3
  refine ⟨by omega,?_⟩
  have hL:dX s=(s.es.any (fun e=>decide (16 < e.ns.length)) || s.ss.any (fun t=>decide (16 < t.fs.length))):=by
    unfold dX; rw [decide_eq_false (by omega),decide_eq_false (by omega)]; rfl
  refine aK (α:=Nat) (fun i=>[(1,.va (.c1 (.pt 0 0))),(3,iS .i64 i)]) (fun _=>[.cells (aE s) 25])
    (fun i=>i<=s.es.length/\(s.es.drop i).any (fun e=>decide (16 < e.ns.length))=s.es.any (fun e=>decide (16 < e.ns.length))) (fun i=>s.es.length - i) 0 1 ⟨Nat.zero_le _,rfl⟩ ?_ ?_ ?_
  · simp [go_sem]
  · simp [go_sem,aE]
  rintro i ⟨hi,ho⟩
  rcases Nat.lt_or_ge i s.es.length with hlt | hge
  · have hg:decide ((i:Int) < (s.es.length:Int))=true:=by simp; omega
    obtain ⟨e,hx⟩:∃ e,s.es[i]? = some e:=⟨_,List.getElem?_eq_getElem hlt⟩
    have q2:=aO (row:=aX) hx
    rw [gJ hx] at ho
    simp (maxSteps:=1000000) -dsimp only [go_sem,hg,↓q2,aX,aE]
    and_intros
    all_goals first
      | omega
      | skip
    · intro hc
      have hc':decide (16 < e.ns.length)=true:=by simp at hc; simp; omega
      have:dX s=true:=by simp only [hL,<-ho,hc',Bool.true_or]
      rw [this] at hK
      exact .sel [] (by simp) (by simp) rfl (.done (by simpa [go_sem] using hK))
    · intro hc
      refine ⟨by omega,aC (i + 1) 1 ⟨by omega,?_⟩ (by omega) ?_ ?_⟩
      · have hc':decide (16 < e.ns.length)=false:=by simp at hc; simp; omega
        rw [<-ho,hc',Bool.false_or]
      · simp [go_sem]
      · simp [go_sem,aE]
  · have hg:decide ((i:Int) < (s.es.length:Int))=false:=by simp; omega
    obtain rfl:i=s.es.length:=by omega
    rw [o0] at ho
    rw [<-ho,Bool.false_or] at hL
    simp (maxSteps:=1000000) -dsimp only [go_sem,hg,aE]
    refine aK (α:=Nat) (fun i=>[(1,.va (.c1 (.pt 0 0))),(4,iS .i64 i)]) (fun _=>[.cells (aE s) 25])
      (fun i=>i<=s.ss.length/\(s.ss.drop i).any (fun e=>decide (16 < e.fs.length))=s.ss.any (fun e=>decide (16 < e.fs.length))) (fun i=>s.ss.length - i) 0 1 ⟨Nat.zero_le _,rfl⟩ ?_ ?_ ?_
    · simp [go_sem]
    · simp [go_sem,aE]
    clear hi ho hge hg
    rintro i ⟨hi,ho⟩
    rcases Nat.lt_or_ge i s.ss.length with hlt | hge
    · have hg:decide ((i:Int) < (s.ss.length:Int))=true:=by simp; omega
      obtain ⟨e,hx⟩:∃ e,s.ss[i]? = some e:=⟨_,List.getElem?_eq_getElem hlt⟩
      have q2:=aO (row:=aL) hx
      rw [gJ hx] at ho
      simp (maxSteps:=1000000) -dsimp only [go_sem,hg,↓q2,aL,aE]
      and_intros
      all_goals first
        | omega
        | skip
      · intro hc
        have hc':decide (16 < e.fs.length)=true:=by simp at hc; simp; omega
        have:dX s=true:=by simp only [hL,<-ho,hc',Bool.true_or]
        rw [this] at hK
        exact .sel [] (by simp) (by simp) rfl (.done (by simpa [go_sem] using hK))
      · intro hc
        refine ⟨by omega,aC (i + 1) 1 ⟨by omega,?_⟩ (by omega) ?_ ?_⟩
        · have hc':decide (16 < e.fs.length)=false:=by simp at hc; simp; omega
          rw [<-ho,hc',Bool.false_or]
        · simp [go_sem]
        · simp [go_sem,aE]
    · have hg:decide ((i:Int) < (s.ss.length:Int))=false:=by simp; omega
      obtain rfl:i=s.ss.length:=by omega
      rw [o0] at ho
      simp (maxSteps:=1000000) -dsimp only [go_sem,hg,aE]
      rw [hL,<-ho] at hK
      exact .sel [] (by simp) (by simp) rfl (.done (by simpa [go_sem] using hK))
end Go.Proofs.YtkpohmhenegkiaaGreatDoor
namespace Go.Proofs.YtkpohmhenegkiaaGreatDoor
open Go.W
def EF (len:Sc->Nat):List S->Prop:=fun av=>match av with
  | [.va (.gs r),.va (.c1 (.vl (.int .i64 i)))]=>iU r/\0<=i/\i < (len (C.sc r):Int)
  | _=>False
theorem lX {len:Sc->Nat} {av:List S} (h:EF len av):∃ (s:Sc) (i:Nat),av=[.va (.gs (aE s)),iS .i64 i]/\s.fit/\i < len s:=by
  unfold EF at h
  split at h
  · obtain ⟨⟨a,rfl,ha⟩,h1,h2⟩:=h
    rw [dW] at h2
    rename_i i
    exact ⟨a,i.toNat,by rw [Int.toNat_of_nonneg h1],ha,by omega⟩
  · exact h.elim
noncomputable def XR (f:Sc->Nat->Int):List S->A:=fun av=>match av with
  | [.va (.gs r),.va (.c1 (.vl (.int .i64 i)))]=>iA .i64 (f (C.sc r) i.toNat)
  | _=>.gs []
noncomputable def BY (len:Sc->Nat) (f:Sc->Nat->Int):Fun:=⟨EF len,XR f,fun av h=>by obtain ⟨a,b,rfl,_⟩:=lX h; trivial⟩
theorem HZ {len:Sc->Nat} {f:Sc->Nat->Int}:∀ av H K,(BY len f).sp av H K->av.length=2:=fun av H K h=>by obtain ⟨a,b,rfl,_⟩:=lX h.1.1; rfl
attribute [go_sem] BY EF XR
theorem YT:Meets Tryz.prog 47 (BY (fun s=>s.es.length) iK).sp:=by
  refine aF Tryz.func47 aLM 2 (by rw [Tryz.ntmps47]; decide) (aG IC (aG v8 (aG S2 (aA _)))) HZ ?_
  rintro av H K ⟨⟨h,rfl⟩,hK⟩
  obtain ⟨s,i,rfl,hs,hi⟩:=lX (len:=fun s=>s.es.length) h
  have hK:K (iS .i64 (iK s i)) []:=by
    have:(BY (fun s=>s.es.length) iK).val [.va (.gs (aE s)),iS .i64 i]=iA .i64 (iK s i):=by simp -dsimp only [go_sem,Int.toNat_natCast]
    rw [this] at hK; exact hK
  clear h
  have hle:=hs.ok.le
  have fin:∀ (x:Int) (R:Hp),iK s i=x->W.Fin 0 K (iS .i64 x) R:=fun x R h=>by
    rw [h] at hK
    exact .sel [] (by simp) (by simp) rfl (.done (by simpa [go_sem] using hK))
  obtain ⟨e,hx⟩:∃ e,s.es[i]? = some e:=⟨_,List.getElem?_eq_getElem hi⟩
  have q1:=aO (row:=aX) hx
  obtain ⟨_,hln,hlv,_,_⟩:=hs.ok.es e (List.mem_of_getElem? hx)
  have hA:iK s i=bif !(t6 (bl e.nm)) then 5 else bif fO (s.es.take i) e.nm then 7 else DK e:=by unfold iK; rw [hx]
  simp (maxSteps:=1000000) -dsimp only [go_sem,aE,aBN,aDU,↓q1,aX]
  refine ⟨by omega,fun h1=>fin 5 _ (by rw [hA,h1]; rfl),fun h1=>?_⟩
  rw [h1] at hA
  simp only [Bool.cond_false] at hA
  refine aK (α:=Nat) (fun j=>[(1,iS .i64 i),(2,.va (.c1 (.pt 0 0))),(5,.va (.c1 (.pt 1 0))),(6,iS .i64 j)]) (fun _=>[.cells (aE s) 25,.cells (aX e) 92])
    (fun j=>j<=i/\fO ((s.es.take i).drop j) e.nm=fO (s.es.take i) e.nm) (fun j=>i - j) 0 2 ⟨Nat.zero_le _,rfl⟩ ?_ ?_ ?_
  · simp [go_sem]
  · simp [go_sem,aE,aX]
  have hti:(s.es.take i).length=i:=by rw [List.length_take]; omega
  rintro j ⟨hj,ho⟩
  rcases Nat.lt_or_ge j i with hlt | hge
  · have hg:decide ((j:Int) < (i:Int))=true:=by simp; omega
    obtain ⟨d,hd⟩:∃ d,s.es[j]? = some d:=⟨_,List.getElem?_eq_getElem (by omega)⟩
    have hd':(s.es.take i)[j]? = some d:=by rw [List.getElem?_take,if_pos hlt]; exact hd
    have q2:=aO (row:=aX) hd
    rw [fO,gJ hd'] at ho
    simp (maxSteps:=1000000) -dsimp only [go_sem,hg,↓q2,aX,aE,cM]
    refine ⟨by omega,fun hc=>?_,fun hc=>?_⟩
    · rw [hc,Bool.true_or] at ho
      exact fin 7 _ (by rw [hA,<-ho]; rfl)
    · rw [hc,Bool.false_or] at ho
      refine ⟨by omega,aC (j + 1) 2 ⟨by omega,ho⟩ (by omega) ?_ ?_⟩
      · simp [go_sem]
      · simp [go_sem,aE,aX]
  · obtain rfl:j=i:=by omega
    have hg:decide ((j:Int) < (j:Int))=false:=by simp
    rw [List.drop_eq_nil_of_le (by omega)] at ho
    rw [<-ho] at hA
    replace hA:iK s j=DK e:=hA
    clear ho hti
    simp (maxSteps:=1000000) -dsimp only [go_sem,hg,aX,aE]
    refine ⟨fun h1=>?_,fun h1=>?_⟩
    · refine fin 2 _ ?_
      rw [hA]
      unfold DK
      have:(decide (e.ns.length=0) || decide (e.ns.length ≠ e.vs.length))=true:=by
        simp only [Bool.or_eq_true,beq_iff_eq,bne_iff_ne,decide_eq_true_eq] at h1 ⊢; omega
      rw [this]; rfl
    simp only [Bool.or_eq_false_iff,beq_eq_false_iff_ne,bne_eq_false_iff_eq,ne_eq] at h1
    have hl:e.ns.length=e.vs.length:=by omega
    have hF:iK s j=fE (jI e) (e.ns.length - 0) 0:=by
      rw [hA]; unfold DK; rw [decide_eq_false (by omega),decide_eq_false (by omega)]; rfl
    clear hA hg hge hj
    refine aK (α:=Nat) (fun k=>[(5,.va (.c1 (.pt 1 0))),(7,iS .i64 k)]) (fun _=>[.cells (aE s) 25,.cells (aX e) 92])
      (fun k=>k<=e.ns.length/\fE (jI e) (e.ns.length - k) k=fE (jI e) (e.ns.length - 0) 0) (fun k=>e.ns.length - k) 0 2 ⟨Nat.zero_le _,rfl⟩ ?_ ?_ ?_
    · simp [go_sem]
    · simp [go_sem,aE,aX]
    rintro k ⟨hk,ho⟩
    rcases Nat.lt_or_ge k e.ns.length with hlt | hge
    · have hg:decide ((k:Int) < (e.ns.length:Int))=true:=by simp; omega
      obtain ⟨nm,hx2⟩:∃ nm,e.ns[k]? = some nm:=⟨_,List.getElem?_eq_getElem hlt⟩
      obtain ⟨n,hy⟩:∃ nm,e.vs[k]? = some nm:=⟨_,List.getElem?_eq_getElem (by omega)⟩
      have q2:=aO (row:=bB) hx2
      have q3:=aO (row:=bU) hy
      have hbs:A4 (e.ns.map bB):=sS hln
      have hk0:(0<=(k:Int))=True:=by simp
      have hk1:((k:Int)<=9223372036854775807)=True:=by simp; omega
      have hA:jI e k=bif !(cH (bl nm)) then (5:Int) else bif cS (e.ns.take k) nm then 7 else bif decide (n < 0) || decide (127 < n) then 4 else
        bif (decide ((k:Int)=0) && decide (n ≠ 0)) || (decide (0 < (k:Int)) && match e.vs[k - 1]? with | some m=>decide (n<=m) | none=>false) then 2 else 0:=by
        unfold jI; rw [hx2,hy]; rfl
      have fin':∀ (x:Int) (R:Hp),jI e k=x->x ≠ 0->W.Fin 0 K (iS .i64 x) R:=fun x R h1 h2=>fin x R (by
        rw [hF,<-ho,sG hlt (by rw [h1]; exact h2),h1])
      have b8:jI e k=0->fE (jI e) (e.ns.length - (k + 1)) (k + 1)=fE (jI e) (e.ns.length - 0) 0:=fun h1=>by rw [<-ho,xO hlt h1]
      cases hc1:cH (bl nm) with
      | false=>
        simp (maxSteps:=1000000) -dsimp only [go_sem,hg,↓q2,aX,aE,hc1]
        exact ⟨by omega,fin' 5 _ (by rw [hA,hc1]; rfl) (by decide)⟩
      | true=>
        cases hc2:cS (e.ns.take k) nm with
        | true=>
          simp (maxSteps:=1000000) -dsimp only [go_sem,hg,↓q2,aX,aE,hc1,hc2,hbs,hk0,hk1,Int.toNat_natCast]
          exact ⟨by omega,by omega,fin' 7 _ (by rw [hA,hc1,hc2]; rfl) (by decide)⟩
        | false=>
          cases hc3:decide (n < 0) with
          | true=>
            simp (maxSteps:=1000000) -dsimp only [go_sem,hg,↓q2,↓q3,aX,aE,hc1,hc2,hbs,hk0,hk1,Int.toNat_natCast,hc3]
            exact ⟨by omega,by omega,by omega,fin' 4 _ (by rw [hA,hc1,hc2,hc3]; rfl) (by decide)⟩
          | false=>
          cases hc4:decide (127 < n) with
          | true=>
            simp (maxSteps:=1000000) -dsimp only [go_sem,hg,↓q2,↓q3,aX,aE,hc1,hc2,hbs,hk0,hk1,Int.toNat_natCast,hc3,hc4]
            exact ⟨by omega,by omega,by omega,by omega,fin' 4 _ (by rw [hA,hc1,hc2,hc3,hc4]; rfl) (by decide)⟩
          | false=>
          have hA2:jI e k=bif (decide ((k:Int)=0) && decide (n ≠ 0)) || (decide (0 < (k:Int)) && match e.vs[k - 1]? with | some m=>decide (n<=m) | none=>false) then 2 else 0:=by rw [hA,hc1,hc2,hc3,hc4]; rfl
          clear hA
          rcases Nat.eq_zero_or_pos k with h0 | h0
          · have g0:((k:Int) == 0)=true:=by simp; omega
            have g1:decide (0 < (k:Int))=false:=by simp; omega
            have g2:decide ((k:Int)=0)=true:=g0
            cases hn:(n != 0) with
            | true=>
              simp (maxSteps:=1000000) -dsimp only [go_sem,hg,↓q2,↓q3,aX,aE,hc1,hc2,hbs,hk0,hk1,Int.toNat_natCast,hc3,hc4,g0,g1,hn,Bool.and_false]
              and_intros
              all_goals first
                | omega
                | exact fin' 2 _ (by rw [hA2,g1,g2]; simp at hn; simp [hn]) (by decide)
            | false=>
              simp (maxSteps:=1000000) -dsimp only [go_sem,hg,↓q2,↓q3,aX,aE,hc1,hc2,hbs,hk0,hk1,Int.toNat_natCast,hc3,hc4,g0,g1,hn,Bool.and_false]
              and_intros
              all_goals first
                | omega
                | exact aC (k + 1) 2 ⟨by omega,b8 (by rw [hA2,g1]; simp at hn; simp [hn])⟩ (by omega) (by simp [go_sem]) (by simp [go_sem,aE,aX])
          · have g0:((k:Int) == 0)=false:=by simp; omega
            have g1:decide (0 < (k:Int))=true:=by simp; omega
            have g2:decide ((k:Int)=0)=false:=g0
            obtain ⟨m,hm⟩:∃ m,e.vs[k - 1]? = some m:=⟨_,List.getElem?_eq_getElem (by omega)⟩
            have q4:((k:Int) - 1).toNat=k - 1:=by omega
            have q5:=o8 (row:=bU) hm
            cases hn:decide (n<=m) with
            | true=>
              simp (maxSteps:=1000000) -dsimp only [go_sem,hg,↓q2,↓q3,aX,aE,hc1,hc2,hbs,hk0,hk1,Int.toNat_natCast,Option.some.injEq,forall_eq',hc3,hc4,g0,g1,q4,hm,hn,Bool.and_true]
              and_intros
              all_goals first
                | omega
                | exact fin' 2 _ (by rw [hA2,hm,g1]; simp only [hn]; simp) (by decide)
            | false=>
              simp (maxSteps:=1000000) -dsimp only [go_sem,hg,↓q2,↓q3,aX,aE,hc1,hc2,hbs,hk0,hk1,Int.toNat_natCast,Option.some.injEq,forall_eq',hc3,hc4,g0,g1,q4,hm,hn,Bool.and_true]
              and_intros
              all_goals first
                | omega
                | exact aC (k + 1) 2 ⟨by omega,b8 (by rw [hA2,hm,g1,g2]; simp only [hn]; rfl)⟩ (by omega) (by simp [go_sem]) (by simp [go_sem,aE,aX])
    · have hg:decide ((k:Int) < (e.ns.length:Int))=false:=by simp; omega
      obtain rfl:k=e.ns.length:=by omega
      rw [yU] at ho
      simp (maxSteps:=1000000) -dsimp only [go_sem,hg,aX]
      exact fin 0 _ (by rw [hF,<-ho])
end Go.Proofs.YtkpohmhenegkiaaGreatDoor
namespace Go.Proofs.YtkpohmhenegkiaaGreatDoor
open Go.W
def D0 (N:Nat):List S->Prop:=fun av=>match av with
  | [.va (.gs r),.va (.gs q)]=>iU r/\eK q/\(C.ty q).h<=N
  | _=>False
theorem hZ {N:Nat} {av:List S} (h:D0 N av):∃ s t,av=[.va (.gs (aE s)),.va (.gs (aM t))]/\s.fit/\TyOk t/\t.h<=N:=by
  unfold D0 at h
  split at h
  · obtain ⟨⟨a,rfl,ha⟩,⟨b,rfl,hb⟩,hh⟩:=h
    rw [eH] at hh
    exact ⟨a,b,rfl,ha,hb,hh⟩
  · exact h.elim
noncomputable def MZ:List S->A:=fun av=>match av with
  | [.va (.gs r),.va (.gs q)]=>bA (valF (C.sc r).ss (C.sc r).es (C.ty q))
  | _=>.gs []
noncomputable def AU (N:Nat):Fun:=⟨D0 N,MZ,fun av h=>by obtain ⟨a,b,rfl,_⟩:=hZ h; trivial⟩
theorem HX {N:Nat}:∀ av H K,(AU N).sp av H K->av.length=2:=fun av H K h=>by obtain ⟨a,b,rfl,_⟩:=hZ h.1.1; rfl
attribute [go_sem] AU D0 MZ
theorem aOF {ss:List St} {es:List En} {s:Int} {n:ByteArray} {e:List Ty}:valF ss es (.mk 6 s n e)=(fR ss n && s == 0 && (e.length:Int) == 0):=by
  rw [valF]; rfl
theorem aNQ {ss:List St} {es:List En} {s:Int} {n:ByteArray} {e:List Ty}:valF ss es (.mk 7 s n e)=(fO es n && s == 0 && (e.length:Int) == 0):=by
  rw [valF]; rfl
theorem OY:∀ N,Meets Tryz.prog 73 (AU N).sp
  | 0=>⟨by kernel_rfl,by rintro xs vs E ro w K _ _ _ ⟨⟨h,_⟩,_⟩; obtain ⟨_,a,_,_,_,h⟩:=hZ h; have:=a.h_pos; omega⟩
  | N + 1=>by
    refine aF Tryz.func73 aK8 2 (by rw [Tryz.ntmps73]; decide) (aG (OY N) (aG Y7 (aB vX (aB GS (aA _))))) HX ?_
    rintro av H K ⟨⟨h,rfl⟩,hK⟩
    obtain ⟨sc,t,rfl,hs,ht,hh⟩:=hZ h
    have hK:K (bS (valF sc.ss sc.es t)) []:=by
      have:(AU (N + 1)).val [.va (.gs (aE sc)),.va (.gs (aM t))]=bA (valF sc.ss sc.es t):=by simp -dsimp only [go_sem]
      rw [this] at hK; exact hK
    clear h
    have fin:∀ (b:Bool) (R:Hp),valF sc.ss sc.es t=b->W.Fin 0 K (bS b) R:=fun b R h=>by
      rw [h] at hK
      exact .sel [] (by simp) (by simp) rfl (.done (by simp -dsimp only [go_sem]; simpa using hK))
    have hit:eK (aM t):=dG ht
    cases t with
    | mk k s n e=>
    have hcd:=eH (.mk k s n e)
    rw [aM,aS] at hcd hit
    have hcl:(Ty.mk k s n e).e.length=e.length:=rfl
    by_cases k1:(k == 1)=true
    · have hF:=valF.eq_1 sc.ss sc.es k s n e
      rw [k1] at hF
      simp only [Bool.cond_true] at hF
      simp (maxSteps:=1000000) -dsimp only [go_sem,aE,aM,aS,n7,n6,k1,hit,hcd,hcl]
      exact fin _ _ hF
    rw [Bool.not_eq_true] at k1
    by_cases k2:(k == 2)=true
    · have hF:=valF.eq_1 sc.ss sc.es k s n e
      rw [k1,k2] at hF
      simp only [Bool.cond_true,Bool.cond_false] at hF
      simp (maxSteps:=1000000) -dsimp only [go_sem,aE,aM,aS,n7,n6,k1,k2,hit,hcd,hcl]
      exact fin _ _ hF
    rw [Bool.not_eq_true] at k2
    by_cases k3:(k == 3)=true
    · have hF:=valF.eq_1 sc.ss sc.es k s n e
      rw [k1,k2,k3] at hF
      simp only [Bool.cond_true,Bool.cond_false,Bool.and_false,Bool.or_false] at hF
      simp (maxSteps:=1000000) -dsimp only [go_sem,aE,aM,aS,n7,n6,k1,k2,k3,hit,hcd,hcl]
      exact fin _ _ hF
    rw [Bool.not_eq_true] at k3
    by_cases k4:(k == 4)=true
    · have hF:=valF.eq_1 sc.ss sc.es k s n e
      rw [k1,k2,k3,k4] at hF
      simp only [Bool.cond_true,Bool.cond_false] at hF
      simp (maxSteps:=1000000) -dsimp only [go_sem,aE,aM,aS,n7,n6,k1,k2,k3,k4,hit,hcd,hcl]
      exact fin _ _ hF
    rw [Bool.not_eq_true] at k4
    by_cases k5:(k == 5)=true
    · have hF:=valF.eq_1 sc.ss sc.es k s n e
      rw [k1,k2,k3,k4,k5] at hF
      simp only [Bool.cond_true,Bool.cond_false] at hF
      cases hc:(decide (1<=s) && decide (s<=32) && bl n == [] && (e.length:Int) == 1) with
      | false=>
        have hF':valF sc.ss sc.es (.mk k s n e)=false:=by
          rw [hF]
          cases h0:(decide (1<=s) && decide (s<=32) && bl n == []) with
          | false=>rfl
          | true=>
            rw [h0,Bool.true_and] at hc
            match e,hc with
            | [],_=>rfl
            | [u],hc=>simp at hc
            | u :: v :: r,_=>simp [l0]
        simp (maxSteps:=1000000) -dsimp only [go_sem,aE,aM,aS,n7,n6,k1,k2,k3,k4,k5,hc]
        exact fin _ _ hF'
      | true=>
        obtain ⟨u,rfl⟩:∃ u,e=[u]:=by
          simp only [Bool.and_eq_true,beq_iff_eq] at hc
          exact List.length_eq_one_iff.1 (by omega)
        have h0:(decide (1<=s) && decide (s<=32) && bl n == [])=true:=by
          simp only [Bool.and_eq_true] at hc ⊢; exact hc.1
        have hF':valF sc.ss sc.es (.mk k s n [u])=valF sc.ss sc.es u:=by rw [hF,h0]; simp [l0]
        have hu2:u.h<=N:=by rw [Ty.h,Ty.hs,Ty.hs] at hh; omega
        have hu:eK (aM u):=dG (ht.e u (by simp [Ty.e]))
        have hsf:=eZ hs
        rw [aE] at hsf
        have hsd:=dW sc
        rw [aE] at hsd
        have hc':(decide (1<=s) && decide (s<=32) && bl n == [] && ((1:Nat):Int) == 1)=true:=hc
        simp (maxSteps:=1000000) -dsimp only [go_sem,aE,aM,aS,n7,n6,k1,k2,k3,k4,k5,hc']
        refine ⟨⟨by omega,fun r hr=>by subst hr; exact gN u⟩,fun r hr=>?_⟩
        subst hr
        simp (maxSteps:=1000000) -dsimp only [go_sem,hsf,hsd,hu,gN]
        exact ⟨hu2,fin _ _ hF'⟩
    rw [Bool.not_eq_true] at k5
    by_cases k6:(k == 6)=true
    · obtain rfl:k=6:=by simpa using k6
      have hF:=aOF (ss:=sc.ss) (es:=sc.es) (s:=s) (n:=n) (e:=e)
      simp (maxSteps:=1000000) -dsimp only [go_sem,aE,aM,aS,n7,n6,k1,k2,k3,k4,k5,k6]
      refine gP hs ?_
      cases hc:fR sc.ss n with
      | false=>
        rw [hc] at hF
        simp (maxSteps:=1000000) -dsimp only [go_sem,aL,hit,hcd,hcl]
        exact fin _ _ hF
      | true=>
        rw [hc] at hF
        simp (maxSteps:=1000000) -dsimp only [go_sem,aL,hit,hcd,hcl]
        exact fin _ _ hF
    rw [Bool.not_eq_true] at k6
    by_cases k7:(k == 7)=true
    · obtain rfl:k=7:=by simpa using k7
      have hF:=aNQ (ss:=sc.ss) (es:=sc.es) (s:=s) (n:=n) (e:=e)
      simp (maxSteps:=1000000) -dsimp only [go_sem,aE,aM,aS,n7,n6,k1,k2,k3,k4,k5,k6,k7]
      refine jA hs ?_
      cases hc:fO sc.es n with
      | false=>
        rw [hc] at hF
        simp (maxSteps:=1000000) -dsimp only [go_sem,aX,hit,hcd,hcl]
        exact fin _ _ hF
      | true=>
        rw [hc] at hF
        simp (maxSteps:=1000000) -dsimp only [go_sem,aX,hit,hcd,hcl]
        exact fin _ _ hF
    rw [Bool.not_eq_true] at k7
    have hF:=valF.eq_1 sc.ss sc.es k s n e
    rw [k1,k2,k3,k4,k5,k6,k7] at hF
    simp only [Bool.cond_false] at hF
    simp (maxSteps:=1000000) -dsimp only [go_sem,aE,aM,aS,n7,n6,k1,k2,k3,k4,k5,k6,k7]
    exact fin _ _ hF
end Go.Proofs.YtkpohmhenegkiaaGreatDoor
namespace Go.Proofs.YtkpohmhenegkiaaGreatDoor
open Go.W
def D7:List S->Prop:=fun av=>match av with
  | [.va (.gs r),.va (.gs q)]=>iU r/\eK q
  | _=>False
theorem jO {av:List S} (h:D7 av):∃ s t,av=[.va (.gs (aE s)),.va (.gs (aM t))]/\s.fit/\TyOk t:=by
  unfold D7 at h
  split at h
  · obtain ⟨⟨a,rfl,ha⟩,⟨b,rfl,hb⟩⟩:=h
    exact ⟨a,b,rfl,ha,hb⟩
  · exact h.elim
noncomputable def r0Fn:Fun:=⟨D7,MZ,fun av h=>by obtain ⟨a,b,rfl,_⟩:=jO h; trivial⟩
attribute [go_sem] r0Fn D7
theorem K0:Meets Tryz.prog 73 r0Fn.sp:=eM 0 OY fun av H K ⟨⟨h,e⟩,hK⟩=>by
  obtain ⟨a,b,rfl,ha,hb⟩:=jO h
  exact ⟨b.h,⟨⟨⟨eZ ha,dG hb,by rw [eH]; exact Nat.le_refl _⟩,e⟩,hK⟩⟩
theorem N6:Meets Tryz.prog 48 (BY (fun s=>s.ss.length) iW).sp:=by
  refine aF Tryz.func48 aK9 2 (by rw [Tryz.ntmps48]; decide) (aG IC (aB GS (aG v8 (aG K0 (aA _))))) HZ ?_
  rintro av H K ⟨⟨h,rfl⟩,hK⟩
  obtain ⟨s,i,rfl,hs,hi⟩:=lX (len:=fun s=>s.ss.length) h
  have hK:K (iS .i64 (iW s i)) []:=by
    have:(BY (fun s=>s.ss.length) iW).val [.va (.gs (aE s)),iS .i64 i]=iA .i64 (iW s i):=by simp -dsimp only [go_sem,Int.toNat_natCast]
    rw [this] at hK; exact hK
  clear h
  have hls:=hs.ok.ls
  have fin:∀ (x:Int) (R:Hp),iW s i=x->W.Fin 0 K (iS .i64 x) R:=fun x R h=>by
    rw [h] at hK
    exact .sel [] (by simp) (by simp) rfl (.done (by simpa [go_sem] using hK))
  obtain ⟨t,hx⟩:∃ e,s.ss[i]? = some e:=⟨_,List.getElem?_eq_getElem hi⟩
  have q1:=aO (row:=aL) hx
  obtain ⟨_,hlf,hfs⟩:=hs.ok.ss t (List.mem_of_getElem? hx)
  have hA:iW s i=bif nQ s i t.nm != 0 then nQ s i t.nm else C6 s.ss s.es t:=by unfold iW; rw [hx]
  have hsf:=eZ hs
  rw [aE] at hsf
  have hsd:=dW s
  rw [aE] at hsd
  simp (maxSteps:=1000000) -dsimp only [go_sem,aE,aFE,aCN,↓q1,aL]
  refine ⟨by omega,fun h1=>fin 5 _ (by rw [hA]; unfold nQ; rw [h1]; rfl),fun h1=>?_⟩
  refine jA hs ?_
  simp (maxSteps:=1000000) -dsimp only [go_sem,aX]
  refine ⟨fun h2=>fin 7 _ (by rw [hA]; unfold nQ; rw [h1,h2]; rfl),fun h2=>?_⟩
  have hC:nQ s i t.nm=bif fR (s.ss.take i) t.nm then 7 else 0:=by unfold nQ; rw [h1,h2]; rfl
  generalize ((bX s.es t.nm).getD default)=dflt
  refine aK (α:=Nat) (fun j=>[(1,iS .i64 i),(2,.va (.c1 (.pt 0 0))),(5,.va (.c1 (.pt 1 0))),(8,iS .i64 j)]) (fun _=>[.cells (aE s) 25,.cells (aL t) 95])
    (fun j=>j<=i/\fR ((s.ss.take i).drop j) t.nm=fR (s.ss.take i) t.nm) (fun j=>i - j) 0 2 ⟨Nat.zero_le _,rfl⟩ ?_ ?_ ?_
  · simp [go_sem]
  · simp [go_sem,aE,aL]
  have hti:(s.ss.take i).length=i:=by rw [List.length_take]; omega
  rintro j ⟨hj,ho⟩
  rcases Nat.lt_or_ge j i with hlt | hge
  · have hg:decide ((j:Int) < (i:Int))=true:=by simp; omega
    obtain ⟨d,hd⟩:∃ d,s.ss[j]? = some d:=⟨_,List.getElem?_eq_getElem (by omega)⟩
    have hd':(s.ss.take i)[j]? = some d:=by rw [List.getElem?_take,if_pos hlt]; exact hd
    have q2:=aO (row:=aL) hd
    rw [fR,gJ hd'] at ho
    simp (maxSteps:=1000000) -dsimp only [go_sem,hg,↓q2,aL,aE,cM]
    refine ⟨by omega,fun hc=>?_,fun hc=>?_⟩
    · rw [hc,Bool.true_or] at ho
      exact fin 7 _ (by rw [hA,hC,<-ho]; rfl)
    · rw [hc,Bool.false_or] at ho
      refine ⟨by omega,aC (j + 1) 2 ⟨by omega,ho⟩ (by omega) ?_ ?_⟩
      · simp [go_sem]
      · simp [go_sem,aE,aL]
  · obtain rfl:j=i:=by omega
    have hg:decide ((j:Int) < (j:Int))=false:=by simp
    rw [List.drop_eq_nil_of_le (by omega)] at ho
    have hF:iW s j=C6 s.ss s.es t:=by rw [hA,hC,<-ho]; rfl
    clear ho hti hA hC q1 hj hge
    simp (maxSteps:=1000000) -dsimp only [go_sem,hg,aL,aE]
    clear hg
    refine aK (α:=Nat) (fun k=>[(2,.va (.c1 (.pt 0 0))),(5,.va (.c1 (.pt 1 0))),(9,iS .i64 k)]) (fun _=>[.cells (aE s) 25,.cells (aL t) 95])
      (fun k=>k<=t.fs.length/\fE (n9 s.ss s.es t) (t.fs.length - k) k=C6 s.ss s.es t) (fun k=>t.fs.length - k) 0 2 ⟨Nat.zero_le _,rfl⟩ ?_ ?_ ?_
    · simp [go_sem]
    · simp [go_sem,aE,aL]
    rintro k ⟨hk,ho⟩
    rcases Nat.lt_or_ge k t.fs.length with hlt | hge
    · have hg:decide ((k:Int) < (t.fs.length:Int))=true:=by simp; omega
      obtain ⟨f,hx2⟩:∃ nm,t.fs[k]? = some nm:=⟨_,List.getElem?_eq_getElem hlt⟩
      have q2:=aO (row:=aR) hx2
      have hf:f.ok:=hfs f (List.mem_of_getElem? hx2)
      have hit:eK (aM f.ty):=dG hf.ty
      have hA:n9 s.ss s.es t k=bif decide (f.num < 1) || decide (127 < f.num) then (4:Int) else bif decide (0 < (k:Int)) && (match t.fs[k - 1]? with | some g=>decide (f.num<=g.num) | none=>false) then 2 else
        bif !(cH (bl f.nm)) then 5 else bif (t.fs.take k).any (fun g=>decide (g.nm=f.nm)) then 7 else bif !(valF s.ss s.es f.ty) then 13 else 0:=by
        unfold n9; rw [hx2]; rfl
      have fin':∀ (x:Int) (R:Hp),n9 s.ss s.es t k=x->x ≠ 0->W.Fin 0 K (iS .i64 x) R:=fun x R h1 h2=>fin x R (by
        rw [hF,<-ho,sG hlt (by rw [h1]; exact h2),h1])
      have b8:n9 s.ss s.es t k=0->fE (n9 s.ss s.es t) (t.fs.length - (k + 1)) (k + 1)=C6 s.ss s.es t:=fun h1=>by rw [<-ho,xO hlt h1]
      cases c0:decide (f.num < 1) with
      | true=>
        rw [c0] at hA
        simp (maxSteps:=1000000) -dsimp only [go_sem,hg,↓q2,aR,aL,aE,c0]
        exact ⟨by omega,fin' 4 _ hA (by decide)⟩
      | false=>
      cases c1:decide (127 < f.num) with
      | true=>
        rw [c0,c1] at hA
        simp (maxSteps:=1000000) -dsimp only [go_sem,hg,↓q2,aR,aL,aE,c0,c1]
        exact ⟨by omega,fin' 4 _ hA (by decide)⟩
      | false=>
      rw [c0,c1] at hA
      simp only [Bool.or_self,Bool.cond_false] at hA
      rcases Nat.eq_zero_or_pos k with h0 | h0
      · have g1:decide (0 < (k:Int))=false:=by simp; omega
        rw [g1] at hA
        simp only [Bool.false_and,Bool.cond_false] at hA
        cases c3:cH (bl f.nm) with
        | false=>
          rw [c3] at hA
          simp (maxSteps:=1000000) -dsimp only [go_sem,hg,↓q2,aR,aL,aE,c0,c1,c3,g1]
          exact ⟨by omega,fin' 5 _ hA (by decide)⟩
        | true=>
          rw [c3] at hA
          simp only [Bool.not_true,Bool.cond_false] at hA
          simp (maxSteps:=1000000) -dsimp only [go_sem,hg,↓q2,aR,aL,aE,c0,c1,c3,g1]
          refine ⟨by omega,?_⟩
          refine aK (α:=Nat) (fun j=>[(2,.va (.c1 (.pt 0 0))),(5,.va (.c1 (.pt 1 0))),(9,iS .i64 k),(10,.va (.c1 (.pt 2 0))),(11,iS .i64 j)])
            (fun _=>[.cells (aE s) 25,.cells (aL t) 95,.cells (aR f) 97])
            (fun j=>j<=k/\((t.fs.take k).drop j).any (fun g=>decide (g.nm=f.nm))=(t.fs.take k).any (fun g=>decide (g.nm=f.nm))) (fun j=>k - j) 0 3 ⟨Nat.zero_le _,rfl⟩ ?_ ?_ ?_
          · simp [go_sem]
          · simp [go_sem,aE,aL,aR]
          have htk:(t.fs.take k).length=k:=by rw [List.length_take]; omega
          rintro j ⟨hj,ho2⟩
          rcases Nat.lt_or_ge j k with hjt | hjg
          · have hgj:decide ((j:Int) < (k:Int))=true:=by simp; omega
            obtain ⟨d,hd⟩:∃ e,t.fs[j]? = some e:=⟨_,List.getElem?_eq_getElem (by omega)⟩
            have hd':(t.fs.take k)[j]? = some d:=by rw [List.getElem?_take,if_pos hjt]; exact hd
            have q5:=aO (row:=aR) hd
            rw [gJ hd'] at ho2
            simp (maxSteps:=1000000) -dsimp only [go_sem,hgj,↓q5,aR,aL,aE,cM]
            refine ⟨by omega,fun hc=>?_,fun hc=>?_⟩
            · rw [hc,Bool.true_or] at ho2
              rw [<-ho2] at hA
              exact fin' 7 _ hA (by decide)
            · rw [hc,Bool.false_or] at ho2
              refine ⟨by omega,aC (j + 1) 3 ⟨by omega,ho2⟩ (by omega) ?_ ?_⟩
              · simp [go_sem]
              · simp [go_sem,aE,aL,aR]
          · obtain rfl:j=k:=by omega
            have hgj:decide ((j:Int) < (j:Int))=false:=by simp
            rw [List.drop_eq_nil_of_le (by omega)] at ho2
            rw [<-ho2] at hA
            simp only [List.any_nil,Bool.cond_false] at hA
            simp (maxSteps:=1000000) -dsimp only [go_sem,hgj,aR,aL,aE,sX,hit,hsf,hsd]
            cases c5:valF s.ss s.es f.ty with
            | true=>
              rw [c5] at hA
              simp (maxSteps:=1000000) -dsimp only [go_sem]
              refine ⟨by omega,aC (j + 1) 2 ⟨by omega,b8 hA⟩ (by omega) ?_ ?_⟩
              · simp [go_sem]
              · simp [go_sem,aE,aL]
            | false=>
              rw [c5] at hA
              simp (maxSteps:=1000000) -dsimp only [go_sem]
              exact fin' 13 _ hA (by decide)
      · have g1:decide (0 < (k:Int))=true:=by simp; omega
        obtain ⟨g,hy⟩:∃ m,t.fs[k - 1]? = some m:=⟨_,List.getElem?_eq_getElem (by omega)⟩
        have q4:((k:Int) - 1).toNat=k - 1:=by omega
        have q6:=o8 (row:=aR) hy
        rw [g1,hy,Bool.true_and] at hA
        simp only at hA
        cases c2:decide (f.num<=g.num) with
        | true=>
          rw [c2] at hA
          simp (maxSteps:=1000000) -dsimp only [go_sem,hg,↓q2,aR,aL,aE,c0,c1,g1,q4,c2,hy,Option.some.injEq,forall_eq']
          exact ⟨by omega,by omega,by omega,fin' 2 _ hA (by decide)⟩
        | false=>
          rw [c2] at hA
          simp only [Bool.cond_false] at hA
          cases c3:cH (bl f.nm) with
          | false=>
            rw [c3] at hA
            simp (maxSteps:=1000000) -dsimp only [go_sem,hg,↓q2,aR,aL,aE,c0,c1,c3,g1,q4,c2,hy,Option.some.injEq,forall_eq']
            exact ⟨by omega,by omega,by omega,fin' 5 _ hA (by decide)⟩
          | true=>
            rw [c3] at hA
            simp only [Bool.not_true,Bool.cond_false] at hA
            simp (maxSteps:=1000000) -dsimp only [go_sem,hg,↓q2,aR,aL,aE,c0,c1,c3,g1,q4,c2,hy,Option.some.injEq,forall_eq']
            refine ⟨by omega,by omega,by omega,?_⟩
            refine aK (α:=Nat) (fun j=>[(2,.va (.c1 (.pt 0 0))),(5,.va (.c1 (.pt 1 0))),(9,iS .i64 k),(10,.va (.c1 (.pt 2 0))),(11,iS .i64 j)])
              (fun _=>[.cells (aE s) 25,.cells (aL t) 95,.cells (aR f) 97])
              (fun j=>j<=k/\((t.fs.take k).drop j).any (fun g=>decide (g.nm=f.nm))=(t.fs.take k).any (fun g=>decide (g.nm=f.nm))) (fun j=>k - j) 0 3 ⟨Nat.zero_le _,rfl⟩ ?_ ?_ ?_
            · simp [go_sem]
            · simp [go_sem,aE,aL,aR]
            have htk:(t.fs.take k).length=k:=by rw [List.length_take]; omega
            rintro j ⟨hj,ho2⟩
            rcases Nat.lt_or_ge j k with hjt | hjg
            · have hgj:decide ((j:Int) < (k:Int))=true:=by simp; omega
              obtain ⟨d,hd⟩:∃ e,t.fs[j]? = some e:=⟨_,List.getElem?_eq_getElem (by omega)⟩
              have hd':(t.fs.take k)[j]? = some d:=by rw [List.getElem?_take,if_pos hjt]; exact hd
              have q5:=aO (row:=aR) hd
              rw [gJ hd'] at ho2
              simp (maxSteps:=1000000) -dsimp only [go_sem,hgj,↓q5,aR,aL,aE,cM]
              refine ⟨by omega,fun hc=>?_,fun hc=>?_⟩
              · rw [hc,Bool.true_or] at ho2
                rw [<-ho2] at hA
                exact fin' 7 _ hA (by decide)
              · rw [hc,Bool.false_or] at ho2
                refine ⟨by omega,aC (j + 1) 3 ⟨by omega,ho2⟩ (by omega) ?_ ?_⟩
                · simp [go_sem]
                · simp [go_sem,aE,aL,aR]
            · obtain rfl:j=k:=by omega
              have hgj:decide ((j:Int) < (j:Int))=false:=by simp
              rw [List.drop_eq_nil_of_le (by omega)] at ho2
              rw [<-ho2] at hA
              simp only [List.any_nil,Bool.cond_false] at hA
              simp (maxSteps:=1000000) -dsimp only [go_sem,hgj,aR,aL,aE,sX,hit,hsf,hsd]
              cases c5:valF s.ss s.es f.ty with
              | true=>
                rw [c5] at hA
                simp (maxSteps:=1000000) -dsimp only [go_sem]
                refine ⟨by omega,aC (j + 1) 2 ⟨by omega,b8 hA⟩ (by omega) ?_ ?_⟩
                · simp [go_sem]
                · simp [go_sem,aE,aL]
              | false=>
                rw [c5] at hA
                simp (maxSteps:=1000000) -dsimp only [go_sem]
                exact fin' 13 _ hA (by decide)
    · have hg:decide ((k:Int) < (t.fs.length:Int))=false:=by simp; omega
      obtain rfl:k=t.fs.length:=by omega
      rw [yU] at ho
      simp (maxSteps:=1000000) -dsimp only [go_sem,hg,aL]
      exact fin 0 _ (by rw [hF,<-ho])
end Go.Proofs.YtkpohmhenegkiaaGreatDoor
namespace Go.Proofs.YtkpohmhenegkiaaGreatDoor
open Go.W
mutual
def dirF:Ty->List ByteArray
  | .mk k _ n e=>bif k == 6 || k == 7 then [n] else eJ e
def eJ:List Ty->List ByteArray
  | []=>[]
  | t :: r=>dirF t ++ eJ r
end
theorem sC:∀ (a b:List Ty),eJ (a ++ b)=eJ a ++ eJ b
  | [],b=>rfl
  | t :: r,b=>by rw [List.cons_append,eJ,eJ,sC r b,List.append_assoc]
theorem DJ:∀ {l:List Ty} {t:Ty},t ∈ l->(dirF t).length<=(eJ l).length
  | x :: l,t,h=>by
    rw [eJ,List.length_append]
    rcases List.mem_cons.1 h with rfl | h
    · omega
    · have:=DJ h; omega
def aDE (N:Nat):W.Spec:=fun av H K=>∃ t:Ty,av=[.va (.gs (aM t))]/\H=[]/\TyOk t/\t.h<=N/\(dirF t).length<=1000000000/\K (.va (.c1 (.fz ((dirF t).map bB)))) []
theorem aD5 {N:Nat} {t:Ty} {K:S->Hp->Prop} (h1:TyOk t) (h2:t.h<=N) (h3:(dirF t).length<=1000000000) (hK:K (.va (.c1 (.fz ((dirF t).map bB)))) []):aDE N [.va (.gs (aM t))] [] K:=⟨t,rfl,rfl,h1,h2,h3,hK⟩
theorem aCR (l:List ByteArray):∀ r ∈ l.map bB,∀ c ∈ r,c.shut=true/\c.one:=fun r hr c hc=>by
  obtain ⟨x,_,rfl⟩:=List.mem_map.1 hr
  simp at hc; subst hc; simp [go_sem,C.shut]
theorem J0:∀ N,Meets Tryz.prog 87 (aDE N)
  | 0=>⟨by kernel_rfl,by rintro xs vs E ro w K _ _ _ ⟨t,_,_,_,h,_⟩; have:=t.h_pos; omega⟩
  | N + 1=>by
    refine aF Tryz.func87 aN5 1 (by rw [Tryz.ntmps87]; decide) (aB (J0 N) (aA _)) (fun av H K h=>by obtain ⟨_,rfl,_⟩:=h; rfl) ?_
    rintro av H K ⟨⟨k,s,n,e⟩,rfl,rfl,h1,h2,h3,hK⟩
    have hle:=h1.len
    have hoe:=h1.e
    simp only [Ty.e] at hle hoe
    have hD:=dirF.eq_1 k s n e
    simp (maxSteps:=1000000) -dsimp only [go_sem,aM,aS,aAL,aBL]
    refine ⟨fun c1=>?_,fun c1=>?_⟩
    · rw [c1,Bool.cond_true] at hD
      rw [hD] at hK
      refine .pub 1 _ _ _ rfl (.sel [] (by simp) (by simp [cF]) rfl (.done ?_))
      simp -dsimp only [go_sem,cF]
      simpa using hK
    · rw [c1,Bool.cond_false] at hD
      rw [hD] at hK h3
      refine dT (α:=Nat) (fun i=>[(1,.va (.c1 (.pt 0 0))),(3,.va (.c1 (.sl 1 (eJ (e.take i)).length))),(4,iS .i64 i)]) (fun i=>[.cells (aM (.mk k s n e)) 28,.row ((eJ (e.take i)).map bB) 9 1])
        (fun i=>i<=e.length) (fun i=>e.length - i) (.nil 3 9 1 rfl (l9 0 2 (Nat.zero_le _) ?_ ?_)) ?_
      · simp -dsimp only [go_sem]<;>simp [eJ]
      · simp -dsimp only [go_sem,aM,aS]<;>simp [eJ]
      intro i hi
      rcases Nat.lt_or_ge i e.length with hlt | hge
      · have hg:decide ((i:Int) < (e.length:Int))=true:=by simp; omega
        obtain ⟨u,hx⟩:∃ t,e[i]? = some t:=⟨_,List.getElem?_eq_getElem hlt⟩
        have q1:=aO (row:=aM) hx
        have hu:=List.mem_of_getElem? hx
        have htn:eJ (e.take (i + 1))=eJ (e.take i) ++ dirF u:=by rw [fH hx,sC]; simp [eJ]
        have hb:(eJ (e.take (i + 1))).length<=1000000000:=by
          have:=sC (e.take (i + 1)) (e.drop (i + 1))
          rw [List.take_append_drop] at this
          rw [this,List.length_append] at h3; omega
        rw [htn,List.length_append] at hb
        simp (maxSteps:=1000000) -dsimp only [go_sem,hg,↓q1,gN,aM,aS]
        refine ⟨by omega,aD5 (hoe u hu) ?_ ?_ ?_⟩
        · have:=Ty.hs_mem hu; rw [Ty.h] at h2; omega
        · have:=DJ hu; omega
        simp (maxSteps:=1000000) -dsimp only [go_sem,SL Z0]
        refine ⟨aCR _,by omega,by omega,aC (i + 1) 2 (by omega) (by omega) ?_ ?_⟩
        · simp -dsimp only [go_sem,htn]<;>simp
        · simp -dsimp only [go_sem,aM,aS,htn]<;>simp
      · have hg:decide ((i:Int) < (e.length:Int))=false:=by simp; omega
        obtain rfl:i=e.length:=by omega
        rw [List.take_length]
        simp (maxSteps:=1000000) -dsimp only [go_sem,hg,aM,aS]
        rw [<-List.length_map (f:=bB)]
        refine .pub 1 _ _ _ rfl (.sel [] (by simp) (by simp [cF]) rfl (.done ?_))
        simp -dsimp only [go_sem,cF]
        simpa using hK
def VC:W.Spec:=fun av H K=>∃ t:Ty,av=[.va (.gs (aM t))]/\H=[]/\TyOk t/\(dirF t).length<=1000000000/\K (.va (.c1 (.fz ((dirF t).map bB)))) []
theorem Y3 {t:Ty} {K:S->Hp->Prop} (h1:TyOk t) (h3:(dirF t).length<=1000000000) (hK:K (.va (.c1 (.fz ((dirF t).map bB)))) []):VC [.va (.gs (aM t))] [] K:=⟨t,rfl,rfl,h1,h3,hK⟩
theorem SX:Meets Tryz.prog 87 VC:=eM 0 J0 fun _av _H _K ⟨t,e1,e2,h1,h3,hK⟩=>⟨t.h,t,e1,e2,h1,Nat.le_refl _,h3,hK⟩
def eF (x:ByteArray):Bool->List ByteArray->List ByteArray
  | d,[]=>bif d then [] else [x]
  | d,y :: r=>bif !d && (Op.bytesLess (bl x) (bl y) || bl x == bl y) then (bif Op.bytesLess (bl x) (bl y) then x :: y :: eF x true r else y :: eF x true r) else y :: eF x d r
theorem G2 (x:ByteArray):∀ (d:Bool) (l:List ByteArray),(eF x d l).length<=l.length + 1
  | d,[]=>by cases d<;>simp [eF]
  | d,y :: r=>by
    have h1:=iY x r
    have h2:=G2 x d r
    rw [eF]
    cases d<;>cases Op.bytesLess (bl x) (bl y)<;>cases bl x == bl y<;>simp [h1] at h2 ⊢<;>omega
where iY (x:ByteArray):∀ l,eF x true l=l
  | []=>rfl
  | y :: r=>by rw [eF,iY x r]; rfl
def aAU:W.Spec:=fun av H K=>∃ (l:List ByteArray) (x:ByteArray),av=[.va (.c1 (.fz (l.map bB))),tS x]/\H=[]/\l.length<=1000000/\K (.va (.c1 (.fz ((eF x false l).map bB)))) []
theorem aDX {l:List ByteArray} {x:ByteArray} {K:S->Hp->Prop} (h:l.length<=1000000) (hK:K (.va (.c1 (.fz ((eF x false l).map bB)))) []):aAU [.va (.c1 (.fz (l.map bB))),tS x] [] K:=⟨l,x,rfl,rfl,h,hK⟩
theorem aKN:Meets Tryz.prog 88 aAU:=by
  refine aF Tryz.func88 aLH 2 (by rw [Tryz.ntmps88]; decide) (aA _) (fun av H K h=>by obtain ⟨_,_,rfl,_⟩:=h; rfl) ?_
  rintro av H K ⟨l,x,rfl,rfl,hl,hK⟩
  have hlen:=G2 x false l
  simp (maxSteps:=1000000) -dsimp only [go_sem,aBZ,aD7]
  refine dT (α:=Nat × Bool × List ByteArray) (fun z=>[(0,.va (.c1 (.fz (l.map bB)))),(1,tS x),(5,.va (.c1 (.sl 0 z.2.2.length))),(6,bS z.2.1),(7,iS .i64 z.1)]) (fun z=>[.row (z.2.2.map bB) 9 1])
    (fun z=>z.1<=l.length/\z.2.2 ++ eF x z.2.1 (l.drop z.1)=eF x false l) (fun z=>l.length - z.1) (.nil 5 9 1 rfl (l9 (0,false,[]) 1 ⟨Nat.zero_le _,rfl⟩ ?_ ?_)) ?_
  · simp -dsimp only [go_sem]<;>simp
  · simp -dsimp only [go_sem]<;>simp
  rintro ⟨i,d,o⟩ ⟨hi,ho⟩
  simp only at hi ho ⊢
  have hol:o.length<=l.length + 1:=by
    have:=congrArg List.length ho
    rw [List.length_append] at this; omega
  rcases Nat.lt_or_ge i l.length with hlt | hge
  · have hg:decide ((i:Int) < (l.length:Int))=true:=by simp; omega
    obtain ⟨y,hx⟩:∃ t,l[i]? = some t:=⟨_,List.getElem?_eq_getElem hlt⟩
    have q1:=aO (row:=bB) hx
    have hdr:l.drop i=y :: l.drop (i + 1):=by
      obtain ⟨h,rfl⟩:=List.getElem?_eq_some_iff.1 hx
      exact List.drop_eq_getElem_cons h
    rw [hdr,eF] at ho
    have hst:∀ (u:ByteArray),[[C.vl (.string u)]]=[u].map bB:=fun _=>rfl
    cases d with
    | true=>
      simp only [Bool.not_true,Bool.false_and,Bool.cond_false] at ho
      simp (maxSteps:=1000000) -dsimp only [go_sem,hg,↓q1]
      and_intros
      all_goals first
        | omega
        | skip
      refine aC (i + 1,true,o ++ [y]) 1 ⟨by simp only; omega,by simp only [List.append_assoc,List.singleton_append]; exact ho⟩ (by simp only; omega) ?_ ?_
      · simp -dsimp only [go_sem]<;>simp
      · simp -dsimp only [go_sem]<;>simp
    | false=>
      simp only [Bool.not_false,Bool.true_and] at ho
      cases c2:Op.bytesLess (bl x) (bl y) with
      | true=>
        rw [c2] at ho
        simp only [Bool.true_or,Bool.cond_true] at ho
        simp (maxSteps:=1000000) -dsimp only [go_sem,hg,↓q1,c2,Bool.true_or]
        and_intros
        all_goals first
          | omega
          | skip
        refine aC (i + 1,true,o ++ [x,y]) 1 ⟨by simp only; omega,by simp only [List.append_assoc,List.cons_append,List.nil_append]; exact ho⟩ (by simp only; omega) ?_ ?_
        · simp -dsimp only [go_sem]<;>simp
        · simp -dsimp only [go_sem]<;>simp
      | false=>
        rw [c2] at ho
        simp only [Bool.false_or,Bool.cond_false] at ho
        cases c3:bl x == bl y with
        | true=>
          rw [c3] at ho
          simp only [Bool.cond_true] at ho
          simp (maxSteps:=1000000) -dsimp only [go_sem,hg,↓q1,c2,c3,Bool.false_or]
          and_intros
          all_goals first
            | omega
            | skip
          refine aC (i + 1,true,o ++ [y]) 1 ⟨by simp only; omega,by simp only [List.append_assoc,List.singleton_append]; exact ho⟩ (by simp only; omega) ?_ ?_
          · simp -dsimp only [go_sem]<;>simp
          · simp -dsimp only [go_sem]<;>simp
        | false=>
          rw [c3] at ho
          simp only [Bool.cond_false] at ho
          simp (maxSteps:=1000000) -dsimp only [go_sem,hg,↓q1,c2,c3,Bool.false_or]
          and_intros
          all_goals first
            | omega
            | skip
          refine aC (i + 1,false,o ++ [y]) 1 ⟨by simp only; omega,by simp only [List.append_assoc,List.singleton_append]; exact ho⟩ (by simp only; omega) ?_ ?_
          · simp -dsimp only [go_sem]<;>simp
          · simp -dsimp only [go_sem]<;>simp
  · have hg:decide ((i:Int) < (l.length:Int))=false:=by simp; omega
    obtain rfl:i=l.length:=by omega
    rw [List.drop_length] at ho
    simp only [eF] at ho
    cases d with
    | true=>
      simp only [Bool.cond_true,List.append_nil] at ho
      rw [<-ho] at hK
      simp (maxSteps:=1000000) -dsimp only [go_sem,hg]
      rw [<-List.length_map (f:=bB)]
      refine .pub 0 _ _ _ rfl (.sel [] (by simp) (by simp [cF]) rfl (.done ?_))
      simp -dsimp only [go_sem,cF]
      simpa using hK
    | false=>
      simp only [Bool.cond_false] at ho
      rw [<-ho] at hK
      simp (maxSteps:=1000000) -dsimp only [go_sem,hg]
      refine ⟨by omega,?_⟩
      have e1:o.length + 1=((o ++ [x]).map bB).length:=by simp
      have e2:o.map bB ++ [[C.vl (.string x)]]=(o ++ [x]).map bB:=by simp
      rw [e1,e2]
      refine .pub 0 _ _ _ rfl (.sel [] (by simp) (by simp [cF]) rfl (.done ?_))
      simp -dsimp only [go_sem,cF]
      simpa using hK
end Go.Proofs.YtkpohmhenegkiaaGreatDoor
namespace Go.Proofs.YtkpohmhenegkiaaGreatDoor
open Go.W
abbrev B7 (a b:ByteArray):Prop:=bl a < bl b
theorem aB6 (x:List UInt8):∀ y:List UInt8,Op.bytesLess x y=decide (x < y):=by
  induction x with
  | nil=>intro y; cases y<;>simp [Op.bytesLess]
  | cons a x ih=>
    intro y
    cases y with
    | nil=>simp [Op.bytesLess]
    | cons b y=>
      have:=ih y
      rw [Op.bytesLess,this,Bool.eq_iff_iff]
      simp [List.cons_lt_cons_iff]
theorem WS (a b:ByteArray):Op.bytesLess (bl a) (bl b)=decide (B7 a b):=aB6 _ _
theorem l5 (a:ByteArray):¬ B7 a a:=List.lt_irrefl _
theorem CD {a b c:ByteArray} (h:B7 a b) (h2:B7 b c):B7 a c:=List.lt_trans h h2
theorem OC {a b:ByteArray} (h:¬ B7 a b) (h2:a ≠ b):B7 b a:=by
  have h3:bl b<=bl a:=List.not_lt.1 h
  exact Std.lt_of_le_of_ne h3 (fun e=>h2 (zC e.symm))
def Asc (l:List ByteArray):Prop:=l.Pairwise B7
theorem JL:∀ {a b:List ByteArray},Asc a->Asc b->(∀ x,x ∈ a ↔ x ∈ b)->a=b
  | [],[],_,_,_=>rfl
  | [],y :: b,_,_,h=>by have:=(h y).2 List.mem_cons_self; cases this
  | x :: a,[],_,_,h=>by have:=(h x).1 List.mem_cons_self; cases this
  | x :: a,y :: b,h1,h2,h=>by
    obtain ⟨p1,p2⟩:=List.pairwise_cons.1 h1
    obtain ⟨p3,p4⟩:=List.pairwise_cons.1 h2
    have e:x=y:=by
      rcases List.mem_cons.1 ((h x).1 List.mem_cons_self) with e | e
      · exact e
      · rcases List.mem_cons.1 ((h y).2 List.mem_cons_self) with e2 | e2
        · exact e2.symm
        · exact absurd (CD (p1 y e2) (p3 x e)) (l5 x)
    subst e
    rw [JL p2 p4 fun z=>?_]
    constructor
    · intro hz
      rcases List.mem_cons.1 ((h z).1 (List.mem_cons_of_mem _ hz)) with e | e
      · exact absurd (p1 z hz) (by rw [e]; exact l5 x)
      · exact e
    · intro hz
      rcases List.mem_cons.1 ((h z).2 (List.mem_cons_of_mem _ hz)) with e | e
      · exact absurd (p3 z hz) (by rw [e]; exact l5 x)
      · exact e
theorem Asc.nodup {l:List ByteArray} (h:Asc l):l.Nodup:=by
  unfold List.Nodup
  refine List.Pairwise.imp ?_ h
  intro a b h e
  subst e
  exact l5 a h
theorem iY (x:ByteArray):∀ l,eF x true l=l
  | []=>rfl
  | y :: r=>by rw [eF,iY x r]; rfl
theorem iX {x z:ByteArray}:∀ {l:List ByteArray},z ∈ eF x false l ↔ z=x\/z ∈ l
  | []=>by simp [eF]
  | y :: r=>by
    rw [eF,iY]
    cases c1:Op.bytesLess (bl x) (bl y) with
    | true=>simp
    | false=>
      cases c2:bl x == bl y with
      | true=>
        have:x=y:=zC (by simpa using c2)
        subst this
        simp
      | false=>
        have:=iX (x:=x) (z:=z) (l:=r)
        simp [this]
        constructor
        · rintro (h | h | h)
          · exact .inr (.inl h)
          · exact .inl h
          · exact .inr (.inr h)
        · rintro (h | h | h)
          · exact .inr (.inl h)
          · exact .inl h
          · exact .inr (.inr h)
theorem GT {x:ByteArray}:∀ {l:List ByteArray},Asc l->Asc (eF x false l)
  | [],_=>by simp [eF,Asc]
  | y :: r,h=>by
    obtain ⟨p1,p2⟩:=List.pairwise_cons.1 h
    rw [eF,iY]
    cases c1:Op.bytesLess (bl x) (bl y) with
    | true=>
      rw [WS] at c1
      have c1:=of_decide_eq_true c1
      simp only [Bool.not_false,Bool.true_or,Bool.and_true,Bool.cond_true]
      refine List.pairwise_cons.2 ⟨fun z hz=>?_,h⟩
      rcases List.mem_cons.1 hz with rfl | hz
      · exact c1
      · exact CD c1 (p1 z hz)
    | false=>
      cases c2:bl x == bl y with
      | true=>exact h
      | false=>
        rw [WS] at c1
        have c1:=of_decide_eq_false c1
        have c2:x ≠ y:=fun e=>by subst e; simp at c2
        simp only [Bool.not_false,Bool.true_and,Bool.or_self,Bool.cond_false]
        refine List.pairwise_cons.2 ⟨fun z hz=>?_,GT p2⟩
        rcases iX.1 hz with rfl | hz
        · exact OC c1 c2
        · exact p1 z hz
theorem SC {l:List ByteArray} (h:l.Nodup):Asc (vG l):=by
  have h1:((l.map bl).mergeSort fun x y=>decide (x<=y)).Pairwise fun a b=>decide (a<=b)=true:=
    List.pairwise_mergeSort (le:=fun (x y:List UInt8)=>decide (x<=y)) (fun (a b c:List UInt8) h1 h2=>decide_eq_true (List.le_trans (of_decide_eq_true h1) (of_decide_eq_true h2))) (fun (a b:List UInt8)=>by
      rcases List.le_total a b with h | h<;>simp [h]) _
  have h2:((l.map bl).mergeSort fun x y=>decide (x<=y)).Nodup:=by
    rw [(List.mergeSort_perm _ _).nodup_iff]
    exact List.Pairwise.map bl (fun a b (hab:a ≠ b) e=>hab (zC e)) h
  unfold vG Asc
  rw [List.pairwise_map]
  refine List.Pairwise.imp₂ (fun a b h1 h2=>?_) h1 h2
  exact Std.lt_of_le_of_ne (of_decide_eq_true h1) h2
theorem PM (ss:List St) (n:ByteArray):Asc (fK ss n):=SC (sB ss n)
theorem PP {e:List Ty} (h:((e.length:Int) == 0)=true):e=[]:=by simpa using h
theorem KM (ss:List St) (es:List En):∀ (N:Nat) (t:Ty),t.h<=N->valF ss es t=true->dirF t=bif bF t then [bG t] else []
  | 0,t,h,_=>absurd h (by have:=t.h_pos; omega)
  | N + 1,.mk k s n e,h,hv=>by
    cases k5:k == 5 with
    | true=>
      obtain rfl:k=5:=by simpa using k5
      obtain ⟨u,rfl,hu⟩:=uX hv
      have:=KM ss es N u (by rw [Ty.h,Ty.hs,Ty.hs] at h; omega) hu
      unfold bF bG
      rw [DA]
      rw [dirF,eJ,eJ,List.append_nil,this]
      rfl
    | false=>
      have h1:eS (.mk k s n e)=.mk k s n e:=zQ (by rw [k5]; rfl)
      unfold bF bG
      rw [h1,dirF]
      simp only [Ty.k,Ty.n]
      cases k67:(k == 6 || k == 7) with
      | true=>rfl
      | false=>
        have he:e=[]:=by
          rw [Bool.or_eq_false_iff] at k67
          rw [valF,k5,k67.1,k67.2] at hv
          cases k1:k == 1<;>cases k2:k == 2<;>cases k3:k == 3<;>cases k4:k == 4<;>rw [k1,k2,k3,k4] at hv<;>simp only [Bool.cond_true,Bool.cond_false,Bool.and_eq_true,reduceCtorEq] at hv<;>first | exact PP hv.2 | exact absurd hv (by decide)
        subst he; rfl
theorem GF {ss:List St} {es:List En} {t:Ty} (hv:valF ss es t=true):dirF t=bif bF t then [bG t] else []:=KM ss es t.h t (Nat.le_refl _) hv
end Go.Proofs.YtkpohmhenegkiaaGreatDoor
namespace Go.Proofs.YtkpohmhenegkiaaGreatDoor
open Go.W
structure UI (ss:List St) (n:ByteArray) (i:Nat) (todo o:List ByteArray):Prop where
  hd:∃ r,todo=n :: r/\r.Nodup/\∀ x,x ∈ o ↔ x ∈ r
  rc:∀ x ∈ o,Reach ss n x
  dn:∀ j a,j < i->todo[j]? = some a->∀ y,cY ss a y->y ∈ o
  asc:Asc o
theorem UI.init (ss:List St) (n:ByteArray):UI ss n 0 [n] []:=⟨⟨[],rfl,.nil,fun _x=>Iff.rfl⟩,fun _x h=>(List.not_mem_nil h).elim,fun _j _a h=>absurd h (Nat.not_lt_zero _),List.Pairwise.nil⟩
theorem QC {ss:List St} {es:List En} (g:Gd ss es) {n:ByteArray} {l:List ByteArray} (h:l.Nodup) (hr:∀ x ∈ l,Reach ss n x):l.length<=32:=Nat.le_trans (rR h fun x hx=>(iB ss n x).2 (hr x hx)) (g.vlen n)
theorem UI.len {ss:List St} {es:List En} (g:Gd ss es) {n:ByteArray} {i:Nat} {todo o:List ByteArray} (h:UI ss n i todo o):todo.length<=33/\o.length<=32:=by
  obtain ⟨r,rfl,h1,h2⟩:=h.hd
  have:=QC g h1 fun x hx=>h.rc x ((h2 x).2 hx)
  have:=QC g h.asc.nodup h.rc
  simp only [List.length_cons]; omega
theorem UI.rch {ss:List St} {n:ByteArray} {i k:Nat} {todo o:List ByteArray} (h:UI ss n i todo o) {a y:ByteArray} (ha:todo[k]? = some a) (hy:cY ss a y):Reach ss n y:=by
  obtain ⟨r,rfl,h1,h2⟩:=h.hd
  cases k with
  | zero=>simp at ha; subst ha; exact .one hy
  | succ k=>
    simp at ha
    exact .more (h.rc a ((h2 a).2 (List.mem_of_getElem? ha))) hy
theorem UI.add {ss:List St} {n:ByteArray} {i:Nat} {todo o:List ByteArray} (h:UI ss n i todo o) {y:ByteArray} (hr:Reach ss n y) (hy:y ∉ o) (hi:i<=todo.length):UI ss n i (todo ++ [y]) (eF y false o):=by
  obtain ⟨r,rfl,h1,h2⟩:=h.hd
  refine ⟨⟨r ++ [y],by simp,?_,fun x=>?_⟩,fun x hx=>?_,fun j a hj ha z hz=>?_,GT h.asc⟩
  · rw [List.nodup_append]
    exact ⟨h1,by simp,fun a ha b hb=>by simp at hb; subst hb; exact fun e=>hy ((h2 b).2 (e ▸ ha))⟩
  · rw [iX,h2]; simp [or_comm]
  · rcases iX.1 hx with rfl | hx
    · exact hr
    · exact h.rc x hx
  · rw [List.getElem?_append_left (by omega)] at ha
    exact iX.2 (.inr (h.dn j a hj ha z hz))
theorem UI.next {ss:List St} {n:ByteArray} {i:Nat} {todo o:List ByteArray} (h:UI ss n i todo o) {a:ByteArray} (ha:todo[i]? = some a) (hy:∀ y,cY ss a y->y ∈ o):UI ss n (i + 1) todo o:=by
  refine ⟨h.hd,h.rc,fun j b hj hb y hyb=>?_,h.asc⟩
  rcases Nat.lt_or_ge j i with h4 | h4
  · exact h.dn j b h4 hb y hyb
  · obtain rfl:j=i:=by omega
    rw [ha] at hb; obtain rfl:=Option.some.inj hb
    exact hy y hyb
theorem UI.fin {ss:List St} {n:ByteArray} {todo o:List ByteArray} (h:UI ss n todo.length todo o):o=fK ss n:=by
  refine JL h.asc (PM ss n) fun x=>?_
  rw [DN]
  refine ⟨h.rc x,fun hx=>?_⟩
  obtain ⟨r,e,h1,h2⟩:=h.hd
  have hn:∀ y,cY ss n y->y ∈ o:=h.dn 0 n (by rw [e]; simp) (by rw [e]; rfl)
  induction hx with
  | one h=>exact hn _ h
  | more _ h3 ih=>
    obtain ⟨j,hj⟩:=List.mem_iff_getElem?.1 ((h2 _).1 ih)
    rename_i b c _
    have hj2:todo[j + 1]? = some b:=by rw [e]; simpa using hj
    exact h.dn (j + 1) _ (List.getElem?_eq_some_iff.1 hj2).1 hj2 _ h3
def aA1:W.Spec:=fun av H K=>∃ (s:Sc) (n:ByteArray),av=[.va (.gs (aE s)),tS n]/\H=[]/\s.fit/\Gd s.ss s.es/\K (.va (.c1 (.fz ((fK s.ss n).map bB)))) []
theorem aAR {s:Sc} {n:ByteArray} {K:S->Hp->Prop} (h:s.fit) (g:Gd s.ss s.es) (hK:K (.va (.c1 (.fz ((fK s.ss n).map bB)))) []):aA1 [.va (.gs (aE s)),tS n] [] K:=⟨s,n,rfl,rfl,h,g,hK⟩
theorem Y4 {ss:List St} {es:List En} {t:Ty} (hv:valF ss es t=true):(dirF t).length<=1:=by
  rw [GF hv]; cases bF t<;>simp
theorem KZ {ss:List St} {es:List En} {t:Ty} (hv:valF ss es t=true) {y:ByteArray}:y ∈ dirF t ↔ bF t=true/\bG t=y:=by
  rw [GF hv]; cases bF t<;>simp [eq_comm]
theorem aIP:Meets Tryz.prog 49 aA1:=by
  refine aF Tryz.func49 aL4 2 (by rw [Tryz.ntmps49]; decide) (aB vX (aB SX (aG S2 (aB aKN (aA _))))) (fun av H K h=>by obtain ⟨_,_,rfl,_⟩:=h; rfl) ?_
  rintro av H K ⟨s,n,rfl,rfl,hs,g,hK⟩
  simp (maxSteps:=1000000) -dsimp only [go_sem,aE,Z7,aAX]
  refine dT (α:=Nat × List ByteArray × List ByteArray) (fun z=>[(2,.va (.c1 (.pt 0 0))),(5,.va (.c1 (.fz (z.2.2.map bB)))),(6,.va (.c1 (.sl 1 z.2.1.length))),(7,iS .i64 z.1)]) (fun z=>[.cells (aE s) 25,.row (z.2.1.map bB) 9 1])
    (fun z=>z.1<=z.2.1.length/\UI s.ss n z.1 z.2.1 z.2.2) (fun z=>34 - z.1) (.nf 5 (l9 (0,[n],[]) 2 ⟨Nat.zero_le _,UI.init _ _⟩ ?_ ?_)) ?_
  · simp -dsimp only [go_sem]<;>simp
  · simp -dsimp only [go_sem,aE]<;>simp
  rintro ⟨i,todo,o⟩ ⟨hi,hu⟩
  simp only at hi hu ⊢
  obtain ⟨htl,hol⟩:=hu.len g
  rcases Nat.lt_or_ge i todo.length with hlt | hge
  · have hg:decide ((i:Int) < (todo.length:Int))=true:=by simp; omega
    obtain ⟨a,ha⟩:∃ a,todo[i]? = some a:=⟨_,List.getElem?_eq_getElem hlt⟩
    have q1:=aO (row:=bB) ha
    simp (maxSteps:=1000000) -dsimp only [go_sem,hg,aE,ha,Option.some.injEq,forall_eq']
    refine ⟨by omega,hlt,gP hs ?_⟩
    generalize hx:(fS s.ss a).getD default=x
    have hxf:∀ f ∈ x.fs,f.ok/\valF s.ss s.es f.ty=true:=fun f hf=>by
      cases hc:fS s.ss a with
      | none=>rw [hc] at hx; subst hx; cases hf
      | some t=>
        rw [hc] at hx
        subst hx
        exact ⟨(hs.ok.ss _ (gZ hc).1).fs f hf,g.val _ (gZ hc).1 f hf⟩
    have hxl:x.fs.length<=9223372036854775807:=by
      cases hc:fS s.ss a with
      | none=>rw [hc] at hx; subst hx; exact Nat.zero_le _
      | some t=>rw [hc] at hx; subst hx; exact (hs.ok.ss _ (gZ hc).1).len
    have hxr:∀ y,cY s.ss a y ↔ AW x y:=fun y=>by unfold cY; rw [hx]
    simp (maxSteps:=1000000) -dsimp only [go_sem,aL]
    refine aK (α:=Nat × List ByteArray × List ByteArray) (fun z=>[(2,.va (.c1 (.pt 0 0))),(5,.va (.c1 (.fz (z.2.2.map bB)))),(6,.va (.c1 (.sl 1 z.2.1.length))),(7,iS .i64 i),(8,.va (.c1 (.pt 2 0))),(10,iS .i64 z.1)]) (fun z=>[.cells (aE s) 25,.row (z.2.1.map bB) 9 1,.cells (aL x) 95])
      (fun z=>z.1<=x.fs.length/\z.2.1[i]? = some a/\UI s.ss n i z.2.1 z.2.2/\∀ f ∈ x.fs.take z.1,bF f.ty=true->bG f.ty ∈ z.2.2) (fun z=>x.fs.length - z.1) (0,todo,o) 3 ⟨Nat.zero_le _,ha,hu,fun f hf=>by cases hf⟩ ?_ ?_ ?_
    · simp -dsimp only [go_sem]<;>simp
    · simp -dsimp only [go_sem,aE,aL]<;>simp
    clear hu ha hlt hi htl hol hg q1
    rintro ⟨k,td,o⟩ ⟨hk,ha,hu,hr⟩
    simp only at hk ha hu hr ⊢
    obtain ⟨htl,hol⟩:=hu.len g
    have hil:=(List.getElem?_eq_some_iff.1 ha).1
    rcases Nat.lt_or_ge k x.fs.length with hlt | hge
    · have hg:decide ((k:Int) < (x.fs.length:Int))=true:=by simp; omega
      obtain ⟨f,hf⟩:∃ a,x.fs[k]? = some a:=⟨_,List.getElem?_eq_getElem hlt⟩
      have q1:=aO (row:=aR) hf
      obtain ⟨hfo,hfv⟩:=hxf f (List.mem_of_getElem? hf)
      simp (maxSteps:=1000000) -dsimp only [go_sem,hg,↓q1,aE,aL,aR,sX]
      have hdl:=Y4 hfv
      refine ⟨by omega,Y3 hfo.ty (by omega) ?_⟩
      simp (maxSteps:=1000000) -dsimp only [go_sem]
      have hdm:∀ y ∈ dirF f.ty,Reach s.ss n y:=fun y hy=>by
        obtain ⟨h1,h2⟩:=(KZ hfv).1 hy
        exact hu.rch ha ((hxr y).2 ⟨f,List.mem_of_getElem? hf,h1,h2⟩)
      have hdf:(∀ o':List ByteArray,(∀ y ∈ dirF f.ty,y ∈ o')->(∀ f ∈ x.fs.take k,bF f.ty=true->bG f.ty ∈ o')->∀ f ∈ x.fs.take (k + 1),bF f.ty=true->bG f.ty ∈ o'):=fun o' h1 h2 f' hf' hn=>by
        rw [fH hf] at hf'
        rcases List.mem_append.1 hf' with h | h
        · exact h2 f' h hn
        · obtain rfl:f'=f:=by simpa using h
          exact h1 _ ((KZ hfv).2 ⟨hn,rfl⟩)
      generalize dirF f.ty=l at *
      refine aK (α:=Nat × List ByteArray × List ByteArray) (fun z=>[(2,.va (.c1 (.pt 0 0))),(5,.va (.c1 (.fz (z.2.2.map bB)))),(6,.va (.c1 (.sl 1 z.2.1.length))),(7,iS .i64 i),(8,.va (.c1 (.pt 2 0))),(10,iS .i64 k),(11,.va (.c1 (.fz (l.map bB)))),(12,iS .i64 z.1)]) (fun z=>[.cells (aE s) 25,.row (z.2.1.map bB) 9 1,.cells (aL x) 95])
        (fun z=>z.1<=l.length/\z.2.1[i]? = some a/\UI s.ss n i z.2.1 z.2.2/\(∀ f ∈ x.fs.take k,bF f.ty=true->bG f.ty ∈ z.2.2)/\∀ y ∈ l.take z.1,y ∈ z.2.2) (fun z=>l.length - z.1) (0,td,o) 3 ⟨Nat.zero_le _,ha,hu,hr,fun f hf=>by cases hf⟩ ?_ ?_ ?_
      · simp -dsimp only [go_sem]<;>simp
      · simp -dsimp only [go_sem,aE,aL]<;>simp
      clear hu ha hil htl hol hg q1 hr
      rintro ⟨j,td,o⟩ ⟨hj,ha,hu,hr,hjm⟩
      simp only at hj ha hu hr hjm ⊢
      obtain ⟨htl,hol⟩:=hu.len g
      have hil:=(List.getElem?_eq_some_iff.1 ha).1
      rcases Nat.lt_or_ge j l.length with hjt | hjg
      · have hg:decide ((j:Int) < (l.length:Int))=true:=by simp; omega
        obtain ⟨y,hy⟩:∃ a,l[j]? = some a:=⟨_,List.getElem?_eq_getElem hjt⟩
        have q1:=aO (row:=bB) hy
        have hbs:A4 (o.map bB):=sS (by omega)
        have e0:(0<=(o.length:Int))=True:=by simp
        have e1:((o.length:Int)<=9223372036854775807)=True:=by simp; omega
        have hto:o.take o.length=o:=List.take_length
        have hjm':∀ o':List ByteArray,(∀ z ∈ o,z ∈ o')->y ∈ o'->∀ z ∈ l.take (j + 1),z ∈ o':=fun o' h1 h2 z hz=>by
          rw [fH hy] at hz
          rcases List.mem_append.1 hz with h | h
          · exact h1 z (hjm z h)
          · obtain rfl:z=y:=by simpa using h
            exact h2
        cases hc:cS o y with
        | true=>
          simp (maxSteps:=1000000) -dsimp only [go_sem,hg,↓q1,aE,aL,hbs,e0,e1,Int.toNat_natCast,hto,hc]
          refine ⟨by omega,by omega,aC (j + 1,td,o) 3 ⟨by simp only; omega,ha,hu,hr,hjm' o (fun z h=>h) ((pG _ _).1 hc)⟩ (by simp only; omega) ?_ ?_⟩
          · simp -dsimp only [go_sem]<;>simp
          · simp -dsimp only [go_sem,aE,aL]<;>simp
        | false=>
          have hyo:=tM.1 hc
          have hua:=hu.add (hdm y (List.mem_of_getElem? hy)) hyo (by omega)
          have hmo:∀ z ∈ o,z ∈ eF y false o:=fun z hz=>iX.2 (.inr hz)
          have ha':(td ++ [y])[i]? = some a:=by rw [List.getElem?_append_left hil]; exact ha
          simp (maxSteps:=1000000) -dsimp only [go_sem,hg,↓q1,aE,aL,hbs,e0,e1,Int.toNat_natCast,hto,hc]
          refine ⟨by omega,by omega,aDX (by omega) ?_⟩
          simp (maxSteps:=1000000) -dsimp only [go_sem]
          and_intros
          all_goals first
            | omega
            | skip
          refine aC (j + 1,td ++ [y],eF y false o) 3 ⟨by simp only; omega,ha',hua,fun f hf hn=>hmo _ (hr f hf hn),hjm' _ hmo (iX.2 (.inl rfl))⟩ (by simp only; omega) ?_ ?_
          · simp -dsimp only [go_sem]<;>simp
          · simp -dsimp only [go_sem,aE,aL]<;>simp
      · have hg:decide ((j:Int) < (l.length:Int))=false:=by simp; omega
        obtain rfl:j=l.length:=by omega
        rw [List.take_length] at hjm
        simp (maxSteps:=1000000) -dsimp only [go_sem,hg,aE,aL]
        refine ⟨by omega,aC (k + 1,td,o) 3 ⟨by simp only; omega,ha,hu,hdf o hjm hr⟩ (by simp only; omega) ?_ ?_⟩
        · simp -dsimp only [go_sem]<;>simp
        · simp -dsimp only [go_sem,aE,aL]<;>simp
    · have hg:decide ((k:Int) < (x.fs.length:Int))=false:=by simp; omega
      obtain rfl:k=x.fs.length:=by omega
      rw [List.take_length] at hr
      simp (maxSteps:=1000000) -dsimp only [go_sem,hg,aE,aL]
      refine ⟨by omega,aC (i + 1,td,o) 2 ⟨by simp only; omega,hu.next ha fun y hy=>?_⟩ (by simp only; omega) ?_ ?_⟩
      · obtain ⟨f,h1,h2,rfl⟩:=(hxr y).1 hy
        exact hr f h1 h2
      · simp -dsimp only [go_sem]<;>simp
      · simp -dsimp only [go_sem,aE]<;>simp
  · have hg:decide ((i:Int) < (todo.length:Int))=false:=by simp; omega
    obtain rfl:i=todo.length:=by omega
    obtain rfl:=hu.fin
    simp (maxSteps:=1000000) -dsimp only [go_sem,hg,aE]
    exact .sel [] (by simp) (by simp) rfl (.done (by simpa [go_sem] using hK))
end Go.Proofs.YtkpohmhenegkiaaGreatDoor
namespace Go.Proofs.YtkpohmhenegkiaaGreatDoor
open Go.W
def dM:List St->List Int->ByteArray->Int
  | s :: ss,d :: ds,n=>bif decide (s.nm=n) then d else dM ss ds n
  | _,_,_=>0
theorem RY {ss:List St} {ds:List Int} {i:Nat} {x:St} {d:Int} (hx:ss[i]? = some x) (hd:ds[i]? = some d) (n:ByteArray):dM (ss.drop i) (ds.drop i) n=bif decide (x.nm=n) then d else dM (ss.drop (i + 1)) (ds.drop (i + 1)) n:=by
  obtain ⟨h,rfl⟩:=List.getElem?_eq_some_iff.1 hx
  obtain ⟨h2,rfl⟩:=List.getElem?_eq_some_iff.1 hd
  rw [List.drop_eq_getElem_cons h,List.drop_eq_getElem_cons h2]; rfl
theorem YN {ss:List St} {ds:List Int} (n:ByteArray):dM (ss.drop ss.length) ds n=0:=by rw [List.drop_length]; simp [dM]
theorem wE {n:ByteArray}:∀ {ss:List St} {ds:List Int},fS ss n=none->dM ss ds n=0
  | [],_,_=>by simp [dM]
  | s :: ss,[],_=>by simp [dM]
  | s :: ss,d :: ds,h=>by
    unfold fS at h
    rw [List.find?_cons] at h
    rw [dM]
    cases hc:decide (s.nm=n) with
    | true=>rw [hc] at h; simp at h
    | false=>rw [hc] at h; exact wE (ss:=ss) h
theorem wM {n:ByteArray} {u:St}:∀ {ss:List St} {ds:List Int},ss.length=ds.length->fS ss n=some u->∃ j:Nat,ss[j]? = some u/\ds[j]? = some (dM ss ds n)
  | [],_,_,h=>by cases h
  | s :: ss,[],hl,_=>by simp at hl
  | s :: ss,d :: ds,hl,h=>by
    unfold fS at h
    rw [List.find?_cons] at h
    rw [dM]
    cases hc:decide (s.nm=n) with
    | true=>
      rw [hc] at h
      obtain rfl:s=u:=by simpa using h
      exact ⟨0,rfl,rfl⟩
    | false=>
      rw [hc] at h
      obtain ⟨j,h1,h2⟩:=wM (ss:=ss) (ds:=ds) (by simpa using hl) h
      exact ⟨j + 1,by simpa using h1,by simpa using h2⟩
def L9 (rs:List (List C)):Prop:=∃ l:List Int,rs=l.map bU
def ET (N:Nat):List S->Prop:=fun av=>match av with
  | [.va (.gs r),.va (.c1 (.fz ds)),.va (.gs q)]=>iU r/\(L9 ds/\ds.length=(C.sc r).ss.length/\∀ d ∈ ds.map C.it,0<=d/\d<=1000000000000)/\eK q/\(cI (C.ty q)).1<=1000000000/\(C.ty q).h<=N
  | _=>False
theorem lW {N:Nat} {av:List S} (h:ET N av):∃ (s:Sc) (l:List Int) (t:Ty),av=[.va (.gs (aE s)),.va (.c1 (.fz (l.map bU))),.va (.gs (aM t))]/\s.fit/\(l.length=s.ss.length/\∀ d ∈ l,0<=d/\d<=1000000000000)/\TyOk t/\(cI t).1<=1000000000/\t.h<=N:=by
  unfold ET at h
  split at h
  · obtain ⟨⟨a,rfl,ha⟩,⟨⟨l,rfl⟩,h1,h2⟩,⟨b,rfl,hb⟩,h3,h4⟩:=h
    rw [eH] at h3 h4
    rw [dW] at h1
    rw [yC] at h2
    exact ⟨a,l,b,rfl,ha,⟨by simpa using h1,h2⟩,hb,h3,h4⟩
  · exact h.elim
noncomputable def MB:List S->A:=fun av=>match av with
  | [.va (.gs r),.va (.c1 (.fz ds)),.va (.gs q)]=>iA .i64 (bW (dM (C.sc r).ss (ds.map C.it)) (C.ty q))
  | _=>.gs []
noncomputable def LJ (N:Nat):Fun:=⟨ET N,MB,fun av h=>by obtain ⟨a,l,b,rfl,_⟩:=lW h; trivial⟩
theorem RM {N:Nat}:∀ av H K,(LJ N).sp av H K->av.length=3:=fun av H K h=>by obtain ⟨a,l,b,rfl,_⟩:=lW h.1.1; rfl
attribute [go_sem] LJ ET MB
theorem uT {s:Int} {n:ByteArray} {u:Ty} {r:List Ty}:cI (.mk 5 s n (u :: r))=((cI u).1 + 1,(cI u).2):=by simp [cI,lvL]
theorem E4 {k s:Int} {n:ByteArray} {e:List Ty} (h:(k == 5 && decide (0 < (e.length:Int)))=false):cI (.mk k s n e)=(0,.mk k s n e):=by
  rw [cI]
  cases hk:k == 5 with
  | false=>rfl
  | true=>
    rw [hk,Bool.true_and] at h
    have:e=[]:=List.length_eq_zero_iff.1 (by simp at h; simp [h])
    subst this; rfl
theorem OB {dp:ByteArray->Int} {s:Int} {n:ByteArray} {u:Ty} {r:List Ty}:bW dp (.mk 5 s n (u :: r))=1 + bW dp u:=by unfold bW; rw [uT]; simp only; omega
theorem t8:∀ N,Meets Tryz.prog 89 (LJ N).sp
  | 0=>⟨by kernel_rfl,by rintro xs vs E ro w K _ _ _ ⟨⟨h,_⟩,_⟩; obtain ⟨_,_,a,_,_,_,_,_,h⟩:=lW h; have:=a.h_pos; omega⟩
  | N + 1=>by
    refine aF Tryz.func89 aMZ 3 (by rw [Tryz.ntmps89]; decide) (aG (t8 N) (aA _)) RM ?_
    rintro av H K ⟨⟨h,rfl⟩,hK⟩
    obtain ⟨sc,l,t,rfl,hs,⟨hl,hb⟩,ht,hlv,hh⟩:=lW h
    have hK:K (iS .i64 (bW (dM sc.ss l) t)) []:=by
      have:(LJ (N + 1)).val [.va (.gs (aE sc)),.va (.c1 (.fz (l.map bU))),.va (.gs (aM t))]=iA .i64 (bW (dM sc.ss l) t):=by simp -dsimp only [go_sem,yC]
      rw [this] at hK; exact hK
    clear h
    have hls:=hs.ok.ls
    have fin:∀ (b:Int) (R:Hp),bW (dM sc.ss l) t=b->W.Fin 0 K (iS .i64 b) R:=fun b R h=>by
      rw [h] at hK
      exact .sel [] (by simp) (by simp) rfl (.done (by simp -dsimp only [go_sem]; simpa using hK))
    have hsf:=eZ hs
    rw [aE] at hsf
    have hsd:=dW sc
    rw [aE] at hsd
    obtain ⟨k,s,n,e⟩:=t
    have hte:=ht.e
    have hte2:=ht.len
    simp only [Ty.e] at hte hte2
    have hin:L9 (l.map bU):=⟨l,rfl⟩
    have hr1:((l.map bU).length=sc.ss.length)=True:=by simp [hl]
    have hr2:(∀ d:Int,d ∈ l->0<=d/\d<=1000000000000)=True:=eq_true hb
    simp (maxSteps:=1000000) -dsimp only [go_sem,aE,aM,aS,aA7,aC4]
    cases c1:(k == 5 && decide (0 < (e.length:Int))) with
    | true=>
      simp only [Bool.and_eq_true,beq_iff_eq,decide_eq_true_eq] at c1
      obtain ⟨rfl,c1⟩:=c1
      obtain ⟨u,r,rfl⟩:∃ u r,e=u :: r:=by
        cases e with
        | nil=>simp at c1
        | cons u r=>exact ⟨u,r,rfl⟩
      rw [uT] at hlv
      have hux:(u :: r)[0]? = some u:=rfl
      have q1:=o8 (row:=aM) hux
      have hu:eK (aM u):=dG (hte u List.mem_cons_self)
      have huh:u.h<=N:=by rw [Ty.h,Ty.hs] at hh; omega
      refine ⟨fun _=>?_,fun h=>by simp at h⟩
      have hul:((cI u).1<=1000000000)=True:=eq_true (by simp only at hlv; omega)
      have huh':(u.h<=N)=True:=eq_true huh
      have hfb:bW (dM sc.ss l) u<=1001000000000/\0<=bW (dM sc.ss l) u:=by
        have hd:dM sc.ss l (cI u).2.n<=1000000000000/\0<=dM sc.ss l (cI u).2.n:=by
          cases hf:fS sc.ss (cI u).2.n with
          | none=>rw [wE hf]; omega
          | some v=>
            obtain ⟨j,_,h2⟩:=wM hl.symm hf
            have:=hb _ (List.mem_of_getElem? h2); omega
        simp only at hlv
        unfold bW
        cases (cI u).2.k == 6<;>simp only [Bool.cond_true,Bool.cond_false]<;>omega
      simp (maxSteps:=1000000) -dsimp only [go_sem,gN]
      refine ⟨by omega,fun x hx=>?_⟩
      subst hx
      simp only [hsd]
      exact ⟨⟨hsf,⟨hin,hl,hb⟩,hu,by simp only at hlv; omega,huh⟩,by omega,fin _ _ OB⟩
    | false=>
      have hst:=E4 (s:=s) (n:=n) c1
      have hfd:bW (dM sc.ss l) (.mk k s n e)=bif k == 6 then dM sc.ss l n else 0:=by unfold bW; rw [hst]; simp [Ty.k,Ty.n]
      refine ⟨fun h=>by simp at h,fun _=>?_⟩
      cases k6:k == 6 with
      | false=>
        rw [k6,Bool.cond_false] at hfd
        refine aK (α:=Nat) (fun i=>[(1,.va (.c1 (.fz (l.map bU)))),(3,.va (.c1 (.pt 0 0))),(5,.va (.c1 (.pt 1 0))),(7,iS .i64 i)]) (fun _=>[.cells (aE sc) 25,.cells (aM (.mk k s n e)) 28])
          (fun i=>i<=sc.ss.length) (fun i=>sc.ss.length - i) 0 2 (Nat.zero_le _) ?_ ?_ ?_
        · simp -dsimp only [go_sem]<;>simp
        · simp -dsimp only [go_sem,aE,aM,aS]<;>simp
        intro i hi
        rcases Nat.lt_or_ge i sc.ss.length with hlt | hge
        · have hg:decide ((i:Int) < (sc.ss.length:Int))=true:=by simp; omega
          simp (maxSteps:=1000000) -dsimp only [go_sem,hg,aE,aM,aS,k6]
          and_intros
          all_goals first
            | omega
            | skip
          refine aC (i + 1) 2 (by omega) (by omega) ?_ ?_
          · simp -dsimp only [go_sem]<;>simp
          · simp -dsimp only [go_sem,aE,aM,aS]<;>simp
        · have hg:decide ((i:Int) < (sc.ss.length:Int))=false:=by simp; omega
          simp (maxSteps:=1000000) -dsimp only [go_sem,hg,aE,aM,aS]
          exact fin 0 _ hfd
      | true=>
        rw [k6,Bool.cond_true] at hfd
        refine aK (α:=Nat) (fun i=>[(1,.va (.c1 (.fz (l.map bU)))),(3,.va (.c1 (.pt 0 0))),(5,.va (.c1 (.pt 1 0))),(7,iS .i64 i)]) (fun _=>[.cells (aE sc) 25,.cells (aM (.mk k s n e)) 28])
          (fun i=>i<=sc.ss.length/\dM (sc.ss.drop i) (l.drop i) n=dM sc.ss l n) (fun i=>sc.ss.length - i) 0 2 ⟨Nat.zero_le _,rfl⟩ ?_ ?_ ?_
        · simp -dsimp only [go_sem]<;>simp
        · simp -dsimp only [go_sem,aE,aM,aS]<;>simp
        rintro i ⟨hi,ho⟩
        rcases Nat.lt_or_ge i sc.ss.length with hlt | hge
        · have hg:decide ((i:Int) < (sc.ss.length:Int))=true:=by simp; omega
          obtain ⟨t,hx⟩:∃ e,sc.ss[i]? = some e:=⟨_,List.getElem?_eq_getElem hlt⟩
          obtain ⟨d,hd⟩:∃ e,l[i]? = some e:=⟨_,List.getElem?_eq_getElem (by omega)⟩
          have q2:=aO (row:=aL) hx
          have q3:=aO (row:=bU) hd
          rw [RY hx hd] at ho
          cases hc:decide (t.nm=n) with
          | true=>
            rw [hc,Bool.cond_true] at ho
            simp (maxSteps:=1000000) -dsimp only [go_sem,hg,↓q2,↓q3,aL,aE,aM,aS,cM,hc,k6]
            and_intros
            all_goals first
              | omega
              | exact fin _ _ (by rw [hfd,<-ho])
          | false=>
            rw [hc,Bool.cond_false] at ho
            simp (maxSteps:=1000000) -dsimp only [go_sem,hg,↓q2,aL,aE,aM,aS,cM,hc,k6]
            and_intros
            all_goals first
              | omega
              | skip
            refine aC (i + 1) 2 ⟨by omega,ho⟩ (by omega) ?_ ?_
            · simp -dsimp only [go_sem]<;>simp
            · simp -dsimp only [go_sem,aE,aM,aS]<;>simp
        · have hg:decide ((i:Int) < (sc.ss.length:Int))=false:=by simp; omega
          obtain rfl:i=sc.ss.length:=by omega
          rw [YN] at ho
          simp (maxSteps:=1000000) -dsimp only [go_sem,hg,aE,aM,aS]
          exact fin 0 _ (by rw [hfd,<-ho])
def EQ:List S->Prop:=fun av=>match av with
  | [.va (.gs r),.va (.c1 (.fz ds)),.va (.gs q)]=>iU r/\(L9 ds/\ds.length=(C.sc r).ss.length/\∀ d ∈ ds.map C.it,0<=d/\d<=1000000000000)/\eK q/\(cI (C.ty q)).1<=1000000000
  | _=>False
theorem yN {av:List S} (h:EQ av):∃ (s:Sc) (l:List Int) (t:Ty),av=[.va (.gs (aE s)),.va (.c1 (.fz (l.map bU))),.va (.gs (aM t))]/\s.fit/\(l.length=s.ss.length/\∀ d ∈ l,0<=d/\d<=1000000000000)/\TyOk t/\(cI t).1<=1000000000:=by
  unfold EQ at h
  split at h
  · obtain ⟨⟨a,rfl,ha⟩,⟨⟨l,rfl⟩,h1,h2⟩,⟨b,rfl,hb⟩,h3⟩:=h
    rw [eH] at h3
    rw [dW] at h1
    rw [yC] at h2
    exact ⟨a,l,b,rfl,ha,⟨by simpa using h1,h2⟩,hb,h3⟩
  · exact h.elim
noncomputable def t0Fn:Fun:=⟨EQ,MB,fun av h=>by obtain ⟨a,l,b,rfl,_⟩:=yN h; trivial⟩
attribute [go_sem] t0Fn EQ
theorem L7:Meets Tryz.prog 89 t0Fn.sp:=eM 0 t8 fun av H K ⟨⟨h,e⟩,hK⟩=>by
  obtain ⟨a,l,b,rfl,ha,⟨h1,h2⟩,hb,h3⟩:=yN h
  refine ⟨b.h,⟨⟨⟨eZ ha,⟨⟨l,rfl⟩,by rw [dW]; simpa using h1,by rw [yC]; exact h2⟩,dG hb,by rw [eH]; exact h3,by rw [eH]; exact Nat.le_refl _⟩,e⟩,hK⟩⟩
end Go.Proofs.YtkpohmhenegkiaaGreatDoor
namespace Go.Proofs.YtkpohmhenegkiaaGreatDoor
open Go.W
theorem CP {dp dq:ByteArray->Int} {l:List Fl} (h:∀ f ∈ l,bW dp f.ty<=bW dq f.ty):fB dp l<=fB dq l:=LA (kI _ _) fun f hf=>Int.le_trans (h f hf) (ZT hf)
structure DI (ss:List St) (r i:Nat) (d:List Int):Prop where
  len:d.length=ss.length
  lo:∀ (j:Nat) (t:St) (v:Int),ss[j]? = some t->d[j]? = some v->0<=v/\v<=dD ss t.nm/\(pH ss t.nm < r->v=dD ss t.nm)/\(j < i->pH ss t.nm < r + 1->v=dD ss t.nm)
theorem DI.ix {ss:List St} {es:List En} (_g:Gd ss es) {r i:Nat} {d:List Int} (h:DI ss r i d) (n:ByteArray):0<=dM ss d n/\dM ss d n<=dD ss n/\((fS ss n).isSome=true->pH ss n < r->dM ss d n=dD ss n):=by
  cases hf:fS ss n with
  | none=>
    rw [wE hf]
    exact ⟨Int.le_refl _,LY ss n,fun h=>by simp at h⟩
  | some u=>
    obtain ⟨j,h1,h2⟩:=wM h.len.symm hf
    obtain ⟨a1,a2,a3,_⟩:=h.lo j u _ h1 h2
    obtain ⟨_,rfl⟩:=gZ hf
    exact ⟨a1,a2,fun _ h=>a3 h⟩
theorem DI.all {ss:List St} {es:List En} (g:Gd ss es) {r i:Nat} {d:List Int} (h:DI ss r i d):∀ v ∈ d,0<=v/\v<=1000000000000:=fun v hv=>by
  obtain ⟨j,hj⟩:=List.mem_iff_getElem?.1 hv
  have hl:=(List.getElem?_eq_some_iff.1 hj).1
  obtain ⟨t,ht⟩:∃ t,ss[j]? = some t:=⟨_,List.getElem?_eq_getElem (by have:=h.len; omega)⟩
  obtain ⟨h1,h2,_⟩:=h.lo j t v ht hj
  have:=LM g t.nm
  omega
theorem DI.fd {ss:List St} {es:List En} (g:Gd ss es) {r i:Nat} {d:List Int} (h:DI ss r i d) (t:Ty):bW (dM ss d) t<=bW (dD ss) t:=by
  unfold bW
  have:=h.ix g (cI t).2.n
  cases (cI t).2.k == 6<;>simp only [Bool.cond_true,Bool.cond_false]<;>omega
theorem DI.set {ss:List St} {es:List En} (g:Gd ss es) (ha:yB ss) {r i:Nat} {d:List Int} (h:DI ss r i d) {t:St} (ht:ss[i]? = some t):DI ss r (i + 1) (d.set i (1 + fB (dM ss d) t.fs)):=by
  have htm:=List.mem_of_getElem? ht
  have hD:=M6 g ha (g.nd t htm)
  have hle:fB (dM ss d) t.fs<=fB (dD ss) t.fs:=CP fun f _=>h.fd g f.ty
  have heq:pH ss t.nm < r + 1->fB (dM ss d) t.fs=fB (dD ss) t.fs:=fun hr=>pM fun f hf=>by
    unfold bW
    cases hk:(cI f.ty).2.k == 6 with
    | false=>rfl
    | true=>
      obtain ⟨h1,u,h2⟩:=AE g (g.nd t htm) hf hk
      have h3:=BN h1 h2 ha
      rw [(h.ix g _).2.2 (by rw [h2]; rfl) (by omega)]
  have hn:=kI (dM ss d) t.fs
  refine ⟨by rw [List.length_set]; exact h.len,fun j u v hu hv=>?_⟩
  rw [List.getElem?_set] at hv
  by_cases e:i=j
  · subst e
    rw [ht] at hu; obtain rfl:=Option.some.inj hu
    have hlt:i < d.length:=by have:=h.len; have:=(List.getElem?_eq_some_iff.1 ht).1; omega
    simp [hlt] at hv
    subst hv
    exact ⟨by omega,by omega,fun hr=>by rw [heq (by omega)]; omega,fun _ hr=>by rw [heq hr]; omega⟩
  · rw [if_neg e] at hv
    obtain ⟨a1,a2,a3,a4⟩:=h.lo j u v hu hv
    exact ⟨a1,a2,a3,fun hj hr=>a4 (by omega) hr⟩
theorem DI.up {ss:List St} {r:Nat} {d:List Int} (h:DI ss r ss.length d):DI ss (r + 1) 0 d:=⟨h.len,fun j t v ht hv=>by
  obtain ⟨a1,a2,_,a4⟩:=h.lo j t v ht hv
  exact ⟨a1,a2,fun hr=>a4 (List.getElem?_eq_some_iff.1 ht).1 hr,fun h=>absurd h (Nat.not_lt_zero _)⟩⟩
theorem DI.fin {ss:List St} {d:List Int} (h:DI ss (ss.length + 1) 0 d):d=ss.map fun t=>dD ss t.nm:=by
  refine List.ext_getElem? fun j=>?_
  rw [List.getElem?_map]
  cases ht:ss[j]? with
  | none=>
    rw [List.getElem?_eq_none_iff] at ht
    rw [List.getElem?_eq_none (by rw [h.len]; exact ht)]; rfl
  | some t=>
    obtain ⟨v,hv⟩:∃ v,d[j]? = some v:=⟨_,List.getElem?_eq_getElem (by rw [h.len]; exact (List.getElem?_eq_some_iff.1 ht).1)⟩
    obtain ⟨_,_,a3,_⟩:=h.lo j t v ht hv
    rw [hv,a3 (Nat.lt_succ_of_le (JJ _ _))]; rfl
theorem DI.init (ss:List St):DI ss 0 0 (List.replicate ss.length 0):=⟨by simp,fun j t v ht hv=>by
  have:v=0:=by
    have:=List.mem_of_getElem? hv
    exact (List.mem_replicate.1 this).2
  subst this
  exact ⟨Int.le_refl _,LY _ _,fun h=>absurd h (Nat.not_lt_zero _),fun h=>absurd h (Nat.not_lt_zero _)⟩⟩
def aDM:W.Spec:=fun av H K=>∃ s:Sc,av=[.va (.gs (aE s))]/\H=[]/\s.fit/\Gd s.ss s.es/\yB s.ss/\K (.va (.c1 (.fz ((s.ss.map fun t=>dD s.ss t.nm).map bU)))) []
theorem aE3 {s:Sc} {K:S->Hp->Prop} (h:s.fit) (g:Gd s.ss s.es) (ha:yB s.ss) (hK:K (.va (.c1 (.fz ((s.ss.map fun t=>dD s.ss t.nm).map bU)))) []):aDM [.va (.gs (aE s))] [] K:=⟨s,rfl,rfl,h,g,ha,hK⟩
theorem YQ {D:ByteArray->Int} {l:List Fl} {i:Nat} {f:Fl} (hx:l[i]? = some f):(l.take (i + 1)).foldl (gF D) 0=max ((l.take i).foldl (gF D) 0) (bW D f.ty):=by
  rw [fH hx,List.foldl_append]; rfl
theorem Y2:Meets Tryz.prog 51 aDM:=by
  refine aF Tryz.func51 aJ9 1 (by rw [Tryz.ntmps51]; decide) (aG L7 (aA _)) (fun av H K h=>by obtain ⟨_,rfl,_⟩:=h; rfl) ?_
  rintro av H K ⟨s,rfl,rfl,hs,g,ha,hK⟩
  have hls:=g.n
  simp (maxSteps:=1000000) -dsimp only [go_sem,aE,aBB,aDL]
  refine ⟨⟨by omega,by omega,by omega⟩,fun h0=>?_,fun h0=>?_⟩
  · have hnil:s.ss=[]:=List.length_eq_zero_iff.1 (by omega)
    have hlen:s.ss.length=0:=by omega
    rw [hnil] at hK
    refine aK (α:=Nat) (fun i=>[(1,.va (.c1 (.pt 0 0))),(3,.va (.c1 (.fz []))),(4,iS .i64 i)]) (fun _=>[.cells (aE s) 25])
      (fun i=>i<=1) (fun i=>1 - i) 0 1 (Nat.zero_le _) ?_ ?_ ?_
    · simp -dsimp only [go_sem]<;>simp
    · simp -dsimp only [go_sem,aE]<;>simp
    intro i hi
    rcases Nat.eq_zero_or_pos i with h1 | h1
    · have hg:decide ((i:Int)<=(s.ss.length:Int))=true:=by simp; omega
      simp (maxSteps:=1000000) -dsimp only [go_sem,hg,aE]
      refine aK (α:=Unit) (fun _=>[(1,.va (.c1 (.pt 0 0))),(3,.va (.c1 (.fz []))),(4,iS .i64 i),(5,iS .i64 0)]) (fun _=>[.cells (aE s) 25])
        (fun _=>True) (fun _=>0) () 1 trivial ?_ ?_ ?_
      · simp -dsimp only [go_sem]<;>simp
      · simp -dsimp only [go_sem,aE]<;>simp
      intro _ _
      have hg:decide ((0:Int) < (s.ss.length:Int))=false:=by simp; omega
      simp (maxSteps:=1000000) -dsimp only [go_sem,hg,aE]
      refine ⟨by omega,aC (i + 1) 1 (by omega) (by omega) ?_ ?_⟩
      · simp -dsimp only [go_sem]<;>simp
      · simp -dsimp only [go_sem,aE]<;>simp
    · have hg:decide ((i:Int)<=(s.ss.length:Int))=false:=by simp; omega
      simp (maxSteps:=1000000) -dsimp only [go_sem,hg,aE]
      exact .sel [] (by simp) (by simp) rfl (.done (by simpa [go_sem] using hK))
  · have hsf:=eZ hs
    rw [aE] at hsf
    have hsd:=dW s
    rw [aE] at hsd
    refine aK (α:=Nat × List Int) (fun z=>[(1,.va (.c1 (.pt 0 0))),(3,.va (.c1 (.sl 1 s.ss.length))),(4,iS .i64 z.1)]) (fun z=>[.cells (aE s) 25,.row (z.2.map bU) 3 1])
      (fun z=>z.1<=s.ss.length + 1/\DI s.ss z.1 0 z.2) (fun z=>s.ss.length + 1 - z.1) (0,List.replicate s.ss.length 0) 2 ⟨Nat.zero_le _,DI.init _⟩ ?_ ?_ ?_
    · simp -dsimp only [go_sem]<;>simp
    · simp -dsimp only [go_sem,aE]<;>simp
    rintro ⟨r,d⟩ ⟨hr,hd⟩
    simp only at hr hd ⊢
    rcases Nat.lt_or_ge r (s.ss.length + 1) with hlt | hge
    · have hg:decide ((r:Int)<=(s.ss.length:Int))=true:=by simp; omega
      simp (maxSteps:=1000000) -dsimp only [go_sem,hg,aE]
      refine aK (α:=Nat × List Int) (fun z=>[(1,.va (.c1 (.pt 0 0))),(3,.va (.c1 (.sl 1 s.ss.length))),(4,iS .i64 r),(5,iS .i64 z.1)]) (fun z=>[.cells (aE s) 25,.row (z.2.map bU) 3 1])
        (fun z=>z.1<=s.ss.length/\DI s.ss r z.1 z.2) (fun z=>s.ss.length - z.1) (0,d) 2 ⟨Nat.zero_le _,hd⟩ ?_ ?_ ?_
      · simp -dsimp only [go_sem]<;>simp
      · simp -dsimp only [go_sem,aE]<;>simp
      clear hd hg
      rintro ⟨i,d⟩ ⟨hi,hd⟩
      simp only at hi hd ⊢
      rcases Nat.lt_or_ge i s.ss.length with hit | hig
      · have hg:decide ((i:Int) < (s.ss.length:Int))=true:=by simp; omega
        obtain ⟨t,hx⟩:∃ e,s.ss[i]? = some e:=⟨_,List.getElem?_eq_getElem hit⟩
        have htm:=List.mem_of_getElem? hx
        obtain ⟨_,htl,hfs⟩:=hs.ok.ss t htm
        have q1:=aO (row:=aL) hx
        have hset:=hd.set g ha hx
        have hmx:fB (dM s.ss d) t.fs<=1000000000000:=by
          have h1:=CP (l:=t.fs) fun f _=>hd.fd g f.ty
          have h2:=M6 g ha (g.nd t htm)
          have h3:=LM g t.nm
          omega
        simp (maxSteps:=1000000) -dsimp only [go_sem,hg,aE]
        refine aK (α:=Nat) (fun k=>[(1,.va (.c1 (.pt 0 0))),(3,.va (.c1 (.sl 1 s.ss.length))),(4,iS .i64 r),(5,iS .i64 i),(6,iS .i64 ((t.fs.take k).foldl (gF (dM s.ss d)) 0)),(7,iS .i64 k)]) (fun _=>[.cells (aE s) 25,.row (d.map bU) 3 1])
          (fun k=>k<=t.fs.length) (fun k=>t.fs.length - k) 0 2 (Nat.zero_le _) ?_ ?_ ?_
        · simp -dsimp only [go_sem]<;>simp
        · simp -dsimp only [go_sem,aE]<;>simp
        intro k hk
        rcases Nat.lt_or_ge k t.fs.length with hkt | hkg
        · have hg:decide ((k:Int) < (t.fs.length:Int))=true:=by simp; omega
          obtain ⟨f,hf⟩:∃ e,t.fs[k]? = some e:=⟨_,List.getElem?_eq_getElem hkt⟩
          have hfm:=List.mem_of_getElem? hf
          have q2:=aO (row:=aR) hf
          have hity:eK (aM f.ty):=dG (hfs f hfm).ty
          have hlv:((cI f.ty).1<=1000000000)=True:=eq_true (g.lv t htm f hfm)
          have hin:L9 (d.map bU):=⟨d,rfl⟩
          have hdl:d.length=s.ss.length:=hd.len
          have hall:(∀ v:Int,v ∈ d->0<=v/\v<=1000000000000)=True:=eq_true (hd.all g)
          simp (maxSteps:=1000000) -dsimp only [go_sem,hg,↓q1,aL,aE]
          simp (maxSteps:=1000000) -dsimp only [go_sem,aR,sX,hsf,hsd,hity,hlv,hin,hall,hdl,hf,Option.some.injEq,forall_eq']
          refine ⟨by omega,by omega,by omega,by omega,aC (k + 1) 2 (by omega) (by omega) ?_ ?_⟩
          · simp -dsimp only [go_sem,YQ hf]<;>simp
          · simp -dsimp only [go_sem,aE]<;>simp
        · have hg:decide ((k:Int) < (t.fs.length:Int))=false:=by simp; omega
          obtain rfl:k=t.fs.length:=by omega
          have hmx2:t.fs.foldl (gF (dM s.ss d)) 0=fB (dM s.ss d) t.fs:=rfl
          rw [List.take_length,hmx2]
          have hn0:=kI (dM s.ss d) t.fs
          have hdl:d.length=s.ss.length:=hd.len
          obtain ⟨v0,hv0⟩:∃ e,d[i]? = some e:=⟨_,List.getElem?_eq_getElem (by omega)⟩
          simp (maxSteps:=1000000) -dsimp only [go_sem,hg,↓q1,aL,aE]
          simp (maxSteps:=1000000) -dsimp only [go_sem,hv0,Option.some.injEq,forall_eq']
          refine ⟨by omega,by omega,⟨by omega,hdl⟩,⟨hdl,by omega⟩,by omega,aC (i + 1,d.set i (1 + fB (dM s.ss d) t.fs)) 2 ⟨by simp only; omega,hset⟩ (by simp only; omega) ?_ ?_⟩
          · simp -dsimp only [go_sem]<;>simp
          · simp -dsimp only [go_sem,aE]<;>simp [List.map_set]
      · have hg:decide ((i:Int) < (s.ss.length:Int))=false:=by simp; omega
        obtain rfl:i=s.ss.length:=by omega
        simp (maxSteps:=1000000) -dsimp only [go_sem,hg,aE]
        refine ⟨by omega,aC (r + 1,d) 2 ⟨by simp only; omega,hd.up⟩ (by simp only; omega) ?_ ?_⟩
        · simp -dsimp only [go_sem]<;>simp
        · simp -dsimp only [go_sem,aE]<;>simp
    · have hg:decide ((r:Int)<=(s.ss.length:Int))=false:=by simp; omega
      obtain rfl:r=s.ss.length + 1:=by omega
      have hfin:=hd.fin
      rw [<-hfin] at hK
      simp (maxSteps:=1000000) -dsimp only [go_sem,hg,aE]
      have e1:s.ss.length=(d.map bU).length:=by rw [List.length_map]; exact hd.len.symm
      rw [e1]
      refine .pub 1 _ _ _ rfl (.sel [] (by simp) (by simp [cF]) rfl (.done ?_))
      simp -dsimp only [go_sem,cF]
      simpa using hK
end Go.Proofs.YtkpohmhenegkiaaGreatDoor
namespace Go.Proofs.YtkpohmhenegkiaaGreatDoor
open Go.W
theorem ZR:Meets Tryz.prog 20 ckFn.sp:=by
  refine aF Tryz.func20 aMC 1 (by rw [Tryz.ntmps20]; decide) (aG Z8 (aG YT (aG N6 (aB aIP (aG S2 (aB Y2 (aA _))))))) oT ?_
  rintro av H K ⟨⟨h,rfl⟩,hK⟩
  obtain ⟨_,rfl,s,rfl,hs⟩:=f7 h
  have hK:K (iS .i64 (eX s)) []:=by
    have:ckFn.val [.va (.gs (aE s))]=iA .i64 (eX s):=by simp -dsimp only [go_sem]
    rw [this] at hK; exact hK
  clear h
  have hfit:=hs
  have hsc:pX (aE s):=J3 hs.ok
  have hsf:iU (aE s):=eZ hs
  obtain ⟨⟨hv,hle,hls,hes,hss⟩,hlv,_,_⟩:=hs
  have fin:∀ (x:Int) (R:Hp),eX s=x->W.Fin 0 K (iS .i64 x) R:=fun x R h1=>by
    rw [h1] at hK
    exact .sel [] (by simp) (by simp) rfl (.done (by simpa [go_sem] using hK))
  have hsc':=hsc
  have hsf':=hsf
  simp only [aE] at hsc' hsf'
  have hdec:C.sc [.vl (.int .i64 s.ver),.fz (s.es.map aX),.fz (s.ss.map aL)]=s:=dW s
  simp (maxSteps:=1000000) -dsimp only [go_sem,aE,aEO,aC1,hsc',hdec]
  refine ⟨fun h1=>fin 4 _ (by unfold eX; rw [h1]; rfl),fun c1=>⟨fun h1=>fin 3 _ (by unfold eX; rw [c1,h1]; rfl),fun c2=>?_⟩⟩
  have hF:eX s=bif G1 s != 0 then G1 s else bif C9 s != 0 then C9 s else yY s.ss:=by unfold eX; rw [c1,c2]; rfl
  refine aK (α:=Nat) (fun i=>[(1,.va (.c1 (.pt 0 0))),(3,iS .i64 i)]) (fun _=>[.cells (aE s) 25])
    (fun i=>i<=s.es.length/\fE (iK s) (s.es.length - i) i=G1 s) (fun i=>s.es.length - i) 0 1 ⟨Nat.zero_le _,rfl⟩ ?_ ?_ ?_
  · simp -dsimp only [go_sem]<;>simp
  · simp -dsimp only [go_sem,aE]<;>simp
  rintro i ⟨hi,ho⟩
  rcases Nat.lt_or_ge i s.es.length with hlt | hge
  · have hg:decide ((i:Int) < (s.es.length:Int))=true:=by simp; omega
    have fin':∀ (x:Int) (R:Hp),iK s i=x->x ≠ 0->W.Fin 0 K (iS .i64 x) R:=fun x R h1 h2=>fin x R (by
      rw [hF,<-ho,sG hlt (by rw [h1]; exact h2),h1]; exact F4 h2)
    have b8:iK s i=0->fE (iK s) (s.es.length - (i + 1)) (i + 1)=G1 s:=fun h1=>by rw [<-ho,xO hlt h1]
    simp (maxSteps:=1000000) -dsimp only [go_sem,hg,aE,hsf',hdec,Int.toNat_natCast]
    refine ⟨⟨by omega,by omega⟩,fun h1=>fin' _ _ rfl (by simpa using h1),fun h1=>?_⟩
    refine ⟨by omega,aC (i + 1) 1 ⟨by omega,b8 (by simpa using h1)⟩ (by omega) ?_ ?_⟩
    · simp -dsimp only [go_sem]<;>simp
    · simp -dsimp only [go_sem,aE]<;>simp
  · have hg:decide ((i:Int) < (s.es.length:Int))=false:=by simp; omega
    obtain rfl:i=s.es.length:=by omega
    rw [yU] at ho
    rw [KT ho.symm] at hF
    simp (maxSteps:=1000000) -dsimp only [go_sem,hg,aE]
    clear hi hge hg ho
    refine aK (α:=Nat) (fun i=>[(1,.va (.c1 (.pt 0 0))),(5,iS .i64 i)]) (fun _=>[.cells (aE s) 25])
      (fun i=>i<=s.ss.length/\fE (iW s) (s.ss.length - i) i=C9 s) (fun i=>s.ss.length - i) 0 1 ⟨Nat.zero_le _,rfl⟩ ?_ ?_ ?_
    · simp -dsimp only [go_sem]<;>simp
    · simp -dsimp only [go_sem,aE]<;>simp
    rintro i ⟨hi,ho⟩
    rcases Nat.lt_or_ge i s.ss.length with hlt | hge
    · have hg:decide ((i:Int) < (s.ss.length:Int))=true:=by simp; omega
      have fin':∀ (x:Int) (R:Hp),iW s i=x->x ≠ 0->W.Fin 0 K (iS .i64 x) R:=fun x R h1 h2=>fin x R (by
        rw [hF,<-ho,sG hlt (by rw [h1]; exact h2),h1]; exact F4 h2)
      have b8:iW s i=0->fE (iW s) (s.ss.length - (i + 1)) (i + 1)=C9 s:=fun h1=>by rw [<-ho,xO hlt h1]
      simp (maxSteps:=1000000) -dsimp only [go_sem,hg,aE,hsf',hdec,Int.toNat_natCast]
      refine ⟨⟨by omega,by omega⟩,fun h1=>fin' _ _ rfl (by simpa using h1),fun h1=>?_⟩
      refine ⟨by omega,aC (i + 1) 1 ⟨by omega,b8 (by simpa using h1)⟩ (by omega) ?_ ?_⟩
      · simp -dsimp only [go_sem]<;>simp
      · simp -dsimp only [go_sem,aE]<;>simp
    · have hg:decide ((i:Int) < (s.ss.length:Int))=false:=by simp; omega
      obtain rfl:i=s.ss.length:=by omega
      rw [yU] at ho
      rw [KT ho.symm] at hF
      have g:=ZL hfit c2 ho.symm
      simp (maxSteps:=1000000) -dsimp only [go_sem,hg,aE]
      clear hi hge hg ho
      refine aK (α:=Nat) (fun i=>[(1,.va (.c1 (.pt 0 0))),(7,iS .i64 i)]) (fun _=>[.cells (aE s) 25])
        (fun i=>i<=s.ss.length/\(s.ss.drop i).any (fun t=>cS (fK s.ss t.nm) t.nm)=s.ss.any (fun t=>cS (fK s.ss t.nm) t.nm)) (fun i=>s.ss.length - i) 0 1 ⟨Nat.zero_le _,rfl⟩ ?_ ?_ ?_
      · simp -dsimp only [go_sem]<;>simp
      · simp -dsimp only [go_sem,aE]<;>simp
      rintro i ⟨hi,ho⟩
      rcases Nat.lt_or_ge i s.ss.length with hlt | hge
      · have hg:decide ((i:Int) < (s.ss.length:Int))=true:=by simp; omega
        obtain ⟨t,hx⟩:∃ t,s.ss[i]? = some t:=⟨_,List.getElem?_eq_getElem hlt⟩
        have q1:=aO (row:=aL) hx
        rw [gJ hx] at ho
        have hv:=g.vlen t.nm
        have hul:=CQ s.ss t.nm
        have hbs:A4 ((fK s.ss t.nm).map bB):=sS (by rw [CQ]; omega)
        have e0:(0<=((fK s.ss t.nm).length:Int))=True:=by simp
        have e1:(((fK s.ss t.nm).length:Int)<=9223372036854775807)=True:=by rw [hul]; exact eq_true (by omega)
        have hto:(fK s.ss t.nm).take (fK s.ss t.nm).length=fK s.ss t.nm:=List.take_length
        simp (maxSteps:=1000000) -dsimp only [go_sem,hg,↓q1,aL,aE]
        refine ⟨by omega,aAR hfit g ?_⟩
        simp (maxSteps:=1000000) -dsimp only [go_sem,hbs,e0,e1,Int.toNat_natCast,hto]
        refine ⟨by omega,fun hc=>?_,fun hc=>?_⟩
        · rw [hc,Bool.true_or] at ho
          exact fin 19 _ (by rw [hF]; unfold yY; rw [<-ho]; rfl)
        · rw [hc,Bool.false_or] at ho
          refine ⟨by omega,aC (i + 1) 1 ⟨by omega,ho⟩ (by omega) ?_ ?_⟩
          · simp -dsimp only [go_sem]<;>simp
          · simp -dsimp only [go_sem,aE]<;>simp
      · have hg:decide ((i:Int) < (s.ss.length:Int))=false:=by simp; omega
        obtain rfl:i=s.ss.length:=by omega
        rw [o0] at ho
        have ha:yB s.ss:=fun t ht=>jC ho.symm t ht
        have hF2:eX s=bif s.ss.any (fun t=>decide (6 < dD s.ss t.nm)) then 9 else 0:=by rw [hF]; unfold yY; rw [<-ho]; rfl
        simp (maxSteps:=1000000) -dsimp only [go_sem,hg,aE]
        refine aE3 hfit g ha ?_
        simp (maxSteps:=1000000) -dsimp only [go_sem]
        clear hi hge hg ho
        refine aK (α:=Nat) (fun i=>[(9,.va (.c1 (.fz ((s.ss.map fun t=>dD s.ss t.nm).map bU)))),(10,iS .i64 i)]) (fun _=>[.cells (aE s) 25])
          (fun i=>i<=s.ss.length/\(s.ss.drop i).any (fun t=>decide (6 < dD s.ss t.nm))=s.ss.any (fun t=>decide (6 < dD s.ss t.nm))) (fun i=>s.ss.length - i) 0 1 ⟨Nat.zero_le _,rfl⟩ ?_ ?_ ?_
        · simp -dsimp only [go_sem]<;>simp
        · simp -dsimp only [go_sem,aE]<;>simp
        rintro i ⟨hi,ho⟩
        rcases Nat.lt_or_ge i s.ss.length with hlt | hge
        · have hg:decide ((i:Int) < (s.ss.length:Int))=true:=by simp; omega
          obtain ⟨t,hx⟩:∃ t,s.ss[i]? = some t:=⟨_,List.getElem?_eq_getElem hlt⟩
          have hd:(s.ss.map fun t=>dD s.ss t.nm)[i]? = some (dD s.ss t.nm):=by rw [List.getElem?_map,hx]; rfl
          have q1:=aO (row:=bU) hd
          have hml:(s.ss.map fun t=>dD s.ss t.nm).length=s.ss.length:=by simp
          rw [gJ hx] at ho
          generalize (s.ss.map fun t=>dD s.ss t.nm)=ds at *
          simp (maxSteps:=1000000) -dsimp only [go_sem,hml,hg,↓q1,aE]
          refine ⟨by omega,fun hc=>?_,fun hc=>?_⟩
          · rw [hc,Bool.true_or] at ho
            exact fin 9 _ (by rw [hF2,<-ho]; rfl)
          · rw [hc,Bool.false_or] at ho
            refine ⟨by omega,aC (i + 1) 1 ⟨by omega,ho⟩ (by omega) ?_ ?_⟩
            · simp -dsimp only [go_sem]<;>simp
            · simp -dsimp only [go_sem,aE]<;>simp
        · have hg:decide ((i:Int) < (s.ss.length:Int))=false:=by simp; omega
          obtain rfl:i=s.ss.length:=by omega
          rw [o0] at ho
          have hml:(s.ss.map fun t=>dD s.ss t.nm).length=s.ss.length:=by simp
          generalize (s.ss.map fun t=>dD s.ss t.nm)=ds at *
          simp (maxSteps:=1000000) -dsimp only [go_sem,hml,hg,aE]
          exact fin 0 _ (by rw [hF2,<-ho]; rfl)
end Go.Proofs.YtkpohmhenegkiaaGreatDoor
namespace Go.Proofs.YtkpohmhenegkiaaGreatDoor
open Go.W
def fM:Nat->Ty->Nat
  | 0,_=>0
  | N + 1,t=>t.e.foldl (fun m u=>max m (1 + fM N u)) 0
abbrev lF (N:Nat):Nat->Ty->Nat:=fun m u=>max m (1 + fM N u)
theorem WE (N:Nat):∀ (l:List Ty) (m:Nat),m<=l.foldl (lF N) m
  | [],_=>Nat.le_refl _
  | u :: l,m=>Nat.le_trans (Nat.le_max_left _ _) (WE N l (max m (1 + fM N u)))
theorem aBJ {N:Nat} {l:List Ty} {u:Ty} (h:u ∈ l):∀ m,1 + fM N u<=l.foldl (lF N) m:=by
  induction l with
  | nil=>cases h
  | cons v l ih=>
    intro m
    rcases List.mem_cons.1 h with rfl | h
    · exact Nat.le_trans (Nat.le_max_right m _) (WE N l _)
    · exact ih h _
theorem aH9 {N B:Nat} {l:List Ty} (h:∀ u ∈ l,1 + fM N u<=B):∀ m,m<=B->l.foldl (lF N) m<=B:=by
  induction l with
  | nil=>exact fun _ h=>h
  | cons v l ih=>exact fun m hm=>ih (fun u hu=>h u (List.mem_cons_of_mem _ hu)) _ (Nat.max_le.2 ⟨hm,h v List.mem_cons_self⟩)
theorem BT:∀ (N:Nat) (t:Ty),fM N t<=N
  | 0,_=>Nat.le_refl _
  | N + 1,t=>aH9 (fun u _=>by have:=BT N u; omega) 0 (Nat.zero_le _)
theorem VD:∀ (N:Nat) (t:Ty),fM N t < N->t.h<=fM N t + 1
  | 0,_,h=>absurd h (Nat.not_lt_zero _)
  | N + 1,.mk k s n e,h=>by
    have hu:∀ u ∈ e,u.h<=fM (N + 1) (.mk k s n e):=fun u hu=>by
      have h1:1 + fM N u<=fM (N + 1) (.mk k s n e):=aBJ (N:=N) (l:=e) hu 0
      have:=VD N u (by omega)
      omega
    rw [Ty.h]
    have:∀ (l:List Ty),(∀ u ∈ l,u.h<=fM (N + 1) (.mk k s n e))->Ty.hs l<=fM (N + 1) (.mk k s n e):=by
      intro l
      induction l with
      | nil=>exact fun _=>Nat.zero_le _
      | cons v l ih=>
        intro h
        rw [Ty.hs]
        exact Nat.max_le.2 ⟨h v List.mem_cons_self,ih fun u hu=>h u (List.mem_cons_of_mem _ hu)⟩
    have:=this e hu
    omega
theorem Y8 {N:Nat} {l:List Ty} {i:Nat} {u:Ty} (hx:l[i]? = some u):(l.take (i + 1)).foldl (lF N) 0=max ((l.take i).foldl (lF N) 0) (1 + fM N u):=by
  rw [fH hx,List.foldl_append]; rfl
def EB (N:Nat):List S->Prop:=fun av=>match av with
  | [.va (.gs q),.va (.c1 (.vl (.int .i64 k)))]=>eK q/\k=(N:Int)/\N<=1000
  | _=>False
theorem l6 {N:Nat} {av:List S} (h:EB N av):∃ t:Ty,av=[.va (.gs (aM t)),iS .i64 N]/\TyOk t/\N<=1000:=by
  unfold EB at h
  split at h
  · obtain ⟨⟨t,rfl,ht⟩,rfl,h⟩:=h
    exact ⟨t,rfl,ht,h⟩
  · exact h.elim
noncomputable def WJ (N:Nat):List S->A:=fun av=>match av with
  | [.va (.gs q),.va (.c1 (.vl (.int .i64 _)))]=>iA .i64 (fM N (C.ty q))
  | _=>.gs []
noncomputable def AL (N:Nat):Fun:=⟨EB N,WJ N,fun av h=>by obtain ⟨a,rfl,_⟩:=l6 h; trivial⟩
theorem GQ {N:Nat}:∀ av H K,(AL N).sp av H K->av.length=2:=fun av H K h=>by obtain ⟨a,rfl,_⟩:=l6 h.1.1; rfl
attribute [go_sem] AL EB WJ
theorem YV:Meets Tryz.prog 45 (AL 0).sp:=by
  refine aF Tryz.func45 aAD 2 (by rw [Tryz.ntmps45]; decide) (aA _) GQ ?_
  rintro av H K ⟨⟨h,rfl⟩,hK⟩
  obtain ⟨t,rfl,ht,hN⟩:=l6 h
  have hK:K (iS .i64 0) []:=by
    have:(AL 0).val [.va (.gs (aM t)),iS .i64 ((0:Nat):Int)]=iA .i64 0:=by simp -dsimp only [go_sem]; rfl
    rw [this] at hK; exact hK
  clear h
  obtain ⟨k,s,n,e⟩:=t
  simp (maxSteps:=1000000) -dsimp only [go_sem,aM,aS,RS,TH]
  refine aK (α:=Unit) (fun i=>[(1,iS .i64 0),(2,.va (.c1 (.pt 0 0))),(5,iS .i64 0),(6,iS .i64 0)]) (fun _=>[.cells (aM (.mk k s n e)) 28])
    (fun i=>True) (fun i=>0) () 1 trivial ?_ ?_ ?_
  · simp -dsimp only [go_sem]
    simp
  · simp -dsimp only [go_sem,aM,aS]
  intro _ _
  have hg2:decide ((0:Int) < 0)=false:=rfl
  cases hg:decide ((0:Int) < (e.length:Int)) with
  | true=>
    simp (maxSteps:=1000000) -dsimp only [go_sem,hg,hg2,aM,aS]
    exact .sel [] (by simp) (by simp) rfl (.done (by simp -dsimp only [go_sem]; exact hK))
  | false=>
    simp (maxSteps:=1000000) -dsimp only [go_sem,hg,hg2,aM,aS]
    exact .sel [] (by simp) (by simp) rfl (.done (by simp -dsimp only [go_sem]; exact hK))
theorem O6:∀ N,Meets Tryz.prog 45 (AL N).sp
  | 0=>YV
  | N + 1=>by
    refine aF Tryz.func45 aAD 2 (by rw [Tryz.ntmps45]; decide) (aG (O6 N) (aA _)) GQ ?_
    rintro av H K ⟨⟨h,rfl⟩,hK⟩
    obtain ⟨t,rfl,ht,hN⟩:=l6 h
    have hK:K (iS .i64 (fM (N + 1) t)) []:=by
      have:(AL (N + 1)).val [.va (.gs (aM t)),iS .i64 ((N + 1:Nat):Int)]=iA .i64 (fM (N + 1) t):=by simp -dsimp only [go_sem]
      rw [this] at hK; exact hK
    clear h
    obtain ⟨k,s,n,e⟩:=t
    have hte:=ht.e
    have hte2:=ht.len
    simp only [Ty.e] at hte hte2
    have hK:K (iS .i64 ((e.foldl (lF N) 0:Nat):Int)) []:=hK
    simp (maxSteps:=1000000) -dsimp only [go_sem,aM,aS,RS,TH]
    refine aK (α:=Nat) (fun i=>[(1,iS .i64 ((N + 1:Nat):Int)),(2,.va (.c1 (.pt 0 0))),(5,iS .i64 (((e.take i).foldl (lF N) 0:Nat):Int)),(6,iS .i64 i)]) (fun _=>[.cells (aM (.mk k s n e)) 28])
      (fun i=>i<=e.length) (fun i=>e.length - i) 0 1 (Nat.zero_le _) ?_ ?_ ?_
    · simp -dsimp only [go_sem]
      simp
    · simp -dsimp only [go_sem,aM,aS]
    intro i hi
    rcases Nat.lt_or_ge i e.length with hlt | hge
    · have hg:decide ((i:Int) < (e.length:Int))=true:=by simp; omega
      have hg2:decide (0 < ((N + 1:Nat):Int))=true:=decide_eq_true (by omega)
      obtain ⟨u,hx⟩:∃ t,e[i]? = some t:=⟨_,List.getElem?_eq_getElem hlt⟩
      have q1:=aO (row:=aM) hx
      have hu:eK (aM u):=dG (hte u (List.mem_of_getElem? hx))
      have hn1:((N + 1:Nat):Int) - 1=(N:Int):=by omega
      have hl:=BT N u
      simp (maxSteps:=1000000) -dsimp only [go_sem,hg,hg2,↓q1,aM,aS,gN,hu,hn1]
      refine ⟨by omega,by omega,by omega,by omega,by omega,aC (i + 1) 1 (by omega) (by omega) ?_ ?_⟩
      · simp -dsimp only [go_sem,Y8 hx]<;>simp<;>omega
      · simp -dsimp only [go_sem,aM,aS]
    · have hg:decide ((i:Int) < (e.length:Int))=false:=by simp; omega
      obtain rfl:i=e.length:=by omega
      rw [List.take_length]
      simp (maxSteps:=1000000) -dsimp only [go_sem,hg,aM,aS]
      exact .sel [] (by simp) (by simp) rfl (.done (by simp -dsimp only [go_sem]; exact hK))
mutual
def fewT:Ty->Bool
  | .mk k s n e=>bif decide (40 < (bl n).length) || decide (3 < e.length) || decide (8 < fM 20 (.mk k s n e)) then false else D1 e
def D1:List Ty->Bool
  | []=>true
  | t :: r=>fewT t && D1 r
end
theorem rJ:∀ l:List Ty,D1 l=l.all fewT
  | []=>rfl
  | t :: r=>by rw [D1,rJ r]; rfl
theorem VF {k s:Int} {n:ByteArray} {e:List Ty} (h:fewT (.mk k s n e)=true):((bl n).length<=40/\e.length<=3/\fM 20 (.mk k s n e)<=8)/\∀ u ∈ e,fewT u=true:=by
  rw [fewT] at h
  cases c:decide (40 < (bl n).length) || decide (3 < e.length) || decide (8 < fM 20 (.mk k s n e)) with
  | true=>rw [c] at h; cases h
  | false=>
    rw [c] at h
    simp only [Bool.or_eq_false_iff,decide_eq_false_iff_not] at c
    refine ⟨by omega,fun u hu=>?_⟩
    simp only [Bool.cond_false,rJ,List.all_eq_true] at h
    exact h u hu
theorem aH7 {t:Ty} (h:fewT t=true):t.h<=9:=by
  obtain ⟨k,s,n,e⟩:=t
  have h1:=(VF h).1.2.2
  have:=VD 20 (.mk k s n e) (by omega)
  omega
theorem PF:∀ (N:Nat) (t:Ty),t.h<=N->fewT t=true->TySm t
  | 0,t,h,_=>absurd h (by have:=t.h_pos; omega)
  | N + 1,.mk k s n e,h,hf=>by
    obtain ⟨⟨_,h2,_⟩,h3⟩:=VF hf
    refine .mk (by omega) fun u hu=>PF N u ?_ (h3 u hu)
    have:=Ty.hs_mem hu; rw [Ty.h] at h; omega
theorem aEA:∀ (N:Nat) (t:Ty),t.h<=N->(cI t).1<=t.h
  | 0,t,h=>absurd h (by have:=t.h_pos; omega)
  | N + 1,.mk k s n e,h=>by
    cases c:(k == 5 && decide (0 < (e.length:Int))) with
    | false=>rw [E4 c]; exact Nat.zero_le _
    | true=>
      simp only [Bool.and_eq_true,beq_iff_eq,decide_eq_true_eq] at c
      obtain ⟨rfl,c⟩:=c
      cases e with
      | nil=>simp at c
      | cons u r=>
        rw [uT]
        have h2:=aEA N u (by rw [Ty.h,Ty.hs] at h; omega)
        rw [Ty.h,Ty.hs]; simp only; omega
def EO (N:Nat):List S->Prop:=fun av=>match av with
  | [.va (.gs q)]=>eK q/\(C.ty q).h<=N
  | _=>False
theorem lV {N:Nat} {av:List S} (h:EO N av):∃ t:Ty,av=[.va (.gs (aM t))]/\TyOk t/\t.h<=N:=by
  unfold EO at h
  split at h
  · obtain ⟨⟨t,rfl,ht⟩,h⟩:=h
    rw [eH] at h
    exact ⟨t,rfl,ht,h⟩
  · exact h.elim
noncomputable def UX:List S->A:=fun av=>match av with
  | [.va (.gs q)]=>bA (fewT (C.ty q))
  | _=>.gs []
noncomputable def MK (N:Nat):Fun:=⟨EO N,UX,fun av h=>by obtain ⟨a,rfl,_⟩:=lV h; trivial⟩
theorem SQ {N:Nat}:∀ av H K,(MK N).sp av H K->av.length=1:=fun av H K h=>by obtain ⟨a,rfl,_⟩:=lV h.1.1; rfl
attribute [go_sem] MK EO UX
theorem DF:∀ N,Meets Tryz.prog 19 (MK N).sp
  | 0=>⟨by kernel_rfl,by rintro xs vs E ro w K _ _ _ ⟨⟨h,_⟩,_⟩; obtain ⟨a,_,_,h⟩:=lV h; have:=a.h_pos; omega⟩
  | N + 1=>by
    refine aF Tryz.func19 aNZ 1 (by rw [Tryz.ntmps19]; decide) (aG (O6 20) (aG (DF N) (aA _))) SQ ?_
    rintro av H K ⟨⟨h,rfl⟩,hK⟩
    obtain ⟨t,rfl,ht,hN⟩:=lV h
    have hK:K (bS (fewT t)) []:=by
      have:(MK (N + 1)).val [.va (.gs (aM t))]=bA (fewT t):=by simp -dsimp only [go_sem]
      rw [this] at hK; exact hK
    clear h
    have hit:=dG ht
    obtain ⟨k,s,n,e⟩:=t
    have hte:=ht.e
    have hte2:=ht.len
    simp only [Ty.e] at hte hte2
    have fin:∀ (x:Bool) (R:Hp),fewT (.mk k s n e)=x->W.Fin 0 K (bS x) R:=fun x R h1=>by
      rw [h1] at hK
      exact .sel [] (by simp) (by simp) rfl (.done (by simpa [go_sem] using hK))
    have hcd:=eH (.mk k s n e)
    have hF:=fewT.eq_1 k s n e
    rw [aM,aS] at hit hcd
    generalize hlv:fM 20 (.mk k s n e)=lv at hF
    have hl20:=BT 20 (.mk k s n e)
    rw [hlv] at hl20
    have e20:((20:Nat):Int)=20:=rfl
    have hb20:(20<=1000)=True:=by simp
    simp (maxSteps:=1000000) -dsimp only [go_sem,aM,aS,aBX,aDV,hit,hcd,hlv,e20,hb20]
    refine ⟨fun h1=>fin false _ ?_,fun h1=>?_⟩
    · rw [hF]
      simp only [Bool.or_eq_true,decide_eq_true_eq] at h1
      rw [show (decide (40 < (bl n).length) || decide (3 < e.length) || decide (8 < lv))=true by simp only [Bool.or_eq_true,decide_eq_true_eq]; omega]; rfl
    have hF2:fewT (.mk k s n e)=e.all fewT:=by
      simp only [Bool.or_eq_false_iff,decide_eq_false_iff_not] at h1
      rw [hF,show (decide (40 < (bl n).length) || decide (3 < e.length) || decide (8 < lv))=false by simp only [Bool.or_eq_false_iff,decide_eq_false_iff_not]; omega,rJ]; rfl
    refine aK (α:=Nat) (fun i=>[(1,.va (.c1 (.pt 0 0))),(3,iS .i64 i)]) (fun i=>[.cells (aM (.mk k s n e)) 28])
      (fun i=>i<=e.length/\∀ u ∈ e.take i,fewT u=true) (fun i=>e.length - i) 0 1 ⟨Nat.zero_le _,fun u hu=>by cases hu⟩ ?_ ?_ ?_
    · simp -dsimp only [go_sem]<;>simp
    · simp -dsimp only [go_sem,aM,aS]
    rintro i ⟨hi,ho⟩
    rcases Nat.lt_or_ge i e.length with hlt | hge
    · have hg:decide ((i:Int) < (e.length:Int))=true:=by simp; omega
      obtain ⟨u,hx⟩:∃ t,e[i]? = some t:=⟨_,List.getElem?_eq_getElem hlt⟩
      have hum:=List.mem_of_getElem? hx
      have q1:=aO (row:=aM) hx
      have hu:eK (aM u):=dG (hte u hum)
      have huh:(u.h<=N)=True:=eq_true (by have:=Ty.hs_mem hum; rw [Ty.h] at hN; omega)
      simp (maxSteps:=1000000) -dsimp only [go_sem,hg,↓q1,aM,aS,gN,hu,huh]
      refine ⟨by omega,fun h1=>fin false _ ?_,fun h1=>?_⟩
      · rw [hF2,List.all_eq_false]; exact ⟨u,hum,by simpa using h1⟩
      · refine ⟨by omega,aC (i + 1) 1 ⟨by omega,fun v hv=>?_⟩ (by omega) ?_ ?_⟩
        · rw [fH hx] at hv
          rcases List.mem_append.1 hv with h | h
          · exact ho v h
          · obtain rfl:v=u:=by simpa using h
            simpa using h1
        · simp -dsimp only [go_sem]<;>simp
        · simp -dsimp only [go_sem,aM,aS]
    · have hg:decide ((i:Int) < (e.length:Int))=false:=by simp; omega
      obtain rfl:i=e.length:=by omega
      rw [List.take_length] at ho
      simp (maxSteps:=1000000) -dsimp only [go_sem,hg,aM,aS]
      exact fin true _ (by rw [hF2,List.all_eq_true]; exact ho)
noncomputable def f0Fn:Fun:=rZ eK C.ty fun t=>.bool (fewT t)
attribute [go_sem] f0Fn
theorem FK:Meets Tryz.prog 19 f0Fn.sp:=eM 0 DF fun av H K ⟨⟨h,e⟩,hK⟩=>by
  obtain ⟨_,rfl,t,rfl,ht⟩:=f7 h
  exact ⟨t.h,⟨⟨⟨dG ht,by rw [eH]; exact Nat.le_refl _⟩,e⟩,hK⟩⟩
end Go.Proofs.YtkpohmhenegkiaaGreatDoor
namespace Go.Proofs.YtkpohmhenegkiaaGreatDoor
open Go.W
def rB (e:En):Bool:=!(decide (40 < (bl e.nm).length) || decide (18 < e.ns.length) || decide (18 < e.vs.length)) && e.ns.all fun n=>!(decide (40 < (bl n).length))
def qM (f:Fl):Bool:=!(decide (40 < (bl f.nm).length) || !(fewT f.ty))
def nL (t:St):Bool:=!(decide (40 < (bl t.nm).length) || decide (18 < t.fs.length)) && t.fs.all qM
def kB (s:Sc):Bool:=!(decide (18 < s.es.length) || decide (18 < s.ss.length)) && (s.es.all rB && s.ss.all nL)
theorem B4 {s:Sc} (h:s.ok) (hf:kB s=true):s.fit:=by
  unfold kB at hf
  simp only [Bool.and_eq_true,List.all_eq_true,Bool.not_eq_true',Bool.or_eq_false_iff,decide_eq_false_iff_not] at hf
  obtain ⟨_,he,hs⟩:=hf
  have hfl:∀ t ∈ s.ss,t.fs.length<=18/\∀ f ∈ t.fs,fewT f.ty=true:=fun t ht=>by
    have:=hs t ht
    unfold nL at this
    simp only [Bool.and_eq_true,List.all_eq_true,Bool.not_eq_true',Bool.or_eq_false_iff,decide_eq_false_iff_not] at this
    refine ⟨by omega,fun f hf=>?_⟩
    have:=this.2 f hf
    unfold qM at this
    simp only [Bool.not_eq_true',Bool.or_eq_false_iff,Bool.not_eq_false'] at this
    exact this.2
  refine ⟨h,fun t ht f hf=>?_,fun t ht=>⟨by have:=(hfl t ht).1; omega,fun f hf=>PF _ _ (Nat.le_refl _) ((hfl t ht).2 f hf)⟩,fun e hm=>?_⟩
  · have h1:=aH7 ((hfl t ht).2 f hf)
    have h2:=aEA _ f.ty (Nat.le_refl _)
    omega
  · have:=he e hm
    unfold rB at this
    simp only [Bool.and_eq_true,List.all_eq_true,Bool.not_eq_true',Bool.or_eq_false_iff,decide_eq_false_iff_not] at this
    omega
theorem m4 {α:Type} {l:List α} {i:Nat} {x:α} (hx:l[i]? = some x) (p:α->Bool):(l.drop i).all p=(p x && (l.drop (i + 1)).all p):=by
  obtain ⟨h,rfl⟩:=List.getElem?_eq_some_iff.1 hx
  rw [List.drop_eq_getElem_cons h,List.all_cons]
theorem oH {α:Type} {l:List α} (p:α->Bool):(l.drop l.length).all p=true:=by rw [List.drop_length]; rfl
theorem aNS:Meets Tryz.prog 18 (rZ pX C.sc fun s=>.bool (kB s)).sp:=by
  refine aF Tryz.func18 aNY 1 (by rw [Tryz.ntmps18]; decide) (aG FK (aA _)) oT ?_
  rintro av H K ⟨⟨h,rfl⟩,hK⟩
  obtain ⟨_,rfl,s,rfl,hs⟩:=f7 h
  have hK:K (bS (kB s)) []:=by
    have:(rZ pX C.sc fun s=>.bool (kB s)).val [.va (.gs (aE s))]=bA (kB s):=by simp -dsimp only [go_sem]
    rw [this] at hK; exact hK
  clear h
  obtain ⟨hv,hle,hls,hes,hss⟩:=hs
  have fin:∀ (x:Bool) (R:Hp),kB s=x->W.Fin 0 K (bS x) R:=fun x R h1=>by
    rw [h1] at hK
    exact .sel [] (by simp) (by simp) rfl (.done (by simpa [go_sem] using hK))
  simp (maxSteps:=1000000) -dsimp only [go_sem,aE,aAG,aCQ]
  refine ⟨fun h1=>fin false _ ?_,fun h1=>?_⟩
  · unfold kB
    rw [show (decide (18 < s.es.length) || decide (18 < s.ss.length))=true by simp only [Bool.or_eq_true,decide_eq_true_eq] at h1 ⊢; omega]; rfl
  have hF:kB s=(s.es.all rB && s.ss.all nL):=by
    unfold kB
    rw [show (decide (18 < s.es.length) || decide (18 < s.ss.length))=false by simp only [Bool.or_eq_false_iff,decide_eq_false_iff_not] at h1 ⊢; omega]; rfl
  refine aK (α:=Nat) (fun i=>[(1,.va (.c1 (.pt 0 0))),(3,iS .i64 i)]) (fun _=>[.cells (aE s) 25])
    (fun i=>i<=s.es.length/\(s.es.drop i).all rB=s.es.all rB) (fun i=>s.es.length - i) 0 1 ⟨Nat.zero_le _,rfl⟩ ?_ ?_ ?_
  · simp -dsimp only [go_sem]<;>simp
  · simp -dsimp only [go_sem,aE]<;>simp
  rintro i ⟨hi,ho⟩
  rcases Nat.lt_or_ge i s.es.length with hlt | hge
  · have hg:decide ((i:Int) < (s.es.length:Int))=true:=by simp; omega
    obtain ⟨e,hx⟩:∃ e,s.es[i]? = some e:=⟨_,List.getElem?_eq_getElem hlt⟩
    have hem:=List.mem_of_getElem? hx
    have q1:=aO (row:=aX) hx
    obtain ⟨_,hln,hlv,_,_⟩:=hes e hem
    rw [m4 hx] at ho
    have bad:rB e=false->∀ R,W.Fin 0 K (bS false) R:=fun h R=>fin false R (by rw [hF,<-ho,h]; rfl)
    have cst:∀ (a b:Nat),decide ((a:Int) < (b:Int))=decide (a < b):=fun a b=>by simp
    have hE:rB e=(!(decide (40 < ((bl e.nm).length:Int)) || decide (18 < (e.ns.length:Int)) || decide (18 < (e.vs.length:Int))) && e.ns.all fun n=>!(decide (40 < ((bl n).length:Int)))):=by
      unfold rB
      have c40:∀ b:Nat,decide (40 < (b:Int))=decide (40 < b):=fun b=>by simp; omega
      have c18:∀ b:Nat,decide (18 < (b:Int))=decide (18 < b):=fun b=>by simp; omega
      simp only [c40,c18]
    cases d1:decide (40 < ((bl e.nm).length:Int)) with
    | true=>
      rw [d1] at hE
      simp (maxSteps:=1000000) -dsimp only [go_sem,hg,↓q1,aX,aE,d1]
      exact ⟨by omega,bad hE _⟩
    | false=>
    cases d2:decide (18 < (e.ns.length:Int)) with
    | true=>
      rw [d1,d2] at hE
      simp (maxSteps:=1000000) -dsimp only [go_sem,hg,↓q1,aX,aE,d1,d2]
      exact ⟨by omega,by omega,bad hE _⟩
    | false=>
    cases d3:decide (18 < (e.vs.length:Int)) with
    | true=>
      rw [d1,d2,d3] at hE
      simp (maxSteps:=1000000) -dsimp only [go_sem,hg,↓q1,aX,aE,d1,d2,d3]
      exact ⟨by omega,by omega,by omega,bad hE _⟩
    | false=>
      rw [d1,d2,d3] at hE
      simp only [Bool.or_self,Bool.not_false,Bool.true_and] at hE
      simp (maxSteps:=1000000) -dsimp only [go_sem,hg,↓q1,aX,aE,d1,d2,d3]
      refine ⟨by omega,by omega,by omega,?_⟩
      refine aK (α:=Nat) (fun k=>[(1,.va (.c1 (.pt 0 0))),(3,iS .i64 i),(4,iS .i64 k)]) (fun _=>[.cells (aE s) 25])
        (fun k=>k<=e.ns.length/\((e.ns.drop k).all fun n=>!(decide (40 < ((bl n).length:Int))))=e.ns.all fun n=>!(decide (40 < ((bl n).length:Int)))) (fun k=>e.ns.length - k) 0 1 ⟨Nat.zero_le _,rfl⟩ ?_ ?_ ?_
      · simp -dsimp only [go_sem]<;>simp
      · simp -dsimp only [go_sem,aE]<;>simp
      rintro k ⟨hk,ho2⟩
      rcases Nat.lt_or_ge k e.ns.length with hkt | hkg
      · have hgk:decide ((k:Int) < (e.ns.length:Int))=true:=by simp; omega
        obtain ⟨n,hn⟩:∃ n,e.ns[k]? = some n:=⟨_,List.getElem?_eq_getElem hkt⟩
        have q2:=aO (row:=bB) hn
        rw [m4 hn] at ho2
        simp (maxSteps:=1000000) -dsimp only [go_sem,↓q1,aX,aE,hgk]
        simp (maxSteps:=1000000) -dsimp only [go_sem,hn,Option.some.injEq,forall_eq']
        refine ⟨by omega,by omega,by omega,fun h2=>bad (by rw [hE,<-ho2,h2]; rfl) _,fun h2=>?_⟩
        rw [h2] at ho2
        refine ⟨by omega,aC (k + 1) 1 ⟨by omega,by simpa using ho2⟩ (by omega) ?_ ?_⟩
        · simp -dsimp only [go_sem]<;>simp
        · simp -dsimp only [go_sem,aE]<;>simp
      · have hgk:decide ((k:Int) < (e.ns.length:Int))=false:=by simp; omega
        obtain rfl:k=e.ns.length:=by omega
        rw [oH] at ho2
        rw [hE,<-ho2,Bool.true_and] at ho
        simp (maxSteps:=1000000) -dsimp only [go_sem,↓q1,aX,aE,hgk]
        refine ⟨by omega,by omega,aC (i + 1) 1 ⟨by omega,ho⟩ (by omega) ?_ ?_⟩
        · simp -dsimp only [go_sem]<;>simp
        · simp -dsimp only [go_sem,aE]<;>simp
  · have hg:decide ((i:Int) < (s.es.length:Int))=false:=by simp; omega
    obtain rfl:i=s.es.length:=by omega
    rw [oH] at ho
    rw [<-ho,Bool.true_and] at hF
    simp (maxSteps:=1000000) -dsimp only [go_sem,hg,aE]
    clear ho hi hge hg
    refine aK (α:=Nat) (fun i=>[(1,.va (.c1 (.pt 0 0))),(5,iS .i64 i)]) (fun _=>[.cells (aE s) 25])
      (fun i=>i<=s.ss.length/\(s.ss.drop i).all nL=s.ss.all nL) (fun i=>s.ss.length - i) 0 1 ⟨Nat.zero_le _,rfl⟩ ?_ ?_ ?_
    · simp -dsimp only [go_sem]<;>simp
    · simp -dsimp only [go_sem,aE]<;>simp
    rintro i ⟨hi,ho⟩
    rcases Nat.lt_or_ge i s.ss.length with hlt | hge
    · have hg:decide ((i:Int) < (s.ss.length:Int))=true:=by simp; omega
      obtain ⟨e,hx⟩:∃ e,s.ss[i]? = some e:=⟨_,List.getElem?_eq_getElem hlt⟩
      have hem:=List.mem_of_getElem? hx
      have q1:=aO (row:=aL) hx
      obtain ⟨_,hln,hfs⟩:=hss e hem
      rw [m4 hx] at ho
      have bad:nL e=false->∀ R,W.Fin 0 K (bS false) R:=fun h R=>fin false R (by rw [hF,<-ho,h]; rfl)
      have hE:nL e=(!(decide (40 < ((bl e.nm).length:Int)) || decide (18 < (e.fs.length:Int))) && e.fs.all qM):=by
        unfold nL
        have c40:∀ b:Nat,decide (40 < (b:Int))=decide (40 < b):=fun b=>by simp; omega
        have c18:∀ b:Nat,decide (18 < (b:Int))=decide (18 < b):=fun b=>by simp; omega
        simp only [c40,c18]
      cases d1:decide (40 < ((bl e.nm).length:Int)) with
      | true=>
        rw [d1] at hE
        simp (maxSteps:=1000000) -dsimp only [go_sem,hg,↓q1,aL,aE,d1]
        exact ⟨by omega,bad hE _⟩
      | false=>
      cases d2:decide (18 < (e.fs.length:Int)) with
      | true=>
        rw [d1,d2] at hE
        simp (maxSteps:=1000000) -dsimp only [go_sem,hg,↓q1,aL,aE,d1,d2]
        exact ⟨by omega,by omega,bad hE _⟩
      | false=>
        rw [d1,d2] at hE
        simp only [Bool.or_self,Bool.not_false,Bool.true_and] at hE
        simp (maxSteps:=1000000) -dsimp only [go_sem,hg,↓q1,aL,aE,d1,d2]
        refine ⟨by omega,by omega,?_⟩
        refine aK (α:=Nat) (fun k=>[(1,.va (.c1 (.pt 0 0))),(5,iS .i64 i),(6,iS .i64 k)]) (fun _=>[.cells (aE s) 25])
          (fun k=>k<=e.fs.length/\(e.fs.drop k).all qM=e.fs.all qM) (fun k=>e.fs.length - k) 0 1 ⟨Nat.zero_le _,rfl⟩ ?_ ?_ ?_
        · simp -dsimp only [go_sem]<;>simp
        · simp -dsimp only [go_sem,aE]<;>simp
        rintro k ⟨hk,ho2⟩
        rcases Nat.lt_or_ge k e.fs.length with hkt | hkg
        · have hgk:decide ((k:Int) < (e.fs.length:Int))=true:=by simp; omega
          obtain ⟨f,hn⟩:∃ n,e.fs[k]? = some n:=⟨_,List.getElem?_eq_getElem hkt⟩
          have q2:=aO (row:=aR) hn
          have hity:eK (aM f.ty):=dG (hfs f (List.mem_of_getElem? hn)).ty
          rw [m4 hn] at ho2
          have hFl:qM f=!(decide (40 < ((bl f.nm).length:Int)) || !(fewT f.ty)):=by
            unfold qM
            have c40:∀ b:Nat,decide (40 < (b:Int))=decide (40 < b):=fun b=>by simp; omega
            simp only [c40]
          cases d3:decide (40 < ((bl f.nm).length:Int)) with
          | true=>
            rw [d3] at hFl
            simp (maxSteps:=1000000) -dsimp only [go_sem,↓q1,aL,aE,hgk]
            simp (maxSteps:=1000000) -dsimp only [go_sem,aR,hn,Option.some.injEq,forall_eq',d3]
            refine ⟨by omega,by omega,by omega,bad (by rw [hE,<-ho2,hFl]; rfl) _⟩
          | false=>
            rw [d3] at hFl
            simp only [Bool.false_or,Bool.not_not] at hFl
            rw [hFl] at ho2
            simp (maxSteps:=1000000) -dsimp only [go_sem,↓q1,aL,aE,hgk]
            simp (maxSteps:=1000000) -dsimp only [go_sem,aR,sX,hity,hn,Option.some.injEq,forall_eq',d3]
            refine ⟨by omega,by omega,by omega,by omega,by omega,fun h2=>bad (by rw [hE,<-ho2,h2]; rfl) _,fun h2=>?_⟩
            rw [show fewT f.ty=true by simpa using h2,Bool.true_and] at ho2
            refine ⟨by omega,aC (k + 1) 1 ⟨by omega,ho2⟩ (by omega) ?_ ?_⟩
            · simp -dsimp only [go_sem]<;>simp
            · simp -dsimp only [go_sem,aE]<;>simp
        · have hgk:decide ((k:Int) < (e.fs.length:Int))=false:=by simp; omega
          obtain rfl:k=e.fs.length:=by omega
          rw [oH] at ho2
          rw [hE,<-ho2,Bool.true_and] at ho
          simp (maxSteps:=1000000) -dsimp only [go_sem,↓q1,aL,aE,hgk]
          refine ⟨by omega,by omega,aC (i + 1) 1 ⟨by omega,ho⟩ (by omega) ?_ ?_⟩
          · simp -dsimp only [go_sem]<;>simp
          · simp -dsimp only [go_sem,aE]<;>simp
    · have hg:decide ((i:Int) < (s.ss.length:Int))=false:=by simp; omega
      obtain rfl:i=s.ss.length:=by omega
      rw [oH] at ho
      simp (maxSteps:=1000000) -dsimp only [go_sem,hg,aE]
      exact fin true _ (by rw [hF,<-ho])
end Go.Proofs.YtkpohmhenegkiaaGreatDoor
namespace Go.Proofs.YtkpohmhenegkiaaGreatDoor
open Go.W
def QT:PC:=.seq (.reg [.e 3 (.bx 25 (.t 0)),.e 4 (.bx 28 (.t 1)),.e 5 (.bx 32 (.t 2)),.q 6 (.mv (.i 0))]) (.seq (.seq (.reg [.l 7 (.ldn 5 (.t 5)),.a 8 (.cq 52 [(.t 7),(.i 6)]),.q 9 (.bin .gtr true (.t 8) (.i 6))]) (.cond (.t 9) (.seq (.reg [.q 6 (.mv (.i 9))]) .ret) .skip)) (.seq (.reg [.l 10 (.ldn 3 (.t 3)),.q 11 (.bd [(.int .i64 0),(.slice none 0 0),(.slice none 0 0)] [(0,3,(.t 10))]),.l 12 (.ldn 4 (.t 4)),.l 13 (.ldn 5 (.t 5)),.a 14 (.cq 53 [(.t 11),(.t 12),(.t 13)]),.v 6 14]) .ret))
def SZ:List RV:=[.mv (.t 6)]
theorem aNI:aN Tryz.prog true ⟨fun r k=>if r=1/\k=1 then .q else if r=3/\k=4 then .q else .own [],fun _=>false⟩ Tryz.f23=some (QT,SZ):=by kernel_rfl
def TQ:PC:=.seq (.reg [.e 2 (.bx 32 (.t 0)),.q 4 (.mv (.i 0))]) (.seq (.seq (.reg [.q 10 (.fa 0 (.t 2)),.l 11 (.ld1 (.t 10)),.q 12 (.bin .neq true (.t 11) (.i 5)),.v 13 12,⟨some 14,(some (13,true)),.q (.fa 0 (.t 2))⟩,⟨some 15,(some (13,true)),.l (.ld1 (.t 14))⟩,⟨some 16,(some (13,true)),.q (.bin .neq true (.t 15) (.i 6))⟩,.a 17 (.pick (.t 13) (.t 16) (.k (.bool false))),.v 18 17,⟨some 19,(some (18,true)),.q (.fa 3 (.t 2))⟩,⟨some 20,(some (18,true)),.l (.ld1 (.t 19))⟩,⟨some 21,(some (18,true)),.q (.lnL (.t 20))⟩,⟨some 22,(some (18,true)),.q (.bin .eql true (.t 21) (.i 0))⟩,.a 23 (.pick (.t 18) (.t 22) (.k (.bool false))),.v 24 23,⟨some 25,(some (24,true)),.q (.fa 4 (.t 2))⟩,⟨some 26,(some (24,true)),.l (.ld1 (.t 25))⟩,⟨some 27,(some (24,true)),.q (.lnL (.t 26))⟩,⟨some 28,(some (24,true)),.q (.bin .eql true (.t 27) (.i 0))⟩,.a 29 (.pick (.t 24) (.t 28) (.k (.bool false)))]) (.cond (.t 29) (.seq (.reg [.q 4 (.mv (.i 0))]) .ret) .skip)) (.seq (.reg [.q 5 (.mv (.i 0))]) (.seq (.seq (.reg [.q 30 (.fa 3 (.t 2)),.l 31 (.ld1 (.t 30)),.q 32 (.lnL (.t 31)),.q 33 (.mv (.i 0))]) (.block 0 (.loop (.seq (.reg [.q 34 (.bin .lss true (.t 33) (.t 32))]) (.seq (.cond (.t 34) .skip (.exit 0)) (.seq (.block 1 (.seq (.reg [.l 35 (.ia 5 (.t 31) (.t 33)),.l 36 (.ldn 5 (.t 35)),.e 7 (.al (.agg #[(.int .i64 0),(.int .i64 0),(.string (mk [])),(.slice none 0 0),(.slice none 0 0)]) 32),.s (.st 5 (.t 7) (.t 36))]) (.seq (.reg [.v 37 5,.v 38 1,.q 39 (.bin .leq true (.t 37) (.t 38))]) (.cond (.t 39) (.reg [.v 40 5,.l 41 (.ldn 5 (.t 7)),.v 42 1,.q 43 (.bin .sub true (.t 42) (.i 1)),.a 44 (.cq 52 [(.t 41),(.t 43)]),.q 45 (.mx true (.t 40) (.t 44)),.v 5 45]) .skip)))) (.reg [.q 46 (.bin .add true (.t 33) (.i 1)),.v 33 46]))))))) (.seq (.seq (.reg [.q 47 (.fa 4 (.t 2)),.l 48 (.ld1 (.t 47)),.q 49 (.lnL (.t 48)),.q 50 (.mv (.i 0))]) (.block 2 (.loop (.seq (.reg [.q 51 (.bin .lss true (.t 50) (.t 49))]) (.seq (.cond (.t 51) .skip (.exit 2)) (.seq (.block 3 (.seq (.reg [.l 52 (.ia 6 (.t 48) (.t 50)),.l 53 (.ldn 6 (.t 52)),.e 9 (.al (.agg #[(.int .i64 0),(.int .i64 0),(.int .i64 0),(.string (mk [])),(.slice none 0 0),(.slice none 0 0)]) 57),.s (.st 6 (.t 9) (.t 53))]) (.seq (.reg [.v 54 5,.v 55 1,.q 56 (.bin .leq true (.t 54) (.t 55))]) (.cond (.t 56) (.reg [.v 57 5,.q 58 (.fa 1 (.t 9)),.l 59 (.ldn 5 (.t 58)),.v 60 1,.q 61 (.bin .sub true (.t 60) (.i 1)),.a 62 (.cq 52 [(.t 59),(.t 61)]),.q 63 (.mx true (.t 57) (.t 62)),.v 5 63]) .skip)))) (.reg [.q 64 (.bin .add true (.t 50) (.i 1)),.v 50 64]))))))) (.seq (.reg [.v 65 5,.q 66 (.bin .add true (.i 1) (.t 65)),.v 4 66]) .ret)))))
def TR:List RV:=[.mv (.t 4)]
theorem aN3:aN Tryz.prog true ⟨fun r k=>if r=8/\k=4 then .q else if r=14/\k=5 then .q else .own [],fun _=>false⟩ Tryz.f52=some (TQ,TR):=by kernel_rfl
def u0:PC:=.seq (.reg [.e 3 (.bx 105 (.t 0)),.e 4 (.bx 28 (.t 1)),.e 5 (.bx 32 (.t 2)),.q 6 (.mv (.i 0))]) (.seq (.seq (.reg [.l 8 (.ldn 3 (.t 3)),.l 9 (.ldn 4 (.t 4)),.a 10 (.cq 90 [(.t 8),(.t 9)]),.q 11 (.not (.t 10)),.v 12 11,⟨some 13,(some (12,false)),.q (.fa 0 (.t 5))⟩,⟨some 14,(some (12,false)),.l (.ld1 (.t 13))⟩,⟨some 15,(some (12,false)),.q (.fa 0 (.t 4))⟩,⟨some 16,(some (12,false)),.l (.ld1 (.t 15))⟩,⟨some 17,(some (12,false)),.q (.bin .neq true (.t 14) (.t 16))⟩,.a 18 (.pick (.t 12) (.k (.bool true)) (.t 17))]) (.cond (.t 18) (.seq (.reg [.q 6 (.mv (.i 13))]) .ret) .skip)) (.seq (.reg [.l 19 (.ldn 3 (.t 3)),.q 20 (.mh 91 [(.t 19)]),.v 7 20]) (.seq (.seq (.reg [.q 21 (.fa 0 (.t 4)),.l 22 (.ld1 (.t 21))]) (.block 0 (.seq (.reg [.q 24 (.bin .eql true (.t 22) (.i 4)),.v 23 24]) (.cond (.t 23) (.reg [.l 25 (.ldn 3 (.t 3)),.q 26 (.mh 92 [(.t 25)]),.v 7 26]) (.seq (.reg [.q 28 (.bin .eql true (.t 22) (.i 5)),.v 27 28]) (.cond (.t 27) (.reg [.l 29 (.ldn 3 (.t 3)),.q 30 (.mh 93 [(.t 29)]),.v 7 30]) (.seq (.reg [.q 32 (.bin .eql true (.t 22) (.i 6)),.v 31 32]) (.cond (.t 31) (.reg [.l 33 (.ldn 3 (.t 3)),.q 34 (.mh 94 [(.t 33)]),.v 7 34]) .skip)))))))) (.seq (.reg [.v 35 7,.l 36 (.ldn 4 (.t 4)),.l 37 (.ldn 5 (.t 5)),.a 38 (.ca (.t 35) [(.t 36),(.t 37)] []),.v 6 38]) .ret))))
def wP:List RV:=[.mv (.t 6)]
theorem aNW:aN Tryz.prog true ⟨fun r k=>if r=1/\k=2 then .q else .own [],fun _=>false⟩ Tryz.f53=some (u0,wP):=by kernel_rfl
def aDR:PC:=.seq (.reg [.e 2 (.bx 25 (.t 0)),.e 3 (.bx 28 (.t 1)),.e 4 (.al (.agg #[(.int .i64 0),(.int .i64 0),(.string (mk [])),(.slice none 0 0),(.slice none 0 0)]) 32)]) (.seq (.reg [.l 5 (.ldn 3 (.t 2)),.q 6 (.bd [(.int .i64 0),(.slice none 0 0),(.slice none 0 0)] [(0,3,(.t 5))]),.l 7 (.ldn 4 (.t 3)),.a 8 (.cl 114 [(.t 6),(.t 7),(.i 22)] []),.s (.st 5 (.t 4) (.t 8))]) .ret)
def aAE:List RV:=[.ld (.ldn 5 (.t 4))]
theorem aLO:aN Tryz.prog true ⟨fun _ _=>.own [],fun _=>false⟩ Tryz.f71=some (aDR,aAE):=by kernel_rfl
def m2:PC:=.seq (.gh (.reg [.v 31 5,.v 32 31,⟨some 33,(some (32,true)),.q (.fa 1 (.t 3))⟩,⟨some 34,(some (32,true)),.l (.ld1 (.t 33))⟩,⟨some 35,(some (32,true)),.q (.bin .eql true (.t 34) (.i 8))⟩,⟨some 36,(some (32,true)),.q (.mv (.t 35))⟩,⟨some 37,(some (36,false)),.q (.fa 1 (.t 3))⟩,⟨some 38,(some (36,false)),.l (.ld1 (.t 37))⟩,⟨some 39,(some (36,false)),.q (.bin .eql true (.t 38) (.i 16))⟩,⟨some 40,(some (32,true)),.pick (.t 36) (.k (.bool true)) (.t 39)⟩,⟨some 41,(some (32,true)),.q (.mv (.t 40))⟩,⟨some 42,(some (41,false)),.q (.fa 1 (.t 3))⟩,⟨some 43,(some (41,false)),.l (.ld1 (.t 42))⟩,⟨some 44,(some (41,false)),.q (.bin .eql true (.t 43) (.i 32))⟩,⟨some 45,(some (32,true)),.pick (.t 41) (.k (.bool true)) (.t 44)⟩,⟨some 46,(some (32,true)),.q (.mv (.t 45))⟩,⟨some 47,(some (46,false)),.q (.fa 1 (.t 3))⟩,⟨some 48,(some (46,false)),.l (.ld1 (.t 47))⟩,⟨some 49,(some (46,false)),.q (.bin .eql true (.t 48) (.i 64))⟩,⟨some 50,(some (32,true)),.pick (.t 46) (.k (.bool true)) (.t 49)⟩,.a 51 (.pick (.t 32) (.t 50) (.k (.bool false))),.v 4 51])) .ret
@[go_sem ↓] theorem aOG:aT m2:=aU _
def oY:PC:=.seq (.gh (.reg [.v 54 5,.v 55 54,⟨some 56,(some (55,true)),.q (.fa 1 (.t 3))⟩,⟨some 57,(some (55,true)),.l (.ld1 (.t 56))⟩,⟨some 58,(some (55,true)),.q (.bin .eql true (.t 57) (.i 8))⟩,⟨some 59,(some (55,true)),.q (.mv (.t 58))⟩,⟨some 60,(some (59,false)),.q (.fa 1 (.t 3))⟩,⟨some 61,(some (59,false)),.l (.ld1 (.t 60))⟩,⟨some 62,(some (59,false)),.q (.bin .eql true (.t 61) (.i 16))⟩,⟨some 63,(some (55,true)),.pick (.t 59) (.k (.bool true)) (.t 62)⟩,⟨some 64,(some (55,true)),.q (.mv (.t 63))⟩,⟨some 65,(some (64,false)),.q (.fa 1 (.t 3))⟩,⟨some 66,(some (64,false)),.l (.ld1 (.t 65))⟩,⟨some 67,(some (64,false)),.q (.bin .eql true (.t 66) (.i 32))⟩,⟨some 68,(some (55,true)),.pick (.t 64) (.k (.bool true)) (.t 67)⟩,.a 69 (.pick (.t 55) (.t 68) (.k (.bool false))),.v 4 69])) .ret
@[go_sem ↓] theorem aLC:aT oY:=aU _
def j0:PC:=.seq (.gh (.reg [.q 85 (.fa 2 (.t 3)),.l 86 (.ld1 (.t 85)),.q 87 (.bin .eql true (.t 86) (.k (.string (mk [])))),.v 88 87,⟨some 89,(some (88,true)),.q (.fa 1 (.t 3))⟩,⟨some 90,(some (88,true)),.l (.ld1 (.t 89))⟩,⟨some 91,(some (88,true)),.q (.bin .geq true (.t 90) (.i 1))⟩,.a 92 (.pick (.t 88) (.t 91) (.k (.bool false))),.v 93 92,⟨some 94,(some (93,true)),.q (.fa 1 (.t 3))⟩,⟨some 95,(some (93,true)),.l (.ld1 (.t 94))⟩,⟨some 96,(some (93,true)),.q (.bin .leq true (.t 95) (.i 32))⟩,.a 97 (.pick (.t 93) (.t 96) (.k (.bool false))),.v 98 97,⟨some 99,(some (98,true)),.q (.fa 3 (.t 3))⟩,⟨some 100,(some (98,true)),.l (.ld1 (.t 99))⟩,⟨some 101,(some (98,true)),.q (.lnL (.t 100))⟩,⟨some 102,(some (98,true)),.q (.bin .eql true (.t 101) (.i 1))⟩,.a 103 (.pick (.t 98) (.t 102) (.k (.bool false))),.v 104 103,⟨some 105,(some (104,true)),.l (.ldn 3 (.t 2))⟩,⟨some 106,(some (104,true)),.q (.fa 3 (.t 3))⟩,⟨some 107,(some (104,true)),.l (.ld1 (.t 106))⟩,⟨some 108,(some (104,true)),.l (.ia 4 (.t 107) (.i 0))⟩,⟨some 109,(some (104,true)),.l (.ldn 4 (.t 108))⟩,⟨some 110,(some (104,true)),.cq 90 [(.t 105),(.t 109)]⟩,.a 111 (.pick (.t 104) (.t 110) (.k (.bool false))),.v 4 111])) .ret
@[go_sem ↓] theorem aJP:aT j0:=aU _
def A2:PC:=.seq (.gh (.reg [.v 122 7,.v 123 122,⟨some 124,(some (123,true)),.q (.fa 1 (.t 3))⟩,⟨some 125,(some (123,true)),.l (.ld1 (.t 124))⟩,⟨some 126,(some (123,true)),.q (.bin .eql true (.t 125) (.i 0))⟩,.a 127 (.pick (.t 123) (.t 126) (.k (.bool false))),.v 128 127,⟨some 129,(some (128,true)),.q (.fa 3 (.t 3))⟩,⟨some 130,(some (128,true)),.l (.ld1 (.t 129))⟩,⟨some 131,(some (128,true)),.q (.lnL (.t 130))⟩,⟨some 132,(some (128,true)),.q (.bin .eql true (.t 131) (.i 0))⟩,.a 133 (.pick (.t 128) (.t 132) (.k (.bool false))),.v 4 133])) .ret
@[go_sem ↓] theorem aI0:aT A2:=aU _
def AZ:PC:=.seq (.gh (.reg [.q 115 (.fa 0 (.t 2)),.l 116 (.ldn 3 (.t 115)),.q 117 (.fa 2 (.t 3)),.l 118 (.ld1 (.t 117)),.a 119 (.cl 103 [(.t 116),(.t 118)] []),.v 114 119,.q 120 (.ex (.t 114) 0),.q 121 (.ex (.t 114) 1),.e 6 (.al (.agg #[(.string (mk [])),(.slice none 0 0)]) 95),.s (.st 2 (.t 6) (.t 120)),.v 7 121])) (A2)
@[go_sem ↓] theorem aI8:aT AZ:=aU _
def AS:PC:=.seq (.gh (.reg [.v 144 9,.v 145 144,⟨some 146,(some (145,true)),.q (.fa 1 (.t 3))⟩,⟨some 147,(some (145,true)),.l (.ld1 (.t 146))⟩,⟨some 148,(some (145,true)),.q (.bin .eql true (.t 147) (.i 0))⟩,.a 149 (.pick (.t 145) (.t 148) (.k (.bool false))),.v 150 149,⟨some 151,(some (150,true)),.q (.fa 3 (.t 3))⟩,⟨some 152,(some (150,true)),.l (.ld1 (.t 151))⟩,⟨some 153,(some (150,true)),.q (.lnL (.t 152))⟩,⟨some 154,(some (150,true)),.q (.bin .eql true (.t 153) (.i 0))⟩,.a 155 (.pick (.t 150) (.t 154) (.k (.bool false))),.v 4 155])) .ret
@[go_sem ↓] theorem aJ3:aT AS:=aU _
def BA:PC:=.seq (.gh (.reg [.q 137 (.fa 0 (.t 2)),.l 138 (.ldn 3 (.t 137)),.q 139 (.fa 2 (.t 3)),.l 140 (.ld1 (.t 139)),.a 141 (.cl 98 [(.t 138),(.t 140)] []),.v 136 141,.q 142 (.ex (.t 136) 0),.q 143 (.ex (.t 136) 1),.e 8 (.al (.agg #[(.string (mk [])),(.slice none 0 0),(.slice none 0 0)]) 92),.s (.st 3 (.t 8) (.t 142)),.v 9 143])) (AS)
@[go_sem ↓] theorem aJI:aT BA:=aU _
def AG:PC:=.seq (.gh (.reg [.q 135 (.bin .eql true (.t 20) (.i 7)),.v 134 135])) (.cond (.t 134) (BA) .skip)
@[go_sem ↓] theorem aJT:aT AG:=aU _
def A3:PC:=.seq (.gh (.reg [.q 113 (.bin .eql true (.t 20) (.i 6)),.v 112 113])) (.cond (.t 112) (AZ) (AG))
@[go_sem ↓] theorem aJK:aT A3:=aU _
def B3:PC:=.seq (.gh (.reg [.q 84 (.bin .eql true (.t 20) (.i 5)),.v 83 84])) (.cond (.t 83) (j0) (A3))
@[go_sem ↓] theorem aIX:aT B3:=aU _
def GO:PC:=.seq (.gh (.reg [.q 71 (.bin .eql true (.t 20) (.i 4)),.v 70 71])) (.cond (.t 70) (.seq (.reg [.v 72 5,.v 73 72,⟨some 74,(some (73,true)),.q (.fa 1 (.t 3))⟩,⟨some 75,(some (73,true)),.l (.ld1 (.t 74))⟩,⟨some 76,(some (73,true)),.q (.bin .geq true (.t 75) (.i 1))⟩,.a 77 (.pick (.t 73) (.t 76) (.k (.bool false))),.v 78 77,⟨some 79,(some (78,true)),.q (.fa 1 (.t 3))⟩,⟨some 80,(some (78,true)),.l (.ld1 (.t 79))⟩,⟨some 81,(some (78,true)),.q (.bin .leq true (.t 80) (.i 2000))⟩,.a 82 (.pick (.t 78) (.t 81) (.k (.bool false))),.v 4 82]) .ret) (B3))
@[go_sem ↓] theorem aMP:aT GO:=aU _
def E0:PC:=.seq (.gh (.reg [.q 53 (.bin .eql true (.t 20) (.i 3)),.v 52 53])) (.cond (.t 52) (oY) (GO))
@[go_sem ↓] theorem aOM:aT E0:=aU _
def FS:PC:=.seq (.gh (.reg [.q 30 (.bin .eql true (.t 20) (.i 2)),.v 29 30])) (.cond (.t 29) (m2) (E0))
@[go_sem ↓] theorem aM1:aT FS:=aU _
def aDY:PC:=.seq (.reg [.e 2 (.bx 105 (.t 0)),.e 3 (.bx 28 (.t 1)),.q 4 (.mv (.k (.bool false)))]) (.seq (.reg [.q 10 (.fa 2 (.t 3)),.l 11 (.ld1 (.t 10)),.q 12 (.bin .eql true (.t 11) (.k (.string (mk [])))),.v 13 12,⟨some 14,(some (13,true)),.q (.fa 3 (.t 3))⟩,⟨some 15,(some (13,true)),.l (.ld1 (.t 14))⟩,⟨some 16,(some (13,true)),.q (.lnL (.t 15))⟩,⟨some 17,(some (13,true)),.q (.bin .eql true (.t 16) (.i 0))⟩,.a 18 (.pick (.t 13) (.t 17) (.k (.bool false))),.v 5 18]) (.seq (.seq (.reg [.q 19 (.fa 0 (.t 3)),.l 20 (.ld1 (.t 19))]) (.block 0 (.seq (.reg [.q 22 (.bin .eql true (.t 20) (.i 1)),.v 21 22]) (.cond (.t 21) (.seq (.reg [.v 23 5,.v 24 23,⟨some 25,(some (24,true)),.q (.fa 1 (.t 3))⟩,⟨some 26,(some (24,true)),.l (.ld1 (.t 25))⟩,⟨some 27,(some (24,true)),.q (.bin .eql true (.t 26) (.i 0))⟩,.a 28 (.pick (.t 24) (.t 27) (.k (.bool false))),.v 4 28]) .ret) (FS))))) (.seq (.reg [.q 4 (.mv (.k (.bool false)))]) .ret)))
def aD0:List RV:=[.mv (.t 4)]
theorem aM4:aN Tryz.prog true ⟨fun r k=>if r=12/\k=25 then .q else .own [],fun r=>[5,6,7,8,9,11,12,13,14,15,16,17,18].contains r⟩ Tryz.f90=some (aDY,aD0):=by kernel_rfl
def EU:PC:=.gh (.reg [.q 29 (.fa 1 (.t 5)),.l 30 (.ld1 (.t 29)),.q 31 (.bin .eql true (.t 30) (.i 0)),.v 32 31,⟨some 33,(some (32,false)),.q (.fa 1 (.t 5))⟩,⟨some 34,(some (32,false)),.l (.ld1 (.t 33))⟩,⟨some 35,(some (32,false)),.q (.bin .eql true (.t 34) (.i 1))⟩,.a 36 (.pick (.t 32) (.k (.bool true)) (.t 35)),.v 7 36])
@[go_sem ↓] theorem aOE:aT EU:=aU _
def zN:PC:=.gh (.reg [.q 39 (.fa 1 (.t 4)),.l 40 (.ld1 (.t 39)),.q 41 (.bin .eql true (.t 40) (.i 64)),.v 42 41,⟨some 43,(some (42,false)),.q (.fa 1 (.t 5))⟩,⟨some 44,(some (42,false)),.l (.ld1 (.t 43))⟩,⟨some 45,(some (42,false)),.q (.fa 1 (.t 4))⟩,⟨some 46,(some (42,false)),.l (.ld1 (.t 45))⟩,⟨some 47,(some (42,false)),.q (.bin .sub true (.t 46) (.i 1))⟩,⟨some 48,(some (42,false)),.q (.bin .shl true (.i (-1)) (.t 47))⟩,⟨some 49,(some (42,false)),.q (.bin .geq true (.t 44) (.t 48))⟩,⟨some 50,(some (42,false)),.q (.mv (.t 49))⟩,⟨some 51,(some (50,true)),.q (.fa 1 (.t 5))⟩,⟨some 52,(some (50,true)),.l (.ld1 (.t 51))⟩,⟨some 53,(some (50,true)),.q (.fa 1 (.t 4))⟩,⟨some 54,(some (50,true)),.l (.ld1 (.t 53))⟩,⟨some 55,(some (50,true)),.q (.bin .sub true (.t 54) (.i 1))⟩,⟨some 56,(some (50,true)),.q (.bin .shl true (.i 1) (.t 55))⟩,⟨some 57,(some (50,true)),.q (.bin .lss true (.t 52) (.t 56))⟩,⟨some 58,(some (42,false)),.pick (.t 50) (.t 57) (.k (.bool false))⟩,.a 59 (.pick (.t 42) (.k (.bool true)) (.t 58)),.v 7 59])
@[go_sem ↓] theorem aLB:aT zN:=aU _
def AJ:PC:=.gh (.reg [.q 62 (.fa 1 (.t 5)),.l 63 (.ld1 (.t 62)),.q 64 (.bin .geq true (.t 63) (.i 0)),.v 65 64,⟨some 66,(some (65,true)),.q (.fa 1 (.t 5))⟩,⟨some 67,(some (65,true)),.l (.ld1 (.t 66))⟩,⟨some 68,(some (65,true)),.q (.fa 1 (.t 4))⟩,⟨some 69,(some (65,true)),.l (.ld1 (.t 68))⟩,⟨some 70,(some (65,true)),.q (.bin .shl true (.i 1) (.t 69))⟩,⟨some 71,(some (65,true)),.q (.bin .lss true (.t 67) (.t 70))⟩,.a 72 (.pick (.t 65) (.t 71) (.k (.bool false))),.v 7 72])
@[go_sem ↓] theorem aI5:aT AJ:=aU _
def BX:PC:=.gh (.reg [.q 83 (.fa 2 (.t 8)),.l 84 (.ld1 (.t 83)),.q 85 (.mf 118 [(.t 5)]),.a 86 (.cl 117 [(.t 84),(.t 85)] [2]),.v 7 86])
@[go_sem ↓] theorem aIW:aT BX:=aU _
def BZ:PC:=.seq (.gh (.reg [.q 76 (.fa 0 (.t 3)),.l 77 (.ldn 3 (.t 76)),.q 78 (.fa 2 (.t 4)),.l 79 (.ld1 (.t 78)),.a 80 (.cl 98 [(.t 77),(.t 79)] []),.v 75 80,.q 81 (.ex (.t 75) 0),.q 82 (.ex (.t 75) 1),.e 8 (.al (.agg #[(.string (mk [])),(.slice none 0 0),(.slice none 0 0)]) 92),.s (.st 3 (.t 8) (.t 81)),.v 9 82])) (BX)
@[go_sem ↓] theorem aJ1:aT BZ:=aU _
def AH:PC:=.seq (.gh (.reg [.q 74 (.bin .eql true (.t 26) (.i 7)),.v 73 74])) (.cond (.t 73) (BZ) .skip)
@[go_sem ↓] theorem aJ2:aT AH:=aU _
def HM:PC:=.seq (.gh (.reg [.q 61 (.bin .eql true (.t 26) (.i 3)),.v 60 61])) (.cond (.t 60) (AJ) (AH))
@[go_sem ↓] theorem aNR:aT HM:=aU _
def FQ:PC:=.seq (.gh (.reg [.q 38 (.bin .eql true (.t 26) (.i 2)),.v 37 38])) (.cond (.t 37) (zN) (HM))
@[go_sem ↓] theorem aN6:aT FQ:=aU _
def i7:PC:=.seq (.seq (.gh (.reg [.v 87 7,.q 88 (.not (.t 87))])) (.cond (.t 88) (.seq (.reg [.q 6 (.mv (.i 4))]) .ret) .skip)) (.seq (.reg [.q 6 (.mv (.i 0))]) .ret)
@[go_sem ↓] theorem aJF:aT i7:=aU _
def IL:PC:=.seq (.reg [.e 3 (.bx 105 (.t 0)),.e 4 (.bx 28 (.t 1)),.e 5 (.bx 32 (.t 2)),.q 6 (.mv (.i 0))]) (.seq (.seq (.reg [.q 10 (.fa 2 (.t 5)),.l 11 (.ld1 (.t 10)),.q 12 (.bin .neq true (.t 11) (.k (.string (mk [])))),.v 13 12,⟨some 14,(some (13,false)),.q (.fa 3 (.t 5))⟩,⟨some 15,(some (13,false)),.l (.ld1 (.t 14))⟩,⟨some 16,(some (13,false)),.q (.lnL (.t 15))⟩,⟨some 17,(some (13,false)),.q (.bin .gtr true (.t 16) (.i 0))⟩,.a 18 (.pick (.t 13) (.k (.bool true)) (.t 17)),.v 19 18,⟨some 20,(some (19,false)),.q (.fa 4 (.t 5))⟩,⟨some 21,(some (19,false)),.l (.ld1 (.t 20))⟩,⟨some 22,(some (19,false)),.q (.lnL (.t 21))⟩,⟨some 23,(some (19,false)),.q (.bin .gtr true (.t 22) (.i 0))⟩,.a 24 (.pick (.t 19) (.k (.bool true)) (.t 23))]) (.cond (.t 24) (.seq (.reg [.q 6 (.mv (.i 13))]) .ret) .skip)) (.seq (.reg [.q 7 (.mv (.k (.bool false)))]) (.seq (.seq (.reg [.q 25 (.fa 0 (.t 4)),.l 26 (.ld1 (.t 25))]) (.block 0 (.seq (.reg [.q 28 (.bin .eql true (.t 26) (.i 1)),.v 27 28]) (.cond (.t 27) (EU) (FQ))))) (i7))))
def GU:List RV:=[.mv (.t 6)]
theorem aK1:aN Tryz.prog true ⟨fun r k=>if r=13/\k=3 then .own [2] else .own [],fun r=>[7,9,11,12,14,6,8,10,13].contains r⟩ Tryz.f91=some (IL,GU):=by kernel_rfl
def aBP:PC:=.seq (.reg [.e 3 (.bx 105 (.t 0)),.e 4 (.bx 28 (.t 1)),.e 5 (.bx 32 (.t 2)),.q 6 (.mv (.i 0))]) (.seq (.block 0 (.seq (.reg [.q 8 (.fa 1 (.t 5)),.l 9 (.ld1 (.t 8)),.q 10 (.bin .neq true (.t 9) (.i 0)),.v 11 10,⟨some 12,(some (11,false)),.q (.fa 3 (.t 5))⟩,⟨some 13,(some (11,false)),.l (.ld1 (.t 12))⟩,⟨some 14,(some (11,false)),.q (.lnL (.t 13))⟩,⟨some 15,(some (11,false)),.q (.bin .gtr true (.t 14) (.i 0))⟩,.a 16 (.pick (.t 11) (.k (.bool true)) (.t 15)),.v 17 16,⟨some 18,(some (17,false)),.q (.fa 4 (.t 5))⟩,⟨some 19,(some (17,false)),.l (.ld1 (.t 18))⟩,⟨some 20,(some (17,false)),.q (.lnL (.t 19))⟩,⟨some 21,(some (17,false)),.q (.bin .gtr true (.t 20) (.i 0))⟩,.a 22 (.pick (.t 17) (.k (.bool true)) (.t 21)),.v 7 22]) (.cond (.t 7) (.seq (.reg [.q 6 (.mv (.i 13))]) .ret) (.seq (.reg [.q 24 (.fa 2 (.t 5)),.l 25 (.ld1 (.t 24)),.q 26 (.lnS (.t 25)),.q 27 (.fa 1 (.t 4)),.l 28 (.ld1 (.t 27)),.q 29 (.bin .gtr true (.t 26) (.t 28)),.v 23 29]) (.cond (.t 23) (.seq (.reg [.q 6 (.mv (.i 3))]) .ret) .skip))))) (.seq (.reg [.q 6 (.mv (.i 0))]) .ret))
def aE8:List RV:=[.mv (.t 6)]
theorem aNF:aN Tryz.prog true ⟨fun _ _=>.own [],fun _=>false⟩ Tryz.f92=some (aBP,aE8):=by kernel_rfl
def MG:PC:=.seq (.reg [.e 3 (.bx 105 (.t 0)),.e 4 (.bx 28 (.t 1)),.e 5 (.bx 32 (.t 2)),.q 6 (.mv (.i 0))]) (.seq (.block 0 (.seq (.reg [.q 11 (.fa 1 (.t 5)),.l 12 (.ld1 (.t 11)),.q 13 (.bin .neq true (.t 12) (.i 0)),.v 14 13,⟨some 15,(some (14,false)),.q (.fa 2 (.t 5))⟩,⟨some 16,(some (14,false)),.l (.ld1 (.t 15))⟩,⟨some 17,(some (14,false)),.q (.bin .neq true (.t 16) (.k (.string (mk []))))⟩,.a 18 (.pick (.t 14) (.k (.bool true)) (.t 17)),.v 19 18,⟨some 20,(some (19,false)),.q (.fa 4 (.t 5))⟩,⟨some 21,(some (19,false)),.l (.ld1 (.t 20))⟩,⟨some 22,(some (19,false)),.q (.lnL (.t 21))⟩,⟨some 23,(some (19,false)),.q (.bin .gtr true (.t 22) (.i 0))⟩,.a 24 (.pick (.t 19) (.k (.bool true)) (.t 23)),.v 10 24]) (.cond (.t 10) (.seq (.reg [.q 6 (.mv (.i 13))]) .ret) (.seq (.reg [.q 26 (.fa 3 (.t 5)),.l 27 (.ld1 (.t 26)),.q 28 (.lnL (.t 27)),.q 29 (.fa 1 (.t 4)),.l 30 (.ld1 (.t 29)),.q 31 (.bin .gtr true (.t 28) (.t 30)),.v 25 31]) (.cond (.t 25) (.seq (.reg [.q 6 (.mv (.i 3))]) .ret) .skip))))) (.seq (.seq (.reg [.q 32 (.fa 3 (.t 5)),.l 33 (.ld1 (.t 32)),.q 34 (.lnL (.t 33)),.q 35 (.mv (.i 0))]) (.block 1 (.loop (.seq (.reg [.q 36 (.bin .lss true (.t 35) (.t 34))]) (.seq (.cond (.t 36) .skip (.exit 1)) (.seq (.block 2 (.seq (.reg [.l 37 (.ia 5 (.t 33) (.t 35)),.l 38 (.ldn 5 (.t 37)),.e 8 (.al (.agg #[(.int .i64 0),(.int .i64 0),(.string (mk [])),(.slice none 0 0),(.slice none 0 0)]) 32),.s (.st 5 (.t 8) (.t 38))]) (.seq (.reg [.l 39 (.ldn 3 (.t 3)),.q 40 (.fa 3 (.t 4)),.l 41 (.ld1 (.t 40)),.l 42 (.ia 4 (.t 41) (.i 0)),.l 43 (.ldn 4 (.t 42)),.l 44 (.ldn 5 (.t 8)),.a 45 (.cq 53 [(.t 39),(.t 43),(.t 44)]),.v 9 45]) (.seq (.reg [.v 46 9,.q 47 (.bin .neq true (.t 46) (.i 0))]) (.cond (.t 47) (.seq (.reg [.v 48 9,.v 6 48]) .ret) .skip))))) (.reg [.q 49 (.bin .add true (.t 35) (.i 1)),.v 35 49]))))))) (.seq (.reg [.q 6 (.mv (.i 0))]) .ret)))
def L5:List RV:=[.mv (.t 6)]
theorem aKM:aN Tryz.prog true ⟨fun r k=>if r=8/\k=6 then .q else .own [],fun _=>false⟩ Tryz.f93=some (MG,L5):=by kernel_rfl
def w8:PC:=.seq (.gh (.reg [.v 63 13,.q 64 (.bin .neq true (.t 63) (.i 0))])) (.cond (.t 64) (.seq (.reg [.v 65 13,.v 6 65]) .ret) .skip)
@[go_sem ↓] theorem aK2:aT w8:=aU _
def IT:PC:=.seq (.gh (.reg [.l 57 (.ldn 3 (.t 3)),.q 58 (.fa 2 (.t 11)),.l 59 (.ldn 4 (.t 58)),.q 60 (.fa 1 (.t 10)),.l 61 (.ldn 5 (.t 60)),.a 62 (.cq 53 [(.t 57),(.t 59),(.t 61)]),.v 13 62])) (w8)
@[go_sem ↓] theorem aMB:aT IT:=aU _
def F5:PC:=.seq (.gh (.reg [.l 51 (.ldn 2 (.t 7)),.q 52 (.fa 0 (.t 10)),.l 53 (.ld1 (.t 52)),.a 54 (.cl 104 [(.t 51),(.t 53)] []),.v 50 54,.q 55 (.ex (.t 50) 0),.q 56 (.ex (.t 50) 1),.e 11 (.al (.agg #[(.int .i64 0),(.string (mk [])),(.int .i64 0),(.int .i64 0),(.string (mk [])),(.slice none 0 0),(.bool false)]) 97),.s (.st 7 (.t 11) (.t 55)),.v 12 56])) (IT)
@[go_sem ↓] theorem aJ7:aT F5:=aU _
def zJ:PC:=.seq (.seq (.gh (.reg [.q 22 (.fa 1 (.t 5)),.l 23 (.ld1 (.t 22)),.q 24 (.bin .neq true (.t 23) (.i 0)),.v 25 24,⟨some 26,(some (25,false)),.q (.fa 2 (.t 5))⟩,⟨some 27,(some (25,false)),.l (.ld1 (.t 26))⟩,⟨some 28,(some (25,false)),.q (.bin .neq true (.t 27) (.k (.string (mk []))))⟩,.a 29 (.pick (.t 25) (.k (.bool true)) (.t 28)),.v 30 29,⟨some 31,(some (30,false)),.q (.fa 3 (.t 5))⟩,⟨some 32,(some (30,false)),.l (.ld1 (.t 31))⟩,⟨some 33,(some (30,false)),.q (.lnL (.t 32))⟩,⟨some 34,(some (30,false)),.q (.bin .gtr true (.t 33) (.i 0))⟩,.a 35 (.pick (.t 30) (.k (.bool true)) (.t 34)),.v 36 35,⟨some 37,(some (36,false)),.l (.ldn 2 (.t 7))⟩,⟨some 38,(some (36,false)),.q (.fa 4 (.t 5))⟩,⟨some 39,(some (36,false)),.l (.ld1 (.t 38))⟩,⟨some 40,(some (36,false)),.cq 119 [(.t 37),(.t 39)]⟩,⟨some 41,(some (36,false)),.q (.not (.t 40))⟩,.a 42 (.pick (.t 36) (.k (.bool true)) (.t 41))])) (.cond (.t 42) (.seq (.reg [.q 6 (.mv (.i 13))]) .ret) .skip)) (.seq (.seq (.reg [.q 43 (.fa 4 (.t 5)),.l 44 (.ld1 (.t 43)),.q 45 (.lnL (.t 44)),.q 46 (.mv (.i 0))]) (.block 0 (.loop (.seq (.reg [.q 47 (.bin .lss true (.t 46) (.t 45))]) (.seq (.cond (.t 47) .skip (.exit 0)) (.seq (.block 1 (.seq (.reg [.l 48 (.ia 6 (.t 44) (.t 46)),.l 49 (.ldn 6 (.t 48)),.e 10 (.al (.agg #[(.int .i64 0),(.int .i64 0),(.int .i64 0),(.string (mk [])),(.slice none 0 0),(.slice none 0 0)]) 57),.s (.st 6 (.t 10) (.t 49))]) (F5))) (.reg [.q 66 (.bin .add true (.t 46) (.i 1)),.v 46 66]))))))) (.seq (.reg [.q 6 (.mv (.i 0))]) .ret))
@[go_sem ↓] theorem aME:aT zJ:=aU _
def aB3:PC:=.seq (.reg [.e 3 (.bx 105 (.t 0)),.e 4 (.bx 28 (.t 1)),.e 5 (.bx 32 (.t 2)),.q 6 (.mv (.i 0))]) (.seq (.reg [.q 15 (.fa 0 (.t 3)),.l 16 (.ldn 3 (.t 15)),.q 17 (.fa 2 (.t 4)),.l 18 (.ld1 (.t 17)),.a 19 (.cl 103 [(.t 16),(.t 18)] []),.v 14 19,.q 20 (.ex (.t 14) 0),.q 21 (.ex (.t 14) 1),.e 7 (.al (.agg #[(.string (mk [])),(.slice none 0 0)]) 95),.s (.st 2 (.t 7) (.t 20)),.v 8 21]) (zJ))
def aB7:List RV:=[.mv (.t 6)]
theorem aMT:aN Tryz.prog true ⟨fun r k=>if r=2/\k=18 then .q else if r=8/\k=5 then .q else .own [],fun r=>[2,7,8,9].contains r⟩ Tryz.f94=some (aB3,aB7):=by kernel_rfl
def xZ:PC:=.seq (.reg [.e 3 (.bx 105 (.t 0)),.e 4 (.bx 28 (.t 1)),.e 6 (.al (.agg #[(.int .i64 0),(.int .i64 0),(.string (mk [])),(.slice none 0 0),(.slice none 0 0)]) 32)]) (.seq (.seq (.reg [.v 12 2,.q 13 (.bin .lss true (.t 12) (.i 0)),.v 14 13,⟨some 15,(some (14,false)),.l (.ldn 3 (.t 3))⟩,⟨some 16,(some (14,false)),.l (.ldn 4 (.t 4))⟩,⟨some 17,(some (14,false)),.cq 90 [(.t 15),(.t 16)]⟩,⟨some 18,(some (14,false)),.q (.not (.t 17))⟩,.a 19 (.pick (.t 14) (.k (.bool true)) (.t 18))]) (.cond (.t 19) (.seq (.reg [.q 20 (.bd [(.int .i64 0),(.int .i64 0),(.string (mk [])),(.slice none 0 0),(.slice none 0 0)] []),.s (.st 5 (.t 6) (.t 20))]) .ret) .skip)) (.seq (.reg [.q 21 (.fa 0 (.t 4)),.l 22 (.ld1 (.t 21)),.q 23 (.bd [(.int .i64 0),(.int .i64 0),(.string (mk [])),(.slice none 0 0),(.slice none 0 0)] [(0,1,(.t 22))]),.e 7 (.al (.agg #[(.int .i64 0),(.int .i64 0),(.string (mk [])),(.slice none 0 0),(.slice none 0 0)]) 32),.s (.st 5 (.t 7) (.t 23))]) (.seq (.seq (.reg [.q 24 (.fa 0 (.t 4)),.l 25 (.ld1 (.t 24)),.q 26 (.bin .neq true (.t 25) (.i 6))]) (.cond (.t 26) (.seq (.reg [.l 27 (.ldn 5 (.t 7)),.s (.st 5 (.t 6) (.t 27))]) .ret) .skip)) (.seq (.reg [.q 29 (.fa 0 (.t 3)),.l 30 (.ldn 3 (.t 29)),.q 31 (.fa 2 (.t 4)),.l 32 (.ld1 (.t 31)),.a 33 (.cl 103 [(.t 30),(.t 32)] []),.v 28 33,.q 34 (.ex (.t 28) 0),.q 35 (.ex (.t 28) 1),.e 8 (.al (.agg #[(.string (mk [])),(.slice none 0 0)]) 95),.s (.st 2 (.t 8) (.t 34)),.v 9 35]) (.seq (.seq (.reg [.q 36 (.fa 1 (.t 8)),.l 37 (.ld1 (.t 36)),.q 38 (.lnL (.t 37)),.q 39 (.mv (.i 0))]) (.block 0 (.loop (.seq (.reg [.q 40 (.bin .lss true (.t 39) (.t 38))]) (.seq (.cond (.t 40) .skip (.exit 0)) (.seq (.block 1 (.seq (.reg [.l 41 (.ia 7 (.t 37) (.t 39)),.l 42 (.ldn 7 (.t 41)),.e 11 (.al (.agg #[(.int .i64 0),(.string (mk [])),(.int .i64 0),(.int .i64 0),(.string (mk [])),(.slice none 0 0),(.bool false)]) 97),.s (.st 7 (.t 11) (.t 42))]) (.seq (.reg [.q 43 (.fa 6 (.t 11)),.l 44 (.ld1 (.t 43)),.q 45 (.not (.t 44))]) (.cond (.t 45) (.ord  [.q (.q 46 (.fa 4 (.t 7))),.q (.l 47 (.ld1 (.t 46))),.q (.q 48 (.fa 0 (.t 11))),.q (.l 49 (.ld1 (.t 48))),.q (.l 50 (.ldn 3 (.t 3))),.q (.q 51 (.fa 2 (.t 11))),.q (.l 52 (.ldn 4 (.t 51))),.q (.v 53 2),.q (.q 54 (.bin .sub true (.t 53) (.i 1))),.m (.a 55 (.cl 114 [(.t 50),(.t 52),(.t 54)] [])),.rc (.q 46 (.fa 4 (.t 7))),.rc (.l 47 (.ld1 (.t 46))),.rc (.q 48 (.fa 0 (.t 11))),.rc (.l 49 (.ld1 (.t 48))),.q (.q 56 (.bd [(.int .i64 0),(.int .i64 0),(.int .i64 0),(.string (mk [])),(.slice none 0 0),(.slice none 0 0)] [(0,1,(.t 49)),(1,5,(.t 55))])),.m (.e 57 (.bsl 57 6 [(.t 56)])),.rc (.q 46 (.fa 4 (.t 7))),.rc (.l 47 (.ld1 (.t 46))),.m (.e 58 (.ap 57 6 88 (.t 47) (.t 57))),.q (.q 59 (.fa 4 (.t 7))),.m (.s (.st 1 (.t 59) (.t 58)))]) .skip)))) (.reg [.q 60 (.bin .add true (.t 39) (.i 1)),.v 39 60]))))))) (.seq (.reg [.l 61 (.ldn 5 (.t 7)),.s (.st 5 (.t 6) (.t 61))]) .ret))))))
def y5:List RV:=[.ld (.ldn 5 (.t 6))]
theorem aHQ:aN Tryz.prog true ⟨fun r k=>if r=1/\k=5 then .q else .own [],fun _=>false⟩ Tryz.f114=some (xZ,y5):=by kernel_rfl
def V2:PC:=.seq (.reg [.q 3 (.mv (.k (.bool false)))]) (.seq (.reg [.v 4 0,.q 5 (.fa 1 (.t 1)),.l 6 (.ld1 (.t 5)),.q 7 (.bin .eql true (.t 4) (.t 6)),.v 3 7]) .ret)
def WT:List RV:=[.mv (.t 3)]
theorem aHV:aN Tryz.prog true ⟨fun _ _=>.own [],fun _=>false⟩ Tryz.f118=some (V2,WT):=by kernel_rfl
def mD:PC:=.seq (.gh (.reg [.v 25 8,.q 26 (.not (.t 25)),.v 27 26,⟨some 28,(some (27,false)),.q (.mv (.t 5))⟩,⟨some 29,(some (27,false)),.q (.bin .gtr true (.t 28) (.i 0))⟩,⟨some 30,(some (27,false)),.q (.mv (.t 29))⟩,⟨some 31,(some (30,true)),.q (.mv (.t 1))⟩,⟨some 32,(some (30,true)),.q (.mv (.t 5))⟩,⟨some 33,(some (30,true)),.q (.bin .sub true (.t 32) (.i 1))⟩,⟨some 34,(some (30,true)),.l (.ia 6 (.t 31) (.t 33))⟩,⟨some 35,(some (30,true)),.q (.fa 0 (.t 34))⟩,⟨some 36,(some (30,true)),.l (.ld1 (.t 35))⟩,⟨some 37,(some (30,true)),.q (.fa 0 (.t 6))⟩,⟨some 38,(some (30,true)),.l (.ld1 (.t 37))⟩,⟨some 39,(some (30,true)),.q (.bin .geq true (.t 36) (.t 38))⟩,⟨some 40,(some (27,false)),.pick (.t 30) (.t 39) (.k (.bool false))⟩,.a 41 (.pick (.t 27) (.k (.bool true)) (.t 40))])) (.cond (.t 41) (.seq (.reg [.q 4 (.mv (.k (.bool false)))]) .ret) .skip)
@[go_sem ↓] theorem aIY:aT mD:=aU _
def BP:PC:=.seq (.gh (.reg [.l 19 (.ldn 2 (.t 2)),.q 20 (.fa 0 (.t 6)),.l 21 (.ld1 (.t 20)),.a 22 (.cl 104 [(.t 19),(.t 21)] []),.v 18 22,.q 23 (.ex (.t 18) 0),.q 24 (.ex (.t 18) 1),.e 7 (.al (.agg #[(.int .i64 0),(.string (mk [])),(.int .i64 0),(.int .i64 0),(.string (mk [])),(.slice none 0 0),(.bool false)]) 97),.s (.st 7 (.t 7) (.t 23)),.v 8 24])) (mD)
@[go_sem ↓] theorem aI7:aT BP:=aU _
def pK:PC:=.seq (.gh (.reg [.q 50 (.fa 6 (.t 10)),.l 51 (.ld1 (.t 50)),.q 52 (.not (.t 51)),.v 53 52,⟨some 54,(some (53,true)),.q (.mv (.t 1))⟩,⟨some 55,(some (53,true)),.q (.mf 142 [(.t 10)])⟩,⟨some 56,(some (53,true)),.cl 141 [(.t 54),(.t 55)] [1]⟩,⟨some 57,(some (53,true)),.q (.not (.t 56))⟩,.a 58 (.pick (.t 53) (.t 57) (.k (.bool false)))])) (.cond (.t 58) (.seq (.reg [.q 4 (.mv (.k (.bool false)))]) .ret) .skip)
@[go_sem ↓] theorem aIN:aT pK:=aU _
def AN:PC:=.seq (.seq (.gh (.reg [.q 43 (.fa 1 (.t 2)),.l 44 (.ld1 (.t 43)),.q 45 (.lnL (.t 44)),.q 46 (.mv (.i 0))])) (.block 2 (.loop (.seq (.reg [.q 47 (.bin .lss true (.t 46) (.t 45))]) (.seq (.cond (.t 47) .skip (.exit 2)) (.seq (.block 3 (.seq (.reg [.l 48 (.ia 7 (.t 44) (.t 46)),.l 49 (.ldn 7 (.t 48)),.e 10 (.al (.agg #[(.int .i64 0),(.string (mk [])),(.int .i64 0),(.int .i64 0),(.string (mk [])),(.slice none 0 0),(.bool false)]) 97),.s (.st 7 (.t 10) (.t 49))]) (pK))) (.reg [.q 59 (.bin .add true (.t 46) (.i 1)),.v 46 59]))))))) (.seq (.reg [.q 4 (.mv (.k (.bool true)))]) .ret)
@[go_sem ↓] theorem aJE:aT AN:=aU _
def WA:PC:=.seq (.reg [.e 2 (.bx 95 (.t 0)),.q 4 (.mv (.k (.bool false)))]) (.seq (.seq (.reg [.v 11 1,.q 12 (.lnL (.t 11)),.q 13 (.mv (.i 0))]) (.block 0 (.loop (.seq (.reg [.q 14 (.bin .lss true (.t 13) (.t 12))]) (.seq (.cond (.t 14) .skip (.exit 0)) (.seq (.block 1 (.seq (.reg [.v 15 13,.l 16 (.ia 6 (.t 11) (.t 13)),.l 17 (.ldn 6 (.t 16)),.e 6 (.al (.agg #[(.int .i64 0),(.int .i64 0),(.int .i64 0),(.string (mk [])),(.slice none 0 0),(.slice none 0 0)]) 57),.v 5 15,.s (.st 6 (.t 6) (.t 17))]) (BP))) (.reg [.q 42 (.bin .add true (.t 13) (.i 1)),.v 13 42]))))))) (AN))
def XL:List RV:=[.mv (.t 4)]
theorem aF4:aN Tryz.prog true ⟨fun r k=>if r=11/\k=6 then .own [1] else .own [],fun r=>[4,5,8,11].contains r⟩ Tryz.f119=some (WA,XL):=by kernel_rfl
def UR:PC:=.seq (.reg [.e 2 (.bx 57 (.t 0)),.q 3 (.mv (.k (.bool false)))]) (.seq (.reg [.q 4 (.fa 0 (.t 2)),.l 5 (.ld1 (.t 4)),.q 6 (.fa 0 (.t 1)),.l 7 (.ld1 (.t 6)),.q 8 (.bin .eql true (.t 5) (.t 7)),.v 3 8]) .ret)
def WB:List RV:=[.mv (.t 3)]
theorem aH1:aN Tryz.prog true ⟨fun _ _=>.own [],fun _=>false⟩ Tryz.f142=some (UR,WB):=by kernel_rfl
end Go.Proofs.YtkpohmhenegkiaaGreatDoor
namespace Go.Proofs.YtkpohmhenegkiaaGreatDoor
open Go.W
def kV (v:Vl):Bool:=(v.k != 5) && (v.k != 6) && ((v.l.length:Int) == 0) && ((v.f.length:Int) == 0)
def kQ (g:Vl->Int) (most:Int) (d:Int) (x:Vl):Int:=bif decide (d<=most) then max d (g x) else d
def oU (g:Vl->Int) (most:Int) (d:Int) (x:Int × Vl):Int:=bif decide (d<=most) then max d (g x.2) else d
def HD (g:Vl->Int) (most:Int) (v:Vl):Int:=bif kV v then 0 else 1 + v.f.foldl (oU g most) (v.l.foldl (kQ g most) 0)
def qX:Nat->Vl->Int
  | 0=>HD (fun _=>0) (-1)
  | n + 1=>HD (qX n) n
def gX:Nat->Vl->Int
  | 0=>fun _=>0
  | n + 1=>qX n
theorem w7 (n:Nat):qX n=HD (gX n) ((n:Int) - 1):=by
  cases n with
  | zero=>rfl
  | succ n=>rw [qX,gX]; congr 1; omega
theorem FH {g:Vl->Int} {most B:Int} (hg:∀ x,0<=g x/\g x<=B) {d:Int} (h:0<=d/\d<=B) (x:Vl):0<=kQ g most d x/\kQ g most d x<=B:=by
  unfold kQ
  cases decide (d<=most)
  · exact h
  · have:=hg x; show 0<=max d (g x)/\max d (g x)<=B; omega
theorem NQ {g:Vl->Int} {most B:Int} (hg:∀ x,0<=g x/\g x<=B) {d:Int} (h:0<=d/\d<=B) (x:Int × Vl):0<=oU g most d x/\oU g most d x<=B:=FH hg h x.2
theorem o5 {α:Type} {f:Int->α->Int} {B:Int} (h:∀ d x,0<=d/\d<=B->0<=f d x/\f d x<=B):∀ (l:List α) (d:Int),0<=d/\d<=B->0<=l.foldl f d/\l.foldl f d<=B
  | [],_,hd=>hd
  | x :: l,d,hd=>o5 h l (f d x) (h d x hd)
theorem pF:∀ (n:Nat) (x:Vl),0<=gX n x/\gX n x<=n
  | 0,_=>⟨Int.le_refl _,Int.le_refl _⟩
  | n + 1,x=>by
    rw [gX,w7]
    unfold HD
    have h1:=o5 (f:=kQ (gX n) ((n:Int) - 1)) (fun d x h=>FH (pF n) h x) x.l 0 ⟨Int.le_refl _,by omega⟩
    have h2:=o5 (f:=oU (gX n) ((n:Int) - 1)) (fun d x h=>NQ (pF n) h x) x.f _ h1
    cases kV x
    · show 0<=1 + _/\1 + _<=_; omega
    · show (0:Int)<=0/\(0:Int)<=_; omega
theorem B8 {α β:Type} {f:β->α->β} {l:List α} {i:Nat} {x:α} (h:l[i]? = some x) (d:β):(l.take (i + 1)).foldl f d=f ((l.take i).foldl f d) x:=by rw [fH h,List.foldl_append]; rfl
def zL (n:Nat):List S->Prop:=fun av=>match av with
  | [.va (.gs r),.va (.c1 (.vl (.int .i64 k)))]=>0 < n/\qJ r/\k=(n:Int) - 2/\n<=100
  | _=>False
theorem kF {n:Nat} {av:List S} (h:zL n av):∃ m v,n=m + 1/\av=[.va (.gs (aV v)),iS .i64 ((m:Int) - 1)]/\VlOk v/\m<=99:=by
  unfold zL at h
  split at h
  · obtain ⟨h0,⟨v,rfl,hv⟩,rfl,hn⟩:=h
    refine ⟨n - 1,v,by omega,?_,hv,by omega⟩
    rw [show (n:Int) - 2=((n - 1:Nat):Int) - 1 by omega]
  · exact h.elim
noncomputable def NL (n:Nat):List S->A:=fun av=>match av with
  | [.va (.gs r),.va (.c1 (.vl (.int .i64 _)))]=>iA .i64 (gX n (C.vv r))
  | _=>.gs []
noncomputable def EC (n:Nat):Fun:=⟨zL n,NL n,fun av h=>by obtain ⟨m,v,_,rfl,_⟩:=kF h; trivial⟩
theorem PA {n:Nat}:∀ av H K,(EC n).sp av H K->av.length=2:=fun av H K h=>by obtain ⟨m,v,_,rfl,_⟩:=kF h.1.1; rfl
attribute [go_sem] EC zL NL
theorem K9:∀ n,Meets Tryz.prog 52 (EC n).sp
  | 0=>⟨by kernel_rfl,by rintro xs vs E ro w K _ _ _ ⟨⟨h,_⟩,_⟩; obtain ⟨m,_,h,_⟩:=kF h; omega⟩
  | n + 1=>by
    refine aF Tryz.func52 aN3 2 (by rw [Tryz.ntmps52]; decide) (aG (K9 n) (aA _)) PA ?_
    rintro av H K ⟨⟨h,rfl⟩,hK⟩
    obtain ⟨m,v,hm,rfl,hv,hm99⟩:=kF h
    obtain rfl:m=n:=by omega
    have hK:K (iS .i64 (qX m v)) []:=by
      have:(EC (m + 1)).val [.va (.gs (aV v)),iS .i64 ((m:Int) - 1)]=iA .i64 (qX m v):=by simp -dsimp only [go_sem,gX]
      rw [this] at hK; exact hK
    clear h hm
    rw [w7] at hK
    unfold HD at hK
    have hll:=hv.ll
    have hlf:=hv.lf
    have bd1:=fun i=>o5 (f:=kQ (gX m) ((m:Int) - 1)) (fun d x h=>FH (pF m) h x) (v.l.take i) 0 ⟨Int.le_refl _,by omega⟩
    have fin:∀ (z:Int) (R:Hp),(bif kV v then 0 else 1 + v.f.foldl (oU (gX m) ((m:Int) - 1)) (v.l.foldl (kQ (gX m) ((m:Int) - 1)) 0))=z->W.Fin 0 K (iS .i64 z) R:=fun z R h=>by
      rw [h] at hK; exact .sel [] (by simp) (by simp) rfl (.done (by simpa [go_sem] using hK))
    clear hK
    cases hsc:kV v with
    | true=>
      have hs':=hsc
      unfold kV at hs'
      simp (maxSteps:=1000000) -dsimp only [go_sem,aI v,TQ,TR,hs']
      exact fin _ _ (by rw [hsc]; rfl)
    | false=>
      have hs':=hsc
      unfold kV at hs'
      rw [hsc] at fin
      simp (maxSteps:=1000000) -dsimp only [go_sem,aI v,TQ,TR,hs']
      refine aK (α:=Nat) (fun i=>[(1,iS .i64 ((m:Int) - 1)),(2,.va (.c1 (.pt 0 0))),(5,iS .i64 ((v.l.take i).foldl (kQ (gX m) ((m:Int) - 1)) 0)),(31,.va (.c1 (.fz (v.l.map aV)))),(32,iS .i64 v.l.length),(33,iS .i64 i)]) (fun _=>[.cells (bQ v) 32])
        (fun i=>i<=v.l.length) (fun i=>v.l.length - i) 0 1 (Nat.zero_le _) ?_ ?_ ?_
      · simp -dsimp only [go_sem]<;>simp
      · simp -dsimp only [go_sem,bQ]<;>simp
      intro i hi
      rcases Nat.lt_or_ge i v.l.length with hlt | hge
      · have hg:decide ((i:Int) < (v.l.length:Int))=true:=by simp; omega
        obtain ⟨x,hx⟩:∃ t,v.l[i]? = some t:=⟨_,List.getElem?_eq_getElem hlt⟩
        have q1:=VV hx
        have hxm:=List.mem_of_getElem? hx
        have k1:=cE (hv.l x hxm)
        have k2:=eR x
        have ft:=B8 (f:=kQ (gX m) ((m:Int) - 1)) hx 0
        have hbd:=bd1 i
        generalize hd:(v.l.take i).foldl (kQ (gX m) ((m:Int) - 1)) 0=d at *
        have hgb:=pF m x
        cases hc:decide (d<=(m:Int) - 1) with
        | true=>
          have hm0:0 < m:=by have:=of_decide_eq_true hc; omega
          have he:(m:Int) - 1 - 1=(m:Int) - 2:=by omega
          have hn:m<=100:=by omega
          simp (maxSteps:=1000000) -dsimp only [go_sem,hg,↓q1,bQ,k1,k2,hc,he,hm0,hn]
          refine ⟨by omega,by omega,by omega,aC (i + 1) 1 (by omega) (by omega) ?_ ?_⟩
          · simp -dsimp only [go_sem,ft,kQ,hc]<;>simp
          · simp -dsimp only [go_sem,bQ]<;>simp [bQ]
        | false=>
          simp (maxSteps:=1000000) -dsimp only [go_sem,hg,↓q1,bQ,hc]
          refine ⟨by omega,by omega,aC (i + 1) 1 (by omega) (by omega) ?_ ?_⟩
          · simp -dsimp only [go_sem,ft,kQ,hc]<;>simp
          · simp -dsimp only [go_sem,bQ]<;>simp [bQ]
      · have hg:decide ((i:Int) < (v.l.length:Int))=false:=by simp; omega
        obtain rfl:i=v.l.length:=by omega
        have hbd:=bd1 v.l.length
        rw [List.take_length] at hbd ⊢
        simp (maxSteps:=1000000) -dsimp only [go_sem,hg,bQ]
        generalize v.l.foldl (kQ (gX m) ((m:Int) - 1)) 0=D at *
        have bd2:=fun i=>o5 (f:=oU (gX m) ((m:Int) - 1)) (fun d x h=>NQ (pF m) h x) (v.f.take i) D hbd
        clear hi hge hg bd1
        refine aK (α:=Nat) (fun i=>[(1,iS .i64 ((m:Int) - 1)),(2,.va (.c1 (.pt 0 0))),(5,iS .i64 ((v.f.take i).foldl (oU (gX m) ((m:Int) - 1)) D)),(48,.va (.c1 (.fz (v.f.map aY)))),(49,iS .i64 v.f.length),(50,iS .i64 i)]) (fun _=>[.cells (bQ v) 32])
          (fun i=>i<=v.f.length) (fun i=>v.f.length - i) 0 1 (Nat.zero_le _) ?_ ?_ ?_
        · simp -dsimp only [go_sem]<;>simp
        · simp -dsimp only [go_sem,bQ]<;>simp
        intro i hi
        rcases Nat.lt_or_ge i v.f.length with hlt | hge
        · have hg:decide ((i:Int) < (v.f.length:Int))=true:=by simp; omega
          obtain ⟨x,hx⟩:∃ t,v.f[i]? = some t:=⟨_,List.getElem?_eq_getElem hlt⟩
          have q1:=kN hx
          have hxm:=List.mem_of_getElem? hx
          have k1:=cE (hv.f x hxm)
          have k2:=eR x.2
          have ft:=B8 (f:=oU (gX m) ((m:Int) - 1)) hx D
          have hbd2:=bd2 i
          generalize hd:(v.f.take i).foldl (oU (gX m) ((m:Int) - 1)) D=d at *
          have hgb:=pF m x.2
          cases hc:decide (d<=(m:Int) - 1) with
          | true=>
            have hm0:0 < m:=by have:=of_decide_eq_true hc; omega
            have he:(m:Int) - 1 - 1=(m:Int) - 2:=by omega
            have hn:m<=100:=by omega
            simp (maxSteps:=1000000) -dsimp only [go_sem,hg,↓q1,bQ,k1,k2,hc,he,hm0,hn]
            refine ⟨by omega,by omega,by omega,aC (i + 1) 1 (by omega) (by omega) ?_ ?_⟩
            · simp -dsimp only [go_sem,ft,oU,hc]<;>simp
            · simp -dsimp only [go_sem,bQ]<;>simp [bQ]
          | false=>
            simp (maxSteps:=1000000) -dsimp only [go_sem,hg,↓q1,bQ,hc]
            refine ⟨by omega,by omega,aC (i + 1) 1 (by omega) (by omega) ?_ ?_⟩
            · simp -dsimp only [go_sem,ft,oU,hc]<;>simp
            · simp -dsimp only [go_sem,bQ]<;>simp [bQ]
        · have hg:decide ((i:Int) < (v.f.length:Int))=false:=by simp; omega
          obtain rfl:i=v.f.length:=by omega
          have hbd2:=bd2 v.f.length
          rw [List.take_length] at hbd2 ⊢
          simp (maxSteps:=1000000) -dsimp only [go_sem,hg,bQ]
          exact ⟨by omega,fin _ _ rfl⟩
end Go.Proofs.YtkpohmhenegkiaaGreatDoor
namespace Go.Proofs.YtkpohmhenegkiaaGreatDoor
open Go.W
theorem zT:∀ N,Meets Tryz.prog 90 (AU N).sp
  | 0=>⟨by kernel_rfl,by rintro xs vs E ro w K _ _ _ ⟨⟨h,_⟩,_⟩; obtain ⟨_,a,_,_,_,h⟩:=hZ h; have:=a.h_pos; omega⟩
  | N + 1=>by
    refine aF Tryz.func90 aM4 2 (by rw [Tryz.ntmps90]; decide) (aG (zT N) (aB mY (aB y9 (aA _)))) HX ?_
    rintro av H K ⟨⟨h,rfl⟩,hK⟩
    obtain ⟨sc,t,rfl,hs,ht,hh⟩:=hZ h
    have hK:K (bS (valF sc.ss sc.es t)) []:=by
      have:(AU (N + 1)).val [.va (.gs (aE sc)),.va (.gs (aM t))]=bA (valF sc.ss sc.es t):=by simp -dsimp only [go_sem]
      rw [this] at hK; exact hK
    clear h
    have fin:∀ (b:Bool) (R:Hp),valF sc.ss sc.es t=b->W.Fin 0 K (bS b) R:=fun b R h=>by
      rw [h] at hK
      exact .sel [] (by simp) (by simp) rfl (.done (by simp -dsimp only [go_sem]; simpa using hK))
    clear hK
    cases t with
    | mk k s n e=>
    have hF:=valF.eq_1 sc.ss sc.es k s n e
    simp (maxSteps:=1000000) -dsimp only [go_sem,aE,aM,aS,aDY,aD0]
    refine ⟨fun k1=>fin _ _ (by rw [hF,k1]; simp only [Bool.cond_true]; ac_rfl),fun k1=>aD rfl (.done ?_)⟩
    rw [k1,Bool.cond_false] at hF
    simp (maxSteps:=1000000) -dsimp only [go_sem,FS]
    refine ⟨fun k2=>aD rfl (.done ?_),fun k2=>aD rfl (.done ?_)⟩
    · rw [k2,Bool.cond_true] at hF
      have hF':valF sc.ss sc.es (.mk k s n e)=((bl n == [] && (e.length:Int) == 0) && (s == 8 || s == 16 || s == 32 || s == 64)):=by rw [hF]; ac_rfl
      clear hF
      cases hp:(bl n == [] && (e.length:Int) == 0) with
      | false=>
        simp (maxSteps:=1000000) -dsimp only [go_sem,m2]
        exact fin _ _ (by rw [hF',hp]; rfl)
      | true=>
        rw [hp,Bool.true_and] at hF'
        cases h8:s == 8 with
        | true=>
          simp (maxSteps:=1000000) -dsimp only [go_sem,m2,h8]
          exact fin _ _ (by rw [hF',h8]; rfl)
        | false=>
        cases h16:s == 16 with
        | true=>
          simp (maxSteps:=1000000) -dsimp only [go_sem,m2,h8,h16]
          exact fin _ _ (by rw [hF',h8,h16]; rfl)
        | false=>
        cases h32:s == 32 with
        | true=>
          simp (maxSteps:=1000000) -dsimp only [go_sem,m2,h8,h16,h32]
          exact fin _ _ (by rw [hF',h8,h16,h32]; rfl)
        | false=>
          simp (maxSteps:=1000000) -dsimp only [go_sem,m2,h8,h16,h32]
          exact fin _ _ (by rw [hF',h8,h16,h32]; rfl)
    rw [k2,Bool.cond_false] at hF
    simp (maxSteps:=1000000) -dsimp only [go_sem,E0]
    refine ⟨fun k3=>aD rfl (.done ?_),fun k3=>aD rfl (.done ?_)⟩
    · rw [k3] at hF
      simp only [Bool.cond_true,Bool.and_false,Bool.or_false] at hF
      have hF':valF sc.ss sc.es (.mk k s n e)=((bl n == [] && (e.length:Int) == 0) && (s == 8 || s == 16 || s == 32)):=by rw [hF]; ac_rfl
      clear hF
      cases hp:(bl n == [] && (e.length:Int) == 0) with
      | false=>
        simp (maxSteps:=1000000) -dsimp only [go_sem,oY]
        exact fin _ _ (by rw [hF',hp]; rfl)
      | true=>
        rw [hp,Bool.true_and] at hF'
        cases h8:s == 8 with
        | true=>
          simp (maxSteps:=1000000) -dsimp only [go_sem,oY,h8]
          exact fin _ _ (by rw [hF',h8]; rfl)
        | false=>
        cases h16:s == 16 with
        | true=>
          simp (maxSteps:=1000000) -dsimp only [go_sem,oY,h8,h16]
          exact fin _ _ (by rw [hF',h8,h16]; rfl)
        | false=>
          simp (maxSteps:=1000000) -dsimp only [go_sem,oY,h8,h16]
          exact fin _ _ (by rw [hF',h8,h16]; rfl)
    rw [k3,Bool.cond_false] at hF
    simp (maxSteps:=1000000) -dsimp only [go_sem,GO]
    refine ⟨fun k4=>fin _ _ (by rw [hF,k4]; simp only [Bool.cond_true]; ac_rfl),fun k4=>aD rfl (.done ?_)⟩
    rw [k4,Bool.cond_false] at hF
    simp (maxSteps:=1000000) -dsimp only [go_sem,B3]
    refine ⟨fun k5=>aD rfl (.done ?_),fun k5=>aD rfl (.done ?_)⟩
    · rw [k5,Bool.cond_true] at hF
      have no:∀ {R:Hp},(bl n == [])=false\/decide (1<=s)=false\/decide (s<=32)=false\/((e.length:Int) == 1)=false->W.Fin 0 K (bS false) R:=fun h=>fin _ _ (by
        rw [hF]
        rcases h with h | h | h | h
        · rw [h,Bool.and_false,Bool.false_and]
        · rw [h,Bool.false_and,Bool.false_and,Bool.false_and]
        · rw [h,Bool.and_false,Bool.false_and,Bool.false_and]
        · match e,h with
          | [],_=>simp [l0]
          | [u],h=>simp at h
          | u :: v :: r,_=>simp [l0])
      cases h1:bl n == [] with
      | false=>
        simp (maxSteps:=1000000) -dsimp only [go_sem,j0,h1]
        exact no (.inl h1)
      | true=>
      cases h2:decide (1<=s) with
      | false=>
        simp (maxSteps:=1000000) -dsimp only [go_sem,j0,h1,h2]
        exact no (.inr (.inl h2))
      | true=>
      cases h3:decide (s<=32) with
      | false=>
        simp (maxSteps:=1000000) -dsimp only [go_sem,j0,h1,h2,h3]
        exact no (.inr (.inr (.inl h3)))
      | true=>
      cases h4:(e.length:Int) == 1 with
      | false=>
        simp (maxSteps:=1000000) -dsimp only [go_sem,j0,h1,h2,h3,h4]
        exact no (.inr (.inr (.inr h4)))
      | true=>
        have hl1:(e.length:Int)=1:=by simpa using h4
        obtain ⟨u,rfl⟩:∃ u,e=[u]:=List.length_eq_one_iff.1 (by omega)
        have hF':valF sc.ss sc.es (.mk k s n [u])=valF sc.ss sc.es u:=by rw [hF,h1,h2,h3]; simp [l0]
        have hu2:u.h<=N:=by rw [Ty.h,Ty.hs,Ty.hs] at hh; omega
        have hu:eK (aM u):=dG (ht.e u (by simp [Ty.e]))
        have hsf:=eZ hs
        rw [aE] at hsf
        have hsd:=dW sc
        rw [aE] at hsd
        have h4':(((1:Nat):Int) == 1)=true:=rfl
        simp (maxSteps:=1000000) -dsimp only [go_sem,j0,h1,h2,h3,h4']
        refine ⟨⟨by omega,fun r hr=>by subst hr; exact gN u⟩,fun r hr=>?_⟩
        subst hr
        simp (maxSteps:=1000000) -dsimp only [go_sem,hsf,hsd,hu,gN]
        exact ⟨hu2,fin _ _ hF'⟩
    rw [k5,Bool.cond_false] at hF
    simp (maxSteps:=1000000) -dsimp only [go_sem,A3]
    refine ⟨fun k6=>aD rfl (.done ?_),fun k6=>aD rfl (.done ?_)⟩
    · rw [k6,Bool.cond_true] at hF
      simp (maxSteps:=1000000) -dsimp only [go_sem,AZ]
      refine gP hs ?_
      simp (maxSteps:=1000000) -dsimp only [go_sem,aL]
      refine aD rfl (.done ?_)
      cases h1:fR sc.ss n<;>cases h2:s == 0 <;>
      · simp (maxSteps:=1000000) -dsimp only [go_sem,A2,h2]
        exact fin _ _ (by rw [hF,h1,h2]; rfl)
    rw [k6,Bool.cond_false] at hF
    simp (maxSteps:=1000000) -dsimp only [go_sem,AG]
    refine ⟨fun k7=>aD rfl (.done ?_),fun k7=>fin _ _ (by rw [hF,k7]; rfl)⟩
    rw [k7,Bool.cond_true] at hF
    simp (maxSteps:=1000000) -dsimp only [go_sem,BA]
    refine jA hs ?_
    simp (maxSteps:=1000000) -dsimp only [go_sem,aX]
    refine aD rfl (.done ?_)
    cases h1:fO sc.es n<;>cases h2:s == 0 <;>
    · simp (maxSteps:=1000000) -dsimp only [go_sem,AS,h2]
      exact fin _ _ (by rw [hF,h1,h2]; rfl)
end Go.Proofs.YtkpohmhenegkiaaGreatDoor
namespace Go.Proofs.YtkpohmhenegkiaaGreatDoor
open Go.W
theorem uI:Meets Tryz.prog 90 r0Fn.sp:=eM 0 zT fun av H K ⟨⟨h,e⟩,hK⟩=>by
  obtain ⟨a,b,rfl,ha,hb⟩:=jO h
  exact ⟨b.h,⟨⟨⟨eZ ha,dG hb,by rw [eH]; exact Nat.le_refl _⟩,e⟩,hK⟩⟩
def FX (s:Sc) (t:Ty) (n:Int):Bool:=
  bif t.k == 1 then n == 0 || n == 1
  else bif t.k == 2 then t.s == 64 || (decide (-(2 ^ (t.s.toNat - 1):Int)<=n) && decide (n < (2 ^ (t.s.toNat - 1):Int)))
  else bif t.k == 3 then decide (0<=n) && decide (n < (2 ^ t.s.toNat:Int))
  else bif t.k == 7 then ((bX s.es t.n).getD default).vs.any fun x=>x == n else false
def pL (s:Sc) (t:Ty) (n:Int) (str:ByteArray) (ll lf:Int):Int:=bif !(bl str == []) || decide (0 < ll) || decide (0 < lf) then 13 else bif FX s t n then 0 else 4
def p5 (t:Ty) (n:Int) (str:ByteArray) (ll lf:Int):Int:=bif n != 0 || decide (0 < ll) || decide (0 < lf) then 13 else bif decide (t.s < ((bl str).length:Int)) then 3 else 0
def IJ:Option Int->Int->Bool
  | none,_=>true
  | some q,n=>decide (q < n)
def ftA (fs:List Fl):Option Int->List (Int × Vl)->Bool
  | _,[]=>true
  | p,x :: r=>(fF fs x.1).isSome && IJ p x.1 && ftA fs (some x.1) r
theorem vH (fs:List Fl) (p:Option Int) (x:Int × Vl) (r:List (Int × Vl)):ftA fs p (x :: r)=((fF fs x.1).isSome && IJ p x.1 && ftA fs (some x.1) r):=by rw [ftA.eq_def]
theorem JN (fs:List Fl) (p:Option Int):ftA fs p []=true:=by rw [ftA.eq_def]
def lP (l:List (Int × Vl)) (n:Int):Bool:=l.any fun y=>y.1 == n
def cN (fs:List Fl) (l:List (Int × Vl)):Bool:=ftA fs none l && fs.all fun f=>f.opt || lP l f.num
mutual
def fL (s:Sc) (t:Ty):Vl->Int
  | .mk k n str l f=>
    bif !(valF s.ss s.es t) || k != t.k then 13
    else bif t.k == 4 then p5 t n str l.length f.length
    else bif t.k == 5 then (bif n != 0 || !(bl str == []) || decide (0 < (f.length:Int)) then 13 else bif decide (t.s < (l.length:Int)) then 3 else jT s (t.e.headD default) l)
    else bif t.k == 6 then (bif n != 0 || !(bl str == []) || decide (0 < (l.length:Int)) || !(cN ((fS s.ss t.n).getD default).fs f) then 13 else jV s ((fS s.ss t.n).getD default).fs f)
    else pL s t n str l.length f.length
def jT (s:Sc) (t:Ty):List Vl->Int
  | []=>0
  | v :: r=>bif fL s t v != 0 then fL s t v else jT s t r
def jV (s:Sc) (fs:List Fl):List (Int × Vl)->Int
  | []=>0
  | (i,v) :: r=>bif fL s ((fF fs i).getD default).ty v != 0 then fL s ((fF fs i).getD default).ty v else jV s fs r
end
theorem N9 (s:Sc) (t:Ty) (v:Vl):fL s t v=bif !(valF s.ss s.es t) || v.k != t.k then 13
    else bif t.k == 4 then p5 t v.n v.s v.l.length v.f.length
    else bif t.k == 5 then (bif v.n != 0 || !(bl v.s == []) || decide (0 < (v.f.length:Int)) then 13 else bif decide (t.s < (v.l.length:Int)) then 3 else jT s (t.e.headD default) v.l)
    else bif t.k == 6 then (bif v.n != 0 || !(bl v.s == []) || decide (0 < (v.l.length:Int)) || !(cN ((fS s.ss t.n).getD default).fs v.f) then 13 else jV s ((fS s.ss t.n).getD default).fs v.f)
    else pL s t v.n v.s v.l.length v.f.length:=by cases v; rw [fL]; rfl
theorem H0 (s:Sc) (fs:List Fl) (x:Int × Vl) (r:List (Int × Vl)):jV s fs (x :: r)=bif fL s ((fF fs x.1).getD default).ty x.2 != 0 then fL s ((fF fs x.1).getD default).ty x.2 else jV s fs r:=by cases x; rw [jV]
abbrev P4:S:=.va (.c1 (.fn 118 [(false,[.pt 0 0])]))
def aEH:W.Spec:=fun av H K=>∃ (x:Int) (v:Vl),av=[iS .i64 x,.va (.c1 (.pt 0 0))]/\H=[.cells (bQ v) 32]/\K (bS (x == v.n)) [.cells (bQ v) 32]
theorem aBC {x:Int} {v:Vl} {K:S->Hp->Prop} (hK:K (bS (x == v.n)) [.cells (bQ v) 32]):aEH [iS .i64 x,.va (.c1 (.pt 0 0))] [.cells (bQ v) 32] K:=⟨x,v,rfl,rfl,hK⟩
theorem QG:Meets Tryz.prog 118 aEH:=by
  refine aF Tryz.func118 aHV 2 (by rw [Tryz.ntmps118]; decide) (aA _) (fun av H K h=>by obtain ⟨_,_,rfl,_⟩:=h; rfl) ?_
  rintro av H K ⟨x,v,rfl,rfl,hK⟩
  simp -dsimp only [go_sem,bQ,V2,WT]
  exact .sel [0] (by simp) (by simp) rfl (.done (by simpa [go_sem,bQ] using hK))
def xM (p:Int->Bool):List Int->Nat->Int
  | [],_=>-1
  | x :: l,i=>bif p x then (i:Int) else xM p l (i + 1)
theorem KS (p:Int->Bool):∀ (l:List Int) (i:Nat),decide (0<=xM p l i)=l.any p
  | [],_=>rfl
  | x :: l,i=>by
    rw [List.any_cons,xM]
    cases h:p x
    · rw [Bool.cond_false,KS p l (i + 1),Bool.false_or]
    · simp
def aCV:W.Spec:=fun av H K=>∃ (l:List Int) (v:Vl),av=[.va (.c1 (.fz (l.map bU))),P4]/\H=[.cells (bQ v) 32]/\l.length<=9223372036854775807/\K (iS .i64 (xM (fun x=>x == v.n) l 0)) [.cells (bQ v) 32]
theorem aCA {l:List Int} {v:Vl} {K:S->Hp->Prop} (h:l.length<=9223372036854775807) (hK:K (iS .i64 (xM (fun x=>x == v.n) l 0)) [.cells (bQ v) 32]):aCV [.va (.c1 (.fz (l.map bU))),P4] [.cells (bQ v) 32] K:=⟨l,v,rfl,rfl,h,hK⟩
theorem YI:Meets Tryz.prog 140 aCV:=by
  refine aF Tryz.func140 aH4 2 (by rw [Tryz.ntmps140]; decide) (aB QG (aA _)) (fun av H K h=>by obtain ⟨_,_,rfl,_⟩:=h; rfl) ?_
  rintro av H K ⟨l,v,rfl,rfl,hl,hK⟩
  simp -dsimp only [go_sem,T4,U5]
  refine aK (α:=Nat) (fun i=>[(0,.va (.c1 (.fz (l.map bU)))),(1,P4),(7,iS .i64 l.length),(8,iS .i64 i)]) (fun _=>[.cells (bQ v) 32])
    (fun i=>i<=l.length/\xM (fun x=>x == v.n) (l.drop i) i=xM (fun x=>x == v.n) l 0) (fun i=>l.length - i) 0 1 ⟨Nat.zero_le _,rfl⟩ ?_ ?_ ?_
  · simp -dsimp only [go_sem]<;>simp
  · simp -dsimp only [go_sem,bQ]<;>simp
  rintro i ⟨hi,ho⟩
  rcases Nat.lt_or_ge i l.length with hlt | hge
  · have hg:decide ((i:Int) < (l.length:Int))=true:=by simp; omega
    have hx:l[i]? = some l[i]:=List.getElem?_eq_getElem hlt
    have q2:=aO (row:=bU) hx
    rw [List.drop_eq_getElem_cons hlt,xM] at ho
    generalize l[i]=y at *
    simp -dsimp only [go_sem,hg,↓q2]
    refine ⟨by omega,aBC ?_⟩
    cases hc:y == v.n with
    | true=>
      rw [hc,Bool.cond_true] at ho
      simp -dsimp only [go_sem]
      exact .sel [0] (by simp) (by simp) rfl (.done (by simpa [go_sem,bQ,ho] using hK))
    | false=>
      rw [hc,Bool.cond_false] at ho
      simp -dsimp only [go_sem]
      refine ⟨by omega,aC (i + 1) 1 ⟨by omega,ho⟩ (by omega) ?_ ?_⟩
      · simp -dsimp only [go_sem]<;>simp
      · simp -dsimp only [go_sem,bQ]<;>simp [bQ]
  · have hg:decide ((i:Int) < (l.length:Int))=false:=by simp; omega
    have:l.drop i=[]:=List.drop_eq_nil_iff.2 (by omega)
    rw [this] at ho
    simp -dsimp only [go_sem,hg]
    exact .sel [0] (by simp) (by simp) rfl (.done (by rw [show xM (fun x=>x == v.n) l 0=-1 from ho.symm] at hK; simpa [go_sem,bQ] using hK))
def aFB:W.Spec:=fun av H K=>∃ (l:List Int) (v:Vl),av=[.va (.c1 (.fz (l.map bU))),P4]/\H=[.cells (bQ v) 32]/\l.length<=9223372036854775807/\K (bS (l.any fun x=>x == v.n)) [.cells (bQ v) 32]
theorem aDK {l:List Int} {v:Vl} {K:S->Hp->Prop} (h:l.length<=9223372036854775807) (hK:K (bS (l.any fun x=>x == v.n)) [.cells (bQ v) 32]):aFB [.va (.c1 (.fz (l.map bU))),P4] [.cells (bQ v) 32] K:=⟨l,v,rfl,rfl,h,hK⟩
theorem ML:Meets Tryz.prog 117 aFB:=by
  refine aF Tryz.func117 aHT 2 (by rw [Tryz.ntmps117]; decide) (aB YI (aA _)) (fun av H K h=>by obtain ⟨_,_,rfl,_⟩:=h; rfl) ?_
  rintro av H K ⟨l,v,rfl,rfl,hl,hK⟩
  simp -dsimp only [go_sem,bQ,VL,WK]
  refine aCA hl ?_
  simp -dsimp only [go_sem,bQ,KS]
  exact .sel [0] (by simp) (by simp) rfl (.done (by simpa [go_sem,bQ] using hK))
abbrev OX:S:=.va (.c1 (.fn 142 [(false,[.pt 0 0])]))
def veX (x:Int × Vl):List C:=[.vl (.int .i64 x.1),.vl (.int .i64 x.2.k),.vl (.int .i64 x.2.n),.vl (.string x.2.s),.fz (x.2.l.map aV),.fz (x.2.f.map aY)]
def V4:W.Spec:=fun av H K=>∃ (x:Int × Vl) (f:Fl),av=[.va (.gs (veX x)),.va (.c1 (.pt 0 0))]/\H=[.cells (aR f) 97]/\K (bS (x.1 == f.num)) [.cells (aR f) 97]
theorem ZJ {x:Int × Vl} {f:Fl} {K:S->Hp->Prop} (hK:K (bS (x.1 == f.num)) [.cells (aR f) 97]):V4 [.va (.gs (veX x)),.va (.c1 (.pt 0 0))] [.cells (aR f) 97] K:=⟨x,f,rfl,rfl,hK⟩
theorem aC9:Meets Tryz.prog 142 V4:=by
  refine aF Tryz.func142 aH1 2 (by rw [Tryz.ntmps142]; decide) (aA _) (fun av H K h=>by obtain ⟨_,_,rfl,_⟩:=h; rfl) ?_
  rintro av H K ⟨x,f,rfl,rfl,hK⟩
  simp -dsimp only [go_sem,veX,aR,UR,WB]
  exact .sel [0] (by simp) (by simp) rfl (.done (by simpa [go_sem,aR] using hK))
def yD (n:Int):List (Int × Vl)->Nat->Int
  | [],_=>-1
  | x :: l,i=>bif x.1 == n then (i:Int) else yD n l (i + 1)
theorem KL (n:Int):∀ (l:List (Int × Vl)) (i:Nat),decide (0<=yD n l i)=lP l n
  | [],_=>rfl
  | x :: l,i=>by
    rw [lP,List.any_cons,yD]
    cases h:x.1 == n
    · rw [Bool.cond_false,KL n l (i + 1),Bool.false_or]; rfl
    · simp
def aD2:W.Spec:=fun av H K=>∃ (l:List (Int × Vl)) (f:Fl),av=[.va (.c1 (.fz (l.map aY))),OX]/\H=[.cells (aR f) 97]/\l.length<=9223372036854775807/\K (iS .i64 (yD f.num l 0)) [.cells (aR f) 97]
theorem aBA {l:List (Int × Vl)} {f:Fl} {K:S->Hp->Prop} (h:l.length<=9223372036854775807) (hK:K (iS .i64 (yD f.num l 0)) [.cells (aR f) 97]):aD2 [.va (.c1 (.fz (l.map aY))),OX] [.cells (aR f) 97] K:=⟨l,f,rfl,rfl,h,hK⟩
theorem ZN:Meets Tryz.prog 157 aD2:=by
  refine aF Tryz.func157 aG5 2 (by rw [Tryz.ntmps157]; decide) (aB aC9 (aA _)) (fun av H K h=>by obtain ⟨_,_,rfl,_⟩:=h; rfl) ?_
  rintro av H K ⟨l,f,rfl,rfl,hl,hK⟩
  simp -dsimp only [go_sem,VT,WP]
  refine aK (α:=Nat) (fun i=>[(0,.va (.c1 (.fz (l.map aY)))),(1,OX),(7,iS .i64 l.length),(8,iS .i64 i)]) (fun _=>[.cells (aR f) 97])
    (fun i=>i<=l.length/\yD f.num (l.drop i) i=yD f.num l 0) (fun i=>l.length - i) 0 1 ⟨Nat.zero_le _,rfl⟩ ?_ ?_ ?_
  · simp -dsimp only [go_sem]<;>simp
  · simp -dsimp only [go_sem,aR]<;>simp
  rintro i ⟨hi,ho⟩
  rcases Nat.lt_or_ge i l.length with hlt | hge
  · have hg:decide ((i:Int) < (l.length:Int))=true:=by simp; omega
    have hx:l[i]? = some l[i]:=List.getElem?_eq_getElem hlt
    have q2:=kN hx
    rw [List.drop_eq_getElem_cons hlt,yD] at ho
    generalize l[i]=y at *
    simp -dsimp only [go_sem,hg,↓q2]
    refine ⟨by omega,ZJ ?_⟩
    cases hc:y.1 == f.num with
    | true=>
      rw [hc,Bool.cond_true] at ho
      simp -dsimp only [go_sem]
      exact .sel [0] (by simp) (by simp) rfl (.done (by simpa [go_sem,aR,ho] using hK))
    | false=>
      rw [hc,Bool.cond_false] at ho
      simp -dsimp only [go_sem]
      refine ⟨by omega,aC (i + 1) 1 ⟨by omega,ho⟩ (by omega) ?_ ?_⟩
      · simp -dsimp only [go_sem]<;>simp
      · simp -dsimp only [go_sem,aR]<;>simp [aR]
  · have hg:decide ((i:Int) < (l.length:Int))=false:=by simp; omega
    have:l.drop i=[]:=List.drop_eq_nil_iff.2 (by omega)
    rw [this] at ho
    simp -dsimp only [go_sem,hg]
    exact .sel [0] (by simp) (by simp) rfl (.done (by rw [show yD f.num l 0=-1 from ho.symm] at hK; simpa [go_sem,aR] using hK))
def aCM:W.Spec:=fun av H K=>∃ (l:List (Int × Vl)) (f:Fl),av=[.va (.c1 (.fz (l.map aY))),OX]/\H=[.cells (aR f) 97]/\l.length<=9223372036854775807/\K (bS (lP l f.num)) [.cells (aR f) 97]
theorem aBH {l:List (Int × Vl)} {f:Fl} {K:S->Hp->Prop} (h:l.length<=9223372036854775807) (hK:K (bS (lP l f.num)) [.cells (aR f) 97]):aCM [.va (.c1 (.fz (l.map aY))),OX] [.cells (aR f) 97] K:=⟨l,f,rfl,rfl,h,hK⟩
theorem NG:Meets Tryz.prog 141 aCM:=by
  refine aF Tryz.func141 aFQ 2 (by rw [Tryz.ntmps141]; decide) (aB ZN (aA _)) (fun av H K h=>by obtain ⟨_,_,rfl,_⟩:=h; rfl) ?_
  rintro av H K ⟨l,f,rfl,rfl,hl,hK⟩
  simp -dsimp only [go_sem,aR,W0,U6]
  refine aBA hl ?_
  simp -dsimp only [go_sem,aR,KL]
  exact .sel [0] (by simp) (by simp) rfl (.done (by simpa [go_sem,aR] using hK))
end Go.Proofs.YtkpohmhenegkiaaGreatDoor
namespace Go.Proofs.YtkpohmhenegkiaaGreatDoor
open Go.W
def ER (P:Sc->Ty->Vl->Prop):List S->Prop:=fun av=>match av with
  | [.va (.gs r),.va (.gs q),.va (.gs p)]=>iU r/\eK q/\qJ p/\P (C.sc r) (C.ty q) (C.vv p)
  | _=>False
theorem l7 {P:Sc->Ty->Vl->Prop} {av:List S} (h:ER P av):∃ s t v,av=[.va (.gs (aE s)),.va (.gs (aM t)),.va (.gs (aV v))]/\s.fit/\TyOk t/\VlOk v/\P s t v:=by
  unfold ER at h
  split at h
  · obtain ⟨⟨s,rfl,hs⟩,⟨t,rfl,ht⟩,⟨v,rfl,hv⟩,h⟩:=h
    rw [dW,eH,kY] at h
    exact ⟨s,t,v,rfl,hs,ht,hv,h⟩
  · exact h.elim
noncomputable def VJ (f:Sc->Ty->Vl->Value):List S->A:=fun av=>match av with
  | [.va (.gs r),.va (.gs q),.va (.gs p)]=>.c1 (.vl (f (C.sc r) (C.ty q) (C.vv p)))
  | _=>.gs []
noncomputable def cQ (P:Sc->Ty->Vl->Prop) (f:Sc->Ty->Vl->Value):Fun:=⟨ER P,VJ f,fun av h=>by obtain ⟨_,_,_,rfl,_⟩:=l7 h; trivial⟩
theorem eE {P:Sc->Ty->Vl->Prop} {f:Sc->Ty->Vl->Value}:∀ av H K,(cQ P f).sp av H K->av.length=3:=fun av H K h=>by obtain ⟨_,_,_,rfl,_⟩:=l7 h.1.1; rfl
attribute [go_sem] cQ ER VJ
theorem dH {P:Sc->Ty->Vl->Prop} {f:Sc->Ty->Vl->Value} {av:List S} {H:Hp} {K:S->Hp->Prop} (h:(cQ P f).sp av H K) :
    ∃ s t v,av=[.va (.gs (aE s)),.va (.gs (aM t)),.va (.gs (aV v))]/\H=[]/\s.fit/\TyOk t/\VlOk v/\P s t v/\K (.va (.c1 (.vl (f s t v)))) []:=by
  obtain ⟨⟨h,rfl⟩,hK⟩:=h
  obtain ⟨s,t,v,rfl,hs,ht,hv,hp⟩:=l7 h
  have:(cQ P f).val [.va (.gs (aE s)),.va (.gs (aM t)),.va (.gs (aV v))]=.c1 (.vl (f s t v)):=by simp -dsimp only [go_sem]
  rw [this] at hK
  exact ⟨s,t,v,rfl,rfl,hs,ht,hv,hp,hK⟩
theorem aD6:Meets Tryz.prog 92 (cQ (fun _ _ _=>True) fun _ t v=>.int .i64 (p5 t v.n v.s v.l.length v.f.length)).sp:=by
  refine aF Tryz.func92 aNF 3 (by rw [Tryz.ntmps92]; decide) (aA _) eE ?_
  intro av H K h
  obtain ⟨s,t,v,rfl,rfl,hs,ht,hv,_,hK⟩:=dH h
  clear h
  have fin:∀ (z:Int) (R:Hp),p5 t v.n v.s v.l.length v.f.length=z->W.Fin 0 K (iS .i64 z) R:=fun z R h=>by
    rw [h] at hK; exact .sel [] (by simp) (by simp) rfl (.done (by simpa [go_sem] using hK))
  clear hK
  unfold p5 at fin
  cases h1:v.n != 0<;>cases h2:decide (0 < (v.l.length:Int))<;>cases h3:decide (0 < (v.f.length:Int))<;>cases h4:decide (t.s < ((bl v.s).length:Int)) <;>
  · rw [h1,h2,h3,h4] at fin
    simp (maxSteps:=1000000) -dsimp only [go_sem,aE,aH t,aI v,aBP,aE8,h1,h2,h3,h4]
    exact fin _ _ rfl
theorem aMO {ss:List St} {es:List En} {t:Ty} (h:valF ss es t=true) (k:(t.k == 2)=true):t.s=8\/t.s=16\/t.s=32\/t.s=64:=by
  cases t with
  | mk k0 s n e=>
    obtain rfl:k0=2:=by have k:(k0 == 2)=true:=k; simpa using k
    rw [valF] at h
    have:(s == 8 || s == 16 || s == 32 || s == 64)=true:=by
      simp only [show ((2:Int) == 1)=false from rfl,show ((2:Int) == 2)=true from rfl,Bool.cond_true,Bool.cond_false,Bool.and_eq_true] at h
      exact h.1.1
    show s=8\/s=16\/s=32\/s=64
    simp only [Bool.or_eq_true,beq_iff_eq] at this
    omega
theorem aL2 {ss:List St} {es:List En} {t:Ty} (h:valF ss es t=true) (k:(t.k == 3)=true):t.s=8\/t.s=16\/t.s=32:=by
  cases t with
  | mk k0 s n e=>
    obtain rfl:k0=3:=by have k:(k0 == 3)=true:=k; simpa using k
    rw [valF] at h
    have:(s == 8 || s == 16 || s == 32)=true:=by
      simp only [show ((3:Int) == 1)=false from rfl,show ((3:Int) == 2)=false from rfl,show ((3:Int) == 3)=true from rfl,Bool.cond_true,Bool.cond_false,Bool.and_eq_true,Bool.and_false,Bool.or_false] at h
      exact h.1.1
    show s=8\/s=16\/s=32
    simp only [Bool.or_eq_true,beq_iff_eq] at this
    omega
theorem TJ:Meets Tryz.prog 91 (cQ (fun s t _=>valF s.ss s.es t=true) fun s t v=>.int .i64 (pL s t v.n v.s v.l.length v.f.length)).sp:=by
  refine aF Tryz.func91 aK1 3 (by rw [Tryz.ntmps91]; decide) (aB y9 (aB ML (aA _))) eE ?_
  intro av H K h
  obtain ⟨s,t,v,rfl,rfl,hs,ht,hv,hp,hK⟩:=dH h
  clear h
  have fin:∀ (z:Int) (R:Hp),pL s t v.n v.s v.l.length v.f.length=z->W.Fin 0 K (iS .i64 z) R:=fun z R h=>by
    rw [h] at hK; exact .sel [] (by simp) (by simp) rfl (.done (by simpa [go_sem] using hK))
  clear hK
  unfold pL at fin
  cases h1:bl v.s == [] with
  | false=>
    rw [h1] at fin
    simp (maxSteps:=1000000) -dsimp only [go_sem,aE,aH t,aI v,IL,GU,h1]
    exact fin _ _ rfl
  | true=>
  cases h2:decide (0 < (v.l.length:Int)) with
  | true=>
    rw [h1,h2] at fin
    simp (maxSteps:=1000000) -dsimp only [go_sem,aE,aH t,aI v,IL,GU,h1,h2]
    exact fin _ _ rfl
  | false=>
  cases h3:decide (0 < (v.f.length:Int)) with
  | true=>
    rw [h1,h2,h3] at fin
    simp (maxSteps:=1000000) -dsimp only [go_sem,aE,aH t,aI v,IL,GU,h1,h2,h3]
    exact fin _ _ rfl
  | false=>
  rw [h1,h2,h3] at fin
  simp only [Bool.not_true,Bool.or_self,Bool.cond_false] at fin
  unfold FX at fin
  simp (maxSteps:=1000000) -dsimp only [go_sem,aE,aH t,aI v,IL,GU,h1,h2,h3]
  refine ⟨fun k1=>aD rfl (.done ?_),fun k1=>aD rfl (.done ?_)⟩
  · rw [k1,Bool.cond_true] at fin
    simp (maxSteps:=1000000) -dsimp only [go_sem,EU]
    refine aD rfl (.done ?_)
    cases h4:(v.n == 0 || v.n == 1) <;>
    · rw [h4] at fin
      simp (maxSteps:=1000000) -dsimp only [go_sem,i7]
      exact fin _ _ rfl
  rw [k1,Bool.cond_false] at fin
  simp (maxSteps:=1000000) -dsimp only [go_sem,FQ]
  refine ⟨fun k2=>aD rfl (.done ?_),fun k2=>aD rfl (.done ?_)⟩
  · rw [k2,Bool.cond_true] at fin
    cases h64:t.s == 64 with
    | true=>
      rw [h64] at fin
      simp (maxSteps:=1000000) -dsimp only [go_sem,zN,h64,Bool.false_and]
      refine aD rfl (.done ?_)
      simp (maxSteps:=1000000) -dsimp only [go_sem,i7]
      exact fin _ _ rfl
    | false=>
      rw [h64,Bool.false_or] at fin
      obtain ⟨b1,b2,e1,e2⟩:8<=t.s/\t.s<=32/\IntKind.i64.wrap (-1 * 2 ^ min (t.s - 1).toNat 64)=-(2 ^ (t.s.toNat - 1):Int)/\IntKind.i64.wrap (1 * 2 ^ min (t.s - 1).toNat 64)=(2 ^ (t.s.toNat - 1):Int):=by
        rcases aMO hp k2 with hz | hz | hz | hz
        · rw [hz]; decide
        · rw [hz]; decide
        · rw [hz]; decide
        · rw [hz] at h64; simp at h64
      have f1:(0<=t.s - 1)=True:=eq_true (by omega)
      have f2:(-9223372036854775808<=t.s - 1)=True:=eq_true (by omega)
      have f3:(t.s - 1<=9223372036854775807)=True:=eq_true (by omega)
      generalize (2 ^ (t.s.toNat - 1):Int)=hi at *
      cases h4:decide (-hi<=v.n)<;>cases h5:decide (v.n < hi) <;>
      · rw [h4,h5] at fin
        simp (maxSteps:=1000000) -dsimp only [go_sem,zN,h64,e1,e2,h4,h5,f1,f2,f3]
        refine aD rfl (.done ?_)
        simp (maxSteps:=1000000) -dsimp only [go_sem,i7]
        exact fin _ _ rfl
  rw [k2,Bool.cond_false] at fin
  simp (maxSteps:=1000000) -dsimp only [go_sem,HM]
  refine ⟨fun k3=>aD rfl (.done ?_),fun k3=>aD rfl (.done ?_)⟩
  · rw [k3,Bool.cond_true] at fin
    obtain ⟨b1,e1⟩:0<=t.s/\IntKind.i64.wrap (1 * 2 ^ min t.s.toNat 64)=(2 ^ t.s.toNat:Int):=by
      rcases aL2 hp k3 with hz | hz | hz
      · rw [hz]; decide
      · rw [hz]; decide
      · rw [hz]; decide
    generalize (2 ^ t.s.toNat:Int)=hi at *
    cases h4:decide (0<=v.n)<;>cases h5:decide (v.n < hi) <;>
    · rw [h4,h5] at fin
      simp (maxSteps:=1000000) -dsimp only [go_sem,AJ,e1,h4,h5,b1]
      refine aD rfl (.done ?_)
      simp (maxSteps:=1000000) -dsimp only [go_sem,i7]
      exact fin _ _ rfl
  rw [k3,Bool.cond_false] at fin
  simp (maxSteps:=1000000) -dsimp only [go_sem,AH]
  refine ⟨fun k7=>aD rfl (.done ?_),fun k7=>aD rfl (.done ?_)⟩
  · rw [k7,Bool.cond_true] at fin
    simp (maxSteps:=1000000) -dsimp only [go_sem,BZ]
    refine jA (s:=s) hs ?_
    generalize hu:(bX s.es t.n).getD default=u at *
    have hul:u.vs.length<=9223372036854775807:=by
      rw [<-hu]
      cases hf:bX s.es t.n with
      | none=>exact Nat.zero_le _
      | some w=>exact (hs.ok.es w (XZ hf).1).lv
    simp (maxSteps:=1000000) -dsimp only [go_sem,aX]
    refine aD rfl (.done ?_)
    simp (maxSteps:=1000000) -dsimp only [go_sem,BX]
    refine aDK hul ?_
    simp (maxSteps:=1000000) -dsimp only [go_sem,bQ]
    refine aD rfl (.done ?_)
    cases h4:u.vs.any fun x=>x == v.n <;>
    · rw [h4] at fin
      simp (maxSteps:=1000000) -dsimp only [go_sem,i7]
      exact fin _ _ rfl
  rw [k7] at fin
  simp (maxSteps:=1000000) -dsimp only [go_sem,i7]
  exact fin _ _ rfl
end Go.Proofs.YtkpohmhenegkiaaGreatDoor
namespace Go.Proofs.YtkpohmhenegkiaaGreatDoor
open Go.W
theorem J5 {a b:Int × Vl} (h:aY a=aY b):a=b:=by
  obtain ⟨i,x⟩:=a
  obtain ⟨j,y⟩:=b
  obtain ⟨h1,h2⟩:=List.cons.inj h
  have e:i=j:=by simpa using h1
  have e2:x=y:=tK h2
  rw [e,e2]
instance:Inhabited (Int × Vl):=⟨(0,default)⟩
noncomputable def C.ve:=qO aY
@[go_sem] theorem aQ8 (v:Int × Vl):C.ve (aY v)=v:=iM J5 v
@[go_sem] theorem aCT (l:List (Int × Vl)):(l.map aY).map C.ve=l:=j9 J5 l
def EP (r:List C):Prop:=∃ u:St,r=aL u/\u.ok/\∀ f ∈ u.fs,TySm f.ty
def aEK (rs:List (List C)):Prop:=∃ l:List (Int × Vl),rs=l.map aY/\l.length * 88<=140737488355328/\∀ x ∈ l,bJ x.1/\VlOk x.2
theorem YC {v:Vl} (h:VlOk v):aEK (v.f.map aY):=⟨v.f,rfl,h.lf,fun x hx=>⟨h.fn x hx,h.f x hx⟩⟩
theorem FD {s:Sc} (hs:s.fit) (n:ByteArray):EP (aL ((fS s.ss n).getD default)):=by
  refine ⟨_,rfl,?_⟩
  cases hf:fS s.ss n with
  | none=>exact ⟨St.ok_default,fun f hf=>(List.not_mem_nil hf).elim⟩
  | some w=>exact ⟨hs.ok.ss w (gZ hf).1,(hs.sm w (gZ hf).1).2⟩
def yR:List S->Prop:=fun av=>match av with
  | [.va (.gs r),.va (.c1 (.fz rs))]=>EP r/\aEK rs
  | _=>False
theorem oG {av:List S} (h:yR av):∃ (u:St) (l:List (Int × Vl)),av=[.va (.gs (aL u)),.va (.c1 (.fz (l.map aY)))]/\u.ok/\(∀ f ∈ u.fs,TySm f.ty)/\l.length * 88<=140737488355328/\∀ x ∈ l,bJ x.1/\VlOk x.2:=by
  unfold yR at h
  split at h
  · obtain ⟨⟨u,rfl,h1,h2⟩,⟨l,rfl,h3,h4⟩⟩:=h; exact ⟨u,l,rfl,h1,h2,h3,h4⟩
  · exact h.elim
noncomputable def OA:List S->A:=fun av=>match av with
  | [.va (.gs r),.va (.c1 (.fz rs))]=>bA (cN (C.st r).fs (rs.map C.ve))
  | _=>.gs []
noncomputable def ftFn1:Fun:=⟨yR,OA,fun av h=>by obtain ⟨_,_,rfl,_⟩:=oG h; trivial⟩
theorem PD:∀ av H K,ftFn1.sp av H K->av.length=2:=fun av H K h=>by obtain ⟨_,_,rfl,_⟩:=oG h.1.1; rfl
attribute [go_sem] ftFn1 yR OA
def uA (l:List (Int × Vl)):Nat->Option Int
  | 0=>none
  | j + 1=>(l[j]?).map (·.1)
theorem HC {l:List (Int × Vl)} {n:Int} {x:Int × Vl} (h:l[n.toNat]? = some x) (p:List C->Prop):(∀ r,(l.map aY)[n.toNat]? = some r->p r)=p [.vl (.int .i64 x.1),.vl (.int .i64 x.2.k),.vl (.int .i64 x.2.n),.vl (.string x.2.s),.fz (x.2.l.map aV),.fz (x.2.f.map aY)]:=by
  rw [<-PG]; exact o8 (row:=aY) h p
theorem aDS:Meets Tryz.prog 119 ftFn1.sp:=by
  refine aF Tryz.func119 aF4 2 (by rw [Tryz.ntmps119]; decide) (aB sI (aB NG (aA _))) PD ?_
  rintro av H K ⟨⟨h,rfl⟩,hK⟩
  obtain ⟨u,l,rfl,hu,hus,hl,hlo⟩:=oG h
  replace hK:K (bS (cN u.fs l)) []:=by
    have:ftFn1.val [.va (.gs (aL u)),.va (.c1 (.fz (l.map aY)))]=bA (cN u.fs l):=by simp -dsimp only [go_sem]
    rw [this] at hK; exact hK
  clear h
  have fin:∀ (b:Bool) (R:Hp),cN u.fs l=b->W.Fin 0 K (bS b) R:=fun b R h=>by
    rw [h] at hK; exact .sel [] (by simp) (by simp) rfl (.done (by simpa [go_sem] using hK))
  clear hK
  have hfl:=hu.len
  generalize hR:u.fs.all (fun f=>f.opt || lP l f.num)=R2
  have hF:cN u.fs l=(ftA u.fs none l && R2):=by rw [<-hR]; rfl
  rw [hF] at fin
  generalize hR0:(ftA u.fs none l && R2)=R0 at fin
  clear hF
  simp (maxSteps:=1000000) -dsimp only [go_sem,aL,WA,XL]
  refine aK (α:=Nat) (fun i=>[(1,.va (.c1 (.fz (l.map aY)))),(2,.va (.c1 (.pt 0 0))),(11,.va (.c1 (.fz (l.map aY)))),(12,iS .i64 l.length),(13,iS .i64 i)]) (fun _=>[.cells (aL u) 95])
    (fun i=>i<=l.length/\(ftA u.fs (uA l i) (l.drop i) && R2)=R0) (fun i=>l.length - i) 0 1 ⟨Nat.zero_le _,hR0⟩ ?_ ?_ ?_
  · simp -dsimp only [go_sem]<;>simp
  · simp -dsimp only [go_sem,aL]<;>simp
  rintro i ⟨hi,ho⟩
  rcases Nat.lt_or_ge i l.length with hlt | hge
  · have hg:decide ((i:Int) < (l.length:Int))=true:=by simp; omega
    obtain ⟨x,hx⟩:∃ t,l[i]? = some t:=⟨_,List.getElem?_eq_getElem hlt⟩
    have q1:=kN hx
    have hdr:l.drop i=x :: l.drop (i + 1):=by
      obtain ⟨h,rfl⟩:=List.getElem?_eq_some_iff.1 hx
      exact List.drop_eq_getElem_cons h
    have hpv:uA l (i + 1)=some x.1:=by rw [uA,hx]; rfl
    rw [hdr,vH,<-hpv] at ho
    simp (maxSteps:=1000000) -dsimp only [go_sem,hg,↓q1,aL]
    refine ⟨by omega,aD rfl (.done ?_)⟩
    simp (maxSteps:=1000000) -dsimp only [go_sem,BP]
    refine JG (t:=u) hu hus ?_
    cases hf:fF u.fs x.1 with
    | none=>
      rw [hf] at ho
      simp (maxSteps:=1000000) -dsimp only [go_sem,tP,Option.getD_none,Option.isSome_none]
      refine aD rfl (.done ?_)
      simp (maxSteps:=1000000) -dsimp only [go_sem,mD,Bool.false_and]
      exact fin _ _ ho.symm
    | some g=>
      rw [hf,Option.isSome_some,Bool.true_and] at ho
      simp (maxSteps:=1000000) -dsimp only [go_sem,aR,Option.getD_some,Option.isSome_some]
      refine aD rfl (.done ?_)
      cases hz:decide ((0:Int) < (i:Int)) with
      | false=>
        obtain rfl:i=0:=by have:=of_decide_eq_false hz; omega
        simp (maxSteps:=1000000) -dsimp only [go_sem,mD,hz]
        refine ⟨by omega,aC (0 + 1) 1 ⟨by omega,ho⟩ (by omega) ?_ ?_⟩
        · simp -dsimp only [go_sem]<;>simp
        · simp -dsimp only [go_sem,aL]<;>simp [aL]
      | true=>
        have hz':=of_decide_eq_true hz
        obtain ⟨y,hy⟩:∃ t,l[i - 1]? = some t:=⟨_,List.getElem?_eq_getElem (by omega)⟩
        have hti:((i:Int) - 1).toNat=i - 1:=by omega
        have q2:=fun p=>HC (n:=(i:Int) - 1) (x:=y) (by rw [hti]; exact hy) p
        have hpi:uA l i=some y.1:=by
          match i,hz',hy with
          | j + 1,_,hy=>rw [uA]; rw [show j + 1 - 1=j by omega] at hy; rw [hy]; rfl
        rw [hpi,IJ] at ho
        have f1:(0<=(i:Int) - 1)=True:=eq_true (by omega)
        have f2:((i:Int) - 1 < (l.length:Int))=True:=eq_true (by omega)
        cases hc:decide (x.1<=y.1) with
        | true=>
          have:decide (y.1 < x.1)=false:=by have:=of_decide_eq_true hc; simp; omega
          rw [this] at ho
          simp (maxSteps:=1000000) -dsimp only [go_sem,mD,hz,↓q2,hc,f1,f2]
          exact ⟨by omega,fin _ _ ho.symm⟩
        | false=>
          have:decide (y.1 < x.1)=true:=by have:=of_decide_eq_false hc; simp; omega
          rw [this,Bool.true_and] at ho
          simp (maxSteps:=1000000) -dsimp only [go_sem,mD,hz,↓q2,hc,f1,f2]
          refine ⟨by omega,by omega,aC (i + 1) 1 ⟨by omega,ho⟩ (by omega) ?_ ?_⟩
          · simp -dsimp only [go_sem]<;>simp
          · simp -dsimp only [go_sem,aL]<;>simp [aL]
  · have hg:decide ((i:Int) < (l.length:Int))=false:=by simp; omega
    obtain rfl:i=l.length:=by omega
    rw [List.drop_length,JN,Bool.true_and] at ho
    simp (maxSteps:=1000000) -dsimp only [go_sem,hg,aL]
    refine aD rfl (.done ?_)
    simp (maxSteps:=1000000) -dsimp only [go_sem,AN]
    clear hi hge hg hR0
    rw [<-hR] at ho
    clear hR
    refine aK (α:=Nat) (fun i=>[(1,.va (.c1 (.fz (l.map aY)))),(2,.va (.c1 (.pt 0 0))),(44,.va (.c1 (.fz (u.fs.map aR)))),(45,iS .i64 u.fs.length),(46,iS .i64 i)]) (fun _=>[.cells (aL u) 95])
      (fun i=>i<=u.fs.length/\(u.fs.drop i).all (fun f=>f.opt || lP l f.num)=R0) (fun i=>u.fs.length - i) 0 1 ⟨Nat.zero_le _,ho⟩ ?_ ?_ ?_
    · simp -dsimp only [go_sem]<;>simp
    · simp -dsimp only [go_sem,aL]<;>simp
    clear ho
    rintro i ⟨hi,ho⟩
    rcases Nat.lt_or_ge i u.fs.length with hlt | hge
    · have hg:decide ((i:Int) < (u.fs.length:Int))=true:=by simp; omega
      obtain ⟨f,hx⟩:∃ t,u.fs[i]? = some t:=⟨_,List.getElem?_eq_getElem hlt⟩
      have q1:=aO (row:=aR) hx
      rw [m4 hx] at ho
      simp (maxSteps:=1000000) -dsimp only [go_sem,hg,↓q1,aL,aR]
      refine ⟨by omega,aD rfl (.done ?_)⟩
      cases hop:f.opt with
      | true=>
        rw [hop,Bool.true_or,Bool.true_and] at ho
        simp (maxSteps:=1000000) -dsimp only [go_sem,pK]
        refine ⟨by omega,aC (i + 1) 1 ⟨by omega,ho⟩ (by omega) ?_ ?_⟩
        · simp -dsimp only [go_sem]<;>simp
        · simp -dsimp only [go_sem,aL]<;>simp [aL]
      | false=>
        rw [hop,Bool.false_or] at ho
        have cu:=fun K h=>aBH (l:=l) (f:=f) (K:=K) (by omega) h
        rw [aR,hop] at cu
        simp (maxSteps:=1000000) -dsimp only [go_sem,pK]
        refine cu _ ?_
        cases hc:lP l f.num with
        | false=>
          rw [hc,Bool.false_and] at ho
          simp (maxSteps:=1000000) -dsimp only [go_sem]
          exact fin _ _ ho.symm
        | true=>
          rw [hc,Bool.true_and] at ho
          simp (maxSteps:=1000000) -dsimp only [go_sem]
          refine ⟨by omega,aC (i + 1) 1 ⟨by omega,ho⟩ (by omega) ?_ ?_⟩
          · simp -dsimp only [go_sem]<;>simp
          · simp -dsimp only [go_sem,aL]<;>simp [aL]
    · have hg:decide ((i:Int) < (u.fs.length:Int))=false:=by simp; omega
      obtain rfl:i=u.fs.length:=by omega
      rw [oH] at ho
      simp (maxSteps:=1000000) -dsimp only [go_sem,hg,aL]
      exact fin _ _ ho.symm
end Go.Proofs.YtkpohmhenegkiaaGreatDoor
namespace Go.Proofs.YtkpohmhenegkiaaGreatDoor
open Go.W
abbrev US (s:Sc) (t:Ty) (v:Vl):Value:=.int .i64 (fL s t v)
abbrev qW (N:Nat):Sc->Ty->Vl->Prop:=fun _ _ v=>v.h<=N
def M9 (s:Sc) (t:Ty) (v:Vl):Int:=bif v.n != 0 || !(bl v.s == []) || decide (0 < (v.f.length:Int)) then 13 else bif decide (t.s < (v.l.length:Int)) then 3 else jT s (t.e.headD default) v.l
def MS (s:Sc) (t:Ty) (v:Vl):Int:=bif v.n != 0 || !(bl v.s == []) || decide (0 < (v.l.length:Int)) || !(cN ((fS s.ss t.n).getD default).fs v.f) then 13 else jV s ((fS s.ss t.n).getD default).fs v.f
theorem cL {t:Ty} (h:TyOk t):eK [.vl (.int .i64 t.k),.vl (.int .i64 t.s),.vl (.string t.n),.fz (t.e.map aM)]:=by rw [<-aH]; exact dG h
theorem fN (t:Ty):C.ty [.vl (.int .i64 t.k),.vl (.int .i64 t.s),.vl (.string t.n),.fz (t.e.map aM)]=t:=by rw [<-aH,eH]
theorem dV {s:Sc} (h:s.fit):iU [.vl (.int .i64 s.ver),.fz (s.es.map aX),.fz (s.ss.map aL)]:=eZ h
theorem hM (s:Sc):C.sc [.vl (.int .i64 s.ver),.fz (s.es.map aX),.fz (s.ss.map aL)]=s:=dW s
theorem Q8 {ss:List St} {es:List En} {t:Ty} (h:valF ss es t=true) (k:(t.k == 5)=true):∃ u,t.e=[u]/\valF ss es u=true:=by
  cases t with
  | mk k0 s n e=>
    obtain rfl:k0=5:=by have k:(k0 == 5)=true:=k; simpa using k
    exact uX h
theorem aBR (N:Nat) (hc:Meets Tryz.prog 53 (cQ (qW N) US).sp):Meets Tryz.prog 93 (cQ (fun s t v=>valF s.ss s.es t=true/\(t.k == 5)=true/\v.h<=N + 1) fun s t v=>.int .i64 (M9 s t v)).sp:=by
  refine aF Tryz.func93 aKM 3 (by rw [Tryz.ntmps93]; decide) (aG hc (aA _)) eE ?_
  intro av H K h
  obtain ⟨s,t,v,rfl,rfl,hs,ht,hv,⟨hp,hk,hh⟩,hK⟩:=dH h
  clear h
  have fin:∀ (z:Int) (R:Hp),M9 s t v=z->W.Fin 0 K (iS .i64 z) R:=fun z R h=>by
    rw [h] at hK; exact .sel [] (by simp) (by simp) rfl (.done (by simpa [go_sem] using hK))
  clear hK
  unfold M9 at fin
  obtain ⟨u,he,hu⟩:=Q8 hp hk
  have huo:TyOk u:=ht.e u (by rw [he]; simp)
  have hll:=hv.ll
  rw [he] at fin
  simp only [List.headD_cons] at fin
  cases h0:(v.n != 0 || !(bl v.s == []) || decide (0 < (v.f.length:Int))) with
  | true=>
    rw [h0] at fin
    cases h1:v.n != 0<;>cases h2:bl v.s == []<;>cases h3:decide (0 < (v.f.length:Int)) <;>
    first
      | (exfalso; rw [h1,h2,h3] at h0; exact absurd h0 (by decide))
      | (simp (maxSteps:=1000000) -dsimp only [go_sem,aE,aH t,aI v,MG,L5,h1,h2,h3]
         exact fin _ _ rfl)
  | false=>
  rw [h0] at fin
  obtain ⟨h1,h2,h3⟩:(v.n != 0)=false/\(bl v.s == [])=true/\decide (0 < (v.f.length:Int))=false:=by
    simp only [Bool.or_eq_false_iff,Bool.not_eq_false'] at h0; exact ⟨h0.1.1,h0.1.2,h0.2⟩
  cases h4:decide (t.s < (v.l.length:Int)) with
  | true=>
    rw [h4] at fin
    simp (maxSteps:=1000000) -dsimp only [go_sem,aE,aH t,aI v,MG,L5,h1,h2,h3,h4]
    exact fin _ _ rfl
  | false=>
  rw [h4] at fin
  simp only [Bool.cond_false] at fin
  simp (maxSteps:=1000000) -dsimp only [go_sem,aE,aH t,aI v,MG,L5,h1,h2,h3,h4]
  refine aK (α:=Nat) (fun i=>[(3,.va (.c1 (.pt 0 0))),(4,.va (.c1 (.pt 1 0))),(5,.va (.c1 (.pt 2 0))),(33,.va (.c1 (.fz (v.l.map aV)))),(34,iS .i64 v.l.length),(35,iS .i64 i)]) (fun _=>[.cells (aE s) 105,.cells [.vl (.int .i64 t.k),.vl (.int .i64 t.s),.vl (.string t.n),.fz (t.e.map aM)] 28,.cells (bQ v) 32])
    (fun i=>i<=v.l.length/\jT s u (v.l.drop i)=jT s u v.l) (fun i=>v.l.length - i) 0 3 ⟨Nat.zero_le _,rfl⟩ ?_ ?_ ?_
  · simp -dsimp only [go_sem]<;>simp
  · simp -dsimp only [go_sem,bQ,aE]<;>simp
  rintro i ⟨hi,ho⟩
  rcases Nat.lt_or_ge i v.l.length with hlt | hge
  · have hg:decide ((i:Int) < (v.l.length:Int))=true:=by simp; omega
    obtain ⟨x,hx⟩:∃ t,v.l[i]? = some t:=⟨_,List.getElem?_eq_getElem hlt⟩
    have q1:=VV hx
    have hxm:=List.mem_of_getElem? hx
    have k1:=cE (hv.l x hxm)
    have k2:=eR x
    have k3:x.h<=N:=by have:=Vl.h_l hxm; omega
    have hdr:v.l.drop i=x :: v.l.drop (i + 1):=by
      obtain ⟨h,rfl⟩:=List.getElem?_eq_some_iff.1 hx
      exact List.drop_eq_getElem_cons h
    have k4:=cL huo
    have k5:=fN u
    have k6:=dV hs
    have k7:=hM s
    rw [hdr,jT] at ho
    rw [he]
    cases h5:fL s u x != 0 with
    | true=>
      rw [h5,Bool.cond_true] at ho
      simp (maxSteps:=1000000) -dsimp only [go_sem,hg,↓q1,bQ,aE,aH u,k1,k2,k3,k4,k5,k6,k7,h5,List.getElem?_cons_zero,Option.some.injEq,forall_eq']
      exact ⟨by omega,by omega,fin _ _ ho.symm⟩
    | false=>
      rw [h5,Bool.cond_false] at ho
      simp (maxSteps:=1000000) -dsimp only [go_sem,hg,↓q1,bQ,aE,aH u,k1,k2,k3,k4,k5,k6,k7,h5,List.getElem?_cons_zero,Option.some.injEq,forall_eq']
      refine ⟨by omega,by omega,by omega,aC (i + 1) 3 ⟨by omega,ho⟩ (by omega) ?_ ?_⟩
      · simp -dsimp only [go_sem]<;>simp
      · simp -dsimp only [go_sem,bQ,aE]<;>simp [aH u]
  · have hg:decide ((i:Int) < (v.l.length:Int))=false:=by simp; omega
    obtain rfl:i=v.l.length:=by omega
    rw [List.drop_length,jT] at ho
    simp (maxSteps:=1000000) -dsimp only [go_sem,hg,bQ,aE]
    exact fin _ _ ho.symm
end Go.Proofs.YtkpohmhenegkiaaGreatDoor
namespace Go.Proofs.YtkpohmhenegkiaaGreatDoor
open Go.W
theorem F0:TyOk default:=.mk (by unfold bJ; decide) (by unfold bJ; decide) (by decide) (by decide) (fun _ h=>by cases h)
theorem aDB {fs:List Fl} {u:St} (hu:u.ok) (e:fs=u.fs) (k:Int):TyOk ((fF fs k).getD default).ty:=by
  subst e
  cases hf:fF u.fs k with
  | none=>exact F0
  | some g=>exact (hu.fs g (List.mem_of_find?_eq_some hf)).ty
theorem P0 (N:Nat) (hc:Meets Tryz.prog 53 (cQ (qW N) US).sp):Meets Tryz.prog 94 (cQ (fun _ _ v=>v.h<=N + 1) fun s t v=>.int .i64 (MS s t v)).sp:=by
  refine aF Tryz.func94 aMT 3 (by rw [Tryz.ntmps94]; decide) (aG hc (aB mY (aG aDS (aB sI (aA _))))) eE ?_
  intro av H K h
  obtain ⟨s,t,v,rfl,rfl,hs,ht,hv,hh,hK⟩:=dH h
  clear h
  have fin:∀ (z:Int) (R:Hp),MS s t v=z->W.Fin 0 K (iS .i64 z) R:=fun z R h=>by
    rw [h] at hK; exact .sel [] (by simp) (by simp) rfl (.done (by simpa [go_sem] using hK))
  clear hK
  unfold MS at fin
  have hlf:=hv.lf
  have kS:=FD hs t.n
  have kE:=YC hv
  simp (maxSteps:=1000000) -dsimp only [go_sem,aE,aH t,aI v,aB3,aB7]
  refine gP (s:=s) hs ?_
  generalize (fS s.ss t.n).getD default=u at *
  obtain ⟨huo,hus⟩:u.ok/\∀ f ∈ u.fs,TySm f.ty:=by
    obtain ⟨w,hw,h1,h2⟩:=kS
    obtain rfl:=tE hw
    exact ⟨h1,h2⟩
  have kd:=QB u
  have kv:=aCT v.f
  rw [aL] at kS kd
  simp (maxSteps:=1000000) -dsimp only [go_sem,aL]
  refine aD rfl (.done ?_)
  cases h0:(v.n != 0 || !(bl v.s == []) || decide (0 < (v.l.length:Int)) || !(cN u.fs v.f)) with
  | true=>
    rw [h0] at fin
    cases h1:v.n != 0<;>cases h2:bl v.s == []<;>cases h3:decide (0 < (v.l.length:Int))<;>cases h4:cN u.fs v.f <;>
    first
      | (exfalso; rw [h1,h2,h3,h4] at h0; exact absurd h0 (by decide))
      | (simp (maxSteps:=1000000) -dsimp only [go_sem,zJ,h1,h2,h3,h4,kS,kE,kd]
         exact fin _ _ rfl)
  | false=>
  rw [h0] at fin
  simp only [Bool.cond_false] at fin
  obtain ⟨h1,h2,h3,h4⟩:(v.n != 0)=false/\(bl v.s == [])=true/\decide (0 < (v.l.length:Int))=false/\cN u.fs v.f=true:=by
    simp only [Bool.or_eq_false_iff,Bool.not_eq_false'] at h0; exact ⟨h0.1.1.1,h0.1.1.2,h0.1.2,h0.2⟩
  simp (maxSteps:=1000000) -dsimp only [go_sem,zJ,h1,h2,h3,h4,kS,kE,kd]
  refine aK (α:=Nat) (fun i=>[(3,.va (.c1 (.pt 0 0))),(4,.va (.c1 (.pt 1 0))),(5,.va (.c1 (.pt 2 0))),(7,.va (.c1 (.pt 3 0))),(44,.va (.c1 (.fz (v.f.map aY)))),(45,iS .i64 v.f.length),(46,iS .i64 i)]) (fun _=>[.cells (aE s) 105,.cells [.vl (.int .i64 t.k),.vl (.int .i64 t.s),.vl (.string t.n),.fz (t.e.map aM)] 28,.cells (bQ v) 32,.cells (aL u) 95])
    (fun i=>i<=v.f.length/\jV s u.fs (v.f.drop i)=jV s u.fs v.f) (fun i=>v.f.length - i) 0 4 ⟨Nat.zero_le _,rfl⟩ ?_ ?_ ?_
  · simp -dsimp only [go_sem]<;>simp
  · simp -dsimp only [go_sem,bQ,aE,aL]<;>simp
  rintro i ⟨hi,ho⟩
  rcases Nat.lt_or_ge i v.f.length with hlt | hge
  · have hg:decide ((i:Int) < (v.f.length:Int))=true:=by simp; omega
    obtain ⟨x,hx⟩:∃ t,v.f[i]? = some t:=⟨_,List.getElem?_eq_getElem hlt⟩
    have q1:=kN hx
    have hxm:=List.mem_of_getElem? hx
    have k1:=cE (hv.f x hxm)
    have k2:=eR x.2
    have k3:x.2.h<=N:=by have:=Vl.h_f hxm; omega
    have hdr:v.f.drop i=x :: v.f.drop (i + 1):=by
      obtain ⟨h,rfl⟩:=List.getElem?_eq_some_iff.1 hx
      exact List.drop_eq_getElem_cons h
    have k6:=dV hs
    have k7:=hM s
    rw [hdr,H0] at ho
    have hgo:=aDB huo rfl x.1
    simp (maxSteps:=1000000) -dsimp only [go_sem,hg,↓q1,bQ,aE,aL]
    refine ⟨by omega,aD rfl (.done ?_)⟩
    simp (maxSteps:=1000000) -dsimp only [go_sem,F5]
    refine JG (t:=u) huo hus ?_
    generalize (fF u.fs x.1).getD default=g at *
    have k4:=cL hgo
    have k5:=fN g.ty
    simp (maxSteps:=1000000) -dsimp only [go_sem,aR]
    refine aD rfl (.done ?_)
    simp (maxSteps:=1000000) -dsimp only [go_sem,IT,k1,k2,k3,k4,k5,k6,k7]
    refine aD rfl (.done ?_)
    cases h5:fL s g.ty x.2 != 0 with
    | true=>
      rw [h5,Bool.cond_true] at ho
      simp (maxSteps:=1000000) -dsimp only [go_sem,w8,h5]
      exact fin _ _ ho.symm
    | false=>
      rw [h5,Bool.cond_false] at ho
      simp (maxSteps:=1000000) -dsimp only [go_sem,w8,h5]
      refine ⟨by omega,aC (i + 1) 4 ⟨by omega,ho⟩ (by omega) ?_ ?_⟩
      · simp -dsimp only [go_sem]<;>simp
      · simp -dsimp only [go_sem,bQ,aE,aL]<;>simp [bQ,aE,aL]
  · have hg:decide ((i:Int) < (v.f.length:Int))=false:=by simp; omega
    obtain rfl:i=v.f.length:=by omega
    rw [List.drop_length,jV] at ho
    simp (maxSteps:=1000000) -dsimp only [go_sem,hg,bQ,aE,aL]
    exact fin _ _ ho.symm
theorem BD:∀ N,Meets Tryz.prog 53 (cQ (qW N) US).sp
  | 0=>⟨by kernel_rfl,by rintro xs vs E ro w K _ _ _ h; obtain ⟨_,_,v,_,_,_,_,_,h,_⟩:=dH h; have:=v.h_pos; have h:v.h<=0:=h; omega⟩
  | N + 1=>by
    refine aF Tryz.func53 aNW 3 (by rw [Tryz.ntmps53]; decide) (aG uI (aG TJ (aG aD6 (aG (aBR N (BD N)) (aG (P0 N (BD N)) (aA _)))))) eE ?_
    intro av H K h
    obtain ⟨s,t,v,rfl,rfl,hs,ht,hv,hh,hK⟩:=dH h
    clear h
    have hh:v.h<=N + 1:=hh
    have fin:∀ (z:Int) (R:Hp),fL s t v=z->W.Fin 0 K (iS .i64 z) R:=fun z R h=>by
      have hK:K (iS .i64 (fL s t v)) []:=hK
      rw [h] at hK; exact .sel [] (by simp) (by simp) rfl (.done (by simpa [go_sem] using hK))
    clear hK
    rw [N9] at fin
    have k1:=cE hv
    have k2:=eR v
    have k4:=cL ht
    have k5:=fN t
    have k6:=dV hs
    have k7:=hM s
    cases h1:valF s.ss s.es t with
    | false=>
      rw [h1] at fin
      simp (maxSteps:=1000000) -dsimp only [go_sem,aE,aH t,aI v,u0,wP,k4,k5,k6,k7,h1]
      exact fin _ _ rfl
    | true=>
    cases h2:v.k != t.k with
    | true=>
      rw [h1,h2] at fin
      simp (maxSteps:=1000000) -dsimp only [go_sem,aE,aH t,aI v,u0,wP,k4,k5,k6,k7,h1,h2]
      exact fin _ _ rfl
    | false=>
    rw [h1,h2] at fin
    simp only [Bool.not_true,Bool.or_self,Bool.cond_false] at fin
    cases h4:t.k == 4 with
    | true=>
      rw [h4,Bool.cond_true] at fin
      simp (maxSteps:=1000000) -dsimp only [go_sem,aE,aH t,aI v,u0,wP,k1,k2,k4,k5,k6,k7,h1,h2,h4,List.all_cons,List.all_nil]
      exact fin _ _ rfl
    | false=>
    rw [h4,Bool.cond_false] at fin
    cases h5:t.k == 5 with
    | true=>
      rw [h5,Bool.cond_true] at fin
      simp (maxSteps:=1000000) -dsimp only [go_sem,aE,aH t,aI v,u0,wP,k1,k2,k4,k5,k6,k7,h1,h2,h4,h5,hh,List.all_cons,List.all_nil]
      exact fin _ _ rfl
    | false=>
    rw [h5,Bool.cond_false] at fin
    cases h6:t.k == 6 with
    | true=>
      rw [h6,Bool.cond_true] at fin
      simp (maxSteps:=1000000) -dsimp only [go_sem,aE,aH t,aI v,u0,wP,k1,k2,k4,k5,k6,k7,h1,h2,h4,h5,h6,hh,List.all_cons,List.all_nil]
      exact fin _ _ rfl
    | false=>
    rw [h6,Bool.cond_false] at fin
    simp (maxSteps:=1000000) -dsimp only [go_sem,aE,aH t,aI v,u0,wP,k1,k2,k4,k5,k6,k7,h1,h2,h4,h5,h6,List.all_cons,List.all_nil]
    exact fin _ _ rfl
def dQ (s:Sc) (t:Ty) (v:Vl):Int:=bif decide (6 < qX 7 v) then 9 else fL s t v
theorem X8:Meets Tryz.prog 53 (cQ (fun _ _ _=>True) US).sp:=eM 0 BD fun av H K h=>by
  obtain ⟨s,t,v,rfl,rfl,hs,ht,hv,_,hK⟩:=dH h
  refine ⟨v.h,⟨⟨eZ hs,dG ht,LD hv,?_⟩,rfl⟩,?_⟩
  · show (C.vv (aV v)).h<=v.h; rw [kY]; exact Nat.le_refl _
  · simpa -dsimp only [go_sem] using hK
theorem BW:Meets Tryz.prog 23 (cQ (fun _ _ _=>True) fun s t v=>.int .i64 (dQ s t v)).sp:=by
  refine aF Tryz.func23 aNI 3 (by rw [Tryz.ntmps23]; decide) (aG (K9 8) (aG X8 (aA _))) eE ?_
  intro av H K h
  obtain ⟨s,t,v,rfl,rfl,hs,ht,hv,_,hK⟩:=dH h
  clear h
  have fin:∀ (z:Int) (R:Hp),dQ s t v=z->W.Fin 0 K (iS .i64 z) R:=fun z R h=>by
    rw [h] at hK; exact .sel [] (by simp) (by simp) rfl (.done (by simpa [go_sem] using hK))
  clear hK
  unfold dQ at fin
  have k1:=cE hv
  have k2:=eR v
  have k4:=cL ht
  have k5:=fN t
  have k6:=dV hs
  have k7:=hM s
  have e8:((6:Int)=((8:Nat):Int) - 2)=True:=by decide
  have e9:gX 8 v=qX 7 v:=rfl
  cases h1:decide (6 < qX 7 v) with
  | true=>
    rw [h1] at fin
    simp (maxSteps:=1000000) -dsimp only [go_sem,aE,aH t,aI v,QT,SZ,k1,k2,e8,e9,h1]
    exact fin _ _ rfl
  | false=>
    rw [h1] at fin
    simp (maxSteps:=1000000) -dsimp only [go_sem,aE,aH t,aI v,QT,SZ,k1,k2,k4,k5,k6,k7,e8,e9,h1]
    exact fin _ _ rfl
end Go.Proofs.YtkpohmhenegkiaaGreatDoor
namespace Go.Proofs.YtkpohmhenegkiaaGreatDoor
open Go.W
theorem YP:∀ (m:Nat) (r:List UInt8) (i:Nat) (out:List UInt8),r.length=m->(quoL i r out).1<=i + r.length:=by
  intro m
  induction m using Nat.strongRecOn with
  | ind m ih=>
    intro r i out hm
    cases r with
    | nil=>rw [qE]; exact Nat.le_add_right _ _
    | cons c r=>
      rw [lA]
      simp only [List.length_cons] at hm ⊢
      cases (decide (c < 32) || decide (126 < c)) with
      | true=>simp
      | false=>
        cases (c == 34) with
        | true=>simp
        | false=>
          cases (c == 92) with
          | true=>
            simp only [Bool.cond_false,Bool.cond_true]
            cases r with
            | nil=>simp
            | cons d r'=>
              simp only [List.length_cons] at hm ⊢
              cases (d == 34 || d == 92) with
              | true=>simp only [Bool.cond_true]; have:=ih r'.length (by omega) r' (i + 2) (out ++ [d]) rfl; omega
              | false=>simp
          | false=>
            simp only [Bool.cond_false]
            have:=ih r.length (by omega) r (i + 1) (out ++ [c]) rfl; omega
structure Told (l:List UInt8) (p:Nat) (k:Int) (x:List UInt8) (n:Int) (z:Nat):Prop where
  zero:k=0->p=l.length/\x=[]/\n=0
  one:k ≠ 0->∃ c,l[p]? = some c/\p < z/\z<=l.length/\0 < k/\k<=4/\32 < c.toNat/\c.toNat ≠ 35/\(c == 34)=(k == 3)/\(k == 1)=a8 c.toNat
theorem y8 {l:List UInt8} {a:Nat} (ha:a<=l.length):(∀ {e t},jM l a=.bad e t->0<=t/\t<=l.length)/\∀ {k x n z},jM l a=.ok k x n z->k=1:=by
  have:=sV (p:=aW) ha
  unfold jM
  simp only
  cases decide (16 < bL aW l a - a)<;>cases (l[bL aW l a]? == some 45)<;>simp [R.bad.injEq,R.ok.injEq]
  all_goals (intros; omega)
theorem CN {l:List UInt8} {a:Nat} {c:UInt8} (hc:l[a]? = some c):(∀ {e t},lQ l a=.bad e t->0<=t/\t<=l.length)/\∀ {k x n z},lQ l a=.ok k x n z->k=2:=by
  have hlt:a < l.length:=(List.getElem?_eq_some_iff.1 hc).1
  have hge:(bif l[a]? == some 45 then a + 1 else a)<=l.length:=by cases (l[a]? == some 45)<;>simp<;>omega
  have hz2:=sV (p:=bK) hge
  unfold lQ
  simp only
  generalize (List.drop (bif l[a]? == some 45 then a + 1 else a) (List.take (bL bK l (bif l[a]? == some 45 then a + 1 else a)) l))=q
  cases (q == [] || (q[0]? == some 48 && (decide (1 < q.length) || l[a]? == some 45))) with
  | true=>simp only [Bool.cond_true,R.bad.injEq,reduceCtorEq,false_implies,implies_true,and_true]; rintro e t ⟨rfl,rfl⟩; omega
  | false=>
    simp only [Bool.cond_false]
    split
    · simp only [R.bad.injEq,reduceCtorEq,false_implies,implies_true,and_true]; rintro e t ⟨rfl,rfl⟩; omega
    · cases vU l (bL bK l (bif l[a]? == some 45 then a + 1 else a))<;>simp only [Bool.cond_true,Bool.cond_false,R.bad.injEq,R.ok.injEq,reduceCtorEq,false_implies,implies_true,and_true,true_and]
      · rintro k x n z ⟨rfl,_⟩; rfl
      · rintro e t ⟨rfl,rfl⟩; omega
theorem yT {l:List UInt8} {a:Nat} (ha:a < l.length):(∀ {e t},iQ l a=.bad e t->0<=t/\t<=l.length)/\∀ {k x n z},iQ l a=.ok k x n z->k=3:=by
  have:=YP _ (l.drop (a + 1)) (a + 1) [] rfl
  simp only [List.length_drop] at this
  unfold iQ
  split
  · rename_i i hq
    rw [hq] at this
    simp only at this
    constructor
    · intro e t h; simp only [R.bad.injEq] at h; omega
    · intro k x n z h; cases h
  · rename_i z o hq
    cases decide (200 < o.length)<;>simp [R.bad.injEq,R.ok.injEq]
    all_goals (intros; omega)
def KC (c:UInt8):Bool:=
  (!(a8 c.toNat || bK c || c == 45 || c == 34 || fZ c.toNat) || (decide (32 < c.toNat) && c.toNat != 35)) && (!a8 c.toNat || !(c == 34)) && (!(bK c || c == 45) || !(c == 34)) && (!fZ c.toNat || !(c == 34))
theorem PY (c:UInt8):KC c=true:=cP (by decide +kernel) c
theorem qY {l:List UInt8} {p:Nat} (hp:p<=l.length):(∀ {e t},iV l p=.bad e t->e ≠ 0/\0<=t/\t<=l.length)/\∀ {k x n z},iV l p=.ok k x n z->Told l p k x n z:=by
  obtain ⟨hb,ho⟩:=zY hp
  refine ⟨fun {e t} h=>⟨hb h,?_⟩,fun {k x n z} h=>?_⟩
  · unfold iV at h
    split at h
    · cases h
    · rename_i c hc
      have hlt:p < l.length:=(List.getElem?_eq_some_iff.1 hc).1
      revert h
      cases a8 c.toNat with
      | true=>exact fun h=>(y8 hp).1 h
      | false=>
        cases (bK c || c == 45) with
        | true=>exact fun h=>(CN hc).1 h
        | false=>
          cases (c == 34) with
          | true=>exact fun h=>(yT hlt).1 h
          | false=>
            cases fZ c.toNat with
            | true=>intro h; cases h
            | false=>intro h; simp only [Bool.cond_false,R.bad.injEq] at h; omega
  · obtain ⟨o1,o2⟩:=ho h
    unfold iV at h
    split at h
    · simp only [R.ok.injEq] at h
      exact ⟨fun h0=>⟨o1 h0,h.2.1.symm,h.2.2.1.symm⟩,fun h0=>absurd h.1.symm h0⟩
    · rename_i c hc
      have hlt:p < l.length:=(List.getElem?_eq_some_iff.1 hc).1
      have hs:=PY c
      unfold KC at hs
      have key:∀ {q:Int},k=q->0 < q->q<=4->(32 < c.toNat/\c.toNat ≠ 35)->(c == 34)=(q == 3)->(q == 1)=a8 c.toNat->Told l p k x n z:=by
        rintro q rfl h1 h2 h3 h4 h5
        obtain ⟨h6,h7⟩:=o2 (by omega)
        exact ⟨fun h=>by omega,fun _=>⟨c,hc,h6,h7,h1,h2,h3.1,h3.2,h4,h5⟩⟩
      revert h hs
      cases hL:a8 c.toNat with
      | true=>
        intro h hs
        simp at hs
        exact key ((y8 hp).2 h) (by omega) (by omega) hs.1.1.1 (by simpa using hs.1.1.2) (by rw [hL]; rfl)
      | false=>
        cases hd:(bK c || c == 45) with
        | true=>
          intro h hs
          have hd':bK c=true\/c=45:=by simpa using hd
          simp only [Bool.false_or,hd,Bool.true_or,Bool.not_true,Bool.not_false,Bool.and_true,Bool.true_and,Bool.and_eq_true] at hs
          simp at hs
          exact key ((CN hc).2 h) (by omega) (by omega) hs.1.1 (by simpa using hs.1.2) (by rw [hL]; rfl)
        | false=>
          cases h4:(c == 34) with
          | true=>
            intro h hs
            have:c=34:=by simpa using h4
            subst this
            exact key ((yT hlt).2 h) (by omega) (by omega) (by decide) (by rfl) (by rw [hL]; rfl)
          | false=>
            cases hm:fZ c.toNat with
            | true=>
              intro h hs
              simp only [Bool.false_or,hd,Bool.or_true,Bool.not_true,Bool.not_false,Bool.and_true,Bool.true_and,Bool.and_eq_true] at hs
              simp at hs
              simp only [Bool.cond_false,Bool.cond_true,R.ok.injEq] at h
              exact key h.1.symm (by omega) (by omega) hs (by rw [h4]; rfl) (by rw [hL]; rfl)
            | false=>intro h hs; cases h
def rQ (l:List UInt8):Nat->List Tk->Prop
  | _,[]=>False
  | a,t :: ts=>a<=t.a/\t.a<=l.length/\∃ z,Told l t.a t.k t.x t.n z/\(t.k=0->ts=[])/\(t.k ≠ 0->rQ l z ts)
theorem DL {l:List UInt8}:∀ (f a:Nat) (ts:List Tk),a<=l.length->l.length < f + a->fV f l a=.ok ts->rQ l a ts
  | 0,a,ts,ha,hf,h=>by omega
  | f + 1,a,ts,ha,hf,h=>by
    have hpl:bM l a<=l.length:=qI ha
    have hpa:a<=bM l a:=H7
    rw [fV] at h
    split at h
    · cases h
    · rename_i k x n z hR
      have ht:=(qY hpl).2 hR
      cases hk:k == 0 with
      | true=>
        rw [hk] at h
        simp only [Bool.cond_true,SR.ok.injEq] at h
        subst h
        exact ⟨hpa,hpl,z,ht,fun _=>rfl,fun h=>absurd (by simpa using hk) h⟩
      | false=>
        rw [hk] at h
        have hk':k ≠ 0:=by simpa using hk
        obtain ⟨c,_,h1,h2,_⟩:=ht.one hk'
        cases hr:fV f l z with
        | bad e t=>rw [hr] at h; cases h
        | ok us=>
          rw [hr] at h
          simp only [Bool.cond_false,SR.cons,SR.ok.injEq] at h
          subst h
          exact ⟨hpa,hpl,z,ht,fun h=>absurd h hk',fun _=>DL f z us h2 (by omega) hr⟩
theorem GP {l:List UInt8}:∀ (f a:Nat) (e t:Int),a<=l.length->fV f l a=.bad e t->e ≠ 0/\0<=t/\t<=l.length
  | 0,a,e,t,ha,h=>by cases h
  | f + 1,a,e,t,ha,h=>by
    have hpl:bM l a<=l.length:=qI ha
    rw [fV] at h
    split at h
    · rename_i e' t' hR
      have:=(qY hpl).1 hR
      simp only [SR.bad.injEq] at h
      obtain ⟨rfl,rfl⟩:=h; exact this
    · rename_i k x n z hR
      have ht:=(qY hpl).2 hR
      cases hk:k == 0 with
      | true=>rw [hk] at h; cases h
      | false=>
        rw [hk] at h
        have hk':k ≠ 0:=by simpa using hk
        obtain ⟨c,_,h1,h2,_⟩:=ht.one hk'
        cases hr:fV f l z with
        | bad e' t'=>rw [hr] at h; simp only [Bool.cond_false,SR.cons,SR.bad.injEq] at h; obtain ⟨rfl,rfl⟩:=h; exact GP f z _ _ h2 hr
        | ok us=>rw [hr] at h; cases h
theorem MW (l:List UInt8):(a7 l).err ≠ 0/\(a7 l).toks=[]/\0<=(a7 l).off/\(a7 l).off<=l.length\/(a7 l).err=0/\(a7 l).off=0/\l.length<=4000/\rQ l 0 (a7 l).toks:=by
  unfold a7
  cases h:decide (4000 < l.length) with
  | true=>left; exact ⟨by simp [SR.err],rfl,by simp [SR.off],by simp [SR.off]⟩
  | false=>
    have h4:l.length<=4000:=by simpa using h
    simp only [Bool.cond_false]
    cases hr:fV (l.length + 1) l 0 with
    | bad e t=>left; obtain ⟨h1,h2,h3⟩:=GP _ _ _ _ (by omega) hr; exact ⟨h1,rfl,h2,h3⟩
    | ok ts=>right; exact ⟨rfl,rfl,h4,DL _ _ _ (by omega) (by omega) hr⟩
theorem KU {l:List UInt8} {a:Nat} {ts:List Tk} (h:rQ l a ts):0 < ts.length:=by
  cases ts with
  | nil=>exact h.elim
  | cons t ts=>simp
theorem FM {l:List UInt8}:∀ {a:Nat} {ts:List Tk},rQ l a ts->ts.length + a<=l.length + 1
  | a,[],h=>h.elim
  | a,t :: ts,⟨h1,h2,z,h3,h4,h5⟩=>by
    rcases Decidable.em (t.k=0) with h0 | h0
    · rw [h4 h0]; simp only [List.length_cons,List.length_nil]; omega
    · obtain ⟨c,_,g1,_⟩:=h3.one h0
      have:=FM (h5 h0)
      simp only [List.length_cons]; omega
theorem KF {l:List UInt8}:∀ {a:Nat} {ts:List Tk} {i:Nat} {t:Tk},rQ l a ts->ts[i]? = some t->
    a<=t.a/\t.a<=l.length/\(∃ z,Told l t.a t.k t.x t.n z)/\(t.k=0 ↔ i + 1=ts.length)/\∀ u,0 < i->ts[i - 1]? = some u->u.a < t.a
  | a,[],i,t,h,_=>h.elim
  | a,s :: ts,0,t,⟨h1,h2,z,h3,h4,h5⟩,hi=>by
    simp at hi; subst hi
    refine ⟨h1,h2,⟨z,h3⟩,⟨fun h=>by rw [h4 h]; rfl,fun h=>?_⟩,fun u h=>by omega⟩
    rcases Decidable.em (s.k=0) with h0 | h0
    · exact h0
    · have:=KU (h5 h0); simp only [List.length_cons] at h; omega
  | a,s :: ts,i + 1,t,⟨h1,h2,z,h3,h4,h5⟩,hi=>by
    simp at hi
    have h0:s.k ≠ 0:=fun h=>by rw [h4 h] at hi; simp at hi
    obtain ⟨c,_,g1,g2,_⟩:=h3.one h0
    obtain ⟨q1,q2,q3,q4,q5⟩:=KF (h5 h0) hi
    refine ⟨by omega,q2,q3,by rw [q4]; simp,fun u _ hu=>?_⟩
    simp only [Nat.add_sub_cancel] at hu
    cases i with
    | zero=>simp at hu; subst hu; omega
    | succ i=>simp at hu; exact q5 u (by omega) (by simpa using hu)
end Go.Proofs.YtkpohmhenegkiaaGreatDoor
namespace Go.Proofs.YtkpohmhenegkiaaGreatDoor
open Go.W
def Got:R->ByteArray->Int->Int->Int->Int->Prop
  | .ok _ x n z,x',n',z',e',t'=>x'=mk x/\n'=n/\z'=z/\e'=0/\t'=0
  | .bad e t,_,_,_,e',t'=>e'=e/\t'=t
end Go.Proofs.YtkpohmhenegkiaaGreatDoor
namespace Go.Proofs.YtkpohmhenegkiaaGreatDoor
open Go.W
theorem Got.bad {r:R} {e t:Int} (h:r=.bad e t) {x:ByteArray} {n z:Int}:Got r x n z e t:=by subst h; exact ⟨rfl,rfl⟩
theorem Got.ok {r:R} {k:Int} {x:List UInt8} {n:Int} {z:Nat} (h:r=.ok k x n z):Got r (mk x) n z 0 0:=by subst h; exact ⟨rfl,rfl,rfl,rfl,rfl⟩
end Go.Proofs.YtkpohmhenegkiaaGreatDoor
namespace Go.Proofs.YtkpohmhenegkiaaGreatDoor
open Go.W
theorem Q2 (l:List UInt8):cH l=true ↔ ∃ c,l[0]? = some c/\l.length<=16/\a8 c.toNat=true/\∀ x ∈ l,aW x=true:=by
  cases l with
  | nil=>simp [cH]
  | cons c l=>simp [cH,and_assoc]
end Go.Proofs.YtkpohmhenegkiaaGreatDoor
namespace Go.Proofs.YtkpohmhenegkiaaGreatDoor
open Go.W
structure Ends (ts:List Tk):Prop where
  pos:0 < ts.length
  le:ts.length<=4001
  last:∀ (i:Nat) (t:Tk),ts[i]? = some t->(t.k=0 ↔ i + 1=ts.length)
abbrev gQ (T:TypeId) (ts:List Tk) (n:Nat):B:=.cells [.fz (ts.map cW),.vl (.int .i64 n)] T
theorem Q9 (T:TypeId) (ts:List Tk) (n:Nat):gQ T ts (n + 1)=.cells [.fz (ts.map cW),.vl (.int .i64 ((n:Int) + 1))] T:=rfl
def eC (T:TypeId) (post:List Tk->Nat->(S->Hp->Prop)->Prop):W.Spec:=fun xs H K=>
  match xs,H with
  | [.va (.c1 (.pt 0 0))],[.cells [.fz r,.vl (.int .i64 a)] T']=>T'=T/\∃ (ts:List Tk) (n:Nat),r=ts.map cW/\a=n/\Ends ts/\n < ts.length/\post ts n K
  | _,_=>False
theorem sN {T:TypeId} {post:List Tk->Nat->(S->Hp->Prop)->Prop} {xs:List S} {H:Hp} {K:S->Hp->Prop} (h:eC T post xs H K) :
    ∃ ts n,xs=[.va (.c1 (.pt 0 0))]/\H=[gQ T ts n]/\Ends ts/\n < ts.length/\post ts n K:=by
  unfold eC at h
  split at h
  · obtain ⟨rfl,ts,n,rfl,rfl,h1,h2,h3⟩:=h; exact ⟨ts,n,rfl,rfl,h1,h2,h3⟩
  · exact h.elim
theorem HR {T:TypeId} {post:List Tk->Nat->(S->Hp->Prop)->Prop}:∀ xs H K,eC T post xs H K->xs.length=1:=fun xs H K h=>by obtain ⟨ts,n,rfl,_⟩:=sN h; rfl
attribute [go_sem ↓] eC
def b8 (ts:List Tk) (n:Nat):Nat:=if n + 1 < ts.length then n + 1 else n
def bT (T:TypeId):W.Spec:=eC T fun ts n K=>∀ t,ts[n]? = some t->K (.va (.gs (cW t))) [gQ T ts n]
def b9 (T:TypeId):W.Spec:=eC T fun ts n K=>∀ t,ts[n]? = some t->K (.va (.gs (cW t))) [gQ T ts (b8 ts n)]
attribute [go_sem ↓] bT b9
theorem pS:Meets Tryz.prog 30 (bT 114):=by
  refine aF Tryz.func30 aMY 1 (by rw [Tryz.ntmps30]; decide) (aA _) HR ?_
  intro xs H K h
  obtain ⟨ts,n,rfl,rfl,hE,hn,hK⟩:=sN h
  simp -dsimp only [go_sem,Z5,aAZ]
  refine ⟨fun h=>?_,fun _=>⟨by omega,fun t ht=>.sel [0] (by simp) (by simp) rfl (.done (hK t ht))⟩⟩
  have:=hE.pos; simp at h; simp [h] at this
theorem D6:Meets Tryz.prog 100 (b9 114):=by
  refine aF Tryz.func100 aGM 1 (by rw [Tryz.ntmps100]; decide) (aB pS (aA _)) HR ?_
  intro xs H K h
  obtain ⟨ts,n,rfl,rfl,hE,hn,hK⟩:=sN h
  simp -dsimp only [go_sem,T7,VA]
  refine ⟨ts,n,rfl,rfl,hE,hn,fun t ht=>?_⟩
  have hK:=hK t ht
  have hle:=hE.le
  refine ⟨by omega,fun h=>⟨by omega,?_⟩,fun h=>?_⟩
  · have e:b8 ts n=n + 1:=if_pos (by simp at h; omega)
    rw [e,Q9] at hK
    exact .sel [0] (by simp) (by simp) rfl (.done hK)
  · have e:b8 ts n=n:=if_neg (by simp at h; omega)
    rw [e] at hK
    exact .sel [0] (by simp) (by simp) rfl (.done hK)
def fC (k:Int) (w:List UInt8) (t:Tk):Bool:=t.k == k && t.x == w
def sE (k:Int) (w:List UInt8) (ts:List Tk) (n:Nat) (t:Tk):Nat:=bif fC k w t then b8 ts n else n
def bR (k:Int) (T:TypeId):W.Spec:=fun xs H K=>
  match xs,H with
  | [.va (.c1 (.pt 0 0)),.va (.c1 (.vl (.string w)))],[.cells [.fz r,.vl (.int .i64 a)] T']=>T'=T/\∃ (ts:List Tk) (n:Nat),r=ts.map cW/\a=n/\Ends ts/\n < ts.length/\
      ∀ t,ts[n]? = some t->K (bS (fC k (bl w) t)) [gQ T ts (sE k (bl w) ts n t)]
  | _,_=>False
theorem oC {k:Int} {T:TypeId} {xs:List S} {H:Hp} {K:S->Hp->Prop} (h:bR k T xs H K) :
    ∃ w ts n,xs=[.va (.c1 (.pt 0 0)),tS w]/\H=[gQ T ts n]/\Ends ts/\n < ts.length/\∀ t,ts[n]? = some t->K (bS (fC k (bl w) t)) [gQ T ts (sE k (bl w) ts n t)]:=by
  unfold bR at h
  split at h
  · obtain ⟨rfl,ts,n,rfl,rfl,h1,h2,h3⟩:=h; exact ⟨_,ts,n,rfl,rfl,h1,h2,h3⟩
  · exact h.elim
theorem zS {k:Int} {T:TypeId}:∀ xs H K,bR k T xs H K->xs.length=2:=fun xs H K h=>by obtain ⟨w,ts,n,rfl,_⟩:=oC h; rfl
def cC (T:TypeId):W.Spec:=fun xs H K=>
  match xs,H with
  | [.va (.c1 (.pt 0 0)),.va (.c1 (.vl (.int .i64 k))),.va (.c1 (.vl (.string w)))],[.cells [.fz r,.vl (.int .i64 a)] T']=>T'=T/\∃ (ts:List Tk) (n:Nat),r=ts.map cW/\a=n/\Ends ts/\n < ts.length/\
      ∀ t,ts[n]? = some t->K (bS (fC k (bl w) t)) [gQ T ts (sE k (bl w) ts n t)]
  | _,_=>False
theorem tZ {T:TypeId} {xs:List S} {H:Hp} {K:S->Hp->Prop} (h:cC T xs H K) :
    ∃ k w ts n,xs=[.va (.c1 (.pt 0 0)),iS .i64 k,tS w]/\H=[gQ T ts n]/\Ends ts/\n < ts.length/\∀ t,ts[n]? = some t->K (bS (fC k (bl w) t)) [gQ T ts (sE k (bl w) ts n t)]:=by
  unfold cC at h
  split at h
  · obtain ⟨rfl,ts,n,rfl,rfl,h1,h2,h3⟩:=h; exact ⟨_,_,ts,n,rfl,rfl,h1,h2,h3⟩
  · exact h.elim
theorem L2 {T:TypeId}:∀ xs H K,cC T xs H K->xs.length=3:=fun xs H K h=>by obtain ⟨k,w,ts,n,rfl,_⟩:=tZ h; rfl
attribute [go_sem ↓] bR cC
theorem VG:Meets Tryz.prog 120 (cC 114):=by
  refine aF Tryz.func120 aFV 3 (by rw [Tryz.ntmps120]; decide) (aB pS (aB D6 (aA _))) L2 ?_
  intro xs H K h
  obtain ⟨k,w,ts,n,rfl,rfl,hE,hn,hK⟩:=tZ h
  simp -dsimp only [go_sem,UW,VQ]
  refine ⟨ts,n,rfl,rfl,hE,hn,fun t ht=>?_⟩
  have hK:=hK t ht
  have hg:(t.k != k || !t.x == bl w)=!(fC k (bl w) t):=by simp [fC,bne,Bool.not_and]
  rw [hg]
  refine ⟨fun h=>?_,fun h=>⟨ts,n,rfl,rfl,hE,hn,fun u hu=>?_⟩⟩
  · have h:fC k (bl w) t=false:=by simpa using h
    simp only [sE,h,Bool.cond_false] at hK
    exact .sel [0] (by simp) (by simp) rfl (.done hK)
  · have h:fC k (bl w) t=true:=by simpa using h
    simp only [sE,h,Bool.cond_true] at hK
    exact .sel [0] (by simp) (by simp) rfl (.done hK)
theorem aE1:Meets Tryz.prog 148 (bR 4 114):=by
  refine aF Tryz.func148 aGQ 2 (by rw [Tryz.ntmps148]; decide) (aB VG (aA _)) zS ?_
  intro xs H K h
  obtain ⟨w,ts,n,rfl,rfl,hE,hn,hK⟩:=oC h
  simp -dsimp only [go_sem,V6,WW]
  refine ⟨ts,n,rfl,rfl,hE,hn,fun t ht=>.done ?_⟩
  exact hK t ht
theorem aD3:Meets Tryz.prog 95 (bR 1 114):=by
  refine aF Tryz.func95 aLV 2 (by rw [Tryz.ntmps95]; decide) (aB VG (aA _)) zS ?_
  intro xs H K h
  obtain ⟨w,ts,n,rfl,rfl,hE,hn,hK⟩:=oC h
  simp -dsimp only [go_sem,aA4,aAK]
  refine ⟨ts,n,rfl,rfl,hE,hn,fun t ht=>.done ?_⟩
  exact hK t ht
end Go.Proofs.YtkpohmhenegkiaaGreatDoor
namespace Go.Proofs.YtkpohmhenegkiaaGreatDoor
open Go.W
def gI:W.Spec:=fun xs H K=>
  match xs,H with
  | [.va (.c1 (.vl (.string s)))],[]=>((a7 (bl s)).err=0->K (.tu [.c1 (.pt 0 0),iA .i64 0,iA .i64 0]) [gQ 114 (a7 (bl s)).toks 0])/\
      ((a7 (bl s)).err ≠ 0->K (.tu [.c1 (.vl (.pointer none)),iA .i64 (a7 (bl s)).err,iA .i64 (a7 (bl s)).off]) [])
  | _,_=>False
theorem xG {xs:List S} {H:Hp} {K:S->Hp->Prop} (h:gI xs H K):∃ s,xs=[tS s]/\H=[]/\((a7 (bl s)).err=0->K (.tu [.c1 (.pt 0 0),iA .i64 0,iA .i64 0]) [gQ 114 (a7 (bl s)).toks 0])/\
      ((a7 (bl s)).err ≠ 0->K (.tu [.c1 (.vl (.pointer none)),iA .i64 (a7 (bl s)).err,iA .i64 (a7 (bl s)).off]) []):=by
  unfold gI at h
  split at h
  · exact ⟨_,rfl,rfl,h.1,h.2⟩
  · exact h.elim
attribute [go_sem ↓] gI
theorem aKQ:Meets Tryz.prog 29 gI:=by
  refine aF Tryz.func29 aLJ 1 (by rw [Tryz.ntmps29]; decide) (aB aH5 (aA _)) (fun xs H K h=>by obtain ⟨s,rfl,_⟩:=xG h; rfl) ?_
  intro xs H K h
  obtain ⟨s,rfl,rfl,hK1,hK2⟩:=xG h
  simp -dsimp only [go_sem,aEY,aCY]
  refine ⟨fun h=>.done (hK2 (by simpa using h)),fun h=>?_⟩
  have hK:=hK1 (by simpa using h)
  exact .sel [0] (by simp) (by simp) rfl (.done hK)
end Go.Proofs.YtkpohmhenegkiaaGreatDoor
namespace Go.Proofs.YtkpohmhenegkiaaGreatDoor.Pr
open Go.W
def pc96:PC:=.seq (.reg [.q 2 (.mv (.k (.string (mk []))))]) (.seq (.reg [.e 3 (.al (.agg #[(.pointer none),(.slice none 0 0)]) 146)]) (.seq (.seq (.reg [.v 8 0,.q 9 (.lnL (.t 8)),.q 10 (.mv (.i 0))]) (.block 0 (.loop (.seq (.reg [.q 11 (.bin .lss true (.t 10) (.t 9))]) (.seq (.cond (.t 11) .skip (.exit 0)) (.seq (.block 1 (.seq (.reg [.l 12 (.ia 4 (.t 8) (.t 10)),.l 13 (.ldn 4 (.t 12)),.e 5 (.al (.agg #[(.int .i64 0),(.string (mk [])),(.int .i64 0),(.int .i64 0)]) 71),.s (.st 4 (.t 5) (.t 13))]) (.seq (.reg [.l 15 (.ldn 4 (.t 5)),.a 16 (.cl 121 [(.t 15)] []),.v 14 16,.q 17 (.ex (.t 14) 0),.q 18 (.ex (.t 14) 1),.v 6 17,.v 7 18]) (.seq (.seq (.reg [.v 19 7,.q 20 (.not (.t 19))]) (.cond (.t 20) (.exit 1) .skip)) (.seq (.seq (.reg [.a 21 (.cl 122 [(.t 3)] [0,1]),.q 22 (.bin .gtr true (.t 21) (.i 0))]) (.cond (.t 22) (.reg [.a 23 (.cl 123 [(.t 3),(.k (.int .u8 32))] [0,1])]) .skip)) (.reg [.v 24 6,.a 25 (.cl 124 [(.t 3),(.t 24)] [0,1])])))))) (.reg [.q 26 (.bin .add true (.t 10) (.i 1)),.v 10 26]))))))) (.seq (.reg [.a 27 (.cl 125 [(.t 3)] [0,1]),.v 2 27]) .ret)))
def rs96:List RV:=[.mv (.t 2)]
theorem ok96:aN Tryz.prog true ⟨fun r k=>if r=7/\k=0 then .own [0,1] else if r=8/\k=0 then .own [0,1] else if r=9/\k=1 then .own [0,1] else if r=11/\k=0 then .own [0,1] else .own [],fun _=>false⟩ Tryz.f96=some (pc96,rs96):=by kernel_rfl
def pc124:PC:=.seq (.reg [.q 4 (.mv (.i 0)),.q 5 (.mv (.k .nilIface))]) (.seq (.reg [.v 6 0,.a 7 (.cl 147 [(.t 6)] [0,1])]) (.seq (.reg [.v 8 0,.v 9 0,.q 10 (.nc (.t 9)),.q 11 (.fa 1 (.t 10)),.l 12 (.ld1 (.t 11)),.v 13 1,.e 14 (.aps 5 (.t 12) (.t 13)),.q 15 (.nc (.t 8)),.q 16 (.fa 1 (.t 15)),.s (.st 1 (.t 16) (.t 14))]) (.seq (.reg [.v 17 1,.q 18 (.lnS (.t 17)),.v 4 18,.q 5 (.mv (.k .nilIface))]) .ret)))
def rs124:List RV:=[.mv (.t 4),.mv (.t 5)]
theorem ok124:aN Tryz.prog true ⟨fun r k=>if r=1/\k=1 then .own [0,1] else .own [],fun _=>false⟩ Tryz.f124=some (pc124,rs124):=by kernel_rfl
def pc144_4:PC:=.seq (.gh (.reg [.q 4 (.mv (.k (.string (mk []))))])) (.seq (.seq (.reg [.q 5 (.mv (.k (.bool true)))]) (.block 0 (.loop (.seq (.seq (.reg [.v 12 5,.v 13 12,⟨some 14,(some (13,false)),.q (.mv (.t 3))⟩,⟨some 15,(some (13,false)),.q (.bin .gtr true (.t 14) (.k (.int .u64 0)))⟩,.a 16 (.pick (.t 13) (.k (.bool true)) (.t 15))]) (.cond (.t 16) .skip (.exit 0))) (.seq (.block 1 (.seq (.reg [.v 17 3,.q 18 (.bin .rem true (.t 17) (.k (.int .u64 10))),.q 19 (.bin .add true (.k (.int .u64 48)) (.t 18)),.q 20 (.cvt .u8 (.t 19)),.e 21 (.bsl 5 1 [(.t 20)]),.q 22 (.b2s (.t 21)),.v 23 4,.q 24 (.bin .add true (.t 22) (.t 23)),.v 4 24]) (.reg [.v 25 3,.q 26 (.bin .quo true (.t 25) (.k (.int .u64 10))),.v 3 26]))) (.reg [.q 5 (.mv (.k (.bool false)))])))))) (.seq (.seq (.reg [.v 27 0,.q 28 (.bin .lss true (.t 27) (.i 0))]) (.cond (.t 28) (.seq (.reg [.v 29 4,.q 30 (.bin .add true (.k (.string (mk [45]))) (.t 29)),.v 2 30]) .ret) .skip)) (.seq (.reg [.v 31 4,.v 2 31]) .ret)))
@[go_sem ↓] theorem PV:aT pc144_4:=aU _
def pc144:PC:=.seq (.reg [.q 2 (.mv (.k (.string (mk []))))]) (.seq (.reg [.v 6 0,.q 7 (.cvt .u64 (.t 6)),.v 3 7]) (.seq (.seq (.reg [.v 8 0,.q 9 (.bin .lss true (.t 8) (.i 0))]) (.cond (.t 9) (.reg [.v 10 3,.q 11 (.neg false (.t 10)),.v 3 11]) .skip)) (pc144_4)))
def rs144:List RV:=[.mv (.t 2)]
theorem ok144:aN Tryz.prog true ⟨fun _ _=>.own [],fun r=>[4].contains r⟩ Tryz.f144=some (pc144,rs144):=by kernel_rfl
end Go.Proofs.YtkpohmhenegkiaaGreatDoor.Pr
