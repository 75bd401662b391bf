/- Lemmas and walks for the proof. -/
import Derived.Test.YtkpohmhenegkiaaGreatDoorFc
import Derived.Shelf.Slices.Clone
import Derived.Test.YtkpohmhenegkiaaGreatDoorProg
set_option maxRecDepth 100000
set_option maxHeartbeats 8000000
namespace Go.Proofs.YtkpohmhenegkiaaGreatDoor
open Go.W
theorem GS:Meets Tryz.prog 85 (zP fun l=>.bool (uE l)).sp:=by
  refine aF Tryz.func85 aOG 1 (by rw [Tryz.ntmps85]; decide) (aG vS (aA _)) rY ?_
  rintro xs H K ⟨⟨h,rfl⟩,hK⟩
  obtain ⟨s,rfl⟩:=iL h
  have hK':K (.va (.c1 (.vl (.bool (uE (bl s)))))) []:=hK
  clear hK h
  unfold uE at hK'
  cases hn:cF (bl s) with
  | false=>
    rw [hn] at hK'
    simp -dsimp only [go_sem,QR,Q8,hn]
    exact .done hK'
  | true=>
    cases hl:bl s with
    | nil=>rw [hl] at hn; cases hn
    | cons c r=>
      rw [hl] at hn hK'
      rw [hn] at hK'
      simp -dsimp only [go_sem,QR,Q8,hl,hn]
      refine ⟨by omega,fun d hd=>⟨fun _=>by omega,fun e he=>?_⟩⟩
      subst hd
      cases hc:decide (65<=(c.toNat:Int)) with
      | false=>simp only [hc,Bool.true_and,Bool.false_and] at hK'; exact .done hK'
      | true=>
        obtain rfl:=he hc
        simp only [hc,Bool.true_and] at hK'; exact .done hK'
theorem YP:Meets Tryz.prog 116 (sG eK C.ty fun t=>.bool ((t.e.length:Int) == 0)).sp:=by
  refine aF Tryz.func116 aGI 1 (by rw [Tryz.ntmps116]; decide) (aA _) o6 ?_
  rintro av H K ⟨⟨h,rfl⟩,hK⟩
  obtain ⟨_,rfl,t,rfl,ht⟩:=f7 h
  have hK:K (bS ((t.e.length:Int) == 0)) []:=by
    have:(sG eK C.ty fun t=>.bool ((t.e.length:Int) == 0)).val [.va (.gs (aM t))]=bA ((t.e.length:Int) == 0):=by simp -dsimp only [go_sem]
    rw [this] at hK; exact hK
  simp (maxSteps:=1000000) -dsimp only [go_sem,aH,WQ,VD]
  exact .sel [] (by simp) (by simp) rfl (.done (by simpa [go_sem] using hK))
def ED:List S->Prop:=fun av=>match av with
  | [.va (.c1 (.fz rs)),.va (.c1 (.vl (.int .i64 k))),.va (.c1 (.vl (.string _)))]=>BZ rs/\0<=k/\k<=9223372036854775807
  | _=>False
theorem pN {av:List S} (h:ED av):∃ (l:List ByteArray) (n:Nat) (x:ByteArray),av=[.va (.c1 (.fz (l.map bB))),iS .i64 n,tS x]/\l.length<=9223372036854775807/\(n:Int)<=9223372036854775807:=by
  unfold ED at h
  split at h
  · obtain ⟨⟨l,rfl,h1⟩,h2,h3⟩:=h
    rename_i k x
    exact ⟨l,k.toNat,x,by rw [Int.toNat_of_nonneg h2],h1,by omega⟩
  · exact h.elim
noncomputable def XH:List S->A:=fun av=>match av with
  | [.va (.c1 (.fz rs)),.va (.c1 (.vl (.int .i64 k))),.va (.c1 (.vl (.string x)))]=>bA (cR ((rs.map C.bs).take k.toNat) x)
  | _=>.gs []
noncomputable def inFn:Fun:=⟨ED,XH,fun av h=>by obtain ⟨l,n,x,rfl,_⟩:=pN h; trivial⟩
theorem SM:∀ av H K,inFn.sp av H K->av.length=3:=fun av H K h=>by obtain ⟨l,n,x,rfl,_⟩:=pN h.1.1; rfl
attribute [go_sem] inFn ED XH
theorem SY:Meets Tryz.prog 50 inFn.sp:=by
  refine aF Tryz.func50 aLL 3 (by rw [Tryz.ntmps50]; decide) (aA _) SM ?_
  rintro av H K ⟨⟨h,rfl⟩,hK⟩
  obtain ⟨l,n,x,rfl,hl,hn⟩:=pN h
  have hK:K (bS (cR (l.take n) x)) []:=by
    have:inFn.val [.va (.c1 (.fz (l.map bB))),iS .i64 n,tS x]=bA (cR (l.take n) x):=by simp -dsimp only [go_sem,Int.toNat_natCast]
    rw [this] at hK; exact hK
  clear h
  simp (maxSteps:=1000000) -dsimp only [go_sem,aCY,aAR]
  refine aK (α:=Nat) (fun i=>[(0,.va (.c1 (.fz (l.map bB)))),(1,iS .i64 n),(2,tS x),(7,iS .i64 i)]) (fun _=>[])
    (fun i=>i<=(l.take n).length/\cR ((l.take n).drop i) x=cR (l.take n) x) (fun i=>l.length - i) 0 0 ⟨Nat.zero_le _,rfl⟩ ?_ ?_ ?_
  · simp [go_sem]
  · simp [go_sem]
  rintro i ⟨hi,ho⟩
  have hlt0:(l.take n).length=min n l.length:=by simp
  rcases Nat.lt_or_ge i (l.take n).length with hlt | hge
  · have g1:decide ((i:Int) < (n:Int))=true:=by simp; omega
    have g2:decide ((i:Int) < (l.length:Int))=true:=by simp; omega
    obtain ⟨y,hx⟩:∃ y,l[i]? = some y:=⟨_,List.getElem?_eq_getElem (by omega)⟩
    have hx':(l.take n)[i]? = some y:=by rw [List.getElem?_take,if_pos (by omega)]; exact hx
    have q2:=aO (row:=bB) hx
    rw [cR,gH hx'] at ho
    simp (maxSteps:=1000000) -dsimp only [go_sem,g1,g2,↓q2,cL]
    have hsy:decide (y=x)=decide (x=y):=by simp [eq_comm]
    refine ⟨by omega,fun hc=>?_,fun hc=>⟨by omega,aC (i + 1) 0 ⟨by omega,?_⟩ (by omega) ?_ ?_⟩⟩
    · rw [<-hsy,hc,Bool.true_or] at ho
      rw [<-ho] at hK
      exact .done hK
    · rw [<-hsy,hc,Bool.false_or] at ho
      exact ho
    · simp [go_sem]
    · simp [go_sem]
  · obtain rfl:i=(l.take n).length:=by omega
    rw [cR,oV] at ho
    rw [<-ho] at hK
    generalize hm:(l.take n).length=m at *
    rcases Nat.lt_or_ge m n with h1 | h1
    · have g1:decide ((m:Int) < (n:Int))=true:=by simp; omega
      have g2:decide ((m:Int) < (l.length:Int))=false:=by simp; omega
      simp (maxSteps:=1000000) -dsimp only [go_sem,g1,g2]
      exact .done hK
    · have g1:decide ((m:Int) < (n:Int))=false:=by simp; omega
      simp (maxSteps:=1000000) -dsimp only [go_sem,g1]
      exact .done hK
theorem wK:Meets Tryz.prog 69 jP:=by
  refine aF Tryz.func69 aN5 2 (by rw [Tryz.ntmps69]; decide) (aA _) (fun av H K h=>by obtain ⟨_,_,rfl,_⟩:=h; rfl) ?_
  rintro av H K ⟨s,n,rfl,rfl,hs,hK⟩
  rw [<-y7] at hK
  have hl:=hs.ok.ls
  simp -dsimp only [go_sem,aE,aC4,aA7]
  refine aK (α:=Nat) (fun i=>[(1,tS n),(2,.va (.c1 (.pt 0 0))),(4,.va (.c1 (.pt 1 0))),(6,iS .i64 i)]) (fun _=>[.cells (aE s) 25,.cells [.vl (.string (mk [])),.vl (.slice none 0 0)] 95])
    (fun i=>i<=s.ss.length/\fS (s.ss.drop i) n=fS s.ss n) (fun i=>s.ss.length - i) 0 2 ⟨Nat.zero_le _,rfl⟩ ?_ ?_ ?_
  · simp [go_sem]
  · simp [go_sem,aE]
  rintro i ⟨hi,ho⟩
  rcases Nat.lt_or_ge i s.ss.length with hlt | hge
  · have hg:decide ((i:Int) < (s.ss.length:Int))=true:=by simp; omega
    obtain ⟨t,hx⟩:∃ e,s.ss[i]? = some e:=⟨_,List.getElem?_eq_getElem hlt⟩
    have q2:=aO (row:=aL) hx
    rw [fS,fQ hx] at ho
    cases hc:decide (t.nm=n) with
    | true=>
      rw [hc,Bool.cond_true] at ho
      rw [<-ho] at hK
      simp (maxSteps:=1000000) -dsimp only [go_sem,hg,↓q2,aL,aE,cL,hc]
      refine ⟨by omega,by omega,.sel [] (by simp) (by simp) rfl (.done (by simpa [go_sem,aL] using hK))⟩
    | false=>
      rw [hc,Bool.cond_false] at ho
      simp (maxSteps:=1000000) -dsimp only [go_sem,hg,↓q2,aL,aE,cL,hc]
      refine ⟨by omega,by omega,aC (i + 1) 2 ⟨by omega,ho⟩ (by omega) ?_ ?_⟩
      · simp [go_sem]
      · simp [go_sem,aE]
  · have hg:decide ((i:Int) < (s.ss.length:Int))=false:=by simp; omega
    obtain rfl:i=s.ss.length:=by omega
    rw [List.drop_length] at ho
    rw [<-ho] at hK
    simp -dsimp only [go_sem,hg,aE]
    exact .sel [] (by simp) (by simp) rfl (.done (by simpa [go_sem,fS,B0] using hK))
def xC:W.Spec:=fun av H K=>∃ (s:Sc) (n:ByteArray),av=[.va (.gs (aE s)),tS n]/\H=[]/\s.fit/\K (.tu [.gs (aX ((bW s.es n).getD default)),bA (fN s.es n)]) []
theorem iY {s:Sc} {n:ByteArray} {K:S->Hp->Prop} (h:s.fit) (hK:K (.tu [.gs (aX ((bW s.es n).getD default)),bA (fN s.es n)]) []):xC [.va (.gs (aE s)),tS n] [] K:=⟨s,n,rfl,rfl,h,hK⟩
theorem AG:aX default=[.vl (.string (mk [])),.fz [],.fz []]:=rfl
theorem E9:Meets Tryz.prog 76 xC:=by
  refine aF Tryz.func76 aM5 2 (by rw [Tryz.ntmps76]; decide) (aA _) (fun av H K h=>by obtain ⟨_,_,rfl,_⟩:=h; rfl) ?_
  rintro av H K ⟨s,n,rfl,rfl,hs,hK⟩
  rw [<-AL] at hK
  have hl:=hs.ok.le
  simp -dsimp only [go_sem,aE,aE6,aDN]
  refine aK (α:=Nat) (fun i=>[(1,tS n),(2,.va (.c1 (.pt 0 0))),(4,.va (.c1 (.pt 1 0))),(6,iS .i64 i)]) (fun _=>[.cells (aE s) 25,.cells [.vl (.string (mk [])),.vl (.slice none 0 0),.vl (.slice none 0 0)] 92])
    (fun i=>i<=s.es.length/\bW (s.es.drop i) n=bW s.es n) (fun i=>s.es.length - i) 0 2 ⟨Nat.zero_le _,rfl⟩ ?_ ?_ ?_
  · simp [go_sem]
  · simp [go_sem,aE]
  rintro i ⟨hi,ho⟩
  rcases Nat.lt_or_ge i s.es.length with hlt | hge
  · have hg:decide ((i:Int) < (s.es.length:Int))=true:=by simp; omega
    obtain ⟨t,hx⟩:∃ e,s.es[i]? = some e:=⟨_,List.getElem?_eq_getElem hlt⟩
    have q2:=aO (row:=aX) hx
    rw [bW,fQ hx] at ho
    cases hc:decide (t.nm=n) with
    | true=>
      rw [hc,Bool.cond_true] at ho
      rw [<-ho] at hK
      simp (maxSteps:=1000000) -dsimp only [go_sem,hg,↓q2,aX,aE,cL,hc]
      refine ⟨by omega,by omega,.sel [] (by simp) (by simp) rfl (.done (by simpa [go_sem,aX] using hK))⟩
    | false=>
      rw [hc,Bool.cond_false] at ho
      simp (maxSteps:=1000000) -dsimp only [go_sem,hg,↓q2,aX,aE,cL,hc]
      refine ⟨by omega,by omega,aC (i + 1) 2 ⟨by omega,ho⟩ (by omega) ?_ ?_⟩
      · simp [go_sem]
      · simp [go_sem,aE]
  · have hg:decide ((i:Int) < (s.es.length:Int))=false:=by simp; omega
    obtain rfl:i=s.es.length:=by omega
    rw [List.drop_length] at ho
    rw [<-ho] at hK
    simp -dsimp only [go_sem,hg,aE]
    exact .sel [] (by simp) (by simp) rfl (.done (by simpa [go_sem,bW,AG] using hK))
theorem NU:Meets Tryz.prog 70 kK:=by
  refine aF Tryz.func70 aL2 2 (by rw [Tryz.ntmps70]; decide) (aA _) (fun av H K h=>by obtain ⟨_,_,rfl,_⟩:=h; rfl) ?_
  rintro av H K ⟨s,n,rfl,rfl,hs,hsm,hK⟩
  have hl:=hs.len
  simp -dsimp only [go_sem,aL,aAO,aCU]
  refine aK (α:=Nat) (fun i=>[(1,iS .i64 n),(2,.va (.c1 (.pt 0 0))),(4,.va (.c1 (.pt 1 0))),(6,iS .i64 i)]) (fun _=>[.cells (aL s) 95,.cells [.vl (.int .i64 0),.vl (.string (mk [])),.vl (.int .i64 0),.vl (.int .i64 0),.vl (.string (mk [])),.vl (.slice none 0 0),.vl (.bool false)] 97])
    (fun i=>i<=s.fs.length/\fF (s.fs.drop i) n=fF s.fs n) (fun i=>s.fs.length - i) 0 2 ⟨Nat.zero_le _,rfl⟩ ?_ ?_ ?_
  · simp [go_sem]
  · simp [go_sem,aL]
  rintro i ⟨hi,ho⟩
  rcases Nat.lt_or_ge i s.fs.length with hlt | hge
  · have hg:decide ((i:Int) < (s.fs.length:Int))=true:=by simp; omega
    obtain ⟨t,hx⟩:∃ e,s.fs[i]? = some e:=⟨_,List.getElem?_eq_getElem hlt⟩
    have q2:=aO (row:=aR) hx
    rw [fF,fQ hx] at ho
    have hq:(t.num == n)=decide (t.num=n):=rfl
    cases hc:decide (t.num=n) with
    | true=>
      rw [hc,Bool.cond_true] at ho
      rw [<-ho] at hK
      simp (maxSteps:=1000000) -dsimp only [go_sem,hg,↓q2,aR,aL,hq,hc]
      refine ⟨by omega,by omega,.sel [] (by simp) (by simp) rfl (.done (by simpa [go_sem,aR] using hK))⟩
    | false=>
      rw [hc,Bool.cond_false] at ho
      simp (maxSteps:=1000000) -dsimp only [go_sem,hg,↓q2,aR,aL,hq,hc]
      refine ⟨by omega,by omega,aC (i + 1) 2 ⟨by omega,ho⟩ (by omega) ?_ ?_⟩
      · simp [go_sem]
      · simp [go_sem,aL]
  · have hg:decide ((i:Int) < (s.fs.length:Int))=false:=by simp; omega
    obtain rfl:i=s.fs.length:=by omega
    rw [List.drop_length] at ho
    rw [<-ho] at hK
    simp -dsimp only [go_sem,hg,aL]
    exact .sel [] (by simp) (by simp) rfl (.done (by simpa [go_sem,fF,sS] using hK))
end Go.Proofs.YtkpohmhenegkiaaGreatDoor
namespace Go.Proofs
open Go.Shelf
def Tryz.lays16_ren:Go.Shelf.Ren:=⟨fun | 16=>126 | n=>n,fun | 24=>89 | n=>n,fun | n=>n⟩
theorem Tryz.lays16:Go.Proofs.Lays2.n16 Tryz.prog Tryz.lays16_ren:={
  mixed:=by kernel_rfl
  f16:=Tryz.func126.trans (congrArg some (by kernel_rfl))
  t4:=Tryz.underlying4
  a4:=Tryz.isAgg4
  z4:=Tryz.sizeOf4
  v4:=Tryz.zeroValue4
  t9:=Tryz.underlying9
  a9:=Tryz.isAgg9
  z9:=Tryz.sizeOf9
  v9:=Tryz.zeroValue9
  t24:=Tryz.underlying89
  a24:=Tryz.isAgg89
  z24:=Tryz.sizeOf89
  v24:=Tryz.zeroValue89
  i9:=by kernel_rfl }
def Tryz.lays15_ren:Go.Shelf.Ren:=⟨fun | 15=>127 | n=>n,fun | 22=>90 | n=>n,fun | n=>n⟩
theorem Tryz.lays15:Go.Proofs.Lays2.n15 Tryz.prog Tryz.lays15_ren:={
  mixed:=by kernel_rfl
  f15:=Tryz.func127.trans (congrArg some (by kernel_rfl))
  t3:=Tryz.underlying3
  a3:=Tryz.isAgg3
  z3:=Tryz.sizeOf3
  v3:=Tryz.zeroValue3
  t4:=Tryz.underlying4
  a4:=Tryz.isAgg4
  z4:=Tryz.sizeOf4
  v4:=Tryz.zeroValue4
  t22:=Tryz.underlying90
  a22:=Tryz.isAgg90
  z22:=Tryz.sizeOf90
  v22:=Tryz.zeroValue90
  i3:=by kernel_rfl }
end Go.Proofs
namespace Go.Proofs.YtkpohmhenegkiaaGreatDoor
open Go.W Go.RowKit
theorem Z0 {X:Ctx} {E:Es} {ro:RO} {w w':World} (h:Rel X E ro w) {blk:B} {g:Gb} (hb:∀ k,k < w.heap.size->w'.heap[k]? = w.heap[k]?) (hsz:w.heap.size<=w'.heap.size)
    (h1:w'.os=w.os) (h2:w'.tape=w.tape) (h3:w'.output=w.output) (hob:∀ b,g.ob=some b->w.heap.size<=b) (hon:blk.On (gm (E ++ [(g,blk)])) ro w' g):Rel X (E ++ [(g,blk)]) ro w':=by
  have hext:GExt (gm E) (gm (E ++ [(g,blk)])):=cD _
  have hget:∀ (n:Nat) (y:Gb × B),(E ++ [(g,blk)])[n]? = some y->(n=E.length/\y=(g,blk))\/(n < E.length/\E[n]? = some y):=by
    intro n y hy
    rw [List.getElem?_append] at hy
    split at hy
    · exact .inr ⟨by assumption,hy⟩
    · have:n - E.length=0:=by
        rcases Nat.eq_zero_or_pos (n - E.length) with h0 | h0
        · exact h0
        · rw [List.getElem?_eq_none (by simp; omega)] at hy; cases hy
      rw [this] at hy
      exact .inl ⟨by omega,by simpa using hy.symm⟩
  have old:∀ (n k:Nat) (gn:Gb) (bk:B),E[n]? = some (gn,bk)->gn.ob=some k->bk.live=true->k < w.heap.size:=fun n k gn bk hy hk hl=>(h.own n _ bk hy).lt hl hk
  refine ⟨fun n g' bk hy=>?_,fun n m gn gm bn bm k hy hz en em ln lm=>?_,fun k off c hc n gn bk hy en=>?_,fun k off c hc=>?_,h.ro0,h.rob,fun n k gn bk hy en ln=>?_,h.gx.trans hext,Nat.le_trans h.sz hsz,fun k hk hp=>?_,by rw [h1]; exact h.os,by rw [h2]; exact h.tape,by rw [h3]; exact h.output⟩
  · rcases hget n _ hy with ⟨rfl,he⟩ | ⟨hlt,hy'⟩
    · simp only [Prod.mk.injEq] at he; obtain ⟨rfl,rfl⟩:=he; exact hon
    · by_cases hlv:bk.live=true
      · exact (h.own n g' bk hy').same hext (Ext.refl _) fun k hk=>hb k (old n k g' bk hy' hk hlv)
      · cases bk<;>simp [B.live] at hlv; trivial
  · rcases hget n _ hy with ⟨rfl,he⟩ | ⟨hlt,hy'⟩<;>rcases hget m _ hz with ⟨rfl,he2⟩ | ⟨hlt2,hz'⟩
    · rfl
    · simp only [Prod.mk.injEq] at he; obtain ⟨rfl,rfl⟩:=he; have:=old m k gm bm hz' em lm; have:=hob k en; omega
    · simp only [Prod.mk.injEq] at he2; obtain ⟨rfl,rfl⟩:=he2; have:=old n k gn bn hy' en ln; have:=hob k em; omega
    · exact h.inj n m gn gm bn bm k hy' hz' en em ln lm
  · rcases hget n _ hy with ⟨rfl,he⟩ | ⟨hlt,hy'⟩
    · simp only [Prod.mk.injEq] at he; obtain ⟨rfl,rfl⟩:=he; have:=h.cell_lt hc; have:=hob k en; omega
    · exact h.apart k off c hc n gn bk hy' en
  · have:=h.rd k off c hc
    rw [<-this]
    simp only [World.cell?,hb k (h.cell_lt hc)]
  · rcases hget n _ hy with ⟨rfl,he⟩ | ⟨hlt,hy'⟩
    · simp only [Prod.mk.injEq] at he; obtain ⟨rfl,rfl⟩:=he; have:=hob k en; have:=h.sz; exact .inl (by omega)
    · exact h.par n k gn bk hy' en ln
  · rw [hb k (by have:=h.sz; omega)]
    exact h.keep k hk hp
theorem LK {X:Ctx} {ro:RO} {w w':World} (h:Rel X [] ro w) (hX:X.g0.length=0) {T:TypeId} {v:Value} {cs:List Value} (hne:cs ≠ []) (_hone:∀ u ∈ cs,u.oneCell'=true) (ho:w'.ownsRow w.heap.size T 1 v cs.length cs) (hb:Below w.heap.size w w') {K:S->Hp->Prop} (hK:K (.va (.c1 (.fz (cs.map fun u=>[C.vl u])))) []) :
    ∃ r' E' ro',K r' (hp E')/\r'.rel (gm E') ro' v/\Rel X E' ro' w':=by
  have hlen:0 < cs.length:=List.length_pos_iff.2 hne
  obtain ⟨h1,h2⟩:=ho
  rcases h2 with ⟨_,h0⟩ | ⟨b,cap,cur,rfl,hbb,hcell,hcap,hmax,hcs,htk⟩
  · omega
  have hfl:(cs.map fun u=>[C.vl u]).flatten=cs.map C.vl:=by
    clear h1 hlen hcap htk hK hne _hone
    induction cs with
    | nil=>rfl
    | cons x l ih=>rw [List.map_cons,List.flatten_cons,ih]; rfl
  let g:Gb:=⟨some b,true,cs.length,cap,T,cs⟩
  have hR:Rel X ([] ++ [(g,.row (cs.map fun u=>[C.vl u]) T 1)]) ro w':=by
    refine Z0 h (fun k hk=>hb.block k hk) hb.size hb.os hb.tape hb.output (fun b' hb'=>by cases hb'; exact hbb) ⟨rfl,by simp [g],fun x hx=>?_,fun c hc=>?_,⟨by simp [g],.inr ⟨b,cap,cur,?_,Nat.zero_le _,hcell,by simp; exact hcap,hmax,hcs,?_⟩⟩,?_,fun b' _=>(by show 0 < cap; omega)⟩
    · obtain ⟨y,_,rfl⟩:=List.mem_map.1 hx; rfl
    · rw [hfl] at hc; obtain ⟨y,_,rfl⟩:=List.mem_map.1 hc; rfl
    · simp [aZ,g]
    · rw [List.length_map]; exact htk
    · rw [hfl]
      refine ⟨by simp [g],fun i x y hx hy=>?_⟩
      rw [List.getElem?_map] at hx
      have hy:cs[i]? = some y:=hy
      rw [hy] at hx
      cases hx; rfl
  refine DP (X:=X) (k0:=0) hX (r:=.va (.c1 (.sl 0 (cs.map fun u=>[C.vl u]).length))) (.pub 0 _ T 1 (by rfl) (.sel [] (by simp) (by simp [cG]) rfl (.done ?_))) rfl ?_ hR
  · simp -dsimp only [go_sem,cG]; simpa using hK
  · refine ⟨g,rfl,rfl,by simp [g],⟨_,_,_,rfl⟩,fun _=>?_⟩
    simp [g,aZ]
theorem nO {X:Ctx} {ro:RO} {w w':World} (h:Rel X [] ro w) {o:Option Addr} {c:Nat} (hb:Below w.heap.size w w') {K:S->Hp->Prop} (hK:K (.va (.c1 (.fz []))) []) :
    ∃ r' E' ro',K r' (hp E')/\r'.rel (gm E') ro' (.slice o 0 c)/\Rel X E' ro' w':=
  ⟨.va (.c1 (.fz [])),[],ro,hK,FzR.mk (ro:=ro) [] 1 none o (fun h=>absurd rfl h) c (fun _=>undef) (by simp) (Nat.zero_le _) (by simp) (by simp) (by simp) (by simp) (by simp),h.aside (fun k hk=>hb.block k hk) hb.size hb.os hb.tape hb.output⟩
def WB:W.Spec:=fun av H K=>∃ l:List ByteArray,av=[.va (.c1 (.fz (l.map bB)))]/\H=[]/\l.length<=1000000000/\K (.va (.c1 (.fz (l.map bB)))) []
theorem YW {l:List ByteArray} {K:S->Hp->Prop} (h:l.length<=1000000000) (hK:K (.va (.c1 (.fz (l.map bB)))) []):WB [.va (.c1 (.fz (l.map bB)))] [] K:=⟨l,rfl,rfl,h,hK⟩
theorem RF (l:List ByteArray):(l.map bB).flatten=(l.map Value.string).map C.vl:=by
  induction l with
  | nil=>rfl
  | cons x l ih=>rw [List.map_cons,List.flatten_cons,ih]; rfl
theorem TE (l:List ByteArray):(l.map Value.string).map (fun u=>[C.vl u])=l.map bB:=by rw [List.map_map]; rfl
theorem aOE:Meets Tryz.prog 126 WB:=by
  refine ⟨by kernel_rfl,fun av vs E ro w K hlen hrel hR hs _=>?_⟩
  obtain ⟨l,rfl,hH,hl,hK⟩:=hs
  match E,hH with
  | [],_=>
    match vs,hlen with
    | [v0],_=>
      have r0:FzR ro (l.map bB) v0:=hrel 0 _ _ rfl rfl
      cases hl0:l with
      | nil=>
        subst hl0
        generalize hx:([]:List ByteArray).map bB=xs at r0
        cases r0 with
        | mk xs sz o oa hoa cap us hz hc ho h1 h2 h3 h4=>
          subst hx
          have hK:K (.va (.c1 (.fz []))) []:=hK
          cases oa with
          | none=>
            refine (Any.slices_Clone_string_nil Tryz.lays16 0 cap w).mono ?_
            rintro e w' ⟨rfl,rfl⟩
            obtain ⟨r',E',ro',a1,a2,a3⟩:=nO (o:=none) (c:=0) hR (Below.refl _ _) hK
            exact ⟨r',_,E',ro',rfl,a2,a1,a3⟩
          | some a=>
            refine (Any.slices_Clone_string_zero Tryz.lays16 a cap w).mono ?_
            rintro e w' ⟨v',rfl,hown,_,hb⟩
            obtain ⟨o',c',rfl⟩:∃ o' c',v'=.slice o' 0 c':=by
              rcases hown.2 with ⟨rfl,_⟩ | ⟨b,c',cur,rfl,_⟩
              · exact ⟨none,0,rfl⟩
              · exact ⟨_,c',rfl⟩
            obtain ⟨r',E',ro',a1,a2,a3⟩:=nO (o:=o') (c:=c') hR hb hK
            exact ⟨r',_,E',ro',rfl,a2,a1,a3⟩
      | cons x0 lt=>
        have hne:l ≠ []:=by rw [hl0]; exact List.cons_ne_nil _ _
        clear hl0
        generalize hx:l.map bB=xs at r0
        cases r0 with
        | mk xs sz o oa hoa cap us hz hc ho h1 h2 h3 h4=>
          subst hx
          have hne2:l.map bB ≠ []:=by simpa using hne
          obtain ⟨⟨b,off⟩,rfl⟩:=Option.isSome_iff_exists.1 (ho hne2)
          obtain rfl:=hoa hne2
          have hcell:∀ j,j < l.length->w.cell? ⟨b,off + j,none⟩=some (Value.string (l.getD j ByteArray.empty)):=fun j hj=>by
            have hf:(l.map bB).flatten[j]? = some (.vl (Value.string (l.getD j ByteArray.empty))):=by
              rw [RF,List.getElem?_map,List.getElem?_map,List.getElem?_eq_getElem hj]
              simp [hj]
            have e1:=h1 j _ hf
            have e2:=h2 j _ hf
            rw [e2] at e1
            exact hR.rd b (off + j) _ e1
          have key:=Any.slices_Clone_string Tryz.lays16 b off l.length cap l w (Nat.le_refl _) (by omega) hcell
          rw [List.take_length] at key
          rw [List.length_map]
          refine key.mono ?_
          rintro e w' ⟨v',rfl,hown,_,hb⟩
          rw [<-List.length_map (f:=Value.string)] at hown
          obtain ⟨r',E',ro',a1,a2,a3⟩:=LK hR rfl (cs:=l.map Value.string) (by simpa using hne) (fun u hu=>by obtain ⟨y,_,rfl⟩:=List.mem_map.1 hu; rfl) hown hb (by rw [TE]; exact hK)
          exact ⟨r',_,E',ro',rfl,a2,a1,a3⟩
def T5:W.Spec:=fun av H K=>∃ l:List Int,av=[.va (.c1 (.fz (l.map bU)))]/\H=[]/\l.length<=1000000000/\K (.va (.c1 (.fz (l.map bU)))) []
theorem YZ {l:List Int} {K:S->Hp->Prop} (h:l.length<=1000000000) (hK:K (.va (.c1 (.fz (l.map bU)))) []):T5 [.va (.c1 (.fz (l.map bU)))] [] K:=⟨l,rfl,rfl,h,hK⟩
theorem TL (l:List Int):(l.map bU).flatten=(l.map (Value.int .i64)).map C.vl:=by
  induction l with
  | nil=>rfl
  | cons x l ih=>rw [List.map_cons,List.flatten_cons,ih]; rfl
theorem Q9 (l:List Int):(l.map (Value.int .i64)).map (fun u=>[C.vl u])=l.map bU:=by rw [List.map_map]; rfl
theorem aML:Meets Tryz.prog 127 T5:=by
  refine ⟨by kernel_rfl,fun av vs E ro w K hlen hrel hR hs _=>?_⟩
  obtain ⟨l,rfl,hH,hl,hK⟩:=hs
  match E,hH with
  | [],_=>
    match vs,hlen with
    | [v0],_=>
      have r0:FzR ro (l.map bU) v0:=hrel 0 _ _ rfl rfl
      cases hl0:l with
      | nil=>
        subst hl0
        generalize hx:([]:List Int).map bU=xs at r0
        cases r0 with
        | mk xs sz o oa hoa cap us hz hc ho h1 h2 h3 h4=>
          subst hx
          have hK:K (.va (.c1 (.fz []))) []:=hK
          cases oa with
          | none=>
            refine (Any.slices_Clone_int_nil Tryz.lays15 0 cap w).mono ?_
            rintro e w' ⟨rfl,rfl⟩
            obtain ⟨r',E',ro',a1,a2,a3⟩:=nO (o:=none) (c:=0) hR (Below.refl _ _) hK
            exact ⟨r',_,E',ro',rfl,a2,a1,a3⟩
          | some a=>
            refine (Any.slices_Clone_int_zero Tryz.lays15 a cap w).mono ?_
            rintro e w' ⟨v',rfl,hown,_,hb⟩
            obtain ⟨o',c',rfl⟩:∃ o' c',v'=.slice o' 0 c':=by
              rcases hown.2 with ⟨rfl,_⟩ | ⟨b,c',cur,rfl,_⟩
              · exact ⟨none,0,rfl⟩
              · exact ⟨_,c',rfl⟩
            obtain ⟨r',E',ro',a1,a2,a3⟩:=nO (o:=o') (c:=c') hR hb hK
            exact ⟨r',_,E',ro',rfl,a2,a1,a3⟩
      | cons x0 lt=>
        have hne:l ≠ []:=by rw [hl0]; exact List.cons_ne_nil _ _
        clear hl0
        generalize hx:l.map bU=xs at r0
        cases r0 with
        | mk xs sz o oa hoa cap us hz hc ho h1 h2 h3 h4=>
          subst hx
          have hne2:l.map bU ≠ []:=by simpa using hne
          obtain ⟨⟨b,off⟩,rfl⟩:=Option.isSome_iff_exists.1 (ho hne2)
          obtain rfl:=hoa hne2
          have hcell:∀ j,j < l.length->w.cell? ⟨b,off + j,none⟩=some (Value.int .i64 (l.getD j 0)):=fun j hj=>by
            have hf:(l.map bU).flatten[j]? = some (.vl (Value.int .i64 (l.getD j 0))):=by
              rw [TL,List.getElem?_map,List.getElem?_map,List.getElem?_eq_getElem hj]
              simp [hj]
            have e1:=h1 j _ hf
            have e2:=h2 j _ hf
            rw [e2] at e1
            exact hR.rd b (off + j) _ e1
          have key:=Any.slices_Clone_int Tryz.lays15 b off l.length cap l w (Nat.le_refl _) (by omega) hcell
          rw [List.take_length] at key
          rw [List.length_map]
          refine key.mono ?_
          rintro e w' ⟨v',rfl,hown,_,hb⟩
          rw [<-List.length_map (f:=(Value.int .i64))] at hown
          obtain ⟨r',E',ro',a1,a2,a3⟩:=LK hR rfl (cs:=l.map (Value.int .i64)) (by simpa using hne) (fun u hu=>by obtain ⟨y,_,rfl⟩:=List.mem_map.1 hu; rfl) hown hb (by rw [Q9]; exact hK)
          exact ⟨r',_,E',ro',rfl,a2,a1,a3⟩
end Go.Proofs.YtkpohmhenegkiaaGreatDoor
namespace Go.Proofs.YtkpohmhenegkiaaGreatDoor
open Go.W
theorem wX:Meets Tryz.prog 98 xC:=by
  refine aF Tryz.func98 aM7 2 (by rw [Tryz.ntmps98]; decide) (aB aOE (aB aML (aA _))) (fun av H K h=>by obtain ⟨_,_,rfl,_⟩:=h; rfl) ?_
  rintro av H K ⟨s,n,rfl,rfl,hs,hK⟩
  rw [<-AL] at hK
  have hl:=hs.ok.le
  simp -dsimp only [go_sem,aE,aE8,aA9]
  refine aK (α:=Nat) (fun i=>[(1,tS n),(2,.va (.c1 (.pt 0 0))),(4,.va (.c1 (.pt 1 0))),(9,.va (.c1 (.fz (s.es.map aX)))),(10,iS .i64 s.es.length),(11,iS .i64 i)]) (fun _=>[.cells (aE s) 25,.cells [.vl (.string (mk [])),.vl (.slice none 0 0),.vl (.slice none 0 0)] 92])
    (fun i=>i<=s.es.length/\bW (s.es.drop i) n=bW s.es n) (fun i=>s.es.length - i) 0 2 ⟨Nat.zero_le _,rfl⟩ ?_ ?_ ?_
  · simp [go_sem]
  · simp [go_sem,aE]
  rintro i ⟨hi,ho⟩
  rcases Nat.lt_or_ge i s.es.length with hlt | hge
  · have hg:decide ((i:Int) < (s.es.length:Int))=true:=by simp; omega
    obtain ⟨t,hx⟩:∃ e,s.es[i]? = some e:=⟨_,List.getElem?_eq_getElem hlt⟩
    have q2:=aO (row:=aX) hx
    have htm:=List.mem_of_getElem? hx
    rw [bW,fQ hx] at ho
    cases hc:decide (t.nm=n) with
    | true=>
      rw [hc,Bool.cond_true] at ho
      rw [<-ho] at hK
      simp (maxSteps:=1000000) -dsimp only [go_sem,hg,↓q2,aX,aE,cL,hc]
      refine ⟨by omega,YW (hs.en t htm).1 ?_⟩
      simp (maxSteps:=1000000) -dsimp only [go_sem]
      refine YZ (hs.en t htm).2 ?_
      simp (maxSteps:=1000000) -dsimp only [go_sem]
      exact .sel [] (by simp) (by simp) rfl (.done (by simpa [go_sem,aX] using hK))
    | false=>
      rw [hc,Bool.cond_false] at ho
      simp (maxSteps:=1000000) -dsimp only [go_sem,hg,↓q2,aX,aE,cL,hc]
      refine ⟨by omega,by omega,aC (i + 1) 2 ⟨by omega,ho⟩ (by omega) ?_ ?_⟩
      · simp [go_sem]
      · simp [go_sem,aE]
  · have hg:decide ((i:Int) < (s.es.length:Int))=false:=by simp; omega
    obtain rfl:i=s.es.length:=by omega
    rw [List.drop_length] at ho
    rw [<-ho] at hK
    simp -dsimp only [go_sem,hg,aE]
    exact .sel [] (by simp) (by simp) rfl (.done (by simpa [go_sem,bW,AG] using hK))
end Go.Proofs.YtkpohmhenegkiaaGreatDoor
namespace Go.Proofs.YtkpohmhenegkiaaGreatDoor
open Go.W
noncomputable def eqB {α:Type} (a b:α):Bool:=@decide (a=b) (Classical.propDecidable _)
end Go.Proofs.YtkpohmhenegkiaaGreatDoor
namespace Go.Proofs.YtkpohmhenegkiaaGreatDoor
open Go.W
theorem aDB:Meets Tryz.prog 46 (sG pT C.sc fun s=>.bool (dV s)).sp:=by
  refine aF Tryz.func46 aLJ 1 (by rw [Tryz.ntmps46]; decide) (aA _) o6 ?_
  rintro av H K ⟨⟨h,rfl⟩,hK⟩
  obtain ⟨_,rfl,s,rfl,hs⟩:=f7 h
  have hK:K (bS (dV s)) []:=by
    have:(sG pT C.sc fun s=>.bool (dV s)).val [.va (.gs (aE s))]=bA (dV s):=by simp -dsimp only [go_sem]
    rw [this] at hK; exact hK
  obtain ⟨hv,hle,hls,hes,hss⟩:=hs
  have big:dV s=true->∀ R:Hp,W.Fin 0 K (bS true) R:=fun h R=>by
    rw [h] at hK
    exact .sel [] (by simp) (by simp) rfl (.done (by simpa [go_sem] using hK))
  cases d1:decide (16 < (s.es.length:Int)) with
  | true=>
    simp (maxSteps:=1000000) -dsimp only [go_sem,aE,GH,GV,d1]
    exact big (by unfold dV; rw [show decide (16 < s.es.length)=true by simp at d1 ⊢; omega]; simp) _
  | false=>
  cases d2:decide (16 < (s.ss.length:Int)) with
  | true=>
    simp (maxSteps:=1000000) -dsimp only [go_sem,aE,GH,GV,d1,d2]
    exact big (by unfold dV; rw [show decide (16 < s.es.length + s.ss.length)=true by simp at d2 ⊢; omega]; simp) _
  | false=>
  cases d3:decide (16 < (s.es.length:Int) + (s.ss.length:Int)) with
  | true=>
    simp (maxSteps:=1000000) -dsimp only [go_sem,aE,GH,GV,d1,d2,d3]
    exact ⟨by simp at d1 d2; omega,big (by unfold dV; rw [show decide (16 < s.es.length + s.ss.length)=true by simp at d3 ⊢; omega]; simp) _⟩
  | false=>
  simp (maxSteps:=1000000) -dsimp only [go_sem,aE,GH,GV,d1,d2,d3]
  simp only [decide_eq_false_iff_not] at d1 d2 d3
  refine ⟨by omega,?_⟩
  have hL:dV s=(s.es.any (fun e=>decide (16 < e.ns.length)) || s.ss.any (fun t=>decide (16 < t.fs.length))):=by
    unfold dV; rw [decide_eq_false (by omega),decide_eq_false (by omega)]; rfl
  refine aK (α:=Nat) (fun i=>[(1,.va (.c1 (.pt 0 0))),(3,iS .i64 i)]) (fun _=>[.cells (aE s) 25])
    (fun i=>i<=s.es.length/\(s.es.drop i).any (fun e=>decide (16 < e.ns.length))=s.es.any (fun e=>decide (16 < e.ns.length))) (fun i=>s.es.length - i) 0 1 ⟨Nat.zero_le _,rfl⟩ ?_ ?_ ?_
  · simp [go_sem]
  · simp [go_sem,aE]
  rintro i ⟨hi,ho⟩
  rcases Nat.lt_or_ge i s.es.length with hlt | hge
  · have hg:decide ((i:Int) < (s.es.length:Int))=true:=by simp; omega
    obtain ⟨e,hx⟩:∃ e,s.es[i]? = some e:=⟨_,List.getElem?_eq_getElem hlt⟩
    have q2:=aO (row:=aX) hx
    rw [gH hx] at ho
    simp (maxSteps:=1000000) -dsimp only [go_sem,hg,↓q2,aX,aE]
    and_intros
    all_goals first
      | omega
      | skip
    · intro hc
      have hc':decide (16 < e.ns.length)=true:=by simp at hc; simp; omega
      have:dV s=true:=by simp only [hL,<-ho,hc',Bool.true_or]
      rw [this] at hK
      exact .sel [] (by simp) (by simp) rfl (.done (by simpa [go_sem] using hK))
    · intro hc
      refine ⟨by omega,aC (i + 1) 1 ⟨by omega,?_⟩ (by omega) ?_ ?_⟩
      · have hc':decide (16 < e.ns.length)=false:=by simp at hc; simp; omega
        rw [<-ho,hc',Bool.false_or]
      · simp [go_sem]
      · simp [go_sem,aE]
  · have hg:decide ((i:Int) < (s.es.length:Int))=false:=by simp; omega
    obtain rfl:i=s.es.length:=by omega
    rw [oV] at ho
    rw [<-ho,Bool.false_or] at hL
    simp (maxSteps:=1000000) -dsimp only [go_sem,hg,aE]
    refine aK (α:=Nat) (fun i=>[(1,.va (.c1 (.pt 0 0))),(4,iS .i64 i)]) (fun _=>[.cells (aE s) 25])
      (fun i=>i<=s.ss.length/\(s.ss.drop i).any (fun e=>decide (16 < e.fs.length))=s.ss.any (fun e=>decide (16 < e.fs.length))) (fun i=>s.ss.length - i) 0 1 ⟨Nat.zero_le _,rfl⟩ ?_ ?_ ?_
    · simp [go_sem]
    · simp [go_sem,aE]
    clear hi ho hge hg
    rintro i ⟨hi,ho⟩
    rcases Nat.lt_or_ge i s.ss.length with hlt | hge
    · have hg:decide ((i:Int) < (s.ss.length:Int))=true:=by simp; omega
      obtain ⟨e,hx⟩:∃ e,s.ss[i]? = some e:=⟨_,List.getElem?_eq_getElem hlt⟩
      have q2:=aO (row:=aL) hx
      rw [gH hx] at ho
      simp (maxSteps:=1000000) -dsimp only [go_sem,hg,↓q2,aL,aE]
      and_intros
      all_goals first
        | omega
        | skip
      · intro hc
        have hc':decide (16 < e.fs.length)=true:=by simp at hc; simp; omega
        have:dV s=true:=by simp only [hL,<-ho,hc',Bool.true_or]
        rw [this] at hK
        exact .sel [] (by simp) (by simp) rfl (.done (by simpa [go_sem] using hK))
      · intro hc
        refine ⟨by omega,aC (i + 1) 1 ⟨by omega,?_⟩ (by omega) ?_ ?_⟩
        · have hc':decide (16 < e.fs.length)=false:=by simp at hc; simp; omega
          rw [<-ho,hc',Bool.false_or]
        · simp [go_sem]
        · simp [go_sem,aE]
    · have hg:decide ((i:Int) < (s.ss.length:Int))=false:=by simp; omega
      obtain rfl:i=s.ss.length:=by omega
      rw [oV] at ho
      simp (maxSteps:=1000000) -dsimp only [go_sem,hg,aE]
      rw [hL,<-ho] at hK
      exact .sel [] (by simp) (by simp) rfl (.done (by simpa [go_sem] using hK))
end Go.Proofs.YtkpohmhenegkiaaGreatDoor
namespace Go.Proofs.YtkpohmhenegkiaaGreatDoor
open Go.W
def DY (len:Sc->Nat):List S->Prop:=fun av=>match av with
  | [.va (.gs r),.va (.c1 (.vl (.int .i64 i)))]=>iQ r/\0<=i/\i < (len (C.sc r):Int)
  | _=>False
theorem l8 {len:Sc->Nat} {av:List S} (h:DY len av):∃ (s:Sc) (i:Nat),av=[.va (.gs (aE s)),iS .i64 i]/\s.fit/\i < len s:=by
  unfold DY at h
  split at h
  · obtain ⟨⟨a,rfl,ha⟩,h1,h2⟩:=h
    rw [dW] at h2
    rename_i i
    exact ⟨a,i.toNat,by rw [Int.toNat_of_nonneg h1],ha,by omega⟩
  · exact h.elim
noncomputable def XK (f:Sc->Nat->Int):List S->A:=fun av=>match av with
  | [.va (.gs r),.va (.c1 (.vl (.int .i64 i)))]=>iA .i64 (f (C.sc r) i.toNat)
  | _=>.gs []
noncomputable def BJ (len:Sc->Nat) (f:Sc->Nat->Int):Fun:=⟨DY len,XK f,fun av h=>by obtain ⟨a,b,rfl,_⟩:=l8 h; trivial⟩
theorem F2 {len:Sc->Nat} {f:Sc->Nat->Int}:∀ av H K,(BJ len f).sp av H K->av.length=2:=fun av H K h=>by obtain ⟨a,b,rfl,_⟩:=l8 h.1.1; rfl
attribute [go_sem] BJ DY XK
theorem XZ:Meets Tryz.prog 47 (BJ (fun s=>s.es.length) iK).sp:=by
  refine aF Tryz.func47 aLS 2 (by rw [Tryz.ntmps47]; decide) (aG GS (aG vS (aG SY (aA _)))) F2 ?_
  rintro av H K ⟨⟨h,rfl⟩,hK⟩
  obtain ⟨s,i,rfl,hs,hi⟩:=l8 (len:=fun s=>s.es.length) h
  have hK:K (iS .i64 (iK s i)) []:=by
    have:(BJ (fun s=>s.es.length) iK).val [.va (.gs (aE s)),iS .i64 i]=iA .i64 (iK s i):=by simp -dsimp only [go_sem,Int.toNat_natCast]
    rw [this] at hK; exact hK
  clear h
  have hle:=hs.ok.le
  have fin:∀ (x:Int) (R:Hp),iK s i=x->W.Fin 0 K (iS .i64 x) R:=fun x R h=>by
    rw [h] at hK
    exact .sel [] (by simp) (by simp) rfl (.done (by simpa [go_sem] using hK))
  obtain ⟨e,hx⟩:∃ e,s.es[i]? = some e:=⟨_,List.getElem?_eq_getElem hi⟩
  have q1:=aO (row:=aX) hx
  obtain ⟨_,hln,hlv,_,_⟩:=hs.ok.es e (List.mem_of_getElem? hx)
  have hA:iK s i=bif !(uE (bl e.nm)) then 5 else bif fN (s.es.take i) e.nm then 7 else CN e:=by unfold iK; rw [hx]
  simp (maxSteps:=1000000) -dsimp only [go_sem,aE,aFE,aBR,↓q1,aX]
  refine ⟨by omega,fun h1=>fin 5 _ (by rw [hA,h1]; rfl),fun h1=>?_⟩
  rw [h1] at hA
  simp only [Bool.cond_false] at hA
  refine aK (α:=Nat) (fun j=>[(1,iS .i64 i),(2,.va (.c1 (.pt 0 0))),(5,.va (.c1 (.pt 1 0))),(6,iS .i64 j)]) (fun _=>[.cells (aE s) 25,.cells (aX e) 92])
    (fun j=>j<=i/\fN ((s.es.take i).drop j) e.nm=fN (s.es.take i) e.nm) (fun j=>i - j) 0 2 ⟨Nat.zero_le _,rfl⟩ ?_ ?_ ?_
  · simp [go_sem]
  · simp [go_sem,aE,aX]
  have hti:(s.es.take i).length=i:=by rw [List.length_take]; omega
  rintro j ⟨hj,ho⟩
  rcases Nat.lt_or_ge j i with hlt | hge
  · have hg:decide ((j:Int) < (i:Int))=true:=by simp; omega
    obtain ⟨d,hd⟩:∃ d,s.es[j]? = some d:=⟨_,List.getElem?_eq_getElem (by omega)⟩
    have hd':(s.es.take i)[j]? = some d:=by rw [List.getElem?_take,if_pos hlt]; exact hd
    have q2:=aO (row:=aX) hd
    rw [fN,gH hd'] at ho
    simp (maxSteps:=1000000) -dsimp only [go_sem,hg,↓q2,aX,aE,cL]
    refine ⟨by omega,fun hc=>?_,fun hc=>?_⟩
    · rw [hc,Bool.true_or] at ho
      exact fin 7 _ (by rw [hA,<-ho]; rfl)
    · rw [hc,Bool.false_or] at ho
      refine ⟨by omega,aC (j + 1) 2 ⟨by omega,ho⟩ (by omega) ?_ ?_⟩
      · simp [go_sem]
      · simp [go_sem,aE,aX]
  · obtain rfl:j=i:=by omega
    have hg:decide ((j:Int) < (j:Int))=false:=by simp
    rw [List.drop_eq_nil_of_le (by omega)] at ho
    rw [<-ho] at hA
    replace hA:iK s j=CN e:=hA
    clear ho hti
    simp (maxSteps:=1000000) -dsimp only [go_sem,hg,aX,aE]
    refine ⟨fun h1=>?_,fun h1=>?_⟩
    · refine fin 2 _ ?_
      rw [hA]
      unfold CN
      have:(decide (e.ns.length=0) || decide (e.ns.length ≠ e.vs.length))=true:=by
        simp only [Bool.or_eq_true,beq_iff_eq,bne_iff_ne,decide_eq_true_eq] at h1 ⊢; omega
      rw [this]; rfl
    simp only [Bool.or_eq_false_iff,beq_eq_false_iff_ne,bne_eq_false_iff_eq,ne_eq] at h1
    have hl:e.ns.length=e.vs.length:=by omega
    have hF:iK s j=fE (jL e) (e.ns.length - 0) 0:=by
      rw [hA]; unfold CN; rw [decide_eq_false (by omega),decide_eq_false (by omega)]; rfl
    clear hA hg hge hj
    refine aK (α:=Nat) (fun k=>[(5,.va (.c1 (.pt 1 0))),(7,iS .i64 k)]) (fun _=>[.cells (aE s) 25,.cells (aX e) 92])
      (fun k=>k<=e.ns.length/\fE (jL e) (e.ns.length - k) k=fE (jL e) (e.ns.length - 0) 0) (fun k=>e.ns.length - k) 0 2 ⟨Nat.zero_le _,rfl⟩ ?_ ?_ ?_
    · simp [go_sem]
    · simp [go_sem,aE,aX]
    rintro k ⟨hk,ho⟩
    rcases Nat.lt_or_ge k e.ns.length with hlt | hge
    · have hg:decide ((k:Int) < (e.ns.length:Int))=true:=by simp; omega
      obtain ⟨nm,hx2⟩:∃ nm,e.ns[k]? = some nm:=⟨_,List.getElem?_eq_getElem hlt⟩
      obtain ⟨n,hy⟩:∃ nm,e.vs[k]? = some nm:=⟨_,List.getElem?_eq_getElem (by omega)⟩
      have q2:=aO (row:=bB) hx2
      have q3:=aO (row:=bU) hy
      have hbs:BZ (e.ns.map bB):=s4 hln
      have hk0:(0<=(k:Int))=True:=by simp
      have hk1:((k:Int)<=9223372036854775807)=True:=by simp; omega
      have hA:jL e k=bif !(cF (bl nm)) then (5:Int) else bif cR (e.ns.take k) nm then 7 else bif decide (n < 0) || decide (127 < n) then 4 else
        bif (decide ((k:Int)=0) && decide (n ≠ 0)) || (decide (0 < (k:Int)) && match e.vs[k - 1]? with | some m=>decide (n<=m) | none=>false) then 2 else 0:=by
        unfold jL; rw [hx2,hy]; rfl
      have fin':∀ (x:Int) (R:Hp),jL e k=x->x ≠ 0->W.Fin 0 K (iS .i64 x) R:=fun x R h1 h2=>fin x R (by
        rw [hF,<-ho,rR hlt (by rw [h1]; exact h2),h1])
      have b9:jL e k=0->fE (jL e) (e.ns.length - (k + 1)) (k + 1)=fE (jL e) (e.ns.length - 0) 0:=fun h1=>by rw [<-ho,xA hlt h1]
      cases hc1:cF (bl nm) with
      | false=>
        simp (maxSteps:=1000000) -dsimp only [go_sem,hg,↓q2,aX,aE,hc1]
        exact ⟨by omega,fin' 5 _ (by rw [hA,hc1]; rfl) (by decide)⟩
      | true=>
        cases hc2:cR (e.ns.take k) nm with
        | true=>
          simp (maxSteps:=1000000) -dsimp only [go_sem,hg,↓q2,aX,aE,hc1,hc2,hbs,hk0,hk1,Int.toNat_natCast]
          exact ⟨by omega,by omega,fin' 7 _ (by rw [hA,hc1,hc2]; rfl) (by decide)⟩
        | false=>
          cases hc3:decide (n < 0) with
          | true=>
            simp (maxSteps:=1000000) -dsimp only [go_sem,hg,↓q2,↓q3,aX,aE,hc1,hc2,hbs,hk0,hk1,Int.toNat_natCast,hc3]
            exact ⟨by omega,by omega,by omega,fin' 4 _ (by rw [hA,hc1,hc2,hc3]; rfl) (by decide)⟩
          | false=>
          cases hc4:decide (127 < n) with
          | true=>
            simp (maxSteps:=1000000) -dsimp only [go_sem,hg,↓q2,↓q3,aX,aE,hc1,hc2,hbs,hk0,hk1,Int.toNat_natCast,hc3,hc4]
            exact ⟨by omega,by omega,by omega,by omega,fin' 4 _ (by rw [hA,hc1,hc2,hc3,hc4]; rfl) (by decide)⟩
          | false=>
          have hA2:jL e k=bif (decide ((k:Int)=0) && decide (n ≠ 0)) || (decide (0 < (k:Int)) && match e.vs[k - 1]? with | some m=>decide (n<=m) | none=>false) then 2 else 0:=by rw [hA,hc1,hc2,hc3,hc4]; rfl
          clear hA
          rcases Nat.eq_zero_or_pos k with h0 | h0
          · have g0:((k:Int) == 0)=true:=by simp; omega
            have g1:decide (0 < (k:Int))=false:=by simp; omega
            have g2:decide ((k:Int)=0)=true:=g0
            cases hn:(n != 0) with
            | true=>
              simp (maxSteps:=1000000) -dsimp only [go_sem,hg,↓q2,↓q3,aX,aE,hc1,hc2,hbs,hk0,hk1,Int.toNat_natCast,hc3,hc4,g0,g1,hn,Bool.and_false]
              and_intros
              all_goals first
                | omega
                | exact fin' 2 _ (by rw [hA2,g1,g2]; simp at hn; simp [hn]) (by decide)
            | false=>
              simp (maxSteps:=1000000) -dsimp only [go_sem,hg,↓q2,↓q3,aX,aE,hc1,hc2,hbs,hk0,hk1,Int.toNat_natCast,hc3,hc4,g0,g1,hn,Bool.and_false]
              and_intros
              all_goals first
                | omega
                | exact aC (k + 1) 2 ⟨by omega,b9 (by rw [hA2,g1]; simp at hn; simp [hn])⟩ (by omega) (by simp [go_sem]) (by simp [go_sem,aE,aX])
          · have g0:((k:Int) == 0)=false:=by simp; omega
            have g1:decide (0 < (k:Int))=true:=by simp; omega
            have g2:decide ((k:Int)=0)=false:=g0
            obtain ⟨m,hm⟩:∃ m,e.vs[k - 1]? = some m:=⟨_,List.getElem?_eq_getElem (by omega)⟩
            have q4:((k:Int) - 1).toNat=k - 1:=by omega
            have q5:=oZ (row:=bU) hm
            cases hn:decide (n<=m) with
            | true=>
              simp (maxSteps:=1000000) -dsimp only [go_sem,hg,↓q2,↓q3,aX,aE,hc1,hc2,hbs,hk0,hk1,Int.toNat_natCast,Option.some.injEq,forall_eq',hc3,hc4,g0,g1,q4,hm,hn,Bool.and_true]
              and_intros
              all_goals first
                | omega
                | exact fin' 2 _ (by rw [hA2,hm,g1]; simp only [hn]; simp) (by decide)
            | false=>
              simp (maxSteps:=1000000) -dsimp only [go_sem,hg,↓q2,↓q3,aX,aE,hc1,hc2,hbs,hk0,hk1,Int.toNat_natCast,Option.some.injEq,forall_eq',hc3,hc4,g0,g1,q4,hm,hn,Bool.and_true]
              and_intros
              all_goals first
                | omega
                | exact aC (k + 1) 2 ⟨by omega,b9 (by rw [hA2,hm,g1,g2]; simp only [hn]; rfl)⟩ (by omega) (by simp [go_sem]) (by simp [go_sem,aE,aX])
    · have hg:decide ((k:Int) < (e.ns.length:Int))=false:=by simp; omega
      obtain rfl:k=e.ns.length:=by omega
      rw [yW] at ho
      simp (maxSteps:=1000000) -dsimp only [go_sem,hg,aX]
      exact fin 0 _ (by rw [hF,<-ho])
end Go.Proofs.YtkpohmhenegkiaaGreatDoor
namespace Go.Proofs.YtkpohmhenegkiaaGreatDoor
open Go.W
def D4 (N:Nat):List S->Prop:=fun av=>match av with
  | [.va (.gs r),.va (.gs q)]=>iQ r/\eK q/\(C.ty q).h<=N
  | _=>False
theorem iB {N:Nat} {av:List S} (h:D4 N av):∃ s t,av=[.va (.gs (aE s)),.va (.gs (aM t))]/\s.fit/\TyOk t/\t.h<=N:=by
  unfold D4 at h
  split at h
  · obtain ⟨⟨a,rfl,ha⟩,⟨b,rfl,hb⟩,hh⟩:=h
    rw [eH] at hh
    exact ⟨a,b,rfl,ha,hb,hh⟩
  · exact h.elim
noncomputable def NH:List S->A:=fun av=>match av with
  | [.va (.gs r),.va (.gs q)]=>bA (valF (C.sc r).ss (C.sc r).es (C.ty q))
  | _=>.gs []
noncomputable def AY (N:Nat):Fun:=⟨D4 N,NH,fun av h=>by obtain ⟨a,b,rfl,_⟩:=iB h; trivial⟩
theorem I0 {N:Nat}:∀ av H K,(AY N).sp av H K->av.length=2:=fun av H K h=>by obtain ⟨a,b,rfl,_⟩:=iB h.1.1; rfl
attribute [go_sem] AY D4 NH
theorem aNZ {ss:List St} {es:List En} {s:Int} {n:ByteArray} {e:List Ty}:valF ss es (.mk 6 s n e)=(fO ss n && s == 0 && (e.length:Int) == 0):=by
  rw [valF]; rfl
theorem aLK {ss:List St} {es:List En} {s:Int} {n:ByteArray} {e:List Ty}:valF ss es (.mk 7 s n e)=(fN es n && s == 0 && (e.length:Int) == 0):=by
  rw [valF]; rfl
theorem NS:∀ N,Meets Tryz.prog 73 (AY N).sp
  | 0=>⟨by kernel_rfl,by rintro xs vs E ro w K _ _ _ ⟨⟨h,_⟩,_⟩; obtain ⟨_,a,_,_,_,h⟩:=iB h; have:=a.h_pos; omega⟩
  | N + 1=>by
    refine aF Tryz.func73 aKM 2 (by rw [Tryz.ntmps73]; decide) (aG (NS N) (aG YP (aB wK (aB E9 (aA _))))) I0 ?_
    rintro av H K ⟨⟨h,rfl⟩,hK⟩
    obtain ⟨sc,t,rfl,hs,ht,hh⟩:=iB h
    have hK:K (bS (valF sc.ss sc.es t)) []:=by
      have:(AY (N + 1)).val [.va (.gs (aE sc)),.va (.gs (aM t))]=bA (valF sc.ss sc.es t):=by simp -dsimp only [go_sem]
      rw [this] at hK; exact hK
    clear h
    have fin:∀ (b:Bool) (R:Hp),valF sc.ss sc.es t=b->W.Fin 0 K (bS b) R:=fun b R h=>by
      rw [h] at hK
      exact .sel [] (by simp) (by simp) rfl (.done (by simp -dsimp only [go_sem]; simpa using hK))
    have hit:eK (aM t):=dH ht
    cases t with
    | mk k s n e=>
    have hcd:=eH (.mk k s n e)
    rw [aM,aS] at hcd hit
    have hcl:(Ty.mk k s n e).e.length=e.length:=rfl
    by_cases k1:(k == 1)=true
    · have hF:=valF.eq_1 sc.ss sc.es k s n e
      rw [k1] at hF
      simp only [Bool.cond_true] at hF
      simp (maxSteps:=1000000) -dsimp only [go_sem,aE,aM,aS,oF,n2,k1,hit,hcd,hcl]
      exact fin _ _ hF
    rw [Bool.not_eq_true] at k1
    by_cases k2:(k == 2)=true
    · have hF:=valF.eq_1 sc.ss sc.es k s n e
      rw [k1,k2] at hF
      simp only [Bool.cond_true,Bool.cond_false] at hF
      simp (maxSteps:=1000000) -dsimp only [go_sem,aE,aM,aS,oF,n2,k1,k2,hit,hcd,hcl]
      exact fin _ _ hF
    rw [Bool.not_eq_true] at k2
    by_cases k3:(k == 3)=true
    · have hF:=valF.eq_1 sc.ss sc.es k s n e
      rw [k1,k2,k3] at hF
      simp only [Bool.cond_true,Bool.cond_false,Bool.and_false,Bool.or_false] at hF
      simp (maxSteps:=1000000) -dsimp only [go_sem,aE,aM,aS,oF,n2,k1,k2,k3,hit,hcd,hcl]
      exact fin _ _ hF
    rw [Bool.not_eq_true] at k3
    by_cases k4:(k == 4)=true
    · have hF:=valF.eq_1 sc.ss sc.es k s n e
      rw [k1,k2,k3,k4] at hF
      simp only [Bool.cond_true,Bool.cond_false] at hF
      simp (maxSteps:=1000000) -dsimp only [go_sem,aE,aM,aS,oF,n2,k1,k2,k3,k4,hit,hcd,hcl]
      exact fin _ _ hF
    rw [Bool.not_eq_true] at k4
    by_cases k5:(k == 5)=true
    · have hF:=valF.eq_1 sc.ss sc.es k s n e
      rw [k1,k2,k3,k4,k5] at hF
      simp only [Bool.cond_true,Bool.cond_false] at hF
      cases hc:(decide (1<=s) && decide (s<=32) && bl n == [] && (e.length:Int) == 1) with
      | false=>
        have hF':valF sc.ss sc.es (.mk k s n e)=false:=by
          rw [hF]
          cases h0:(decide (1<=s) && decide (s<=32) && bl n == []) with
          | false=>rfl
          | true=>
            rw [h0,Bool.true_and] at hc
            match e,hc with
            | [],_=>rfl
            | [u],hc=>simp at hc
            | u :: v :: r,_=>simp [mA]
        simp (maxSteps:=1000000) -dsimp only [go_sem,aE,aM,aS,oF,n2,k1,k2,k3,k4,k5,hc]
        exact fin _ _ hF'
      | true=>
        obtain ⟨u,rfl⟩:∃ u,e=[u]:=by
          simp only [Bool.and_eq_true,beq_iff_eq] at hc
          exact List.length_eq_one_iff.1 (by omega)
        have h0:(decide (1<=s) && decide (s<=32) && bl n == [])=true:=by
          simp only [Bool.and_eq_true] at hc ⊢; exact hc.1
        have hF':valF sc.ss sc.es (.mk k s n [u])=valF sc.ss sc.es u:=by rw [hF,h0]; simp [mA]
        have hu2:u.h<=N:=by rw [Ty.h,Ty.hs,Ty.hs] at hh; omega
        have hu:eK (aM u):=dH (ht.e u (by simp [Ty.e]))
        have hsf:=eX hs
        rw [aE] at hsf
        have hsd:=dW sc
        rw [aE] at hsd
        have hc':(decide (1<=s) && decide (s<=32) && bl n == [] && ((1:Nat):Int) == 1)=true:=hc
        simp (maxSteps:=1000000) -dsimp only [go_sem,aE,aM,aS,oF,n2,k1,k2,k3,k4,k5,hc']
        refine ⟨⟨by omega,fun r hr=>by subst hr; exact gO u⟩,fun r hr=>?_⟩
        subst hr
        simp (maxSteps:=1000000) -dsimp only [go_sem,hsf,hsd,hu,gO]
        exact ⟨hu2,fin _ _ hF'⟩
    rw [Bool.not_eq_true] at k5
    by_cases k6:(k == 6)=true
    · obtain rfl:k=6:=by simpa using k6
      have hF:=aNZ (ss:=sc.ss) (es:=sc.es) (s:=s) (n:=n) (e:=e)
      simp (maxSteps:=1000000) -dsimp only [go_sem,aE,aM,aS,oF,n2,k1,k2,k3,k4,k5,k6]
      refine gP hs ?_
      cases hc:fO sc.ss n with
      | false=>
        rw [hc] at hF
        simp (maxSteps:=1000000) -dsimp only [go_sem,aL,hit,hcd,hcl]
        exact fin _ _ hF
      | true=>
        rw [hc] at hF
        simp (maxSteps:=1000000) -dsimp only [go_sem,aL,hit,hcd,hcl]
        exact fin _ _ hF
    rw [Bool.not_eq_true] at k6
    by_cases k7:(k == 7)=true
    · obtain rfl:k=7:=by simpa using k7
      have hF:=aLK (ss:=sc.ss) (es:=sc.es) (s:=s) (n:=n) (e:=e)
      simp (maxSteps:=1000000) -dsimp only [go_sem,aE,aM,aS,oF,n2,k1,k2,k3,k4,k5,k6,k7]
      refine iY hs ?_
      cases hc:fN sc.es n with
      | false=>
        rw [hc] at hF
        simp (maxSteps:=1000000) -dsimp only [go_sem,aX,hit,hcd,hcl]
        exact fin _ _ hF
      | true=>
        rw [hc] at hF
        simp (maxSteps:=1000000) -dsimp only [go_sem,aX,hit,hcd,hcl]
        exact fin _ _ hF
    rw [Bool.not_eq_true] at k7
    have hF:=valF.eq_1 sc.ss sc.es k s n e
    rw [k1,k2,k3,k4,k5,k6,k7] at hF
    simp only [Bool.cond_false] at hF
    simp (maxSteps:=1000000) -dsimp only [go_sem,aE,aM,aS,oF,n2,k1,k2,k3,k4,k5,k6,k7]
    exact fin _ _ hF
end Go.Proofs.YtkpohmhenegkiaaGreatDoor
namespace Go.Proofs.YtkpohmhenegkiaaGreatDoor
open Go.W
def EJ:List S->Prop:=fun av=>match av with
  | [.va (.gs r),.va (.gs q)]=>iQ r/\eK q
  | _=>False
theorem jR {av:List S} (h:EJ av):∃ s t,av=[.va (.gs (aE s)),.va (.gs (aM t))]/\s.fit/\TyOk t:=by
  unfold EJ at h
  split at h
  · obtain ⟨⟨a,rfl,ha⟩,⟨b,rfl,hb⟩⟩:=h
    exact ⟨a,b,rfl,ha,hb⟩
  · exact h.elim
noncomputable def r0Fn:Fun:=⟨EJ,NH,fun av h=>by obtain ⟨a,b,rfl,_⟩:=jR h; trivial⟩
attribute [go_sem] r0Fn EJ
theorem JM:Meets Tryz.prog 73 r0Fn.sp:=eN 0 NS fun av H K ⟨⟨h,e⟩,hK⟩=>by
  obtain ⟨a,b,rfl,ha,hb⟩:=jR h
  exact ⟨b.h,⟨⟨⟨eX ha,dH hb,by rw [eH]; exact Nat.le_refl _⟩,e⟩,hK⟩⟩
theorem OY:Meets Tryz.prog 48 (BJ (fun s=>s.ss.length) iX).sp:=by
  refine aF Tryz.func48 aNS 2 (by rw [Tryz.ntmps48]; decide) (aG GS (aB E9 (aG vS (aG JM (aA _))))) F2 ?_
  rintro av H K ⟨⟨h,rfl⟩,hK⟩
  obtain ⟨s,i,rfl,hs,hi⟩:=l8 (len:=fun s=>s.ss.length) h
  have hK:K (iS .i64 (iX s i)) []:=by
    have:(BJ (fun s=>s.ss.length) iX).val [.va (.gs (aE s)),iS .i64 i]=iA .i64 (iX s i):=by simp -dsimp only [go_sem,Int.toNat_natCast]
    rw [this] at hK; exact hK
  clear h
  have hls:=hs.ok.ls
  have fin:∀ (x:Int) (R:Hp),iX s i=x->W.Fin 0 K (iS .i64 x) R:=fun x R h=>by
    rw [h] at hK
    exact .sel [] (by simp) (by simp) rfl (.done (by simpa [go_sem] using hK))
  obtain ⟨t,hx⟩:∃ e,s.ss[i]? = some e:=⟨_,List.getElem?_eq_getElem hi⟩
  have q1:=aO (row:=aL) hx
  obtain ⟨_,hlf,hfs⟩:=hs.ok.ss t (List.mem_of_getElem? hx)
  have hA:iX s i=bif nK s i t.nm != 0 then nK s i t.nm else CF s.ss s.es t:=by unfold iX; rw [hx]
  have hsf:=eX hs
  rw [aE] at hsf
  have hsd:=dW s
  rw [aE] at hsd
  simp (maxSteps:=1000000) -dsimp only [go_sem,aE,aCN,aCT,↓q1,aL]
  refine ⟨by omega,fun h1=>fin 5 _ (by rw [hA]; unfold nK; rw [h1]; rfl),fun h1=>?_⟩
  refine iY hs ?_
  simp (maxSteps:=1000000) -dsimp only [go_sem,aX]
  refine ⟨fun h2=>fin 7 _ (by rw [hA]; unfold nK; rw [h1,h2]; rfl),fun h2=>?_⟩
  have hC:nK s i t.nm=bif fO (s.ss.take i) t.nm then 7 else 0:=by unfold nK; rw [h1,h2]; rfl
  generalize ((bW s.es t.nm).getD default)=dflt
  refine aK (α:=Nat) (fun j=>[(1,iS .i64 i),(2,.va (.c1 (.pt 0 0))),(5,.va (.c1 (.pt 1 0))),(8,iS .i64 j)]) (fun _=>[.cells (aE s) 25,.cells (aL t) 95])
    (fun j=>j<=i/\fO ((s.ss.take i).drop j) t.nm=fO (s.ss.take i) t.nm) (fun j=>i - j) 0 2 ⟨Nat.zero_le _,rfl⟩ ?_ ?_ ?_
  · simp [go_sem]
  · simp [go_sem,aE,aL]
  have hti:(s.ss.take i).length=i:=by rw [List.length_take]; omega
  rintro j ⟨hj,ho⟩
  rcases Nat.lt_or_ge j i with hlt | hge
  · have hg:decide ((j:Int) < (i:Int))=true:=by simp; omega
    obtain ⟨d,hd⟩:∃ d,s.ss[j]? = some d:=⟨_,List.getElem?_eq_getElem (by omega)⟩
    have hd':(s.ss.take i)[j]? = some d:=by rw [List.getElem?_take,if_pos hlt]; exact hd
    have q2:=aO (row:=aL) hd
    rw [fO,gH hd'] at ho
    simp (maxSteps:=1000000) -dsimp only [go_sem,hg,↓q2,aL,aE,cL]
    refine ⟨by omega,fun hc=>?_,fun hc=>?_⟩
    · rw [hc,Bool.true_or] at ho
      exact fin 7 _ (by rw [hA,hC,<-ho]; rfl)
    · rw [hc,Bool.false_or] at ho
      refine ⟨by omega,aC (j + 1) 2 ⟨by omega,ho⟩ (by omega) ?_ ?_⟩
      · simp [go_sem]
      · simp [go_sem,aE,aL]
  · obtain rfl:j=i:=by omega
    have hg:decide ((j:Int) < (j:Int))=false:=by simp
    rw [List.drop_eq_nil_of_le (by omega)] at ho
    have hF:iX s j=CF s.ss s.es t:=by rw [hA,hC,<-ho]; rfl
    clear ho hti hA hC q1 hj hge
    simp (maxSteps:=1000000) -dsimp only [go_sem,hg,aL,aE]
    clear hg
    refine aK (α:=Nat) (fun k=>[(2,.va (.c1 (.pt 0 0))),(5,.va (.c1 (.pt 1 0))),(9,iS .i64 k)]) (fun _=>[.cells (aE s) 25,.cells (aL t) 95])
      (fun k=>k<=t.fs.length/\fE (oE s.ss s.es t) (t.fs.length - k) k=CF s.ss s.es t) (fun k=>t.fs.length - k) 0 2 ⟨Nat.zero_le _,rfl⟩ ?_ ?_ ?_
    · simp [go_sem]
    · simp [go_sem,aE,aL]
    rintro k ⟨hk,ho⟩
    rcases Nat.lt_or_ge k t.fs.length with hlt | hge
    · have hg:decide ((k:Int) < (t.fs.length:Int))=true:=by simp; omega
      obtain ⟨f,hx2⟩:∃ nm,t.fs[k]? = some nm:=⟨_,List.getElem?_eq_getElem hlt⟩
      have q2:=aO (row:=aR) hx2
      have hf:f.ok:=hfs f (List.mem_of_getElem? hx2)
      have hit:eK (aM f.ty):=dH hf.ty
      have hA:oE s.ss s.es t k=bif decide (f.num < 1) || decide (127 < f.num) then (4:Int) else bif decide (0 < (k:Int)) && (match t.fs[k - 1]? with | some g=>decide (f.num<=g.num) | none=>false) then 2 else
        bif !(cF (bl f.nm)) then 5 else bif (t.fs.take k).any (fun g=>decide (g.nm=f.nm)) then 7 else bif !(valF s.ss s.es f.ty) then 13 else 0:=by
        unfold oE; rw [hx2]; rfl
      have fin':∀ (x:Int) (R:Hp),oE s.ss s.es t k=x->x ≠ 0->W.Fin 0 K (iS .i64 x) R:=fun x R h1 h2=>fin x R (by
        rw [hF,<-ho,rR hlt (by rw [h1]; exact h2),h1])
      have b9:oE s.ss s.es t k=0->fE (oE s.ss s.es t) (t.fs.length - (k + 1)) (k + 1)=CF s.ss s.es t:=fun h1=>by rw [<-ho,xA hlt h1]
      cases c0:decide (f.num < 1) with
      | true=>
        rw [c0] at hA
        simp (maxSteps:=1000000) -dsimp only [go_sem,hg,↓q2,aR,aL,aE,c0]
        exact ⟨by omega,fin' 4 _ hA (by decide)⟩
      | false=>
      cases c1:decide (127 < f.num) with
      | true=>
        rw [c0,c1] at hA
        simp (maxSteps:=1000000) -dsimp only [go_sem,hg,↓q2,aR,aL,aE,c0,c1]
        exact ⟨by omega,fin' 4 _ hA (by decide)⟩
      | false=>
      rw [c0,c1] at hA
      simp only [Bool.or_self,Bool.cond_false] at hA
      rcases Nat.eq_zero_or_pos k with h0 | h0
      · have g1:decide (0 < (k:Int))=false:=by simp; omega
        rw [g1] at hA
        simp only [Bool.false_and,Bool.cond_false] at hA
        cases c3:cF (bl f.nm) with
        | false=>
          rw [c3] at hA
          simp (maxSteps:=1000000) -dsimp only [go_sem,hg,↓q2,aR,aL,aE,c0,c1,c3,g1]
          exact ⟨by omega,fin' 5 _ hA (by decide)⟩
        | true=>
          rw [c3] at hA
          simp only [Bool.not_true,Bool.cond_false] at hA
          simp (maxSteps:=1000000) -dsimp only [go_sem,hg,↓q2,aR,aL,aE,c0,c1,c3,g1]
          refine ⟨by omega,?_⟩
          refine aK (α:=Nat) (fun j=>[(2,.va (.c1 (.pt 0 0))),(5,.va (.c1 (.pt 1 0))),(9,iS .i64 k),(10,.va (.c1 (.pt 2 0))),(11,iS .i64 j)])
            (fun _=>[.cells (aE s) 25,.cells (aL t) 95,.cells (aR f) 97])
            (fun j=>j<=k/\((t.fs.take k).drop j).any (fun g=>decide (g.nm=f.nm))=(t.fs.take k).any (fun g=>decide (g.nm=f.nm))) (fun j=>k - j) 0 3 ⟨Nat.zero_le _,rfl⟩ ?_ ?_ ?_
          · simp [go_sem]
          · simp [go_sem,aE,aL,aR]
          have htk:(t.fs.take k).length=k:=by rw [List.length_take]; omega
          rintro j ⟨hj,ho2⟩
          rcases Nat.lt_or_ge j k with hjt | hjg
          · have hgj:decide ((j:Int) < (k:Int))=true:=by simp; omega
            obtain ⟨d,hd⟩:∃ e,t.fs[j]? = some e:=⟨_,List.getElem?_eq_getElem (by omega)⟩
            have hd':(t.fs.take k)[j]? = some d:=by rw [List.getElem?_take,if_pos hjt]; exact hd
            have q5:=aO (row:=aR) hd
            rw [gH hd'] at ho2
            simp (maxSteps:=1000000) -dsimp only [go_sem,hgj,↓q5,aR,aL,aE,cL]
            refine ⟨by omega,fun hc=>?_,fun hc=>?_⟩
            · rw [hc,Bool.true_or] at ho2
              rw [<-ho2] at hA
              exact fin' 7 _ hA (by decide)
            · rw [hc,Bool.false_or] at ho2
              refine ⟨by omega,aC (j + 1) 3 ⟨by omega,ho2⟩ (by omega) ?_ ?_⟩
              · simp [go_sem]
              · simp [go_sem,aE,aL,aR]
          · obtain rfl:j=k:=by omega
            have hgj:decide ((j:Int) < (j:Int))=false:=by simp
            rw [List.drop_eq_nil_of_le (by omega)] at ho2
            rw [<-ho2] at hA
            simp only [List.any_nil,Bool.cond_false] at hA
            simp (maxSteps:=1000000) -dsimp only [go_sem,hgj,aR,aL,aE,tI,hit,hsf,hsd]
            cases c5:valF s.ss s.es f.ty with
            | true=>
              rw [c5] at hA
              simp (maxSteps:=1000000) -dsimp only [go_sem]
              refine ⟨by omega,aC (j + 1) 2 ⟨by omega,b9 hA⟩ (by omega) ?_ ?_⟩
              · simp [go_sem]
              · simp [go_sem,aE,aL]
            | false=>
              rw [c5] at hA
              simp (maxSteps:=1000000) -dsimp only [go_sem]
              exact fin' 13 _ hA (by decide)
      · have g1:decide (0 < (k:Int))=true:=by simp; omega
        obtain ⟨g,hy⟩:∃ m,t.fs[k - 1]? = some m:=⟨_,List.getElem?_eq_getElem (by omega)⟩
        have q4:((k:Int) - 1).toNat=k - 1:=by omega
        have q6:=oZ (row:=aR) hy
        rw [g1,hy,Bool.true_and] at hA
        simp only at hA
        cases c2:decide (f.num<=g.num) with
        | true=>
          rw [c2] at hA
          simp (maxSteps:=1000000) -dsimp only [go_sem,hg,↓q2,aR,aL,aE,c0,c1,g1,q4,c2,hy,Option.some.injEq,forall_eq']
          exact ⟨by omega,by omega,by omega,fin' 2 _ hA (by decide)⟩
        | false=>
          rw [c2] at hA
          simp only [Bool.cond_false] at hA
          cases c3:cF (bl f.nm) with
          | false=>
            rw [c3] at hA
            simp (maxSteps:=1000000) -dsimp only [go_sem,hg,↓q2,aR,aL,aE,c0,c1,c3,g1,q4,c2,hy,Option.some.injEq,forall_eq']
            exact ⟨by omega,by omega,by omega,fin' 5 _ hA (by decide)⟩
          | true=>
            rw [c3] at hA
            simp only [Bool.not_true,Bool.cond_false] at hA
            simp (maxSteps:=1000000) -dsimp only [go_sem,hg,↓q2,aR,aL,aE,c0,c1,c3,g1,q4,c2,hy,Option.some.injEq,forall_eq']
            refine ⟨by omega,by omega,by omega,?_⟩
            refine aK (α:=Nat) (fun j=>[(2,.va (.c1 (.pt 0 0))),(5,.va (.c1 (.pt 1 0))),(9,iS .i64 k),(10,.va (.c1 (.pt 2 0))),(11,iS .i64 j)])
              (fun _=>[.cells (aE s) 25,.cells (aL t) 95,.cells (aR f) 97])
              (fun j=>j<=k/\((t.fs.take k).drop j).any (fun g=>decide (g.nm=f.nm))=(t.fs.take k).any (fun g=>decide (g.nm=f.nm))) (fun j=>k - j) 0 3 ⟨Nat.zero_le _,rfl⟩ ?_ ?_ ?_
            · simp [go_sem]
            · simp [go_sem,aE,aL,aR]
            have htk:(t.fs.take k).length=k:=by rw [List.length_take]; omega
            rintro j ⟨hj,ho2⟩
            rcases Nat.lt_or_ge j k with hjt | hjg
            · have hgj:decide ((j:Int) < (k:Int))=true:=by simp; omega
              obtain ⟨d,hd⟩:∃ e,t.fs[j]? = some e:=⟨_,List.getElem?_eq_getElem (by omega)⟩
              have hd':(t.fs.take k)[j]? = some d:=by rw [List.getElem?_take,if_pos hjt]; exact hd
              have q5:=aO (row:=aR) hd
              rw [gH hd'] at ho2
              simp (maxSteps:=1000000) -dsimp only [go_sem,hgj,↓q5,aR,aL,aE,cL]
              refine ⟨by omega,fun hc=>?_,fun hc=>?_⟩
              · rw [hc,Bool.true_or] at ho2
                rw [<-ho2] at hA
                exact fin' 7 _ hA (by decide)
              · rw [hc,Bool.false_or] at ho2
                refine ⟨by omega,aC (j + 1) 3 ⟨by omega,ho2⟩ (by omega) ?_ ?_⟩
                · simp [go_sem]
                · simp [go_sem,aE,aL,aR]
            · obtain rfl:j=k:=by omega
              have hgj:decide ((j:Int) < (j:Int))=false:=by simp
              rw [List.drop_eq_nil_of_le (by omega)] at ho2
              rw [<-ho2] at hA
              simp only [List.any_nil,Bool.cond_false] at hA
              simp (maxSteps:=1000000) -dsimp only [go_sem,hgj,aR,aL,aE,tI,hit,hsf,hsd]
              cases c5:valF s.ss s.es f.ty with
              | true=>
                rw [c5] at hA
                simp (maxSteps:=1000000) -dsimp only [go_sem]
                refine ⟨by omega,aC (j + 1) 2 ⟨by omega,b9 hA⟩ (by omega) ?_ ?_⟩
                · simp [go_sem]
                · simp [go_sem,aE,aL]
              | false=>
                rw [c5] at hA
                simp (maxSteps:=1000000) -dsimp only [go_sem]
                exact fin' 13 _ hA (by decide)
    · have hg:decide ((k:Int) < (t.fs.length:Int))=false:=by simp; omega
      obtain rfl:k=t.fs.length:=by omega
      rw [yW] at ho
      simp (maxSteps:=1000000) -dsimp only [go_sem,hg,aL]
      exact fin 0 _ (by rw [hF,<-ho])
end Go.Proofs.YtkpohmhenegkiaaGreatDoor
namespace Go.Proofs.YtkpohmhenegkiaaGreatDoor
open Go.W
mutual
def dirF:Ty->List ByteArray
  | .mk k _ n e=>bif k == 6 || k == 7 then [n] else eJ e
def eJ:List Ty->List ByteArray
  | []=>[]
  | t :: r=>dirF t ++ eJ r
end
theorem rC:∀ (a b:List Ty),eJ (a ++ b)=eJ a ++ eJ b
  | [],b=>rfl
  | t :: r,b=>by rw [List.cons_append,eJ,eJ,rC r b,List.append_assoc]
theorem B7:∀ {l:List Ty} {t:Ty},t ∈ l->(dirF t).length<=(eJ l).length
  | x :: l,t,h=>by
    rw [eJ,List.length_append]
    rcases List.mem_cons.1 h with rfl | h
    · omega
    · have:=B7 h; omega
def aE3 (N:Nat):W.Spec:=fun av H K=>∃ t:Ty,av=[.va (.gs (aM t))]/\H=[]/\TyOk t/\t.h<=N/\(dirF t).length<=1000000000/\K (.va (.c1 (.fz ((dirF t).map bB)))) []
theorem aEE {N:Nat} {t:Ty} {K:S->Hp->Prop} (h1:TyOk t) (h2:t.h<=N) (h3:(dirF t).length<=1000000000) (hK:K (.va (.c1 (.fz ((dirF t).map bB)))) []):aE3 N [.va (.gs (aM t))] [] K:=⟨t,rfl,rfl,h1,h2,h3,hK⟩
theorem aBZ (l:List ByteArray):∀ r ∈ l.map bB,∀ c ∈ r,c.shut=true/\c.one:=fun r hr c hc=>by
  obtain ⟨x,_,rfl⟩:=List.mem_map.1 hr
  simp at hc; subst hc; simp [go_sem,C.shut]
theorem J2:∀ N,Meets Tryz.prog 87 (aE3 N)
  | 0=>⟨by kernel_rfl,by rintro xs vs E ro w K _ _ _ ⟨t,_,_,_,h,_⟩; have:=t.h_pos; omega⟩
  | N + 1=>by
    refine aF Tryz.func87 aND 1 (by rw [Tryz.ntmps87]; decide) (aB (J2 N) (aA _)) (fun av H K h=>by obtain ⟨_,rfl,_⟩:=h; rfl) ?_
    rintro av H K ⟨⟨k,s,n,e⟩,rfl,rfl,h1,h2,h3,hK⟩
    have hle:=h1.len
    have hoe:=h1.e
    simp only [Ty.e] at hle hoe
    have hD:=dirF.eq_1 k s n e
    simp (maxSteps:=1000000) -dsimp only [go_sem,aM,aS,aFI,aDR]
    refine ⟨fun c1=>?_,fun c1=>?_⟩
    · rw [c1,Bool.cond_true] at hD
      rw [hD] at hK
      refine .pub 1 _ _ _ rfl (.sel [] (by simp) (by simp [cG]) rfl (.done ?_))
      simp -dsimp only [go_sem,cG]
      simpa using hK
    · rw [c1,Bool.cond_false] at hD
      rw [hD] at hK h3
      refine dT (α:=Nat) (fun i=>[(1,.va (.c1 (.pt 0 0))),(3,.va (.c1 (.sl 1 (eJ (e.take i)).length))),(4,iS .i64 i)]) (fun i=>[.cells (aM (.mk k s n e)) 28,.row ((eJ (e.take i)).map bB) 9 1])
        (fun i=>i<=e.length) (fun i=>e.length - i) (.nil 3 9 1 rfl (lX 0 2 (Nat.zero_le _) ?_ ?_)) ?_
      · simp -dsimp only [go_sem]<;>simp [eJ]
      · simp -dsimp only [go_sem,aM,aS]<;>simp [eJ]
      intro i hi
      rcases Nat.lt_or_ge i e.length with hlt | hge
      · have hg:decide ((i:Int) < (e.length:Int))=true:=by simp; omega
        obtain ⟨u,hx⟩:∃ t,e[i]? = some t:=⟨_,List.getElem?_eq_getElem hlt⟩
        have q1:=aO (row:=aM) hx
        have hu:=List.mem_of_getElem? hx
        have htn:eJ (e.take (i + 1))=eJ (e.take i) ++ dirF u:=by rw [fJ hx,rC]; simp [eJ]
        have hb:(eJ (e.take (i + 1))).length<=1000000000:=by
          have:=rC (e.take (i + 1)) (e.drop (i + 1))
          rw [List.take_append_drop] at this
          rw [this,List.length_append] at h3; omega
        rw [htn,List.length_append] at hb
        simp (maxSteps:=1000000) -dsimp only [go_sem,hg,↓q1,gO,aM,aS]
        refine ⟨by omega,aEE (hoe u hu) ?_ ?_ ?_⟩
        · have:=Ty.hs_mem hu; rw [Ty.h] at h2; omega
        · have:=B7 hu; omega
        simp (maxSteps:=1000000) -dsimp only [go_sem,TQ Y6]
        refine ⟨aBZ _,by omega,by omega,aC (i + 1) 2 (by omega) (by omega) ?_ ?_⟩
        · simp -dsimp only [go_sem,htn]<;>simp
        · simp -dsimp only [go_sem,aM,aS,htn]<;>simp
      · have hg:decide ((i:Int) < (e.length:Int))=false:=by simp; omega
        obtain rfl:i=e.length:=by omega
        rw [List.take_length]
        simp (maxSteps:=1000000) -dsimp only [go_sem,hg,aM,aS]
        rw [<-List.length_map (f:=bB)]
        refine .pub 1 _ _ _ rfl (.sel [] (by simp) (by simp [cG]) rfl (.done ?_))
        simp -dsimp only [go_sem,cG]
        simpa using hK
def TT:W.Spec:=fun av H K=>∃ t:Ty,av=[.va (.gs (aM t))]/\H=[]/\TyOk t/\(dirF t).length<=1000000000/\K (.va (.c1 (.fz ((dirF t).map bB)))) []
theorem Y0 {t:Ty} {K:S->Hp->Prop} (h1:TyOk t) (h3:(dirF t).length<=1000000000) (hK:K (.va (.c1 (.fz ((dirF t).map bB)))) []):TT [.va (.gs (aM t))] [] K:=⟨t,rfl,rfl,h1,h3,hK⟩
theorem RP:Meets Tryz.prog 87 TT:=eN 0 J2 fun _av _H _K ⟨t,e1,e2,h1,h3,hK⟩=>⟨t.h,t,e1,e2,h1,Nat.le_refl _,h3,hK⟩
def eG (x:ByteArray):Bool->List ByteArray->List ByteArray
  | d,[]=>bif d then [] else [x]
  | d,y :: r=>bif !d && (Op.bytesLess (bl x) (bl y) || bl x == bl y) then (bif Op.bytesLess (bl x) (bl y) then x :: y :: eG x true r else y :: eG x true r) else y :: eG x d r
theorem HA (x:ByteArray):∀ (d:Bool) (l:List ByteArray),(eG x d l).length<=l.length + 1
  | d,[]=>by cases d<;>simp [eG]
  | d,y :: r=>by
    have h1:=jG x r
    have h2:=HA x d r
    rw [eG]
    cases d<;>cases Op.bytesLess (bl x) (bl y)<;>cases bl x == bl y<;>simp [h1] at h2 ⊢<;>omega
where jG (x:ByteArray):∀ l,eG x true l=l
  | []=>rfl
  | y :: r=>by rw [eG,jG x r]; rfl
def aFD:W.Spec:=fun av H K=>∃ (l:List ByteArray) (x:ByteArray),av=[.va (.c1 (.fz (l.map bB))),tS x]/\H=[]/\l.length<=1000000/\K (.va (.c1 (.fz ((eG x false l).map bB)))) []
theorem aCJ {l:List ByteArray} {x:ByteArray} {K:S->Hp->Prop} (h:l.length<=1000000) (hK:K (.va (.c1 (.fz ((eG x false l).map bB)))) []):aFD [.va (.c1 (.fz (l.map bB))),tS x] [] K:=⟨l,x,rfl,rfl,h,hK⟩
theorem aKU:Meets Tryz.prog 88 aFD:=by
  refine aF Tryz.func88 aLR 2 (by rw [Tryz.ntmps88]; decide) (aA _) (fun av H K h=>by obtain ⟨_,_,rfl,_⟩:=h; rfl) ?_
  rintro av H K ⟨l,x,rfl,rfl,hl,hK⟩
  have hlen:=HA x false l
  simp (maxSteps:=1000000) -dsimp only [go_sem,aD2,aD6]
  refine dT (α:=Nat × Bool × List ByteArray) (fun z=>[(0,.va (.c1 (.fz (l.map bB)))),(1,tS x),(5,.va (.c1 (.sl 0 z.2.2.length))),(6,bS z.2.1),(7,iS .i64 z.1)]) (fun z=>[.row (z.2.2.map bB) 9 1])
    (fun z=>z.1<=l.length/\z.2.2 ++ eG x z.2.1 (l.drop z.1)=eG x false l) (fun z=>l.length - z.1) (.nil 5 9 1 rfl (lX (0,false,[]) 1 ⟨Nat.zero_le _,rfl⟩ ?_ ?_)) ?_
  · simp -dsimp only [go_sem]<;>simp
  · simp -dsimp only [go_sem]<;>simp
  rintro ⟨i,d,o⟩ ⟨hi,ho⟩
  simp only at hi ho ⊢
  have hol:o.length<=l.length + 1:=by
    have:=congrArg List.length ho
    rw [List.length_append] at this; omega
  rcases Nat.lt_or_ge i l.length with hlt | hge
  · have hg:decide ((i:Int) < (l.length:Int))=true:=by simp; omega
    obtain ⟨y,hx⟩:∃ t,l[i]? = some t:=⟨_,List.getElem?_eq_getElem hlt⟩
    have q1:=aO (row:=bB) hx
    have hdr:l.drop i=y :: l.drop (i + 1):=by
      obtain ⟨h,rfl⟩:=List.getElem?_eq_some_iff.1 hx
      exact List.drop_eq_getElem_cons h
    rw [hdr,eG] at ho
    have hst:∀ (u:ByteArray),[[C.vl (.string u)]]=[u].map bB:=fun _=>rfl
    cases d with
    | true=>
      simp only [Bool.not_true,Bool.false_and,Bool.cond_false] at ho
      simp (maxSteps:=1000000) -dsimp only [go_sem,hg,↓q1]
      and_intros
      all_goals first
        | omega
        | skip
      refine aC (i + 1,true,o ++ [y]) 1 ⟨by simp only; omega,by simp only [List.append_assoc,List.singleton_append]; exact ho⟩ (by simp only; omega) ?_ ?_
      · simp -dsimp only [go_sem]<;>simp
      · simp -dsimp only [go_sem]<;>simp
    | false=>
      simp only [Bool.not_false,Bool.true_and] at ho
      cases c2:Op.bytesLess (bl x) (bl y) with
      | true=>
        rw [c2] at ho
        simp only [Bool.true_or,Bool.cond_true] at ho
        simp (maxSteps:=1000000) -dsimp only [go_sem,hg,↓q1,c2,Bool.true_or]
        and_intros
        all_goals first
          | omega
          | skip
        refine aC (i + 1,true,o ++ [x,y]) 1 ⟨by simp only; omega,by simp only [List.append_assoc,List.cons_append,List.nil_append]; exact ho⟩ (by simp only; omega) ?_ ?_
        · simp -dsimp only [go_sem]<;>simp
        · simp -dsimp only [go_sem]<;>simp
      | false=>
        rw [c2] at ho
        simp only [Bool.false_or,Bool.cond_false] at ho
        cases c3:bl x == bl y with
        | true=>
          rw [c3] at ho
          simp only [Bool.cond_true] at ho
          simp (maxSteps:=1000000) -dsimp only [go_sem,hg,↓q1,c2,c3,Bool.false_or]
          and_intros
          all_goals first
            | omega
            | skip
          refine aC (i + 1,true,o ++ [y]) 1 ⟨by simp only; omega,by simp only [List.append_assoc,List.singleton_append]; exact ho⟩ (by simp only; omega) ?_ ?_
          · simp -dsimp only [go_sem]<;>simp
          · simp -dsimp only [go_sem]<;>simp
        | false=>
          rw [c3] at ho
          simp only [Bool.cond_false] at ho
          simp (maxSteps:=1000000) -dsimp only [go_sem,hg,↓q1,c2,c3,Bool.false_or]
          and_intros
          all_goals first
            | omega
            | skip
          refine aC (i + 1,false,o ++ [y]) 1 ⟨by simp only; omega,by simp only [List.append_assoc,List.singleton_append]; exact ho⟩ (by simp only; omega) ?_ ?_
          · simp -dsimp only [go_sem]<;>simp
          · simp -dsimp only [go_sem]<;>simp
  · have hg:decide ((i:Int) < (l.length:Int))=false:=by simp; omega
    obtain rfl:i=l.length:=by omega
    rw [List.drop_length] at ho
    simp only [eG] at ho
    cases d with
    | true=>
      simp only [Bool.cond_true,List.append_nil] at ho
      rw [<-ho] at hK
      simp (maxSteps:=1000000) -dsimp only [go_sem,hg]
      rw [<-List.length_map (f:=bB)]
      refine .pub 0 _ _ _ rfl (.sel [] (by simp) (by simp [cG]) rfl (.done ?_))
      simp -dsimp only [go_sem,cG]
      simpa using hK
    | false=>
      simp only [Bool.cond_false] at ho
      rw [<-ho] at hK
      simp (maxSteps:=1000000) -dsimp only [go_sem,hg]
      refine ⟨by omega,?_⟩
      have e1:o.length + 1=((o ++ [x]).map bB).length:=by simp
      have e2:o.map bB ++ [[C.vl (.string x)]]=(o ++ [x]).map bB:=by simp
      rw [e1,e2]
      refine .pub 0 _ _ _ rfl (.sel [] (by simp) (by simp [cG]) rfl (.done ?_))
      simp -dsimp only [go_sem,cG]
      simpa using hK
end Go.Proofs.YtkpohmhenegkiaaGreatDoor
namespace Go.Proofs.YtkpohmhenegkiaaGreatDoor
open Go.W
abbrev CA (a b:ByteArray):Prop:=bl a < bl b
theorem aCM (x:List UInt8):∀ y:List UInt8,Op.bytesLess x y=decide (x < y):=by
  induction x with
  | nil=>intro y; cases y<;>simp [Op.bytesLess]
  | cons a x ih=>
    intro y
    cases y with
    | nil=>simp [Op.bytesLess]
    | cons b y=>
      have:=ih y
      rw [Op.bytesLess,this,Bool.eq_iff_iff]
      simp [List.cons_lt_cons_iff]
theorem VT (a b:ByteArray):Op.bytesLess (bl a) (bl b)=decide (CA a b):=aCM _ _
theorem lZ (a:ByteArray):¬ CA a a:=List.lt_irrefl _
theorem CY {a b c:ByteArray} (h:CA a b) (h2:CA b c):CA a c:=List.lt_trans h h2
theorem OD {a b:ByteArray} (h:¬ CA a b) (h2:a ≠ b):CA b a:=by
  have h3:bl b<=bl a:=List.not_lt.1 h
  exact Std.lt_of_le_of_ne h3 (fun e=>h2 (w9 e.symm))
def Asc (l:List ByteArray):Prop:=l.Pairwise CA
theorem KC:∀ {a b:List ByteArray},Asc a->Asc b->(∀ x,x ∈ a ↔ x ∈ b)->a=b
  | [],[],_,_,_=>rfl
  | [],y :: b,_,_,h=>by have:=(h y).2 List.mem_cons_self; cases this
  | x :: a,[],_,_,h=>by have:=(h x).1 List.mem_cons_self; cases this
  | x :: a,y :: b,h1,h2,h=>by
    obtain ⟨p1,p2⟩:=List.pairwise_cons.1 h1
    obtain ⟨p3,p4⟩:=List.pairwise_cons.1 h2
    have e:x=y:=by
      rcases List.mem_cons.1 ((h x).1 List.mem_cons_self) with e | e
      · exact e
      · rcases List.mem_cons.1 ((h y).2 List.mem_cons_self) with e2 | e2
        · exact e2.symm
        · exact absurd (CY (p1 y e2) (p3 x e)) (lZ x)
    subst e
    rw [KC p2 p4 fun z=>?_]
    constructor
    · intro hz
      rcases List.mem_cons.1 ((h z).1 (List.mem_cons_of_mem _ hz)) with e | e
      · exact absurd (p1 z hz) (by rw [e]; exact lZ x)
      · exact e
    · intro hz
      rcases List.mem_cons.1 ((h z).2 (List.mem_cons_of_mem _ hz)) with e | e
      · exact absurd (p3 z hz) (by rw [e]; exact lZ x)
      · exact e
theorem Asc.nodup {l:List ByteArray} (h:Asc l):l.Nodup:=by
  unfold List.Nodup
  refine List.Pairwise.imp ?_ h
  intro a b h e
  subst e
  exact lZ a h
theorem jG (x:ByteArray):∀ l,eG x true l=l
  | []=>rfl
  | y :: r=>by rw [eG,jG x r]; rfl
theorem iV {x z:ByteArray}:∀ {l:List ByteArray},z ∈ eG x false l ↔ z=x\/z ∈ l
  | []=>by simp [eG]
  | y :: r=>by
    rw [eG,jG]
    cases c1:Op.bytesLess (bl x) (bl y) with
    | true=>simp
    | false=>
      cases c2:bl x == bl y with
      | true=>
        have:x=y:=w9 (by simpa using c2)
        subst this
        simp
      | false=>
        have:=iV (x:=x) (z:=z) (l:=r)
        simp [this]
        constructor
        · rintro (h | h | h)
          · exact .inr (.inl h)
          · exact .inl h
          · exact .inr (.inr h)
        · rintro (h | h | h)
          · exact .inr (.inl h)
          · exact .inl h
          · exact .inr (.inr h)
theorem GB {x:ByteArray}:∀ {l:List ByteArray},Asc l->Asc (eG x false l)
  | [],_=>by simp [eG,Asc]
  | y :: r,h=>by
    obtain ⟨p1,p2⟩:=List.pairwise_cons.1 h
    rw [eG,jG]
    cases c1:Op.bytesLess (bl x) (bl y) with
    | true=>
      rw [VT] at c1
      have c1:=of_decide_eq_true c1
      simp only [Bool.not_false,Bool.true_or,Bool.and_true,Bool.cond_true]
      refine List.pairwise_cons.2 ⟨fun z hz=>?_,h⟩
      rcases List.mem_cons.1 hz with rfl | hz
      · exact c1
      · exact CY c1 (p1 z hz)
    | false=>
      cases c2:bl x == bl y with
      | true=>exact h
      | false=>
        rw [VT] at c1
        have c1:=of_decide_eq_false c1
        have c2:x ≠ y:=fun e=>by subst e; simp at c2
        simp only [Bool.not_false,Bool.true_and,Bool.or_self,Bool.cond_false]
        refine List.pairwise_cons.2 ⟨fun z hz=>?_,GB p2⟩
        rcases iV.1 hz with rfl | hz
        · exact OD c1 c2
        · exact p1 z hz
theorem RE {l:List ByteArray} (h:l.Nodup):Asc (vK l):=by
  have h1:((l.map bl).mergeSort fun x y=>decide (x<=y)).Pairwise fun a b=>decide (a<=b)=true:=
    List.pairwise_mergeSort (le:=fun (x y:List UInt8)=>decide (x<=y)) (fun (a b c:List UInt8) h1 h2=>decide_eq_true (List.le_trans (of_decide_eq_true h1) (of_decide_eq_true h2))) (fun (a b:List UInt8)=>by
      rcases List.le_total a b with h | h<;>simp [h]) _
  have h2:((l.map bl).mergeSort fun x y=>decide (x<=y)).Nodup:=by
    rw [(List.mergeSort_perm _ _).nodup_iff]
    exact List.Pairwise.map bl (fun a b (hab:a ≠ b) e=>hab (w9 e)) h
  unfold vK Asc
  rw [List.pairwise_map]
  refine List.Pairwise.imp₂ (fun a b h1 h2=>?_) h1 h2
  exact Std.lt_of_le_of_ne (of_decide_eq_true h1) h2
theorem OS (ss:List St) (n:ByteArray):Asc (fL ss n):=RE (sA ss n)
theorem QF {e:List Ty} (h:((e.length:Int) == 0)=true):e=[]:=by simpa using h
theorem JO (ss:List St) (es:List En):∀ (N:Nat) (t:Ty),t.h<=N->valF ss es t=true->dirF t=bif bF t then [bG t] else []
  | 0,t,h,_=>absurd h (by have:=t.h_pos; omega)
  | N + 1,.mk k s n e,h,hv=>by
    cases k5:k == 5 with
    | true=>
      obtain rfl:k=5:=by simpa using k5
      obtain ⟨u,rfl,hu⟩:=vH hv
      have:=JO ss es N u (by rw [Ty.h,Ty.hs,Ty.hs] at h; omega) hu
      unfold bF bG
      rw [C7]
      rw [dirF,eJ,eJ,List.append_nil,this]
      rfl
    | false=>
      have h1:eT (.mk k s n e)=.mk k s n e:=yB (by rw [k5]; rfl)
      unfold bF bG
      rw [h1,dirF]
      simp only [Ty.k,Ty.n]
      cases k67:(k == 6 || k == 7) with
      | true=>rfl
      | false=>
        have he:e=[]:=by
          rw [Bool.or_eq_false_iff] at k67
          rw [valF,k5,k67.1,k67.2] at hv
          cases k1:k == 1<;>cases k2:k == 2<;>cases k3:k == 3<;>cases k4:k == 4<;>rw [k1,k2,k3,k4] at hv<;>simp only [Bool.cond_true,Bool.cond_false,Bool.and_eq_true,reduceCtorEq] at hv<;>first | exact QF hv.2 | exact absurd hv (by decide)
        subst he; rfl
theorem FT {ss:List St} {es:List En} {t:Ty} (hv:valF ss es t=true):dirF t=bif bF t then [bG t] else []:=JO ss es t.h t (Nat.le_refl _) hv
end Go.Proofs.YtkpohmhenegkiaaGreatDoor
namespace Go.Proofs.YtkpohmhenegkiaaGreatDoor
open Go.W
structure UI (ss:List St) (n:ByteArray) (i:Nat) (todo o:List ByteArray):Prop where
  hd:∃ r,todo=n :: r/\r.Nodup/\∀ x,x ∈ o ↔ x ∈ r
  rc:∀ x ∈ o,Reach ss n x
  dn:∀ j a,j < i->todo[j]? = some a->∀ y,cY ss a y->y ∈ o
  asc:Asc o
theorem UI.init (ss:List St) (n:ByteArray):UI ss n 0 [n] []:=⟨⟨[],rfl,.nil,fun _x=>Iff.rfl⟩,fun _x h=>(List.not_mem_nil h).elim,fun _j _a h=>absurd h (Nat.not_lt_zero _),List.Pairwise.nil⟩
theorem O9 {ss:List St} {es:List En} (g:Gd ss es) {n:ByteArray} {l:List ByteArray} (h:l.Nodup) (hr:∀ x ∈ l,Reach ss n x):l.length<=32:=Nat.le_trans (sC h fun x hx=>(hZ ss n x).2 (hr x hx)) (g.vlen n)
theorem UI.len {ss:List St} {es:List En} (g:Gd ss es) {n:ByteArray} {i:Nat} {todo o:List ByteArray} (h:UI ss n i todo o):todo.length<=33/\o.length<=32:=by
  obtain ⟨r,rfl,h1,h2⟩:=h.hd
  have:=O9 g h1 fun x hx=>h.rc x ((h2 x).2 hx)
  have:=O9 g h.asc.nodup h.rc
  simp only [List.length_cons]; omega
theorem UI.rch {ss:List St} {n:ByteArray} {i k:Nat} {todo o:List ByteArray} (h:UI ss n i todo o) {a y:ByteArray} (ha:todo[k]? = some a) (hy:cY ss a y):Reach ss n y:=by
  obtain ⟨r,rfl,h1,h2⟩:=h.hd
  cases k with
  | zero=>simp at ha; subst ha; exact .one hy
  | succ k=>
    simp at ha
    exact .more (h.rc a ((h2 a).2 (List.mem_of_getElem? ha))) hy
theorem UI.add {ss:List St} {n:ByteArray} {i:Nat} {todo o:List ByteArray} (h:UI ss n i todo o) {y:ByteArray} (hr:Reach ss n y) (hy:y ∉ o) (hi:i<=todo.length):UI ss n i (todo ++ [y]) (eG y false o):=by
  obtain ⟨r,rfl,h1,h2⟩:=h.hd
  refine ⟨⟨r ++ [y],by simp,?_,fun x=>?_⟩,fun x hx=>?_,fun j a hj ha z hz=>?_,GB h.asc⟩
  · rw [List.nodup_append]
    exact ⟨h1,by simp,fun a ha b hb=>by simp at hb; subst hb; exact fun e=>hy ((h2 b).2 (e ▸ ha))⟩
  · rw [iV,h2]; simp [or_comm]
  · rcases iV.1 hx with rfl | hx
    · exact hr
    · exact h.rc x hx
  · rw [List.getElem?_append_left (by omega)] at ha
    exact iV.2 (.inr (h.dn j a hj ha z hz))
theorem UI.next {ss:List St} {n:ByteArray} {i:Nat} {todo o:List ByteArray} (h:UI ss n i todo o) {a:ByteArray} (ha:todo[i]? = some a) (hy:∀ y,cY ss a y->y ∈ o):UI ss n (i + 1) todo o:=by
  refine ⟨h.hd,h.rc,fun j b hj hb y hyb=>?_,h.asc⟩
  rcases Nat.lt_or_ge j i with h4 | h4
  · exact h.dn j b h4 hb y hyb
  · obtain rfl:j=i:=by omega
    rw [ha] at hb; obtain rfl:=Option.some.inj hb
    exact hy y hyb
theorem UI.fin {ss:List St} {n:ByteArray} {todo o:List ByteArray} (h:UI ss n todo.length todo o):o=fL ss n:=by
  refine KC h.asc (OS ss n) fun x=>?_
  rw [C9]
  refine ⟨h.rc x,fun hx=>?_⟩
  obtain ⟨r,e,h1,h2⟩:=h.hd
  have hn:∀ y,cY ss n y->y ∈ o:=h.dn 0 n (by rw [e]; simp) (by rw [e]; rfl)
  induction hx with
  | one h=>exact hn _ h
  | more _ h3 ih=>
    obtain ⟨j,hj⟩:=List.mem_iff_getElem?.1 ((h2 _).1 ih)
    rename_i b c _
    have hj2:todo[j + 1]? = some b:=by rw [e]; simpa using hj
    exact h.dn (j + 1) _ (List.getElem?_eq_some_iff.1 hj2).1 hj2 _ h3
def aDO:W.Spec:=fun av H K=>∃ (s:Sc) (n:ByteArray),av=[.va (.gs (aE s)),tS n]/\H=[]/\s.fit/\Gd s.ss s.es/\K (.va (.c1 (.fz ((fL s.ss n).map bB)))) []
theorem aBQ {s:Sc} {n:ByteArray} {K:S->Hp->Prop} (h:s.fit) (g:Gd s.ss s.es) (hK:K (.va (.c1 (.fz ((fL s.ss n).map bB)))) []):aDO [.va (.gs (aE s)),tS n] [] K:=⟨s,n,rfl,rfl,h,g,hK⟩
theorem YO {ss:List St} {es:List En} {t:Ty} (hv:valF ss es t=true):(dirF t).length<=1:=by
  rw [FT hv]; cases bF t<;>simp
theorem KA {ss:List St} {es:List En} {t:Ty} (hv:valF ss es t=true) {y:ByteArray}:y ∈ dirF t ↔ bF t=true/\bG t=y:=by
  rw [FT hv]; cases bF t<;>simp [eq_comm]
theorem aF1:Meets Tryz.prog 49 aDO:=by
  refine aF Tryz.func49 aNR 2 (by rw [Tryz.ntmps49]; decide) (aB wK (aB RP (aG SY (aB aKU (aA _))))) (fun av H K h=>by obtain ⟨_,_,rfl,_⟩:=h; rfl) ?_
  rintro av H K ⟨s,n,rfl,rfl,hs,g,hK⟩
  simp (maxSteps:=1000000) -dsimp only [go_sem,aE,aAJ,aBG]
  refine dT (α:=Nat × List ByteArray × List ByteArray) (fun z=>[(2,.va (.c1 (.pt 0 0))),(5,.va (.c1 (.fz (z.2.2.map bB)))),(6,.va (.c1 (.sl 1 z.2.1.length))),(7,iS .i64 z.1)]) (fun z=>[.cells (aE s) 25,.row (z.2.1.map bB) 9 1])
    (fun z=>z.1<=z.2.1.length/\UI s.ss n z.1 z.2.1 z.2.2) (fun z=>34 - z.1) (.nf 5 (lX (0,[n],[]) 2 ⟨Nat.zero_le _,UI.init _ _⟩ ?_ ?_)) ?_
  · simp -dsimp only [go_sem]<;>simp
  · simp -dsimp only [go_sem,aE]<;>simp
  rintro ⟨i,todo,o⟩ ⟨hi,hu⟩
  simp only at hi hu ⊢
  obtain ⟨htl,hol⟩:=hu.len g
  rcases Nat.lt_or_ge i todo.length with hlt | hge
  · have hg:decide ((i:Int) < (todo.length:Int))=true:=by simp; omega
    obtain ⟨a,ha⟩:∃ a,todo[i]? = some a:=⟨_,List.getElem?_eq_getElem hlt⟩
    have q1:=aO (row:=bB) ha
    simp (maxSteps:=1000000) -dsimp only [go_sem,hg,aE,ha,Option.some.injEq,forall_eq']
    refine ⟨by omega,hlt,gP hs ?_⟩
    generalize hx:(fS s.ss a).getD default=x
    have hxf:∀ f ∈ x.fs,f.ok/\valF s.ss s.es f.ty=true:=fun f hf=>by
      cases hc:fS s.ss a with
      | none=>rw [hc] at hx; subst hx; cases hf
      | some t=>
        rw [hc] at hx
        subst hx
        exact ⟨(hs.ok.ss _ (hJ hc).1).fs f hf,g.val _ (hJ hc).1 f hf⟩
    have hxl:x.fs.length<=9223372036854775807:=by
      cases hc:fS s.ss a with
      | none=>rw [hc] at hx; subst hx; exact Nat.zero_le _
      | some t=>rw [hc] at hx; subst hx; exact (hs.ok.ss _ (hJ hc).1).len
    have hxr:∀ y,cY s.ss a y ↔ AX x y:=fun y=>by unfold cY; rw [hx]
    simp (maxSteps:=1000000) -dsimp only [go_sem,aL]
    refine aK (α:=Nat × List ByteArray × List ByteArray) (fun z=>[(2,.va (.c1 (.pt 0 0))),(5,.va (.c1 (.fz (z.2.2.map bB)))),(6,.va (.c1 (.sl 1 z.2.1.length))),(7,iS .i64 i),(8,.va (.c1 (.pt 2 0))),(10,iS .i64 z.1)]) (fun z=>[.cells (aE s) 25,.row (z.2.1.map bB) 9 1,.cells (aL x) 95])
      (fun z=>z.1<=x.fs.length/\z.2.1[i]? = some a/\UI s.ss n i z.2.1 z.2.2/\∀ f ∈ x.fs.take z.1,bF f.ty=true->bG f.ty ∈ z.2.2) (fun z=>x.fs.length - z.1) (0,todo,o) 3 ⟨Nat.zero_le _,ha,hu,fun f hf=>by cases hf⟩ ?_ ?_ ?_
    · simp -dsimp only [go_sem]<;>simp
    · simp -dsimp only [go_sem,aE,aL]<;>simp
    clear hu ha hlt hi htl hol hg q1
    rintro ⟨k,td,o⟩ ⟨hk,ha,hu,hr⟩
    simp only at hk ha hu hr ⊢
    obtain ⟨htl,hol⟩:=hu.len g
    have hil:=(List.getElem?_eq_some_iff.1 ha).1
    rcases Nat.lt_or_ge k x.fs.length with hlt | hge
    · have hg:decide ((k:Int) < (x.fs.length:Int))=true:=by simp; omega
      obtain ⟨f,hf⟩:∃ a,x.fs[k]? = some a:=⟨_,List.getElem?_eq_getElem hlt⟩
      have q1:=aO (row:=aR) hf
      obtain ⟨hfo,hfv⟩:=hxf f (List.mem_of_getElem? hf)
      simp (maxSteps:=1000000) -dsimp only [go_sem,hg,↓q1,aE,aL,aR,tI]
      have hdl:=YO hfv
      refine ⟨by omega,Y0 hfo.ty (by omega) ?_⟩
      simp (maxSteps:=1000000) -dsimp only [go_sem]
      have hdm:∀ y ∈ dirF f.ty,Reach s.ss n y:=fun y hy=>by
        obtain ⟨h1,h2⟩:=(KA hfv).1 hy
        exact hu.rch ha ((hxr y).2 ⟨f,List.mem_of_getElem? hf,h1,h2⟩)
      have hdf:(∀ o':List ByteArray,(∀ y ∈ dirF f.ty,y ∈ o')->(∀ f ∈ x.fs.take k,bF f.ty=true->bG f.ty ∈ o')->∀ f ∈ x.fs.take (k + 1),bF f.ty=true->bG f.ty ∈ o'):=fun o' h1 h2 f' hf' hn=>by
        rw [fJ hf] at hf'
        rcases List.mem_append.1 hf' with h | h
        · exact h2 f' h hn
        · obtain rfl:f'=f:=by simpa using h
          exact h1 _ ((KA hfv).2 ⟨hn,rfl⟩)
      generalize dirF f.ty=l at *
      refine aK (α:=Nat × List ByteArray × List ByteArray) (fun z=>[(2,.va (.c1 (.pt 0 0))),(5,.va (.c1 (.fz (z.2.2.map bB)))),(6,.va (.c1 (.sl 1 z.2.1.length))),(7,iS .i64 i),(8,.va (.c1 (.pt 2 0))),(10,iS .i64 k),(11,.va (.c1 (.fz (l.map bB)))),(12,iS .i64 z.1)]) (fun z=>[.cells (aE s) 25,.row (z.2.1.map bB) 9 1,.cells (aL x) 95])
        (fun z=>z.1<=l.length/\z.2.1[i]? = some a/\UI s.ss n i z.2.1 z.2.2/\(∀ f ∈ x.fs.take k,bF f.ty=true->bG f.ty ∈ z.2.2)/\∀ y ∈ l.take z.1,y ∈ z.2.2) (fun z=>l.length - z.1) (0,td,o) 3 ⟨Nat.zero_le _,ha,hu,hr,fun f hf=>by cases hf⟩ ?_ ?_ ?_
      · simp -dsimp only [go_sem]<;>simp
      · simp -dsimp only [go_sem,aE,aL]<;>simp
      clear hu ha hil htl hol hg q1 hr
      rintro ⟨j,td,o⟩ ⟨hj,ha,hu,hr,hjm⟩
      simp only at hj ha hu hr hjm ⊢
      obtain ⟨htl,hol⟩:=hu.len g
      have hil:=(List.getElem?_eq_some_iff.1 ha).1
      rcases Nat.lt_or_ge j l.length with hjt | hjg
      · have hg:decide ((j:Int) < (l.length:Int))=true:=by simp; omega
        obtain ⟨y,hy⟩:∃ a,l[j]? = some a:=⟨_,List.getElem?_eq_getElem hjt⟩
        have q1:=aO (row:=bB) hy
        have hbs:BZ (o.map bB):=s4 (by omega)
        have e0:(0<=(o.length:Int))=True:=by simp
        have e1:((o.length:Int)<=9223372036854775807)=True:=by simp; omega
        have hto:o.take o.length=o:=List.take_length
        have hjm':∀ o':List ByteArray,(∀ z ∈ o,z ∈ o')->y ∈ o'->∀ z ∈ l.take (j + 1),z ∈ o':=fun o' h1 h2 z hz=>by
          rw [fJ hy] at hz
          rcases List.mem_append.1 hz with h | h
          · exact h1 z (hjm z h)
          · obtain rfl:z=y:=by simpa using h
            exact h2
        cases hc:cR o y with
        | true=>
          simp (maxSteps:=1000000) -dsimp only [go_sem,hg,↓q1,aE,aL,hbs,e0,e1,Int.toNat_natCast,hto,hc]
          refine ⟨by omega,by omega,aC (j + 1,td,o) 3 ⟨by simp only; omega,ha,hu,hr,hjm' o (fun z h=>h) ((oJ _ _).1 hc)⟩ (by simp only; omega) ?_ ?_⟩
          · simp -dsimp only [go_sem]<;>simp
          · simp -dsimp only [go_sem,aE,aL]<;>simp
        | false=>
          have hyo:=tX.1 hc
          have hua:=hu.add (hdm y (List.mem_of_getElem? hy)) hyo (by omega)
          have hmo:∀ z ∈ o,z ∈ eG y false o:=fun z hz=>iV.2 (.inr hz)
          have ha':(td ++ [y])[i]? = some a:=by rw [List.getElem?_append_left hil]; exact ha
          simp (maxSteps:=1000000) -dsimp only [go_sem,hg,↓q1,aE,aL,hbs,e0,e1,Int.toNat_natCast,hto,hc]
          refine ⟨by omega,by omega,aCJ (by omega) ?_⟩
          simp (maxSteps:=1000000) -dsimp only [go_sem]
          and_intros
          all_goals first
            | omega
            | skip
          refine aC (j + 1,td ++ [y],eG y false o) 3 ⟨by simp only; omega,ha',hua,fun f hf hn=>hmo _ (hr f hf hn),hjm' _ hmo (iV.2 (.inl rfl))⟩ (by simp only; omega) ?_ ?_
          · simp -dsimp only [go_sem]<;>simp
          · simp -dsimp only [go_sem,aE,aL]<;>simp
      · have hg:decide ((j:Int) < (l.length:Int))=false:=by simp; omega
        obtain rfl:j=l.length:=by omega
        rw [List.take_length] at hjm
        simp (maxSteps:=1000000) -dsimp only [go_sem,hg,aE,aL]
        refine ⟨by omega,aC (k + 1,td,o) 3 ⟨by simp only; omega,ha,hu,hdf o hjm hr⟩ (by simp only; omega) ?_ ?_⟩
        · simp -dsimp only [go_sem]<;>simp
        · simp -dsimp only [go_sem,aE,aL]<;>simp
    · have hg:decide ((k:Int) < (x.fs.length:Int))=false:=by simp; omega
      obtain rfl:k=x.fs.length:=by omega
      rw [List.take_length] at hr
      simp (maxSteps:=1000000) -dsimp only [go_sem,hg,aE,aL]
      refine ⟨by omega,aC (i + 1,td,o) 2 ⟨by simp only; omega,hu.next ha fun y hy=>?_⟩ (by simp only; omega) ?_ ?_⟩
      · obtain ⟨f,h1,h2,rfl⟩:=(hxr y).1 hy
        exact hr f h1 h2
      · simp -dsimp only [go_sem]<;>simp
      · simp -dsimp only [go_sem,aE]<;>simp
  · have hg:decide ((i:Int) < (todo.length:Int))=false:=by simp; omega
    obtain rfl:i=todo.length:=by omega
    obtain rfl:=hu.fin
    simp (maxSteps:=1000000) -dsimp only [go_sem,hg,aE]
    exact .sel [] (by simp) (by simp) rfl (.done (by simpa [go_sem] using hK))
end Go.Proofs.YtkpohmhenegkiaaGreatDoor
namespace Go.Proofs.YtkpohmhenegkiaaGreatDoor
open Go.W
def dL:List St->List Int->ByteArray->Int
  | s :: ss,d :: ds,n=>bif decide (s.nm=n) then d else dL ss ds n
  | _,_,_=>0
theorem QQ {ss:List St} {ds:List Int} {i:Nat} {x:St} {d:Int} (hx:ss[i]? = some x) (hd:ds[i]? = some d) (n:ByteArray):dL (ss.drop i) (ds.drop i) n=bif decide (x.nm=n) then d else dL (ss.drop (i + 1)) (ds.drop (i + 1)) n:=by
  obtain ⟨h,rfl⟩:=List.getElem?_eq_some_iff.1 hx
  obtain ⟨h2,rfl⟩:=List.getElem?_eq_some_iff.1 hd
  rw [List.drop_eq_getElem_cons h,List.drop_eq_getElem_cons h2]; rfl
theorem X8 {ss:List St} {ds:List Int} (n:ByteArray):dL (ss.drop ss.length) ds n=0:=by rw [List.drop_length]; simp [dL]
theorem wO {n:ByteArray}:∀ {ss:List St} {ds:List Int},fS ss n=none->dL ss ds n=0
  | [],_,_=>by simp [dL]
  | s :: ss,[],_=>by simp [dL]
  | s :: ss,d :: ds,h=>by
    unfold fS at h
    rw [List.find?_cons] at h
    rw [dL]
    cases hc:decide (s.nm=n) with
    | true=>rw [hc] at h; simp at h
    | false=>rw [hc] at h; exact wO (ss:=ss) h
theorem wL {n:ByteArray} {u:St}:∀ {ss:List St} {ds:List Int},ss.length=ds.length->fS ss n=some u->∃ j:Nat,ss[j]? = some u/\ds[j]? = some (dL ss ds n)
  | [],_,_,h=>by cases h
  | s :: ss,[],hl,_=>by simp at hl
  | s :: ss,d :: ds,hl,h=>by
    unfold fS at h
    rw [List.find?_cons] at h
    rw [dL]
    cases hc:decide (s.nm=n) with
    | true=>
      rw [hc] at h
      obtain rfl:s=u:=by simpa using h
      exact ⟨0,rfl,rfl⟩
    | false=>
      rw [hc] at h
      obtain ⟨j,h1,h2⟩:=wL (ss:=ss) (ds:=ds) (by simpa using hl) h
      exact ⟨j + 1,by simpa using h1,by simpa using h2⟩
def MP (rs:List (List C)):Prop:=∃ l:List Int,rs=l.map bU
def D9 (N:Nat):List S->Prop:=fun av=>match av with
  | [.va (.gs r),.va (.c1 (.fz ds)),.va (.gs q)]=>iQ r/\(MP ds/\ds.length=(C.sc r).ss.length/\∀ d ∈ ds.map C.it,0<=d/\d<=1000000000000)/\eK q/\(cJ (C.ty q)).1<=1000000000/\(C.ty q).h<=N
  | _=>False
theorem l0 {N:Nat} {av:List S} (h:D9 N av):∃ (s:Sc) (l:List Int) (t:Ty),av=[.va (.gs (aE s)),.va (.c1 (.fz (l.map bU))),.va (.gs (aM t))]/\s.fit/\(l.length=s.ss.length/\∀ d ∈ l,0<=d/\d<=1000000000000)/\TyOk t/\(cJ t).1<=1000000000/\t.h<=N:=by
  unfold D9 at h
  split at h
  · obtain ⟨⟨a,rfl,ha⟩,⟨⟨l,rfl⟩,h1,h2⟩,⟨b,rfl,hb⟩,h3,h4⟩:=h
    rw [eH] at h3 h4
    rw [dW] at h1
    rw [xB] at h2
    exact ⟨a,l,b,rfl,ha,⟨by simpa using h1,h2⟩,hb,h3,h4⟩
  · exact h.elim
noncomputable def LV:List S->A:=fun av=>match av with
  | [.va (.gs r),.va (.c1 (.fz ds)),.va (.gs q)]=>iA .i64 (bY (dL (C.sc r).ss (ds.map C.it)) (C.ty q))
  | _=>.gs []
noncomputable def NE (N:Nat):Fun:=⟨D9 N,LV,fun av h=>by obtain ⟨a,l,b,rfl,_⟩:=l0 h; trivial⟩
theorem R6 {N:Nat}:∀ av H K,(NE N).sp av H K->av.length=3:=fun av H K h=>by obtain ⟨a,l,b,rfl,_⟩:=l0 h.1.1; rfl
attribute [go_sem] NE D9 LV
theorem wJ {s:Int} {n:ByteArray} {u:Ty} {r:List Ty}:cJ (.mk 5 s n (u :: r))=((cJ u).1 + 1,(cJ u).2):=by simp [cJ,lvL]
theorem E4 {k s:Int} {n:ByteArray} {e:List Ty} (h:(k == 5 && decide (0 < (e.length:Int)))=false):cJ (.mk k s n e)=(0,.mk k s n e):=by
  rw [cJ]
  cases hk:k == 5 with
  | false=>rfl
  | true=>
    rw [hk,Bool.true_and] at h
    have:e=[]:=List.length_eq_zero_iff.1 (by simp at h; simp [h])
    subst this; rfl
theorem NV {dp:ByteArray->Int} {s:Int} {n:ByteArray} {u:Ty} {r:List Ty}:bY dp (.mk 5 s n (u :: r))=1 + bY dp u:=by unfold bY; rw [wJ]; simp only; omega
theorem uS:∀ N,Meets Tryz.prog 89 (NE N).sp
  | 0=>⟨by kernel_rfl,by rintro xs vs E ro w K _ _ _ ⟨⟨h,_⟩,_⟩; obtain ⟨_,_,a,_,_,_,_,_,h⟩:=l0 h; have:=a.h_pos; omega⟩
  | N + 1=>by
    refine aF Tryz.func89 aLO 3 (by rw [Tryz.ntmps89]; decide) (aG (uS N) (aA _)) R6 ?_
    rintro av H K ⟨⟨h,rfl⟩,hK⟩
    obtain ⟨sc,l,t,rfl,hs,⟨hl,hb⟩,ht,hlv,hh⟩:=l0 h
    have hK:K (iS .i64 (bY (dL sc.ss l) t)) []:=by
      have:(NE (N + 1)).val [.va (.gs (aE sc)),.va (.c1 (.fz (l.map bU))),.va (.gs (aM t))]=iA .i64 (bY (dL sc.ss l) t):=by simp -dsimp only [go_sem,xB]
      rw [this] at hK; exact hK
    clear h
    have hls:=hs.ok.ls
    have fin:∀ (b:Int) (R:Hp),bY (dL sc.ss l) t=b->W.Fin 0 K (iS .i64 b) R:=fun b R h=>by
      rw [h] at hK
      exact .sel [] (by simp) (by simp) rfl (.done (by simp -dsimp only [go_sem]; simpa using hK))
    have hsf:=eX hs
    rw [aE] at hsf
    have hsd:=dW sc
    rw [aE] at hsd
    obtain ⟨k,s,n,e⟩:=t
    have hte:=ht.e
    have hte2:=ht.len
    simp only [Ty.e] at hte hte2
    have hin:MP (l.map bU):=⟨l,rfl⟩
    have hr1:((l.map bU).length=sc.ss.length)=True:=by simp [hl]
    have hr2:(∀ d:Int,d ∈ l->0<=d/\d<=1000000000000)=True:=eq_true hb
    simp (maxSteps:=1000000) -dsimp only [go_sem,aE,aM,aS,aEQ,aCF]
    cases c1:(k == 5 && decide (0 < (e.length:Int))) with
    | true=>
      simp only [Bool.and_eq_true,beq_iff_eq,decide_eq_true_eq] at c1
      obtain ⟨rfl,c1⟩:=c1
      obtain ⟨u,r,rfl⟩:∃ u r,e=u :: r:=by
        cases e with
        | nil=>simp at c1
        | cons u r=>exact ⟨u,r,rfl⟩
      rw [wJ] at hlv
      have hux:(u :: r)[0]? = some u:=rfl
      have q1:=oZ (row:=aM) hux
      have hu:eK (aM u):=dH (hte u List.mem_cons_self)
      have huh:u.h<=N:=by rw [Ty.h,Ty.hs] at hh; omega
      refine ⟨fun _=>?_,fun h=>by simp at h⟩
      have hul:((cJ u).1<=1000000000)=True:=eq_true (by simp only at hlv; omega)
      have huh':(u.h<=N)=True:=eq_true huh
      have hfb:bY (dL sc.ss l) u<=1001000000000/\0<=bY (dL sc.ss l) u:=by
        have hd:dL sc.ss l (cJ u).2.n<=1000000000000/\0<=dL sc.ss l (cJ u).2.n:=by
          cases hf:fS sc.ss (cJ u).2.n with
          | none=>rw [wO hf]; omega
          | some v=>
            obtain ⟨j,_,h2⟩:=wL hl.symm hf
            have:=hb _ (List.mem_of_getElem? h2); omega
        simp only at hlv
        unfold bY
        cases (cJ u).2.k == 6<;>simp only [Bool.cond_true,Bool.cond_false]<;>omega
      simp (maxSteps:=1000000) -dsimp only [go_sem,gO]
      refine ⟨by omega,fun x hx=>?_⟩
      subst hx
      simp only [hsd]
      exact ⟨⟨hsf,⟨hin,hl,hb⟩,hu,by simp only at hlv; omega,huh⟩,by omega,fin _ _ NV⟩
    | false=>
      have hst:=E4 (s:=s) (n:=n) c1
      have hfd:bY (dL sc.ss l) (.mk k s n e)=bif k == 6 then dL sc.ss l n else 0:=by unfold bY; rw [hst]; simp [Ty.k,Ty.n]
      refine ⟨fun h=>by simp at h,fun _=>?_⟩
      cases k6:k == 6 with
      | false=>
        rw [k6,Bool.cond_false] at hfd
        refine aK (α:=Nat) (fun i=>[(1,.va (.c1 (.fz (l.map bU)))),(3,.va (.c1 (.pt 0 0))),(5,.va (.c1 (.pt 1 0))),(7,iS .i64 i)]) (fun _=>[.cells (aE sc) 25,.cells (aM (.mk k s n e)) 28])
          (fun i=>i<=sc.ss.length) (fun i=>sc.ss.length - i) 0 2 (Nat.zero_le _) ?_ ?_ ?_
        · simp -dsimp only [go_sem]<;>simp
        · simp -dsimp only [go_sem,aE,aM,aS]<;>simp
        intro i hi
        rcases Nat.lt_or_ge i sc.ss.length with hlt | hge
        · have hg:decide ((i:Int) < (sc.ss.length:Int))=true:=by simp; omega
          simp (maxSteps:=1000000) -dsimp only [go_sem,hg,aE,aM,aS,k6]
          and_intros
          all_goals first
            | omega
            | skip
          refine aC (i + 1) 2 (by omega) (by omega) ?_ ?_
          · simp -dsimp only [go_sem]<;>simp
          · simp -dsimp only [go_sem,aE,aM,aS]<;>simp
        · have hg:decide ((i:Int) < (sc.ss.length:Int))=false:=by simp; omega
          simp (maxSteps:=1000000) -dsimp only [go_sem,hg,aE,aM,aS]
          exact fin 0 _ hfd
      | true=>
        rw [k6,Bool.cond_true] at hfd
        refine aK (α:=Nat) (fun i=>[(1,.va (.c1 (.fz (l.map bU)))),(3,.va (.c1 (.pt 0 0))),(5,.va (.c1 (.pt 1 0))),(7,iS .i64 i)]) (fun _=>[.cells (aE sc) 25,.cells (aM (.mk k s n e)) 28])
          (fun i=>i<=sc.ss.length/\dL (sc.ss.drop i) (l.drop i) n=dL sc.ss l n) (fun i=>sc.ss.length - i) 0 2 ⟨Nat.zero_le _,rfl⟩ ?_ ?_ ?_
        · simp -dsimp only [go_sem]<;>simp
        · simp -dsimp only [go_sem,aE,aM,aS]<;>simp
        rintro i ⟨hi,ho⟩
        rcases Nat.lt_or_ge i sc.ss.length with hlt | hge
        · have hg:decide ((i:Int) < (sc.ss.length:Int))=true:=by simp; omega
          obtain ⟨t,hx⟩:∃ e,sc.ss[i]? = some e:=⟨_,List.getElem?_eq_getElem hlt⟩
          obtain ⟨d,hd⟩:∃ e,l[i]? = some e:=⟨_,List.getElem?_eq_getElem (by omega)⟩
          have q2:=aO (row:=aL) hx
          have q3:=aO (row:=bU) hd
          rw [QQ hx hd] at ho
          cases hc:decide (t.nm=n) with
          | true=>
            rw [hc,Bool.cond_true] at ho
            simp (maxSteps:=1000000) -dsimp only [go_sem,hg,↓q2,↓q3,aL,aE,aM,aS,cL,hc,k6]
            and_intros
            all_goals first
              | omega
              | exact fin _ _ (by rw [hfd,<-ho])
          | false=>
            rw [hc,Bool.cond_false] at ho
            simp (maxSteps:=1000000) -dsimp only [go_sem,hg,↓q2,aL,aE,aM,aS,cL,hc,k6]
            and_intros
            all_goals first
              | omega
              | skip
            refine aC (i + 1) 2 ⟨by omega,ho⟩ (by omega) ?_ ?_
            · simp -dsimp only [go_sem]<;>simp
            · simp -dsimp only [go_sem,aE,aM,aS]<;>simp
        · have hg:decide ((i:Int) < (sc.ss.length:Int))=false:=by simp; omega
          obtain rfl:i=sc.ss.length:=by omega
          rw [X8] at ho
          simp (maxSteps:=1000000) -dsimp only [go_sem,hg,aE,aM,aS]
          exact fin 0 _ (by rw [hfd,<-ho])
def DZ:List S->Prop:=fun av=>match av with
  | [.va (.gs r),.va (.c1 (.fz ds)),.va (.gs q)]=>iQ r/\(MP ds/\ds.length=(C.sc r).ss.length/\∀ d ∈ ds.map C.it,0<=d/\d<=1000000000000)/\eK q/\(cJ (C.ty q)).1<=1000000000
  | _=>False
theorem yD {av:List S} (h:DZ av):∃ (s:Sc) (l:List Int) (t:Ty),av=[.va (.gs (aE s)),.va (.c1 (.fz (l.map bU))),.va (.gs (aM t))]/\s.fit/\(l.length=s.ss.length/\∀ d ∈ l,0<=d/\d<=1000000000000)/\TyOk t/\(cJ t).1<=1000000000:=by
  unfold DZ at h
  split at h
  · obtain ⟨⟨a,rfl,ha⟩,⟨⟨l,rfl⟩,h1,h2⟩,⟨b,rfl,hb⟩,h3⟩:=h
    rw [eH] at h3
    rw [dW] at h1
    rw [xB] at h2
    exact ⟨a,l,b,rfl,ha,⟨by simpa using h1,h2⟩,hb,h3⟩
  · exact h.elim
noncomputable def t0Fn:Fun:=⟨DZ,LV,fun av h=>by obtain ⟨a,l,b,rfl,_⟩:=yD h; trivial⟩
attribute [go_sem] t0Fn DZ
theorem NG:Meets Tryz.prog 89 t0Fn.sp:=eN 0 uS fun av H K ⟨⟨h,e⟩,hK⟩=>by
  obtain ⟨a,l,b,rfl,ha,⟨h1,h2⟩,hb,h3⟩:=yD h
  refine ⟨b.h,⟨⟨⟨eX ha,⟨⟨l,rfl⟩,by rw [dW]; simpa using h1,by rw [xB]; exact h2⟩,dH hb,by rw [eH]; exact h3,by rw [eH]; exact Nat.le_refl _⟩,e⟩,hK⟩⟩
end Go.Proofs.YtkpohmhenegkiaaGreatDoor
namespace Go.Proofs.YtkpohmhenegkiaaGreatDoor
open Go.W
theorem DH {dp dq:ByteArray->Int} {l:List Fl} (h:∀ f ∈ l,bY dp f.ty<=bY dq f.ty):fB dp l<=fB dq l:=K0 (kF _ _) fun f hf=>Int.le_trans (h f hf) (ZO hf)
structure DI (ss:List St) (r i:Nat) (d:List Int):Prop where
  len:d.length=ss.length
  lo:∀ (j:Nat) (t:St) (v:Int),ss[j]? = some t->d[j]? = some v->0<=v/\v<=dD ss t.nm/\(pJ ss t.nm < r->v=dD ss t.nm)/\(j < i->pJ ss t.nm < r + 1->v=dD ss t.nm)
theorem DI.ix {ss:List St} {es:List En} (_g:Gd ss es) {r i:Nat} {d:List Int} (h:DI ss r i d) (n:ByteArray):0<=dL ss d n/\dL ss d n<=dD ss n/\((fS ss n).isSome=true->pJ ss n < r->dL ss d n=dD ss n):=by
  cases hf:fS ss n with
  | none=>
    rw [wO hf]
    exact ⟨Int.le_refl _,MU ss n,fun h=>by simp at h⟩
  | some u=>
    obtain ⟨j,h1,h2⟩:=wL h.len.symm hf
    obtain ⟨a1,a2,a3,_⟩:=h.lo j u _ h1 h2
    obtain ⟨_,rfl⟩:=hJ hf
    exact ⟨a1,a2,fun _ h=>a3 h⟩
theorem DI.all {ss:List St} {es:List En} (g:Gd ss es) {r i:Nat} {d:List Int} (h:DI ss r i d):∀ v ∈ d,0<=v/\v<=1000000000000:=fun v hv=>by
  obtain ⟨j,hj⟩:=List.mem_iff_getElem?.1 hv
  have hl:=(List.getElem?_eq_some_iff.1 hj).1
  obtain ⟨t,ht⟩:∃ t,ss[j]? = some t:=⟨_,List.getElem?_eq_getElem (by have:=h.len; omega)⟩
  obtain ⟨h1,h2,_⟩:=h.lo j t v ht hj
  have:=NB g t.nm
  omega
theorem DI.fd {ss:List St} {es:List En} (g:Gd ss es) {r i:Nat} {d:List Int} (h:DI ss r i d) (t:Ty):bY (dL ss d) t<=bY (dD ss) t:=by
  unfold bY
  have:=h.ix g (cJ t).2.n
  cases (cJ t).2.k == 6<;>simp only [Bool.cond_true,Bool.cond_false]<;>omega
theorem DI.set {ss:List St} {es:List En} (g:Gd ss es) (ha:yS ss) {r i:Nat} {d:List Int} (h:DI ss r i d) {t:St} (ht:ss[i]? = some t):DI ss r (i + 1) (d.set i (1 + fB (dL ss d) t.fs)):=by
  have htm:=List.mem_of_getElem? ht
  have hD:=L3 g ha (g.nd t htm)
  have hle:fB (dL ss d) t.fs<=fB (dD ss) t.fs:=DH fun f _=>h.fd g f.ty
  have heq:pJ ss t.nm < r + 1->fB (dL ss d) t.fs=fB (dD ss) t.fs:=fun hr=>qH fun f hf=>by
    unfold bY
    cases hk:(cJ f.ty).2.k == 6 with
    | false=>rfl
    | true=>
      obtain ⟨h1,u,h2⟩:=A7 g (g.nd t htm) hf hk
      have h3:=BB h1 h2 ha
      rw [(h.ix g _).2.2 (by rw [h2]; rfl) (by omega)]
  have hn:=kF (dL ss d) t.fs
  refine ⟨by rw [List.length_set]; exact h.len,fun j u v hu hv=>?_⟩
  rw [List.getElem?_set] at hv
  by_cases e:i=j
  · subst e
    rw [ht] at hu; obtain rfl:=Option.some.inj hu
    have hlt:i < d.length:=by have:=h.len; have:=(List.getElem?_eq_some_iff.1 ht).1; omega
    simp [hlt] at hv
    subst hv
    exact ⟨by omega,by omega,fun hr=>by rw [heq (by omega)]; omega,fun _ hr=>by rw [heq hr]; omega⟩
  · rw [if_neg e] at hv
    obtain ⟨a1,a2,a3,a4⟩:=h.lo j u v hu hv
    exact ⟨a1,a2,a3,fun hj hr=>a4 (by omega) hr⟩
theorem DI.up {ss:List St} {r:Nat} {d:List Int} (h:DI ss r ss.length d):DI ss (r + 1) 0 d:=⟨h.len,fun j t v ht hv=>by
  obtain ⟨a1,a2,_,a4⟩:=h.lo j t v ht hv
  exact ⟨a1,a2,fun hr=>a4 (List.getElem?_eq_some_iff.1 ht).1 hr,fun h=>absurd h (Nat.not_lt_zero _)⟩⟩
theorem DI.fin {ss:List St} {d:List Int} (h:DI ss (ss.length + 1) 0 d):d=ss.map fun t=>dD ss t.nm:=by
  refine List.ext_getElem? fun j=>?_
  rw [List.getElem?_map]
  cases ht:ss[j]? with
  | none=>
    rw [List.getElem?_eq_none_iff] at ht
    rw [List.getElem?_eq_none (by rw [h.len]; exact ht)]; rfl
  | some t=>
    obtain ⟨v,hv⟩:∃ v,d[j]? = some v:=⟨_,List.getElem?_eq_getElem (by rw [h.len]; exact (List.getElem?_eq_some_iff.1 ht).1)⟩
    obtain ⟨_,_,a3,_⟩:=h.lo j t v ht hv
    rw [hv,a3 (Nat.lt_succ_of_le (J0 _ _))]; rfl
theorem DI.init (ss:List St):DI ss 0 0 (List.replicate ss.length 0):=⟨by simp,fun j t v ht hv=>by
  have:v=0:=by
    have:=List.mem_of_getElem? hv
    exact (List.mem_replicate.1 this).2
  subst this
  exact ⟨Int.le_refl _,MU _ _,fun h=>absurd h (Nat.not_lt_zero _),fun h=>absurd h (Nat.not_lt_zero _)⟩⟩
def aBF:W.Spec:=fun av H K=>∃ s:Sc,av=[.va (.gs (aE s))]/\H=[]/\s.fit/\Gd s.ss s.es/\yS s.ss/\K (.va (.c1 (.fz ((s.ss.map fun t=>dD s.ss t.nm).map bU)))) []
theorem aCH {s:Sc} {K:S->Hp->Prop} (h:s.fit) (g:Gd s.ss s.es) (ha:yS s.ss) (hK:K (.va (.c1 (.fz ((s.ss.map fun t=>dD s.ss t.nm).map bU)))) []):aBF [.va (.gs (aE s))] [] K:=⟨s,rfl,rfl,h,g,ha,hK⟩
theorem X1 {D:ByteArray->Int} {l:List Fl} {i:Nat} {f:Fl} (hx:l[i]? = some f):(l.take (i + 1)).foldl (gF D) 0=max ((l.take i).foldl (gF D) 0) (bY D f.ty):=by
  rw [fJ hx,List.foldl_append]; rfl
theorem Y4:Meets Tryz.prog 51 aBF:=by
  refine aF Tryz.func51 aOF 1 (by rw [Tryz.ntmps51]; decide) (aG NG (aA _)) (fun av H K h=>by obtain ⟨_,rfl,_⟩:=h; rfl) ?_
  rintro av H K ⟨s,rfl,rfl,hs,g,ha,hK⟩
  have hls:=g.n
  simp (maxSteps:=1000000) -dsimp only [go_sem,aE,aDC,aA6]
  refine ⟨⟨by omega,by omega,by omega⟩,fun h0=>?_,fun h0=>?_⟩
  · have hnil:s.ss=[]:=List.length_eq_zero_iff.1 (by omega)
    have hlen:s.ss.length=0:=by omega
    rw [hnil] at hK
    refine aK (α:=Nat) (fun i=>[(1,.va (.c1 (.pt 0 0))),(3,.va (.c1 (.fz []))),(4,iS .i64 i)]) (fun _=>[.cells (aE s) 25])
      (fun i=>i<=1) (fun i=>1 - i) 0 1 (Nat.zero_le _) ?_ ?_ ?_
    · simp -dsimp only [go_sem]<;>simp
    · simp -dsimp only [go_sem,aE]<;>simp
    intro i hi
    rcases Nat.eq_zero_or_pos i with h1 | h1
    · have hg:decide ((i:Int)<=(s.ss.length:Int))=true:=by simp; omega
      simp (maxSteps:=1000000) -dsimp only [go_sem,hg,aE]
      refine aK (α:=Unit) (fun _=>[(1,.va (.c1 (.pt 0 0))),(3,.va (.c1 (.fz []))),(4,iS .i64 i),(5,iS .i64 0)]) (fun _=>[.cells (aE s) 25])
        (fun _=>True) (fun _=>0) () 1 trivial ?_ ?_ ?_
      · simp -dsimp only [go_sem]<;>simp
      · simp -dsimp only [go_sem,aE]<;>simp
      intro _ _
      have hg:decide ((0:Int) < (s.ss.length:Int))=false:=by simp; omega
      simp (maxSteps:=1000000) -dsimp only [go_sem,hg,aE]
      refine ⟨by omega,aC (i + 1) 1 (by omega) (by omega) ?_ ?_⟩
      · simp -dsimp only [go_sem]<;>simp
      · simp -dsimp only [go_sem,aE]<;>simp
    · have hg:decide ((i:Int)<=(s.ss.length:Int))=false:=by simp; omega
      simp (maxSteps:=1000000) -dsimp only [go_sem,hg,aE]
      exact .sel [] (by simp) (by simp) rfl (.done (by simpa [go_sem] using hK))
  · have hsf:=eX hs
    rw [aE] at hsf
    have hsd:=dW s
    rw [aE] at hsd
    refine aK (α:=Nat × List Int) (fun z=>[(1,.va (.c1 (.pt 0 0))),(3,.va (.c1 (.sl 1 s.ss.length))),(4,iS .i64 z.1)]) (fun z=>[.cells (aE s) 25,.row (z.2.map bU) 3 1])
      (fun z=>z.1<=s.ss.length + 1/\DI s.ss z.1 0 z.2) (fun z=>s.ss.length + 1 - z.1) (0,List.replicate s.ss.length 0) 2 ⟨Nat.zero_le _,DI.init _⟩ ?_ ?_ ?_
    · simp -dsimp only [go_sem]<;>simp
    · simp -dsimp only [go_sem,aE]<;>simp
    rintro ⟨r,d⟩ ⟨hr,hd⟩
    simp only at hr hd ⊢
    rcases Nat.lt_or_ge r (s.ss.length + 1) with hlt | hge
    · have hg:decide ((r:Int)<=(s.ss.length:Int))=true:=by simp; omega
      simp (maxSteps:=1000000) -dsimp only [go_sem,hg,aE]
      refine aK (α:=Nat × List Int) (fun z=>[(1,.va (.c1 (.pt 0 0))),(3,.va (.c1 (.sl 1 s.ss.length))),(4,iS .i64 r),(5,iS .i64 z.1)]) (fun z=>[.cells (aE s) 25,.row (z.2.map bU) 3 1])
        (fun z=>z.1<=s.ss.length/\DI s.ss r z.1 z.2) (fun z=>s.ss.length - z.1) (0,d) 2 ⟨Nat.zero_le _,hd⟩ ?_ ?_ ?_
      · simp -dsimp only [go_sem]<;>simp
      · simp -dsimp only [go_sem,aE]<;>simp
      clear hd hg
      rintro ⟨i,d⟩ ⟨hi,hd⟩
      simp only at hi hd ⊢
      rcases Nat.lt_or_ge i s.ss.length with hit | hig
      · have hg:decide ((i:Int) < (s.ss.length:Int))=true:=by simp; omega
        obtain ⟨t,hx⟩:∃ e,s.ss[i]? = some e:=⟨_,List.getElem?_eq_getElem hit⟩
        have htm:=List.mem_of_getElem? hx
        obtain ⟨_,htl,hfs⟩:=hs.ok.ss t htm
        have q1:=aO (row:=aL) hx
        have hset:=hd.set g ha hx
        have hmx:fB (dL s.ss d) t.fs<=1000000000000:=by
          have h1:=DH (l:=t.fs) fun f _=>hd.fd g f.ty
          have h2:=L3 g ha (g.nd t htm)
          have h3:=NB g t.nm
          omega
        simp (maxSteps:=1000000) -dsimp only [go_sem,hg,aE]
        refine aK (α:=Nat) (fun k=>[(1,.va (.c1 (.pt 0 0))),(3,.va (.c1 (.sl 1 s.ss.length))),(4,iS .i64 r),(5,iS .i64 i),(6,iS .i64 ((t.fs.take k).foldl (gF (dL s.ss d)) 0)),(7,iS .i64 k)]) (fun _=>[.cells (aE s) 25,.row (d.map bU) 3 1])
          (fun k=>k<=t.fs.length) (fun k=>t.fs.length - k) 0 2 (Nat.zero_le _) ?_ ?_ ?_
        · simp -dsimp only [go_sem]<;>simp
        · simp -dsimp only [go_sem,aE]<;>simp
        intro k hk
        rcases Nat.lt_or_ge k t.fs.length with hkt | hkg
        · have hg:decide ((k:Int) < (t.fs.length:Int))=true:=by simp; omega
          obtain ⟨f,hf⟩:∃ e,t.fs[k]? = some e:=⟨_,List.getElem?_eq_getElem hkt⟩
          have hfm:=List.mem_of_getElem? hf
          have q2:=aO (row:=aR) hf
          have hity:eK (aM f.ty):=dH (hfs f hfm).ty
          have hlv:((cJ f.ty).1<=1000000000)=True:=eq_true (g.lv t htm f hfm)
          have hin:MP (d.map bU):=⟨d,rfl⟩
          have hdl:d.length=s.ss.length:=hd.len
          have hall:(∀ v:Int,v ∈ d->0<=v/\v<=1000000000000)=True:=eq_true (hd.all g)
          simp (maxSteps:=1000000) -dsimp only [go_sem,hg,↓q1,aL,aE]
          simp (maxSteps:=1000000) -dsimp only [go_sem,aR,tI,hsf,hsd,hity,hlv,hin,hall,hdl,hf,Option.some.injEq,forall_eq']
          refine ⟨by omega,by omega,by omega,by omega,aC (k + 1) 2 (by omega) (by omega) ?_ ?_⟩
          · simp -dsimp only [go_sem,X1 hf]<;>simp
          · simp -dsimp only [go_sem,aE]<;>simp
        · have hg:decide ((k:Int) < (t.fs.length:Int))=false:=by simp; omega
          obtain rfl:k=t.fs.length:=by omega
          have hmx2:t.fs.foldl (gF (dL s.ss d)) 0=fB (dL s.ss d) t.fs:=rfl
          rw [List.take_length,hmx2]
          have hn0:=kF (dL s.ss d) t.fs
          have hdl:d.length=s.ss.length:=hd.len
          obtain ⟨v0,hv0⟩:∃ e,d[i]? = some e:=⟨_,List.getElem?_eq_getElem (by omega)⟩
          simp (maxSteps:=1000000) -dsimp only [go_sem,hg,↓q1,aL,aE]
          simp (maxSteps:=1000000) -dsimp only [go_sem,hv0,Option.some.injEq,forall_eq']
          refine ⟨by omega,by omega,⟨by omega,hdl⟩,⟨hdl,by omega⟩,by omega,aC (i + 1,d.set i (1 + fB (dL s.ss d) t.fs)) 2 ⟨by simp only; omega,hset⟩ (by simp only; omega) ?_ ?_⟩
          · simp -dsimp only [go_sem]<;>simp
          · simp -dsimp only [go_sem,aE]<;>simp [List.map_set]
      · have hg:decide ((i:Int) < (s.ss.length:Int))=false:=by simp; omega
        obtain rfl:i=s.ss.length:=by omega
        simp (maxSteps:=1000000) -dsimp only [go_sem,hg,aE]
        refine ⟨by omega,aC (r + 1,d) 2 ⟨by simp only; omega,hd.up⟩ (by simp only; omega) ?_ ?_⟩
        · simp -dsimp only [go_sem]<;>simp
        · simp -dsimp only [go_sem,aE]<;>simp
    · have hg:decide ((r:Int)<=(s.ss.length:Int))=false:=by simp; omega
      obtain rfl:r=s.ss.length + 1:=by omega
      have hfin:=hd.fin
      rw [<-hfin] at hK
      simp (maxSteps:=1000000) -dsimp only [go_sem,hg,aE]
      have e1:s.ss.length=(d.map bU).length:=by rw [List.length_map]; exact hd.len.symm
      rw [e1]
      refine .pub 1 _ _ _ rfl (.sel [] (by simp) (by simp [cG]) rfl (.done ?_))
      simp -dsimp only [go_sem,cG]
      simpa using hK
end Go.Proofs.YtkpohmhenegkiaaGreatDoor
namespace Go.Proofs.YtkpohmhenegkiaaGreatDoor
open Go.W
theorem ZY:Meets Tryz.prog 20 ckFn.sp:=by
  refine aF Tryz.func20 aLA 1 (by rw [Tryz.ntmps20]; decide) (aG aDB (aG XZ (aG OY (aB aF1 (aG SY (aB Y4 (aA _))))))) o6 ?_
  rintro av H K ⟨⟨h,rfl⟩,hK⟩
  obtain ⟨_,rfl,s,rfl,hs⟩:=f7 h
  have hK:K (iS .i64 (eS s)) []:=by
    have:ckFn.val [.va (.gs (aE s))]=iA .i64 (eS s):=by simp -dsimp only [go_sem]
    rw [this] at hK; exact hK
  clear h
  have hfit:=hs
  have hsc:pT (aE s):=K4 hs.ok
  have hsf:iQ (aE s):=eX hs
  obtain ⟨⟨hv,hle,hls,hes,hss⟩,hlv,_,_⟩:=hs
  have fin:∀ (x:Int) (R:Hp),eS s=x->W.Fin 0 K (iS .i64 x) R:=fun x R h1=>by
    rw [h1] at hK
    exact .sel [] (by simp) (by simp) rfl (.done (by simpa [go_sem] using hK))
  have hsc':=hsc
  have hsf':=hsf
  simp only [aE] at hsc' hsf'
  have hdec:C.sc [.vl (.int .i64 s.ver),.fz (s.es.map aX),.fz (s.ss.map aL)]=s:=dW s
  simp (maxSteps:=1000000) -dsimp only [go_sem,aE,aBN,aFG,hsc',hdec]
  refine ⟨fun h1=>fin 4 _ (by unfold eS; rw [h1]; rfl),fun c1=>⟨fun h1=>fin 3 _ (by unfold eS; rw [c1,h1]; rfl),fun c2=>?_⟩⟩
  have hF:eS s=bif EX s != 0 then EX s else bif DK s != 0 then DK s else yG s.ss:=by unfold eS; rw [c1,c2]; rfl
  refine aK (α:=Nat) (fun i=>[(1,.va (.c1 (.pt 0 0))),(3,iS .i64 i)]) (fun _=>[.cells (aE s) 25])
    (fun i=>i<=s.es.length/\fE (iK s) (s.es.length - i) i=EX s) (fun i=>s.es.length - i) 0 1 ⟨Nat.zero_le _,rfl⟩ ?_ ?_ ?_
  · simp -dsimp only [go_sem]<;>simp
  · simp -dsimp only [go_sem,aE]<;>simp
  rintro i ⟨hi,ho⟩
  rcases Nat.lt_or_ge i s.es.length with hlt | hge
  · have hg:decide ((i:Int) < (s.es.length:Int))=true:=by simp; omega
    have fin':∀ (x:Int) (R:Hp),iK s i=x->x ≠ 0->W.Fin 0 K (iS .i64 x) R:=fun x R h1 h2=>fin x R (by
      rw [hF,<-ho,rR hlt (by rw [h1]; exact h2),h1]; exact GT h2)
    have b9:iK s i=0->fE (iK s) (s.es.length - (i + 1)) (i + 1)=EX s:=fun h1=>by rw [<-ho,xA hlt h1]
    simp (maxSteps:=1000000) -dsimp only [go_sem,hg,aE,hsf',hdec,Int.toNat_natCast]
    refine ⟨⟨by omega,by omega⟩,fun h1=>fin' _ _ rfl (by simpa using h1),fun h1=>?_⟩
    refine ⟨by omega,aC (i + 1) 1 ⟨by omega,b9 (by simpa using h1)⟩ (by omega) ?_ ?_⟩
    · simp -dsimp only [go_sem]<;>simp
    · simp -dsimp only [go_sem,aE]<;>simp
  · have hg:decide ((i:Int) < (s.es.length:Int))=false:=by simp; omega
    obtain rfl:i=s.es.length:=by omega
    rw [yW] at ho
    rw [JZ ho.symm] at hF
    simp (maxSteps:=1000000) -dsimp only [go_sem,hg,aE]
    clear hi hge hg ho
    refine aK (α:=Nat) (fun i=>[(1,.va (.c1 (.pt 0 0))),(5,iS .i64 i)]) (fun _=>[.cells (aE s) 25])
      (fun i=>i<=s.ss.length/\fE (iX s) (s.ss.length - i) i=DK s) (fun i=>s.ss.length - i) 0 1 ⟨Nat.zero_le _,rfl⟩ ?_ ?_ ?_
    · simp -dsimp only [go_sem]<;>simp
    · simp -dsimp only [go_sem,aE]<;>simp
    rintro i ⟨hi,ho⟩
    rcases Nat.lt_or_ge i s.ss.length with hlt | hge
    · have hg:decide ((i:Int) < (s.ss.length:Int))=true:=by simp; omega
      have fin':∀ (x:Int) (R:Hp),iX s i=x->x ≠ 0->W.Fin 0 K (iS .i64 x) R:=fun x R h1 h2=>fin x R (by
        rw [hF,<-ho,rR hlt (by rw [h1]; exact h2),h1]; exact GT h2)
      have b9:iX s i=0->fE (iX s) (s.ss.length - (i + 1)) (i + 1)=DK s:=fun h1=>by rw [<-ho,xA hlt h1]
      simp (maxSteps:=1000000) -dsimp only [go_sem,hg,aE,hsf',hdec,Int.toNat_natCast]
      refine ⟨⟨by omega,by omega⟩,fun h1=>fin' _ _ rfl (by simpa using h1),fun h1=>?_⟩
      refine ⟨by omega,aC (i + 1) 1 ⟨by omega,b9 (by simpa using h1)⟩ (by omega) ?_ ?_⟩
      · simp -dsimp only [go_sem]<;>simp
      · simp -dsimp only [go_sem,aE]<;>simp
    · have hg:decide ((i:Int) < (s.ss.length:Int))=false:=by simp; omega
      obtain rfl:i=s.ss.length:=by omega
      rw [yW] at ho
      rw [JZ ho.symm] at hF
      have g:=Y1 hfit c2 ho.symm
      simp (maxSteps:=1000000) -dsimp only [go_sem,hg,aE]
      clear hi hge hg ho
      refine aK (α:=Nat) (fun i=>[(1,.va (.c1 (.pt 0 0))),(7,iS .i64 i)]) (fun _=>[.cells (aE s) 25])
        (fun i=>i<=s.ss.length/\(s.ss.drop i).any (fun t=>cR (fL s.ss t.nm) t.nm)=s.ss.any (fun t=>cR (fL s.ss t.nm) t.nm)) (fun i=>s.ss.length - i) 0 1 ⟨Nat.zero_le _,rfl⟩ ?_ ?_ ?_
      · simp -dsimp only [go_sem]<;>simp
      · simp -dsimp only [go_sem,aE]<;>simp
      rintro i ⟨hi,ho⟩
      rcases Nat.lt_or_ge i s.ss.length with hlt | hge
      · have hg:decide ((i:Int) < (s.ss.length:Int))=true:=by simp; omega
        obtain ⟨t,hx⟩:∃ t,s.ss[i]? = some t:=⟨_,List.getElem?_eq_getElem hlt⟩
        have q1:=aO (row:=aL) hx
        rw [gH hx] at ho
        have hv:=g.vlen t.nm
        have hul:=CS s.ss t.nm
        have hbs:BZ ((fL s.ss t.nm).map bB):=s4 (by rw [CS]; omega)
        have e0:(0<=((fL s.ss t.nm).length:Int))=True:=by simp
        have e1:(((fL s.ss t.nm).length:Int)<=9223372036854775807)=True:=by rw [hul]; exact eq_true (by omega)
        have hto:(fL s.ss t.nm).take (fL s.ss t.nm).length=fL s.ss t.nm:=List.take_length
        simp (maxSteps:=1000000) -dsimp only [go_sem,hg,↓q1,aL,aE]
        refine ⟨by omega,aBQ hfit g ?_⟩
        simp (maxSteps:=1000000) -dsimp only [go_sem,hbs,e0,e1,Int.toNat_natCast,hto]
        refine ⟨by omega,fun hc=>?_,fun hc=>?_⟩
        · rw [hc,Bool.true_or] at ho
          exact fin 19 _ (by rw [hF]; unfold yG; rw [<-ho]; rfl)
        · rw [hc,Bool.false_or] at ho
          refine ⟨by omega,aC (i + 1) 1 ⟨by omega,ho⟩ (by omega) ?_ ?_⟩
          · simp -dsimp only [go_sem]<;>simp
          · simp -dsimp only [go_sem,aE]<;>simp
      · have hg:decide ((i:Int) < (s.ss.length:Int))=false:=by simp; omega
        obtain rfl:i=s.ss.length:=by omega
        rw [oV] at ho
        have ha:yS s.ss:=fun t ht=>iZ ho.symm t ht
        have hF2:eS s=bif s.ss.any (fun t=>decide (6 < dD s.ss t.nm)) then 9 else 0:=by rw [hF]; unfold yG; rw [<-ho]; rfl
        simp (maxSteps:=1000000) -dsimp only [go_sem,hg,aE]
        refine aCH hfit g ha ?_
        simp (maxSteps:=1000000) -dsimp only [go_sem]
        clear hi hge hg ho
        refine aK (α:=Nat) (fun i=>[(9,.va (.c1 (.fz ((s.ss.map fun t=>dD s.ss t.nm).map bU)))),(10,iS .i64 i)]) (fun _=>[.cells (aE s) 25])
          (fun i=>i<=s.ss.length/\(s.ss.drop i).any (fun t=>decide (6 < dD s.ss t.nm))=s.ss.any (fun t=>decide (6 < dD s.ss t.nm))) (fun i=>s.ss.length - i) 0 1 ⟨Nat.zero_le _,rfl⟩ ?_ ?_ ?_
        · simp -dsimp only [go_sem]<;>simp
        · simp -dsimp only [go_sem,aE]<;>simp
        rintro i ⟨hi,ho⟩
        rcases Nat.lt_or_ge i s.ss.length with hlt | hge
        · have hg:decide ((i:Int) < (s.ss.length:Int))=true:=by simp; omega
          obtain ⟨t,hx⟩:∃ t,s.ss[i]? = some t:=⟨_,List.getElem?_eq_getElem hlt⟩
          have hd:(s.ss.map fun t=>dD s.ss t.nm)[i]? = some (dD s.ss t.nm):=by rw [List.getElem?_map,hx]; rfl
          have q1:=aO (row:=bU) hd
          have hml:(s.ss.map fun t=>dD s.ss t.nm).length=s.ss.length:=by simp
          rw [gH hx] at ho
          generalize (s.ss.map fun t=>dD s.ss t.nm)=ds at *
          simp (maxSteps:=1000000) -dsimp only [go_sem,hml,hg,↓q1,aE]
          refine ⟨by omega,fun hc=>?_,fun hc=>?_⟩
          · rw [hc,Bool.true_or] at ho
            exact fin 9 _ (by rw [hF2,<-ho]; rfl)
          · rw [hc,Bool.false_or] at ho
            refine ⟨by omega,aC (i + 1) 1 ⟨by omega,ho⟩ (by omega) ?_ ?_⟩
            · simp -dsimp only [go_sem]<;>simp
            · simp -dsimp only [go_sem,aE]<;>simp
        · have hg:decide ((i:Int) < (s.ss.length:Int))=false:=by simp; omega
          obtain rfl:i=s.ss.length:=by omega
          rw [oV] at ho
          have hml:(s.ss.map fun t=>dD s.ss t.nm).length=s.ss.length:=by simp
          generalize (s.ss.map fun t=>dD s.ss t.nm)=ds at *
          simp (maxSteps:=1000000) -dsimp only [go_sem,hml,hg,aE]
          exact fin 0 _ (by rw [hF2,<-ho]; rfl)
end Go.Proofs.YtkpohmhenegkiaaGreatDoor
namespace Go.Proofs.YtkpohmhenegkiaaGreatDoor
open Go.W
def fR:Nat->Ty->Nat
  | 0,_=>0
  | N + 1,t=>t.e.foldl (fun m u=>max m (1 + fR N u)) 0
abbrev lF (N:Nat):Nat->Ty->Nat:=fun m u=>max m (1 + fR N u)
theorem TZ (N:Nat):∀ (l:List Ty) (m:Nat),m<=l.foldl (lF N) m
  | [],_=>Nat.le_refl _
  | u :: l,m=>Nat.le_trans (Nat.le_max_left _ _) (TZ N l (max m (1 + fR N u)))
theorem aD7 {N:Nat} {l:List Ty} {u:Ty} (h:u ∈ l):∀ m,1 + fR N u<=l.foldl (lF N) m:=by
  induction l with
  | nil=>cases h
  | cons v l ih=>
    intro m
    rcases List.mem_cons.1 h with rfl | h
    · exact Nat.le_trans (Nat.le_max_right m _) (TZ N l _)
    · exact ih h _
theorem aGW {N B:Nat} {l:List Ty} (h:∀ u ∈ l,1 + fR N u<=B):∀ m,m<=B->l.foldl (lF N) m<=B:=by
  induction l with
  | nil=>exact fun _ h=>h
  | cons v l ih=>exact fun m hm=>ih (fun u hu=>h u (List.mem_cons_of_mem _ hu)) _ (Nat.max_le.2 ⟨hm,h v List.mem_cons_self⟩)
theorem A2:∀ (N:Nat) (t:Ty),fR N t<=N
  | 0,_=>Nat.le_refl _
  | N + 1,t=>aGW (fun u _=>by have:=A2 N u; omega) 0 (Nat.zero_le _)
theorem V2:∀ (N:Nat) (t:Ty),fR N t < N->t.h<=fR N t + 1
  | 0,_,h=>absurd h (Nat.not_lt_zero _)
  | N + 1,.mk k s n e,h=>by
    have hu:∀ u ∈ e,u.h<=fR (N + 1) (.mk k s n e):=fun u hu=>by
      have h1:1 + fR N u<=fR (N + 1) (.mk k s n e):=aD7 (N:=N) (l:=e) hu 0
      have:=V2 N u (by omega)
      omega
    rw [Ty.h]
    have:∀ (l:List Ty),(∀ u ∈ l,u.h<=fR (N + 1) (.mk k s n e))->Ty.hs l<=fR (N + 1) (.mk k s n e):=by
      intro l
      induction l with
      | nil=>exact fun _=>Nat.zero_le _
      | cons v l ih=>
        intro h
        rw [Ty.hs]
        exact Nat.max_le.2 ⟨h v List.mem_cons_self,ih fun u hu=>h u (List.mem_cons_of_mem _ hu)⟩
    have:=this e hu
    omega
theorem X6 {N:Nat} {l:List Ty} {i:Nat} {u:Ty} (hx:l[i]? = some u):(l.take (i + 1)).foldl (lF N) 0=max ((l.take i).foldl (lF N) 0) (1 + fR N u):=by
  rw [fJ hx,List.foldl_append]; rfl
def EN (N:Nat):List S->Prop:=fun av=>match av with
  | [.va (.gs q),.va (.c1 (.vl (.int .i64 k)))]=>eK q/\k=(N:Int)/\N<=1000
  | _=>False
theorem mB {N:Nat} {av:List S} (h:EN N av):∃ t:Ty,av=[.va (.gs (aM t)),iS .i64 N]/\TyOk t/\N<=1000:=by
  unfold EN at h
  split at h
  · obtain ⟨⟨t,rfl,ht⟩,rfl,h⟩:=h
    exact ⟨t,rfl,ht,h⟩
  · exact h.elim
noncomputable def XB (N:Nat):List S->A:=fun av=>match av with
  | [.va (.gs q),.va (.c1 (.vl (.int .i64 _)))]=>iA .i64 (fR N (C.ty q))
  | _=>.gs []
noncomputable def AH (N:Nat):Fun:=⟨EN N,XB N,fun av h=>by obtain ⟨a,rfl,_⟩:=mB h; trivial⟩
theorem IH {N:Nat}:∀ av H K,(AH N).sp av H K->av.length=2:=fun av H K h=>by obtain ⟨a,rfl,_⟩:=mB h.1.1; rfl
attribute [go_sem] AH EN XB
theorem ZP:Meets Tryz.prog 45 (AH 0).sp:=by
  refine aF Tryz.func45 Z9 2 (by rw [Tryz.ntmps45]; decide) (aA _) IH ?_
  rintro av H K ⟨⟨h,rfl⟩,hK⟩
  obtain ⟨t,rfl,ht,hN⟩:=mB h
  have hK:K (iS .i64 0) []:=by
    have:(AH 0).val [.va (.gs (aM t)),iS .i64 ((0:Nat):Int)]=iA .i64 0:=by simp -dsimp only [go_sem]; rfl
    rw [this] at hK; exact hK
  clear h
  obtain ⟨k,s,n,e⟩:=t
  simp (maxSteps:=1000000) -dsimp only [go_sem,aM,aS,TN,S4]
  refine aK (α:=Unit) (fun i=>[(1,iS .i64 0),(2,.va (.c1 (.pt 0 0))),(5,iS .i64 0),(6,iS .i64 0)]) (fun _=>[.cells (aM (.mk k s n e)) 28])
    (fun i=>True) (fun i=>0) () 1 trivial ?_ ?_ ?_
  · simp -dsimp only [go_sem]
    simp
  · simp -dsimp only [go_sem,aM,aS]
  intro _ _
  have hg2:decide ((0:Int) < 0)=false:=rfl
  cases hg:decide ((0:Int) < (e.length:Int)) with
  | true=>
    simp (maxSteps:=1000000) -dsimp only [go_sem,hg,hg2,aM,aS]
    exact .sel [] (by simp) (by simp) rfl (.done (by simp -dsimp only [go_sem]; exact hK))
  | false=>
    simp (maxSteps:=1000000) -dsimp only [go_sem,hg,hg2,aM,aS]
    exact .sel [] (by simp) (by simp) rfl (.done (by simp -dsimp only [go_sem]; exact hK))
theorem NR:∀ N,Meets Tryz.prog 45 (AH N).sp
  | 0=>ZP
  | N + 1=>by
    refine aF Tryz.func45 Z9 2 (by rw [Tryz.ntmps45]; decide) (aG (NR N) (aA _)) IH ?_
    rintro av H K ⟨⟨h,rfl⟩,hK⟩
    obtain ⟨t,rfl,ht,hN⟩:=mB h
    have hK:K (iS .i64 (fR (N + 1) t)) []:=by
      have:(AH (N + 1)).val [.va (.gs (aM t)),iS .i64 ((N + 1:Nat):Int)]=iA .i64 (fR (N + 1) t):=by simp -dsimp only [go_sem]
      rw [this] at hK; exact hK
    clear h
    obtain ⟨k,s,n,e⟩:=t
    have hte:=ht.e
    have hte2:=ht.len
    simp only [Ty.e] at hte hte2
    have hK:K (iS .i64 ((e.foldl (lF N) 0:Nat):Int)) []:=hK
    simp (maxSteps:=1000000) -dsimp only [go_sem,aM,aS,TN,S4]
    refine aK (α:=Nat) (fun i=>[(1,iS .i64 ((N + 1:Nat):Int)),(2,.va (.c1 (.pt 0 0))),(5,iS .i64 (((e.take i).foldl (lF N) 0:Nat):Int)),(6,iS .i64 i)]) (fun _=>[.cells (aM (.mk k s n e)) 28])
      (fun i=>i<=e.length) (fun i=>e.length - i) 0 1 (Nat.zero_le _) ?_ ?_ ?_
    · simp -dsimp only [go_sem]
      simp
    · simp -dsimp only [go_sem,aM,aS]
    intro i hi
    rcases Nat.lt_or_ge i e.length with hlt | hge
    · have hg:decide ((i:Int) < (e.length:Int))=true:=by simp; omega
      have hg2:decide (0 < ((N + 1:Nat):Int))=true:=decide_eq_true (by omega)
      obtain ⟨u,hx⟩:∃ t,e[i]? = some t:=⟨_,List.getElem?_eq_getElem hlt⟩
      have q1:=aO (row:=aM) hx
      have hu:eK (aM u):=dH (hte u (List.mem_of_getElem? hx))
      have hn1:((N + 1:Nat):Int) - 1=(N:Int):=by omega
      have hl:=A2 N u
      simp (maxSteps:=1000000) -dsimp only [go_sem,hg,hg2,↓q1,aM,aS,gO,hu,hn1]
      refine ⟨by omega,by omega,by omega,by omega,by omega,aC (i + 1) 1 (by omega) (by omega) ?_ ?_⟩
      · simp -dsimp only [go_sem,X6 hx]<;>simp<;>omega
      · simp -dsimp only [go_sem,aM,aS]
    · have hg:decide ((i:Int) < (e.length:Int))=false:=by simp; omega
      obtain rfl:i=e.length:=by omega
      rw [List.take_length]
      simp (maxSteps:=1000000) -dsimp only [go_sem,hg,aM,aS]
      exact .sel [] (by simp) (by simp) rfl (.done (by simp -dsimp only [go_sem]; exact hK))
mutual
def fewT:Ty->Bool
  | .mk k s n e=>bif decide (40 < (bl n).length) || decide (3 < e.length) || decide (8 < fR 20 (.mk k s n e)) then false else D6 e
def D6:List Ty->Bool
  | []=>true
  | t :: r=>fewT t && D6 r
end
theorem qY:∀ l:List Ty,D6 l=l.all fewT
  | []=>rfl
  | t :: r=>by rw [D6,qY r]; rfl
theorem WK {k s:Int} {n:ByteArray} {e:List Ty} (h:fewT (.mk k s n e)=true):((bl n).length<=40/\e.length<=3/\fR 20 (.mk k s n e)<=8)/\∀ u ∈ e,fewT u=true:=by
  rw [fewT] at h
  cases c:decide (40 < (bl n).length) || decide (3 < e.length) || decide (8 < fR 20 (.mk k s n e)) with
  | true=>rw [c] at h; cases h
  | false=>
    rw [c] at h
    simp only [Bool.or_eq_false_iff,decide_eq_false_iff_not] at c
    refine ⟨by omega,fun u hu=>?_⟩
    simp only [Bool.cond_false,qY,List.all_eq_true] at h
    exact h u hu
theorem aHO {t:Ty} (h:fewT t=true):t.h<=9:=by
  obtain ⟨k,s,n,e⟩:=t
  have h1:=(WK h).1.2.2
  have:=V2 20 (.mk k s n e) (by omega)
  omega
theorem PI:∀ (N:Nat) (t:Ty),t.h<=N->fewT t=true->TySm t
  | 0,t,h,_=>absurd h (by have:=t.h_pos; omega)
  | N + 1,.mk k s n e,h,hf=>by
    obtain ⟨⟨_,h2,_⟩,h3⟩:=WK hf
    refine .mk (by omega) fun u hu=>PI N u ?_ (h3 u hu)
    have:=Ty.hs_mem hu; rw [Ty.h] at h; omega
theorem aCQ:∀ (N:Nat) (t:Ty),t.h<=N->(cJ t).1<=t.h
  | 0,t,h=>absurd h (by have:=t.h_pos; omega)
  | N + 1,.mk k s n e,h=>by
    cases c:(k == 5 && decide (0 < (e.length:Int))) with
    | false=>rw [E4 c]; exact Nat.zero_le _
    | true=>
      simp only [Bool.and_eq_true,beq_iff_eq,decide_eq_true_eq] at c
      obtain ⟨rfl,c⟩:=c
      cases e with
      | nil=>simp at c
      | cons u r=>
        rw [wJ]
        have h2:=aCQ N u (by rw [Ty.h,Ty.hs] at h; omega)
        rw [Ty.h,Ty.hs]; simp only; omega
def EU (N:Nat):List S->Prop:=fun av=>match av with
  | [.va (.gs q)]=>eK q/\(C.ty q).h<=N
  | _=>False
theorem l5 {N:Nat} {av:List S} (h:EU N av):∃ t:Ty,av=[.va (.gs (aM t))]/\TyOk t/\t.h<=N:=by
  unfold EU at h
  split at h
  · obtain ⟨⟨t,rfl,ht⟩,h⟩:=h
    rw [eH] at h
    exact ⟨t,rfl,ht,h⟩
  · exact h.elim
noncomputable def XF:List S->A:=fun av=>match av with
  | [.va (.gs q)]=>bA (fewT (C.ty q))
  | _=>.gs []
noncomputable def MJ (N:Nat):Fun:=⟨EU N,XF,fun av h=>by obtain ⟨a,rfl,_⟩:=l5 h; trivial⟩
theorem RJ {N:Nat}:∀ av H K,(MJ N).sp av H K->av.length=1:=fun av H K h=>by obtain ⟨a,rfl,_⟩:=l5 h.1.1; rfl
attribute [go_sem] MJ EU XF
theorem CC:∀ N,Meets Tryz.prog 19 (MJ N).sp
  | 0=>⟨by kernel_rfl,by rintro xs vs E ro w K _ _ _ ⟨⟨h,_⟩,_⟩; obtain ⟨a,_,_,h⟩:=l5 h; have:=a.h_pos; omega⟩
  | N + 1=>by
    refine aF Tryz.func19 aKL 1 (by rw [Tryz.ntmps19]; decide) (aG (NR 20) (aG (CC N) (aA _))) RJ ?_
    rintro av H K ⟨⟨h,rfl⟩,hK⟩
    obtain ⟨t,rfl,ht,hN⟩:=l5 h
    have hK:K (bS (fewT t)) []:=by
      have:(MJ (N + 1)).val [.va (.gs (aM t))]=bA (fewT t):=by simp -dsimp only [go_sem]
      rw [this] at hK; exact hK
    clear h
    have hit:=dH ht
    obtain ⟨k,s,n,e⟩:=t
    have hte:=ht.e
    have hte2:=ht.len
    simp only [Ty.e] at hte hte2
    have fin:∀ (x:Bool) (R:Hp),fewT (.mk k s n e)=x->W.Fin 0 K (bS x) R:=fun x R h1=>by
      rw [h1] at hK
      exact .sel [] (by simp) (by simp) rfl (.done (by simpa [go_sem] using hK))
    have hcd:=eH (.mk k s n e)
    have hF:=fewT.eq_1 k s n e
    rw [aM,aS] at hit hcd
    generalize hlv:fR 20 (.mk k s n e)=lv at hF
    have hl20:=A2 20 (.mk k s n e)
    rw [hlv] at hl20
    have e20:((20:Nat):Int)=20:=rfl
    have hb20:(20<=1000)=True:=by simp
    simp (maxSteps:=1000000) -dsimp only [go_sem,aM,aS,aBE,aAW,hit,hcd,hlv,e20,hb20]
    refine ⟨fun h1=>fin false _ ?_,fun h1=>?_⟩
    · rw [hF]
      simp only [Bool.or_eq_true,decide_eq_true_eq] at h1
      rw [show (decide (40 < (bl n).length) || decide (3 < e.length) || decide (8 < lv))=true by simp only [Bool.or_eq_true,decide_eq_true_eq]; omega]; rfl
    have hF2:fewT (.mk k s n e)=e.all fewT:=by
      simp only [Bool.or_eq_false_iff,decide_eq_false_iff_not] at h1
      rw [hF,show (decide (40 < (bl n).length) || decide (3 < e.length) || decide (8 < lv))=false by simp only [Bool.or_eq_false_iff,decide_eq_false_iff_not]; omega,qY]; rfl
    refine aK (α:=Nat) (fun i=>[(1,.va (.c1 (.pt 0 0))),(3,iS .i64 i)]) (fun i=>[.cells (aM (.mk k s n e)) 28])
      (fun i=>i<=e.length/\∀ u ∈ e.take i,fewT u=true) (fun i=>e.length - i) 0 1 ⟨Nat.zero_le _,fun u hu=>by cases hu⟩ ?_ ?_ ?_
    · simp -dsimp only [go_sem]<;>simp
    · simp -dsimp only [go_sem,aM,aS]
    rintro i ⟨hi,ho⟩
    rcases Nat.lt_or_ge i e.length with hlt | hge
    · have hg:decide ((i:Int) < (e.length:Int))=true:=by simp; omega
      obtain ⟨u,hx⟩:∃ t,e[i]? = some t:=⟨_,List.getElem?_eq_getElem hlt⟩
      have hum:=List.mem_of_getElem? hx
      have q1:=aO (row:=aM) hx
      have hu:eK (aM u):=dH (hte u hum)
      have huh:(u.h<=N)=True:=eq_true (by have:=Ty.hs_mem hum; rw [Ty.h] at hN; omega)
      simp (maxSteps:=1000000) -dsimp only [go_sem,hg,↓q1,aM,aS,gO,hu,huh]
      refine ⟨by omega,fun h1=>fin false _ ?_,fun h1=>?_⟩
      · rw [hF2,List.all_eq_false]; exact ⟨u,hum,by simpa using h1⟩
      · refine ⟨by omega,aC (i + 1) 1 ⟨by omega,fun v hv=>?_⟩ (by omega) ?_ ?_⟩
        · rw [fJ hx] at hv
          rcases List.mem_append.1 hv with h | h
          · exact ho v h
          · obtain rfl:v=u:=by simpa using h
            simpa using h1
        · simp -dsimp only [go_sem]<;>simp
        · simp -dsimp only [go_sem,aM,aS]
    · have hg:decide ((i:Int) < (e.length:Int))=false:=by simp; omega
      obtain rfl:i=e.length:=by omega
      rw [List.take_length] at ho
      simp (maxSteps:=1000000) -dsimp only [go_sem,hg,aM,aS]
      exact fin true _ (by rw [hF2,List.all_eq_true]; exact ho)
noncomputable def f0Fn:Fun:=sG eK C.ty fun t=>.bool (fewT t)
attribute [go_sem] f0Fn
theorem HH:Meets Tryz.prog 19 f0Fn.sp:=eN 0 CC fun av H K ⟨⟨h,e⟩,hK⟩=>by
  obtain ⟨_,rfl,t,rfl,ht⟩:=f7 h
  exact ⟨t.h,⟨⟨⟨dH ht,by rw [eH]; exact Nat.le_refl _⟩,e⟩,hK⟩⟩
end Go.Proofs.YtkpohmhenegkiaaGreatDoor
namespace Go.Proofs.YtkpohmhenegkiaaGreatDoor
open Go.W
def sH (e:En):Bool:=!(decide (40 < (bl e.nm).length) || decide (18 < e.ns.length) || decide (18 < e.vs.length)) && e.ns.all fun n=>!(decide (40 < (bl n).length))
def qA (f:Fl):Bool:=!(decide (40 < (bl f.nm).length) || !(fewT f.ty))
def nW (t:St):Bool:=!(decide (40 < (bl t.nm).length) || decide (18 < t.fs.length)) && t.fs.all qA
def kC (s:Sc):Bool:=!(decide (18 < s.es.length) || decide (18 < s.ss.length)) && (s.es.all sH && s.ss.all nW)
theorem BU {s:Sc} (h:s.ok) (hf:kC s=true):s.fit:=by
  unfold kC at hf
  simp only [Bool.and_eq_true,List.all_eq_true,Bool.not_eq_true',Bool.or_eq_false_iff,decide_eq_false_iff_not] at hf
  obtain ⟨_,he,hs⟩:=hf
  have hfl:∀ t ∈ s.ss,t.fs.length<=18/\∀ f ∈ t.fs,fewT f.ty=true:=fun t ht=>by
    have:=hs t ht
    unfold nW at this
    simp only [Bool.and_eq_true,List.all_eq_true,Bool.not_eq_true',Bool.or_eq_false_iff,decide_eq_false_iff_not] at this
    refine ⟨by omega,fun f hf=>?_⟩
    have:=this.2 f hf
    unfold qA at this
    simp only [Bool.not_eq_true',Bool.or_eq_false_iff,Bool.not_eq_false'] at this
    exact this.2
  refine ⟨h,fun t ht f hf=>?_,fun t ht=>⟨by have:=(hfl t ht).1; omega,fun f hf=>PI _ _ (Nat.le_refl _) ((hfl t ht).2 f hf)⟩,fun e hm=>?_⟩
  · have h1:=aHO ((hfl t ht).2 f hf)
    have h2:=aCQ _ f.ty (Nat.le_refl _)
    omega
  · have:=he e hm
    unfold sH at this
    simp only [Bool.and_eq_true,List.all_eq_true,Bool.not_eq_true',Bool.or_eq_false_iff,decide_eq_false_iff_not] at this
    omega
theorem mZ {α:Type} {l:List α} {i:Nat} {x:α} (hx:l[i]? = some x) (p:α->Bool):(l.drop i).all p=(p x && (l.drop (i + 1)).all p):=by
  obtain ⟨h,rfl⟩:=List.getElem?_eq_some_iff.1 hx
  rw [List.drop_eq_getElem_cons h,List.all_cons]
theorem oX {α:Type} {l:List α} (p:α->Bool):(l.drop l.length).all p=true:=by rw [List.drop_length]; rfl
theorem aN3:Meets Tryz.prog 18 (sG pT C.sc fun s=>.bool (kC s)).sp:=by
  refine aF Tryz.func18 aMF 1 (by rw [Tryz.ntmps18]; decide) (aG HH (aA _)) o6 ?_
  rintro av H K ⟨⟨h,rfl⟩,hK⟩
  obtain ⟨_,rfl,s,rfl,hs⟩:=f7 h
  have hK:K (bS (kC s)) []:=by
    have:(sG pT C.sc fun s=>.bool (kC s)).val [.va (.gs (aE s))]=bA (kC s):=by simp -dsimp only [go_sem]
    rw [this] at hK; exact hK
  clear h
  obtain ⟨hv,hle,hls,hes,hss⟩:=hs
  have fin:∀ (x:Bool) (R:Hp),kC s=x->W.Fin 0 K (bS x) R:=fun x R h1=>by
    rw [h1] at hK
    exact .sel [] (by simp) (by simp) rfl (.done (by simpa [go_sem] using hK))
  simp (maxSteps:=1000000) -dsimp only [go_sem,aE,aAG,aBS]
  refine ⟨fun h1=>fin false _ ?_,fun h1=>?_⟩
  · unfold kC
    rw [show (decide (18 < s.es.length) || decide (18 < s.ss.length))=true by simp only [Bool.or_eq_true,decide_eq_true_eq] at h1 ⊢; omega]; rfl
  have hF:kC s=(s.es.all sH && s.ss.all nW):=by
    unfold kC
    rw [show (decide (18 < s.es.length) || decide (18 < s.ss.length))=false by simp only [Bool.or_eq_false_iff,decide_eq_false_iff_not] at h1 ⊢; omega]; rfl
  refine aK (α:=Nat) (fun i=>[(1,.va (.c1 (.pt 0 0))),(3,iS .i64 i)]) (fun _=>[.cells (aE s) 25])
    (fun i=>i<=s.es.length/\(s.es.drop i).all sH=s.es.all sH) (fun i=>s.es.length - i) 0 1 ⟨Nat.zero_le _,rfl⟩ ?_ ?_ ?_
  · simp -dsimp only [go_sem]<;>simp
  · simp -dsimp only [go_sem,aE]<;>simp
  rintro i ⟨hi,ho⟩
  rcases Nat.lt_or_ge i s.es.length with hlt | hge
  · have hg:decide ((i:Int) < (s.es.length:Int))=true:=by simp; omega
    obtain ⟨e,hx⟩:∃ e,s.es[i]? = some e:=⟨_,List.getElem?_eq_getElem hlt⟩
    have hem:=List.mem_of_getElem? hx
    have q1:=aO (row:=aX) hx
    obtain ⟨_,hln,hlv,_,_⟩:=hes e hem
    rw [mZ hx] at ho
    have bad:sH e=false->∀ R,W.Fin 0 K (bS false) R:=fun h R=>fin false R (by rw [hF,<-ho,h]; rfl)
    have cst:∀ (a b:Nat),decide ((a:Int) < (b:Int))=decide (a < b):=fun a b=>by simp
    have hE:sH e=(!(decide (40 < ((bl e.nm).length:Int)) || decide (18 < (e.ns.length:Int)) || decide (18 < (e.vs.length:Int))) && e.ns.all fun n=>!(decide (40 < ((bl n).length:Int)))):=by
      unfold sH
      have c40:∀ b:Nat,decide (40 < (b:Int))=decide (40 < b):=fun b=>by simp; omega
      have c18:∀ b:Nat,decide (18 < (b:Int))=decide (18 < b):=fun b=>by simp; omega
      simp only [c40,c18]
    cases d1:decide (40 < ((bl e.nm).length:Int)) with
    | true=>
      rw [d1] at hE
      simp (maxSteps:=1000000) -dsimp only [go_sem,hg,↓q1,aX,aE,d1]
      exact ⟨by omega,bad hE _⟩
    | false=>
    cases d2:decide (18 < (e.ns.length:Int)) with
    | true=>
      rw [d1,d2] at hE
      simp (maxSteps:=1000000) -dsimp only [go_sem,hg,↓q1,aX,aE,d1,d2]
      exact ⟨by omega,by omega,bad hE _⟩
    | false=>
    cases d3:decide (18 < (e.vs.length:Int)) with
    | true=>
      rw [d1,d2,d3] at hE
      simp (maxSteps:=1000000) -dsimp only [go_sem,hg,↓q1,aX,aE,d1,d2,d3]
      exact ⟨by omega,by omega,by omega,bad hE _⟩
    | false=>
      rw [d1,d2,d3] at hE
      simp only [Bool.or_self,Bool.not_false,Bool.true_and] at hE
      simp (maxSteps:=1000000) -dsimp only [go_sem,hg,↓q1,aX,aE,d1,d2,d3]
      refine ⟨by omega,by omega,by omega,?_⟩
      refine aK (α:=Nat) (fun k=>[(1,.va (.c1 (.pt 0 0))),(3,iS .i64 i),(4,iS .i64 k)]) (fun _=>[.cells (aE s) 25])
        (fun k=>k<=e.ns.length/\((e.ns.drop k).all fun n=>!(decide (40 < ((bl n).length:Int))))=e.ns.all fun n=>!(decide (40 < ((bl n).length:Int)))) (fun k=>e.ns.length - k) 0 1 ⟨Nat.zero_le _,rfl⟩ ?_ ?_ ?_
      · simp -dsimp only [go_sem]<;>simp
      · simp -dsimp only [go_sem,aE]<;>simp
      rintro k ⟨hk,ho2⟩
      rcases Nat.lt_or_ge k e.ns.length with hkt | hkg
      · have hgk:decide ((k:Int) < (e.ns.length:Int))=true:=by simp; omega
        obtain ⟨n,hn⟩:∃ n,e.ns[k]? = some n:=⟨_,List.getElem?_eq_getElem hkt⟩
        have q2:=aO (row:=bB) hn
        rw [mZ hn] at ho2
        simp (maxSteps:=1000000) -dsimp only [go_sem,↓q1,aX,aE,hgk]
        simp (maxSteps:=1000000) -dsimp only [go_sem,hn,Option.some.injEq,forall_eq']
        refine ⟨by omega,by omega,by omega,fun h2=>bad (by rw [hE,<-ho2,h2]; rfl) _,fun h2=>?_⟩
        rw [h2] at ho2
        refine ⟨by omega,aC (k + 1) 1 ⟨by omega,by simpa using ho2⟩ (by omega) ?_ ?_⟩
        · simp -dsimp only [go_sem]<;>simp
        · simp -dsimp only [go_sem,aE]<;>simp
      · have hgk:decide ((k:Int) < (e.ns.length:Int))=false:=by simp; omega
        obtain rfl:k=e.ns.length:=by omega
        rw [oX] at ho2
        rw [hE,<-ho2,Bool.true_and] at ho
        simp (maxSteps:=1000000) -dsimp only [go_sem,↓q1,aX,aE,hgk]
        refine ⟨by omega,by omega,aC (i + 1) 1 ⟨by omega,ho⟩ (by omega) ?_ ?_⟩
        · simp -dsimp only [go_sem]<;>simp
        · simp -dsimp only [go_sem,aE]<;>simp
  · have hg:decide ((i:Int) < (s.es.length:Int))=false:=by simp; omega
    obtain rfl:i=s.es.length:=by omega
    rw [oX] at ho
    rw [<-ho,Bool.true_and] at hF
    simp (maxSteps:=1000000) -dsimp only [go_sem,hg,aE]
    clear ho hi hge hg
    refine aK (α:=Nat) (fun i=>[(1,.va (.c1 (.pt 0 0))),(5,iS .i64 i)]) (fun _=>[.cells (aE s) 25])
      (fun i=>i<=s.ss.length/\(s.ss.drop i).all nW=s.ss.all nW) (fun i=>s.ss.length - i) 0 1 ⟨Nat.zero_le _,rfl⟩ ?_ ?_ ?_
    · simp -dsimp only [go_sem]<;>simp
    · simp -dsimp only [go_sem,aE]<;>simp
    rintro i ⟨hi,ho⟩
    rcases Nat.lt_or_ge i s.ss.length with hlt | hge
    · have hg:decide ((i:Int) < (s.ss.length:Int))=true:=by simp; omega
      obtain ⟨e,hx⟩:∃ e,s.ss[i]? = some e:=⟨_,List.getElem?_eq_getElem hlt⟩
      have hem:=List.mem_of_getElem? hx
      have q1:=aO (row:=aL) hx
      obtain ⟨_,hln,hfs⟩:=hss e hem
      rw [mZ hx] at ho
      have bad:nW e=false->∀ R,W.Fin 0 K (bS false) R:=fun h R=>fin false R (by rw [hF,<-ho,h]; rfl)
      have hE:nW e=(!(decide (40 < ((bl e.nm).length:Int)) || decide (18 < (e.fs.length:Int))) && e.fs.all qA):=by
        unfold nW
        have c40:∀ b:Nat,decide (40 < (b:Int))=decide (40 < b):=fun b=>by simp; omega
        have c18:∀ b:Nat,decide (18 < (b:Int))=decide (18 < b):=fun b=>by simp; omega
        simp only [c40,c18]
      cases d1:decide (40 < ((bl e.nm).length:Int)) with
      | true=>
        rw [d1] at hE
        simp (maxSteps:=1000000) -dsimp only [go_sem,hg,↓q1,aL,aE,d1]
        exact ⟨by omega,bad hE _⟩
      | false=>
      cases d2:decide (18 < (e.fs.length:Int)) with
      | true=>
        rw [d1,d2] at hE
        simp (maxSteps:=1000000) -dsimp only [go_sem,hg,↓q1,aL,aE,d1,d2]
        exact ⟨by omega,by omega,bad hE _⟩
      | false=>
        rw [d1,d2] at hE
        simp only [Bool.or_self,Bool.not_false,Bool.true_and] at hE
        simp (maxSteps:=1000000) -dsimp only [go_sem,hg,↓q1,aL,aE,d1,d2]
        refine ⟨by omega,by omega,?_⟩
        refine aK (α:=Nat) (fun k=>[(1,.va (.c1 (.pt 0 0))),(5,iS .i64 i),(6,iS .i64 k)]) (fun _=>[.cells (aE s) 25])
          (fun k=>k<=e.fs.length/\(e.fs.drop k).all qA=e.fs.all qA) (fun k=>e.fs.length - k) 0 1 ⟨Nat.zero_le _,rfl⟩ ?_ ?_ ?_
        · simp -dsimp only [go_sem]<;>simp
        · simp -dsimp only [go_sem,aE]<;>simp
        rintro k ⟨hk,ho2⟩
        rcases Nat.lt_or_ge k e.fs.length with hkt | hkg
        · have hgk:decide ((k:Int) < (e.fs.length:Int))=true:=by simp; omega
          obtain ⟨f,hn⟩:∃ n,e.fs[k]? = some n:=⟨_,List.getElem?_eq_getElem hkt⟩
          have q2:=aO (row:=aR) hn
          have hity:eK (aM f.ty):=dH (hfs f (List.mem_of_getElem? hn)).ty
          rw [mZ hn] at ho2
          have hFl:qA f=!(decide (40 < ((bl f.nm).length:Int)) || !(fewT f.ty)):=by
            unfold qA
            have c40:∀ b:Nat,decide (40 < (b:Int))=decide (40 < b):=fun b=>by simp; omega
            simp only [c40]
          cases d3:decide (40 < ((bl f.nm).length:Int)) with
          | true=>
            rw [d3] at hFl
            simp (maxSteps:=1000000) -dsimp only [go_sem,↓q1,aL,aE,hgk]
            simp (maxSteps:=1000000) -dsimp only [go_sem,aR,hn,Option.some.injEq,forall_eq',d3]
            refine ⟨by omega,by omega,by omega,bad (by rw [hE,<-ho2,hFl]; rfl) _⟩
          | false=>
            rw [d3] at hFl
            simp only [Bool.false_or,Bool.not_not] at hFl
            rw [hFl] at ho2
            simp (maxSteps:=1000000) -dsimp only [go_sem,↓q1,aL,aE,hgk]
            simp (maxSteps:=1000000) -dsimp only [go_sem,aR,tI,hity,hn,Option.some.injEq,forall_eq',d3]
            refine ⟨by omega,by omega,by omega,by omega,by omega,fun h2=>bad (by rw [hE,<-ho2,h2]; rfl) _,fun h2=>?_⟩
            rw [show fewT f.ty=true by simpa using h2,Bool.true_and] at ho2
            refine ⟨by omega,aC (k + 1) 1 ⟨by omega,ho2⟩ (by omega) ?_ ?_⟩
            · simp -dsimp only [go_sem]<;>simp
            · simp -dsimp only [go_sem,aE]<;>simp
        · have hgk:decide ((k:Int) < (e.fs.length:Int))=false:=by simp; omega
          obtain rfl:k=e.fs.length:=by omega
          rw [oX] at ho2
          rw [hE,<-ho2,Bool.true_and] at ho
          simp (maxSteps:=1000000) -dsimp only [go_sem,↓q1,aL,aE,hgk]
          refine ⟨by omega,by omega,aC (i + 1) 1 ⟨by omega,ho⟩ (by omega) ?_ ?_⟩
          · simp -dsimp only [go_sem]<;>simp
          · simp -dsimp only [go_sem,aE]<;>simp
    · have hg:decide ((i:Int) < (s.ss.length:Int))=false:=by simp; omega
      obtain rfl:i=s.ss.length:=by omega
      rw [oX] at ho
      simp (maxSteps:=1000000) -dsimp only [go_sem,hg,aE]
      exact fin true _ (by rw [hF,<-ho])
end Go.Proofs.YtkpohmhenegkiaaGreatDoor
namespace Go.Proofs.YtkpohmhenegkiaaGreatDoor
open Go.W
def RW:PC:=.seq (.reg [.e 3 (.bx 25 (.t 0)),.e 4 (.bx 28 (.t 1)),.e 5 (.bx 32 (.t 2)),.q 6 (.mv (.i 0))]) (.seq (.seq (.reg [.l 7 (.ldn 5 (.t 5)),.a 8 (.cq 52 [(.t 7),(.i 6)]),.q 9 (.bin .gtr true (.t 8) (.i 6))]) (.cond (.t 9) (.seq (.reg [.q 6 (.mv (.i 9))]) .ret) .skip)) (.seq (.reg [.l 10 (.ldn 3 (.t 3)),.q 11 (.bd [(.int .i64 0),(.slice none 0 0),(.slice none 0 0)] [(0,3,(.t 10))]),.l 12 (.ldn 4 (.t 4)),.l 13 (.ldn 5 (.t 5)),.a 14 (.cq 53 [(.t 11),(.t 12),(.t 13)]),.v 6 14]) .ret))
def SA:List RV:=[.mv (.t 6)]
theorem aMV:aN Tryz.prog true ⟨fun r k=>if r=1/\k=1 then .q else if r=3/\k=4 then .q else .own [],fun _=>false⟩ Tryz.f23=some (RW,SA):=by kernel_rfl
def QW:PC:=.seq (.reg [.e 2 (.bx 32 (.t 0)),.q 4 (.mv (.i 0))]) (.seq (.seq (.reg [.q 10 (.fa 0 (.t 2)),.l 11 (.ld1 (.t 10)),.q 12 (.bin .neq true (.t 11) (.i 5)),.v 13 12,⟨some 14,(some (13,true)),.q (.fa 0 (.t 2))⟩,⟨some 15,(some (13,true)),.l (.ld1 (.t 14))⟩,⟨some 16,(some (13,true)),.q (.bin .neq true (.t 15) (.i 6))⟩,.a 17 (.pick (.t 13) (.t 16) (.k (.bool false))),.v 18 17,⟨some 19,(some (18,true)),.q (.fa 3 (.t 2))⟩,⟨some 20,(some (18,true)),.l (.ld1 (.t 19))⟩,⟨some 21,(some (18,true)),.q (.lnL (.t 20))⟩,⟨some 22,(some (18,true)),.q (.bin .eql true (.t 21) (.i 0))⟩,.a 23 (.pick (.t 18) (.t 22) (.k (.bool false))),.v 24 23,⟨some 25,(some (24,true)),.q (.fa 4 (.t 2))⟩,⟨some 26,(some (24,true)),.l (.ld1 (.t 25))⟩,⟨some 27,(some (24,true)),.q (.lnL (.t 26))⟩,⟨some 28,(some (24,true)),.q (.bin .eql true (.t 27) (.i 0))⟩,.a 29 (.pick (.t 24) (.t 28) (.k (.bool false)))]) (.cond (.t 29) (.seq (.reg [.q 4 (.mv (.i 0))]) .ret) .skip)) (.seq (.reg [.q 5 (.mv (.i 0))]) (.seq (.seq (.reg [.q 30 (.fa 3 (.t 2)),.l 31 (.ld1 (.t 30)),.q 32 (.lnL (.t 31)),.q 33 (.mv (.i 0))]) (.block 0 (.loop (.seq (.reg [.q 34 (.bin .lss true (.t 33) (.t 32))]) (.seq (.cond (.t 34) .skip (.exit 0)) (.seq (.block 1 (.seq (.reg [.l 35 (.ia 5 (.t 31) (.t 33)),.l 36 (.ldn 5 (.t 35)),.e 7 (.al (.agg #[(.int .i64 0),(.int .i64 0),(.string (mk [])),(.slice none 0 0),(.slice none 0 0)]) 32),.s (.st 5 (.t 7) (.t 36))]) (.seq (.reg [.v 37 5,.v 38 1,.q 39 (.bin .leq true (.t 37) (.t 38))]) (.cond (.t 39) (.reg [.v 40 5,.l 41 (.ldn 5 (.t 7)),.v 42 1,.q 43 (.bin .sub true (.t 42) (.i 1)),.a 44 (.cq 52 [(.t 41),(.t 43)]),.q 45 (.mx true (.t 40) (.t 44)),.v 5 45]) .skip)))) (.reg [.q 46 (.bin .add true (.t 33) (.i 1)),.v 33 46]))))))) (.seq (.seq (.reg [.q 47 (.fa 4 (.t 2)),.l 48 (.ld1 (.t 47)),.q 49 (.lnL (.t 48)),.q 50 (.mv (.i 0))]) (.block 2 (.loop (.seq (.reg [.q 51 (.bin .lss true (.t 50) (.t 49))]) (.seq (.cond (.t 51) .skip (.exit 2)) (.seq (.block 3 (.seq (.reg [.l 52 (.ia 6 (.t 48) (.t 50)),.l 53 (.ldn 6 (.t 52)),.e 9 (.al (.agg #[(.int .i64 0),(.int .i64 0),(.int .i64 0),(.string (mk [])),(.slice none 0 0),(.slice none 0 0)]) 57),.s (.st 6 (.t 9) (.t 53))]) (.seq (.reg [.v 54 5,.v 55 1,.q 56 (.bin .leq true (.t 54) (.t 55))]) (.cond (.t 56) (.reg [.v 57 5,.q 58 (.fa 1 (.t 9)),.l 59 (.ldn 5 (.t 58)),.v 60 1,.q 61 (.bin .sub true (.t 60) (.i 1)),.a 62 (.cq 52 [(.t 59),(.t 61)]),.q 63 (.mx true (.t 57) (.t 62)),.v 5 63]) .skip)))) (.reg [.q 64 (.bin .add true (.t 50) (.i 1)),.v 50 64]))))))) (.seq (.reg [.v 65 5,.q 66 (.bin .add true (.i 1) (.t 65)),.v 4 66]) .ret)))))
def Q2:List RV:=[.mv (.t 4)]
theorem aN0:aN Tryz.prog true ⟨fun r k=>if r=8/\k=4 then .q else if r=14/\k=5 then .q else .own [],fun _=>false⟩ Tryz.f52=some (QW,Q2):=by kernel_rfl
def v8:PC:=.seq (.reg [.e 3 (.bx 105 (.t 0)),.e 4 (.bx 28 (.t 1)),.e 5 (.bx 32 (.t 2)),.q 6 (.mv (.i 0))]) (.seq (.seq (.reg [.l 8 (.ldn 3 (.t 3)),.l 9 (.ldn 4 (.t 4)),.a 10 (.cq 90 [(.t 8),(.t 9)]),.q 11 (.not (.t 10)),.v 12 11,⟨some 13,(some (12,false)),.q (.fa 0 (.t 5))⟩,⟨some 14,(some (12,false)),.l (.ld1 (.t 13))⟩,⟨some 15,(some (12,false)),.q (.fa 0 (.t 4))⟩,⟨some 16,(some (12,false)),.l (.ld1 (.t 15))⟩,⟨some 17,(some (12,false)),.q (.bin .neq true (.t 14) (.t 16))⟩,.a 18 (.pick (.t 12) (.k (.bool true)) (.t 17))]) (.cond (.t 18) (.seq (.reg [.q 6 (.mv (.i 13))]) .ret) .skip)) (.seq (.reg [.l 19 (.ldn 3 (.t 3)),.q 20 (.mh 91 [(.t 19)]),.v 7 20]) (.seq (.seq (.reg [.q 21 (.fa 0 (.t 4)),.l 22 (.ld1 (.t 21))]) (.block 0 (.seq (.reg [.q 24 (.bin .eql true (.t 22) (.i 4)),.v 23 24]) (.cond (.t 23) (.reg [.l 25 (.ldn 3 (.t 3)),.q 26 (.mh 92 [(.t 25)]),.v 7 26]) (.seq (.reg [.q 28 (.bin .eql true (.t 22) (.i 5)),.v 27 28]) (.cond (.t 27) (.reg [.l 29 (.ldn 3 (.t 3)),.q 30 (.mh 93 [(.t 29)]),.v 7 30]) (.seq (.reg [.q 32 (.bin .eql true (.t 22) (.i 6)),.v 31 32]) (.cond (.t 31) (.reg [.l 33 (.ldn 3 (.t 3)),.q 34 (.mh 94 [(.t 33)]),.v 7 34]) .skip)))))))) (.seq (.reg [.v 35 7,.l 36 (.ldn 4 (.t 4)),.l 37 (.ldn 5 (.t 5)),.a 38 (.ca (.t 35) [(.t 36),(.t 37)] []),.v 6 38]) .ret))))
def v6:List RV:=[.mv (.t 6)]
theorem aNQ:aN Tryz.prog true ⟨fun r k=>if r=1/\k=2 then .q else .own [],fun _=>false⟩ Tryz.f53=some (v8,v6):=by kernel_rfl
def aDF:PC:=.seq (.reg [.e 2 (.bx 25 (.t 0)),.e 3 (.bx 28 (.t 1)),.e 4 (.al (.agg #[(.int .i64 0),(.int .i64 0),(.string (mk [])),(.slice none 0 0),(.slice none 0 0)]) 32)]) (.seq (.reg [.l 5 (.ldn 3 (.t 2)),.q 6 (.bd [(.int .i64 0),(.slice none 0 0),(.slice none 0 0)] [(0,3,(.t 5))]),.l 7 (.ldn 4 (.t 3)),.a 8 (.cl 114 [(.t 6),(.t 7),(.i 22)] []),.s (.st 5 (.t 4) (.t 8))]) .ret)
def aAK:List RV:=[.ld (.ldn 5 (.t 4))]
theorem aL7:aN Tryz.prog true ⟨fun _ _=>.own [],fun _=>false⟩ Tryz.f71=some (aDF,aAK):=by kernel_rfl
def m5:PC:=.seq (.gh (.reg [.v 31 5,.v 32 31,⟨some 33,(some (32,true)),.q (.fa 1 (.t 3))⟩,⟨some 34,(some (32,true)),.l (.ld1 (.t 33))⟩,⟨some 35,(some (32,true)),.q (.bin .eql true (.t 34) (.i 8))⟩,⟨some 36,(some (32,true)),.q (.mv (.t 35))⟩,⟨some 37,(some (36,false)),.q (.fa 1 (.t 3))⟩,⟨some 38,(some (36,false)),.l (.ld1 (.t 37))⟩,⟨some 39,(some (36,false)),.q (.bin .eql true (.t 38) (.i 16))⟩,⟨some 40,(some (32,true)),.pick (.t 36) (.k (.bool true)) (.t 39)⟩,⟨some 41,(some (32,true)),.q (.mv (.t 40))⟩,⟨some 42,(some (41,false)),.q (.fa 1 (.t 3))⟩,⟨some 43,(some (41,false)),.l (.ld1 (.t 42))⟩,⟨some 44,(some (41,false)),.q (.bin .eql true (.t 43) (.i 32))⟩,⟨some 45,(some (32,true)),.pick (.t 41) (.k (.bool true)) (.t 44)⟩,⟨some 46,(some (32,true)),.q (.mv (.t 45))⟩,⟨some 47,(some (46,false)),.q (.fa 1 (.t 3))⟩,⟨some 48,(some (46,false)),.l (.ld1 (.t 47))⟩,⟨some 49,(some (46,false)),.q (.bin .eql true (.t 48) (.i 64))⟩,⟨some 50,(some (32,true)),.pick (.t 46) (.k (.bool true)) (.t 49)⟩,.a 51 (.pick (.t 32) (.t 50) (.k (.bool false))),.v 4 51])) .ret
@[go_sem ↓] theorem aOR:aT m5:=aU _
def o9:PC:=.seq (.gh (.reg [.v 54 5,.v 55 54,⟨some 56,(some (55,true)),.q (.fa 1 (.t 3))⟩,⟨some 57,(some (55,true)),.l (.ld1 (.t 56))⟩,⟨some 58,(some (55,true)),.q (.bin .eql true (.t 57) (.i 8))⟩,⟨some 59,(some (55,true)),.q (.mv (.t 58))⟩,⟨some 60,(some (59,false)),.q (.fa 1 (.t 3))⟩,⟨some 61,(some (59,false)),.l (.ld1 (.t 60))⟩,⟨some 62,(some (59,false)),.q (.bin .eql true (.t 61) (.i 16))⟩,⟨some 63,(some (55,true)),.pick (.t 59) (.k (.bool true)) (.t 62)⟩,⟨some 64,(some (55,true)),.q (.mv (.t 63))⟩,⟨some 65,(some (64,false)),.q (.fa 1 (.t 3))⟩,⟨some 66,(some (64,false)),.l (.ld1 (.t 65))⟩,⟨some 67,(some (64,false)),.q (.bin .eql true (.t 66) (.i 32))⟩,⟨some 68,(some (55,true)),.pick (.t 64) (.k (.bool true)) (.t 67)⟩,.a 69 (.pick (.t 55) (.t 68) (.k (.bool false))),.v 4 69])) .ret
@[go_sem ↓] theorem aK4:aT o9:=aU _
def kB:PC:=.seq (.gh (.reg [.q 85 (.fa 2 (.t 3)),.l 86 (.ld1 (.t 85)),.q 87 (.bin .eql true (.t 86) (.k (.string (mk [])))),.v 88 87,⟨some 89,(some (88,true)),.q (.fa 1 (.t 3))⟩,⟨some 90,(some (88,true)),.l (.ld1 (.t 89))⟩,⟨some 91,(some (88,true)),.q (.bin .geq true (.t 90) (.i 1))⟩,.a 92 (.pick (.t 88) (.t 91) (.k (.bool false))),.v 93 92,⟨some 94,(some (93,true)),.q (.fa 1 (.t 3))⟩,⟨some 95,(some (93,true)),.l (.ld1 (.t 94))⟩,⟨some 96,(some (93,true)),.q (.bin .leq true (.t 95) (.i 32))⟩,.a 97 (.pick (.t 93) (.t 96) (.k (.bool false))),.v 98 97,⟨some 99,(some (98,true)),.q (.fa 3 (.t 3))⟩,⟨some 100,(some (98,true)),.l (.ld1 (.t 99))⟩,⟨some 101,(some (98,true)),.q (.lnL (.t 100))⟩,⟨some 102,(some (98,true)),.q (.bin .eql true (.t 101) (.i 1))⟩,.a 103 (.pick (.t 98) (.t 102) (.k (.bool false))),.v 104 103,⟨some 105,(some (104,true)),.l (.ldn 3 (.t 2))⟩,⟨some 106,(some (104,true)),.q (.fa 3 (.t 3))⟩,⟨some 107,(some (104,true)),.l (.ld1 (.t 106))⟩,⟨some 108,(some (104,true)),.l (.ia 4 (.t 107) (.i 0))⟩,⟨some 109,(some (104,true)),.l (.ldn 4 (.t 108))⟩,⟨some 110,(some (104,true)),.cq 90 [(.t 105),(.t 109)]⟩,.a 111 (.pick (.t 104) (.t 110) (.k (.bool false))),.v 4 111])) .ret
@[go_sem ↓] theorem aJN:aT kB:=aU _
def BG:PC:=.seq (.gh (.reg [.v 122 7,.v 123 122,⟨some 124,(some (123,true)),.q (.fa 1 (.t 3))⟩,⟨some 125,(some (123,true)),.l (.ld1 (.t 124))⟩,⟨some 126,(some (123,true)),.q (.bin .eql true (.t 125) (.i 0))⟩,.a 127 (.pick (.t 123) (.t 126) (.k (.bool false))),.v 128 127,⟨some 129,(some (128,true)),.q (.fa 3 (.t 3))⟩,⟨some 130,(some (128,true)),.l (.ld1 (.t 129))⟩,⟨some 131,(some (128,true)),.q (.lnL (.t 130))⟩,⟨some 132,(some (128,true)),.q (.bin .eql true (.t 131) (.i 0))⟩,.a 133 (.pick (.t 128) (.t 132) (.k (.bool false))),.v 4 133])) .ret
@[go_sem ↓] theorem aJ5:aT BG:=aU _
def B4:PC:=.seq (.gh (.reg [.q 115 (.fa 0 (.t 2)),.l 116 (.ldn 3 (.t 115)),.q 117 (.fa 2 (.t 3)),.l 118 (.ld1 (.t 117)),.a 119 (.cl 103 [(.t 116),(.t 118)] []),.v 114 119,.q 120 (.ex (.t 114) 0),.q 121 (.ex (.t 114) 1),.e 6 (.al (.agg #[(.string (mk [])),(.slice none 0 0)]) 95),.s (.st 2 (.t 6) (.t 120)),.v 7 121])) (BG)
@[go_sem ↓] theorem aJQ:aT B4:=aU _
def BE:PC:=.seq (.gh (.reg [.v 144 9,.v 145 144,⟨some 146,(some (145,true)),.q (.fa 1 (.t 3))⟩,⟨some 147,(some (145,true)),.l (.ld1 (.t 146))⟩,⟨some 148,(some (145,true)),.q (.bin .eql true (.t 147) (.i 0))⟩,.a 149 (.pick (.t 145) (.t 148) (.k (.bool false))),.v 150 149,⟨some 151,(some (150,true)),.q (.fa 3 (.t 3))⟩,⟨some 152,(some (150,true)),.l (.ld1 (.t 151))⟩,⟨some 153,(some (150,true)),.q (.lnL (.t 152))⟩,⟨some 154,(some (150,true)),.q (.bin .eql true (.t 153) (.i 0))⟩,.a 155 (.pick (.t 150) (.t 154) (.k (.bool false))),.v 4 155])) .ret
@[go_sem ↓] theorem aJP:aT BE:=aU _
def BF:PC:=.seq (.gh (.reg [.q 137 (.fa 0 (.t 2)),.l 138 (.ldn 3 (.t 137)),.q 139 (.fa 2 (.t 3)),.l 140 (.ld1 (.t 139)),.a 141 (.cl 98 [(.t 138),(.t 140)] []),.v 136 141,.q 142 (.ex (.t 136) 0),.q 143 (.ex (.t 136) 1),.e 8 (.al (.agg #[(.string (mk [])),(.slice none 0 0),(.slice none 0 0)]) 92),.s (.st 3 (.t 8) (.t 142)),.v 9 143])) (BE)
@[go_sem ↓] theorem aIZ:aT BF:=aU _
def B1:PC:=.seq (.gh (.reg [.q 135 (.bin .eql true (.t 20) (.i 7)),.v 134 135])) (.cond (.t 134) (BF) .skip)
@[go_sem ↓] theorem aJG:aT B1:=aU _
def AS:PC:=.seq (.gh (.reg [.q 113 (.bin .eql true (.t 20) (.i 6)),.v 112 113])) (.cond (.t 112) (B4) (B1))
@[go_sem ↓] theorem aJT:aT AS:=aU _
def A1:PC:=.seq (.gh (.reg [.q 84 (.bin .eql true (.t 20) (.i 5)),.v 83 84])) (.cond (.t 83) (kB) (AS))
@[go_sem ↓] theorem aJD:aT A1:=aU _
def GK:PC:=.seq (.gh (.reg [.q 71 (.bin .eql true (.t 20) (.i 4)),.v 70 71])) (.cond (.t 70) (.seq (.reg [.v 72 5,.v 73 72,⟨some 74,(some (73,true)),.q (.fa 1 (.t 3))⟩,⟨some 75,(some (73,true)),.l (.ld1 (.t 74))⟩,⟨some 76,(some (73,true)),.q (.bin .geq true (.t 75) (.i 1))⟩,.a 77 (.pick (.t 73) (.t 76) (.k (.bool false))),.v 78 77,⟨some 79,(some (78,true)),.q (.fa 1 (.t 3))⟩,⟨some 80,(some (78,true)),.l (.ld1 (.t 79))⟩,⟨some 81,(some (78,true)),.q (.bin .leq true (.t 80) (.i 2000))⟩,.a 82 (.pick (.t 78) (.t 81) (.k (.bool false))),.v 4 82]) .ret) (A1))
@[go_sem ↓] theorem aLF:aT GK:=aU _
def F6:PC:=.seq (.gh (.reg [.q 53 (.bin .eql true (.t 20) (.i 3)),.v 52 53])) (.cond (.t 52) (o9) (GK))
@[go_sem ↓] theorem aNB:aT F6:=aU _
def FF:PC:=.seq (.gh (.reg [.q 30 (.bin .eql true (.t 20) (.i 2)),.v 29 30])) (.cond (.t 29) (m5) (F6))
@[go_sem ↓] theorem aMS:aT FF:=aU _
def aD4:PC:=.seq (.reg [.e 2 (.bx 105 (.t 0)),.e 3 (.bx 28 (.t 1)),.q 4 (.mv (.k (.bool false)))]) (.seq (.reg [.q 10 (.fa 2 (.t 3)),.l 11 (.ld1 (.t 10)),.q 12 (.bin .eql true (.t 11) (.k (.string (mk [])))),.v 13 12,⟨some 14,(some (13,true)),.q (.fa 3 (.t 3))⟩,⟨some 15,(some (13,true)),.l (.ld1 (.t 14))⟩,⟨some 16,(some (13,true)),.q (.lnL (.t 15))⟩,⟨some 17,(some (13,true)),.q (.bin .eql true (.t 16) (.i 0))⟩,.a 18 (.pick (.t 13) (.t 17) (.k (.bool false))),.v 5 18]) (.seq (.seq (.reg [.q 19 (.fa 0 (.t 3)),.l 20 (.ld1 (.t 19))]) (.block 0 (.seq (.reg [.q 22 (.bin .eql true (.t 20) (.i 1)),.v 21 22]) (.cond (.t 21) (.seq (.reg [.v 23 5,.v 24 23,⟨some 25,(some (24,true)),.q (.fa 1 (.t 3))⟩,⟨some 26,(some (24,true)),.l (.ld1 (.t 25))⟩,⟨some 27,(some (24,true)),.q (.bin .eql true (.t 26) (.i 0))⟩,.a 28 (.pick (.t 24) (.t 27) (.k (.bool false))),.v 4 28]) .ret) (FF))))) (.seq (.reg [.q 4 (.mv (.k (.bool false)))]) .ret)))
def aB7:List RV:=[.mv (.t 4)]
theorem aN9:aN Tryz.prog true ⟨fun r k=>if r=12/\k=25 then .q else .own [],fun r=>[5,6,7,8,9,11,12,13,14,15,16,17,18].contains r⟩ Tryz.f90=some (aD4,aB7):=by kernel_rfl
def HE:PC:=.gh (.reg [.q 29 (.fa 1 (.t 5)),.l 30 (.ld1 (.t 29)),.q 31 (.bin .eql true (.t 30) (.i 0)),.v 32 31,⟨some 33,(some (32,false)),.q (.fa 1 (.t 5))⟩,⟨some 34,(some (32,false)),.l (.ld1 (.t 33))⟩,⟨some 35,(some (32,false)),.q (.bin .eql true (.t 34) (.i 1))⟩,.a 36 (.pick (.t 32) (.k (.bool true)) (.t 35)),.v 7 36])
@[go_sem ↓] theorem aON:aT HE:=aU _
def yT:PC:=.gh (.reg [.q 39 (.fa 1 (.t 4)),.l 40 (.ld1 (.t 39)),.q 41 (.bin .eql true (.t 40) (.i 64)),.v 42 41,⟨some 43,(some (42,false)),.q (.fa 1 (.t 5))⟩,⟨some 44,(some (42,false)),.l (.ld1 (.t 43))⟩,⟨some 45,(some (42,false)),.q (.fa 1 (.t 4))⟩,⟨some 46,(some (42,false)),.l (.ld1 (.t 45))⟩,⟨some 47,(some (42,false)),.q (.bin .sub true (.t 46) (.i 1))⟩,⟨some 48,(some (42,false)),.q (.bin .shl true (.i (-1)) (.t 47))⟩,⟨some 49,(some (42,false)),.q (.bin .geq true (.t 44) (.t 48))⟩,⟨some 50,(some (42,false)),.q (.mv (.t 49))⟩,⟨some 51,(some (50,true)),.q (.fa 1 (.t 5))⟩,⟨some 52,(some (50,true)),.l (.ld1 (.t 51))⟩,⟨some 53,(some (50,true)),.q (.fa 1 (.t 4))⟩,⟨some 54,(some (50,true)),.l (.ld1 (.t 53))⟩,⟨some 55,(some (50,true)),.q (.bin .sub true (.t 54) (.i 1))⟩,⟨some 56,(some (50,true)),.q (.bin .shl true (.i 1) (.t 55))⟩,⟨some 57,(some (50,true)),.q (.bin .lss true (.t 52) (.t 56))⟩,⟨some 58,(some (42,false)),.pick (.t 50) (.t 57) (.k (.bool false))⟩,.a 59 (.pick (.t 42) (.k (.bool true)) (.t 58)),.v 7 59])
@[go_sem ↓] theorem aKG:aT yT:=aU _
def AD:PC:=.gh (.reg [.q 62 (.fa 1 (.t 5)),.l 63 (.ld1 (.t 62)),.q 64 (.bin .geq true (.t 63) (.i 0)),.v 65 64,⟨some 66,(some (65,true)),.q (.fa 1 (.t 5))⟩,⟨some 67,(some (65,true)),.l (.ld1 (.t 66))⟩,⟨some 68,(some (65,true)),.q (.fa 1 (.t 4))⟩,⟨some 69,(some (65,true)),.l (.ld1 (.t 68))⟩,⟨some 70,(some (65,true)),.q (.bin .shl true (.i 1) (.t 69))⟩,⟨some 71,(some (65,true)),.q (.bin .lss true (.t 67) (.t 70))⟩,.a 72 (.pick (.t 65) (.t 71) (.k (.bool false))),.v 7 72])
@[go_sem ↓] theorem aJI:aT AD:=aU _
def BC:PC:=.gh (.reg [.q 83 (.fa 2 (.t 8)),.l 84 (.ld1 (.t 83)),.q 85 (.mf 118 [(.t 5)]),.a 86 (.cl 117 [(.t 84),(.t 85)] [2]),.v 7 86])
@[go_sem ↓] theorem aJU:aT BC:=aU _
def AK:PC:=.seq (.gh (.reg [.q 76 (.fa 0 (.t 3)),.l 77 (.ldn 3 (.t 76)),.q 78 (.fa 2 (.t 4)),.l 79 (.ld1 (.t 78)),.a 80 (.cl 98 [(.t 77),(.t 79)] []),.v 75 80,.q 81 (.ex (.t 75) 0),.q 82 (.ex (.t 75) 1),.e 8 (.al (.agg #[(.string (mk [])),(.slice none 0 0),(.slice none 0 0)]) 92),.s (.st 3 (.t 8) (.t 81)),.v 9 82])) (BC)
@[go_sem ↓] theorem aJR:aT AK:=aU _
def AO:PC:=.seq (.gh (.reg [.q 74 (.bin .eql true (.t 26) (.i 7)),.v 73 74])) (.cond (.t 73) (AK) .skip)
@[go_sem ↓] theorem aJ4:aT AO:=aU _
def IS:PC:=.seq (.gh (.reg [.q 61 (.bin .eql true (.t 26) (.i 3)),.v 60 61])) (.cond (.t 60) (AD) (AO))
@[go_sem ↓] theorem aOL:aT IS:=aU _
def G7:PC:=.seq (.gh (.reg [.q 38 (.bin .eql true (.t 26) (.i 2)),.v 37 38])) (.cond (.t 37) (yT) (IS))
@[go_sem ↓] theorem aMP:aT G7:=aU _
def jD:PC:=.seq (.seq (.gh (.reg [.v 87 7,.q 88 (.not (.t 87))])) (.cond (.t 88) (.seq (.reg [.q 6 (.mv (.i 4))]) .ret) .skip)) (.seq (.reg [.q 6 (.mv (.i 0))]) .ret)
@[go_sem ↓] theorem aI4:aT jD:=aU _
def GX:PC:=.seq (.reg [.e 3 (.bx 105 (.t 0)),.e 4 (.bx 28 (.t 1)),.e 5 (.bx 32 (.t 2)),.q 6 (.mv (.i 0))]) (.seq (.seq (.reg [.q 10 (.fa 2 (.t 5)),.l 11 (.ld1 (.t 10)),.q 12 (.bin .neq true (.t 11) (.k (.string (mk [])))),.v 13 12,⟨some 14,(some (13,false)),.q (.fa 3 (.t 5))⟩,⟨some 15,(some (13,false)),.l (.ld1 (.t 14))⟩,⟨some 16,(some (13,false)),.q (.lnL (.t 15))⟩,⟨some 17,(some (13,false)),.q (.bin .gtr true (.t 16) (.i 0))⟩,.a 18 (.pick (.t 13) (.k (.bool true)) (.t 17)),.v 19 18,⟨some 20,(some (19,false)),.q (.fa 4 (.t 5))⟩,⟨some 21,(some (19,false)),.l (.ld1 (.t 20))⟩,⟨some 22,(some (19,false)),.q (.lnL (.t 21))⟩,⟨some 23,(some (19,false)),.q (.bin .gtr true (.t 22) (.i 0))⟩,.a 24 (.pick (.t 19) (.k (.bool true)) (.t 23))]) (.cond (.t 24) (.seq (.reg [.q 6 (.mv (.i 13))]) .ret) .skip)) (.seq (.reg [.q 7 (.mv (.k (.bool false)))]) (.seq (.seq (.reg [.q 25 (.fa 0 (.t 4)),.l 26 (.ld1 (.t 25))]) (.block 0 (.seq (.reg [.q 28 (.bin .eql true (.t 26) (.i 1)),.v 27 28]) (.cond (.t 27) (HE) (G7))))) (jD))))
def GG:List RV:=[.mv (.t 6)]
theorem aN6:aN Tryz.prog true ⟨fun r k=>if r=13/\k=3 then .own [2] else .own [],fun r=>[7,9,11,12,14,6,8,10,13].contains r⟩ Tryz.f91=some (GX,GG):=by kernel_rfl
def aDI:PC:=.seq (.reg [.e 3 (.bx 105 (.t 0)),.e 4 (.bx 28 (.t 1)),.e 5 (.bx 32 (.t 2)),.q 6 (.mv (.i 0))]) (.seq (.block 0 (.seq (.reg [.q 8 (.fa 1 (.t 5)),.l 9 (.ld1 (.t 8)),.q 10 (.bin .neq true (.t 9) (.i 0)),.v 11 10,⟨some 12,(some (11,false)),.q (.fa 3 (.t 5))⟩,⟨some 13,(some (11,false)),.l (.ld1 (.t 12))⟩,⟨some 14,(some (11,false)),.q (.lnL (.t 13))⟩,⟨some 15,(some (11,false)),.q (.bin .gtr true (.t 14) (.i 0))⟩,.a 16 (.pick (.t 11) (.k (.bool true)) (.t 15)),.v 17 16,⟨some 18,(some (17,false)),.q (.fa 4 (.t 5))⟩,⟨some 19,(some (17,false)),.l (.ld1 (.t 18))⟩,⟨some 20,(some (17,false)),.q (.lnL (.t 19))⟩,⟨some 21,(some (17,false)),.q (.bin .gtr true (.t 20) (.i 0))⟩,.a 22 (.pick (.t 17) (.k (.bool true)) (.t 21)),.v 7 22]) (.cond (.t 7) (.seq (.reg [.q 6 (.mv (.i 13))]) .ret) (.seq (.reg [.q 24 (.fa 2 (.t 5)),.l 25 (.ld1 (.t 24)),.q 26 (.lnS (.t 25)),.q 27 (.fa 1 (.t 4)),.l 28 (.ld1 (.t 27)),.q 29 (.bin .gtr true (.t 26) (.t 28)),.v 23 29]) (.cond (.t 23) (.seq (.reg [.q 6 (.mv (.i 3))]) .ret) .skip))))) (.seq (.reg [.q 6 (.mv (.i 0))]) .ret))
def aAI:List RV:=[.mv (.t 6)]
theorem aNW:aN Tryz.prog true ⟨fun _ _=>.own [],fun _=>false⟩ Tryz.f92=some (aDI,aAI):=by kernel_rfl
def LZ:PC:=.seq (.reg [.e 3 (.bx 105 (.t 0)),.e 4 (.bx 28 (.t 1)),.e 5 (.bx 32 (.t 2)),.q 6 (.mv (.i 0))]) (.seq (.block 0 (.seq (.reg [.q 11 (.fa 1 (.t 5)),.l 12 (.ld1 (.t 11)),.q 13 (.bin .neq true (.t 12) (.i 0)),.v 14 13,⟨some 15,(some (14,false)),.q (.fa 2 (.t 5))⟩,⟨some 16,(some (14,false)),.l (.ld1 (.t 15))⟩,⟨some 17,(some (14,false)),.q (.bin .neq true (.t 16) (.k (.string (mk []))))⟩,.a 18 (.pick (.t 14) (.k (.bool true)) (.t 17)),.v 19 18,⟨some 20,(some (19,false)),.q (.fa 4 (.t 5))⟩,⟨some 21,(some (19,false)),.l (.ld1 (.t 20))⟩,⟨some 22,(some (19,false)),.q (.lnL (.t 21))⟩,⟨some 23,(some (19,false)),.q (.bin .gtr true (.t 22) (.i 0))⟩,.a 24 (.pick (.t 19) (.k (.bool true)) (.t 23)),.v 10 24]) (.cond (.t 10) (.seq (.reg [.q 6 (.mv (.i 13))]) .ret) (.seq (.reg [.q 26 (.fa 3 (.t 5)),.l 27 (.ld1 (.t 26)),.q 28 (.lnL (.t 27)),.q 29 (.fa 1 (.t 4)),.l 30 (.ld1 (.t 29)),.q 31 (.bin .gtr true (.t 28) (.t 30)),.v 25 31]) (.cond (.t 25) (.seq (.reg [.q 6 (.mv (.i 3))]) .ret) .skip))))) (.seq (.seq (.reg [.q 32 (.fa 3 (.t 5)),.l 33 (.ld1 (.t 32)),.q 34 (.lnL (.t 33)),.q 35 (.mv (.i 0))]) (.block 1 (.loop (.seq (.reg [.q 36 (.bin .lss true (.t 35) (.t 34))]) (.seq (.cond (.t 36) .skip (.exit 1)) (.seq (.block 2 (.seq (.reg [.l 37 (.ia 5 (.t 33) (.t 35)),.l 38 (.ldn 5 (.t 37)),.e 8 (.al (.agg #[(.int .i64 0),(.int .i64 0),(.string (mk [])),(.slice none 0 0),(.slice none 0 0)]) 32),.s (.st 5 (.t 8) (.t 38))]) (.seq (.reg [.l 39 (.ldn 3 (.t 3)),.q 40 (.fa 3 (.t 4)),.l 41 (.ld1 (.t 40)),.l 42 (.ia 4 (.t 41) (.i 0)),.l 43 (.ldn 4 (.t 42)),.l 44 (.ldn 5 (.t 8)),.a 45 (.cq 53 [(.t 39),(.t 43),(.t 44)]),.v 9 45]) (.seq (.reg [.v 46 9,.q 47 (.bin .neq true (.t 46) (.i 0))]) (.cond (.t 47) (.seq (.reg [.v 48 9,.v 6 48]) .ret) .skip))))) (.reg [.q 49 (.bin .add true (.t 35) (.i 1)),.v 35 49]))))))) (.seq (.reg [.q 6 (.mv (.i 0))]) .ret)))
def MR:List RV:=[.mv (.t 6)]
theorem aM1:aN Tryz.prog true ⟨fun r k=>if r=8/\k=6 then .q else .own [],fun _=>false⟩ Tryz.f93=some (LZ,MR):=by kernel_rfl
def xQ:PC:=.seq (.gh (.reg [.v 63 13,.q 64 (.bin .neq true (.t 63) (.i 0))])) (.cond (.t 64) (.seq (.reg [.v 65 13,.v 6 65]) .ret) .skip)
@[go_sem ↓] theorem aKN:aT xQ:=aU _
def FR:PC:=.seq (.gh (.reg [.l 57 (.ldn 3 (.t 3)),.q 58 (.fa 2 (.t 11)),.l 59 (.ldn 4 (.t 58)),.q 60 (.fa 1 (.t 10)),.l 61 (.ldn 5 (.t 60)),.a 62 (.cq 53 [(.t 57),(.t 59),(.t 61)]),.v 13 62])) (xQ)
@[go_sem ↓] theorem aNF:aT FR:=aU _
def FA:PC:=.seq (.gh (.reg [.l 51 (.ldn 2 (.t 7)),.q 52 (.fa 0 (.t 10)),.l 53 (.ld1 (.t 52)),.a 54 (.cl 104 [(.t 51),(.t 53)] []),.v 50 54,.q 55 (.ex (.t 50) 0),.q 56 (.ex (.t 50) 1),.e 11 (.al (.agg #[(.int .i64 0),(.string (mk [])),(.int .i64 0),(.int .i64 0),(.string (mk [])),(.slice none 0 0),(.bool false)]) 97),.s (.st 7 (.t 11) (.t 55)),.v 12 56])) (FR)
@[go_sem ↓] theorem aKQ:aT FA:=aU _
def y6:PC:=.seq (.seq (.gh (.reg [.q 22 (.fa 1 (.t 5)),.l 23 (.ld1 (.t 22)),.q 24 (.bin .neq true (.t 23) (.i 0)),.v 25 24,⟨some 26,(some (25,false)),.q (.fa 2 (.t 5))⟩,⟨some 27,(some (25,false)),.l (.ld1 (.t 26))⟩,⟨some 28,(some (25,false)),.q (.bin .neq true (.t 27) (.k (.string (mk []))))⟩,.a 29 (.pick (.t 25) (.k (.bool true)) (.t 28)),.v 30 29,⟨some 31,(some (30,false)),.q (.fa 3 (.t 5))⟩,⟨some 32,(some (30,false)),.l (.ld1 (.t 31))⟩,⟨some 33,(some (30,false)),.q (.lnL (.t 32))⟩,⟨some 34,(some (30,false)),.q (.bin .gtr true (.t 33) (.i 0))⟩,.a 35 (.pick (.t 30) (.k (.bool true)) (.t 34)),.v 36 35,⟨some 37,(some (36,false)),.l (.ldn 2 (.t 7))⟩,⟨some 38,(some (36,false)),.q (.fa 4 (.t 5))⟩,⟨some 39,(some (36,false)),.l (.ld1 (.t 38))⟩,⟨some 40,(some (36,false)),.cq 119 [(.t 37),(.t 39)]⟩,⟨some 41,(some (36,false)),.q (.not (.t 40))⟩,.a 42 (.pick (.t 36) (.k (.bool true)) (.t 41))])) (.cond (.t 42) (.seq (.reg [.q 6 (.mv (.i 13))]) .ret) .skip)) (.seq (.seq (.reg [.q 43 (.fa 4 (.t 5)),.l 44 (.ld1 (.t 43)),.q 45 (.lnL (.t 44)),.q 46 (.mv (.i 0))]) (.block 0 (.loop (.seq (.reg [.q 47 (.bin .lss true (.t 46) (.t 45))]) (.seq (.cond (.t 47) .skip (.exit 0)) (.seq (.block 1 (.seq (.reg [.l 48 (.ia 6 (.t 44) (.t 46)),.l 49 (.ldn 6 (.t 48)),.e 10 (.al (.agg #[(.int .i64 0),(.int .i64 0),(.int .i64 0),(.string (mk [])),(.slice none 0 0),(.slice none 0 0)]) 57),.s (.st 6 (.t 10) (.t 49))]) (FA))) (.reg [.q 66 (.bin .add true (.t 46) (.i 1)),.v 46 66]))))))) (.seq (.reg [.q 6 (.mv (.i 0))]) .ret))
@[go_sem ↓] theorem aOI:aT y6:=aU _
def aC0:PC:=.seq (.reg [.e 3 (.bx 105 (.t 0)),.e 4 (.bx 28 (.t 1)),.e 5 (.bx 32 (.t 2)),.q 6 (.mv (.i 0))]) (.seq (.reg [.q 15 (.fa 0 (.t 3)),.l 16 (.ldn 3 (.t 15)),.q 17 (.fa 2 (.t 4)),.l 18 (.ld1 (.t 17)),.a 19 (.cl 103 [(.t 16),(.t 18)] []),.v 14 19,.q 20 (.ex (.t 14) 0),.q 21 (.ex (.t 14) 1),.e 7 (.al (.agg #[(.string (mk [])),(.slice none 0 0)]) 95),.s (.st 2 (.t 7) (.t 20)),.v 8 21]) (y6))
def aAU:List RV:=[.mv (.t 6)]
theorem aLB:aN Tryz.prog true ⟨fun r k=>if r=2/\k=18 then .q else if r=8/\k=5 then .q else .own [],fun r=>[2,7,8,9].contains r⟩ Tryz.f94=some (aC0,aAU):=by kernel_rfl
def zL:PC:=.seq (.reg [.e 3 (.bx 105 (.t 0)),.e 4 (.bx 28 (.t 1)),.e 6 (.al (.agg #[(.int .i64 0),(.int .i64 0),(.string (mk [])),(.slice none 0 0),(.slice none 0 0)]) 32)]) (.seq (.seq (.reg [.v 12 2,.q 13 (.bin .lss true (.t 12) (.i 0)),.v 14 13,⟨some 15,(some (14,false)),.l (.ldn 3 (.t 3))⟩,⟨some 16,(some (14,false)),.l (.ldn 4 (.t 4))⟩,⟨some 17,(some (14,false)),.cq 90 [(.t 15),(.t 16)]⟩,⟨some 18,(some (14,false)),.q (.not (.t 17))⟩,.a 19 (.pick (.t 14) (.k (.bool true)) (.t 18))]) (.cond (.t 19) (.seq (.reg [.q 20 (.bd [(.int .i64 0),(.int .i64 0),(.string (mk [])),(.slice none 0 0),(.slice none 0 0)] []),.s (.st 5 (.t 6) (.t 20))]) .ret) .skip)) (.seq (.reg [.q 21 (.fa 0 (.t 4)),.l 22 (.ld1 (.t 21)),.q 23 (.bd [(.int .i64 0),(.int .i64 0),(.string (mk [])),(.slice none 0 0),(.slice none 0 0)] [(0,1,(.t 22))]),.e 7 (.al (.agg #[(.int .i64 0),(.int .i64 0),(.string (mk [])),(.slice none 0 0),(.slice none 0 0)]) 32),.s (.st 5 (.t 7) (.t 23))]) (.seq (.seq (.reg [.q 24 (.fa 0 (.t 4)),.l 25 (.ld1 (.t 24)),.q 26 (.bin .neq true (.t 25) (.i 6))]) (.cond (.t 26) (.seq (.reg [.l 27 (.ldn 5 (.t 7)),.s (.st 5 (.t 6) (.t 27))]) .ret) .skip)) (.seq (.reg [.q 29 (.fa 0 (.t 3)),.l 30 (.ldn 3 (.t 29)),.q 31 (.fa 2 (.t 4)),.l 32 (.ld1 (.t 31)),.a 33 (.cl 103 [(.t 30),(.t 32)] []),.v 28 33,.q 34 (.ex (.t 28) 0),.q 35 (.ex (.t 28) 1),.e 8 (.al (.agg #[(.string (mk [])),(.slice none 0 0)]) 95),.s (.st 2 (.t 8) (.t 34)),.v 9 35]) (.seq (.seq (.reg [.q 36 (.fa 1 (.t 8)),.l 37 (.ld1 (.t 36)),.q 38 (.lnL (.t 37)),.q 39 (.mv (.i 0))]) (.block 0 (.loop (.seq (.reg [.q 40 (.bin .lss true (.t 39) (.t 38))]) (.seq (.cond (.t 40) .skip (.exit 0)) (.seq (.block 1 (.seq (.reg [.l 41 (.ia 7 (.t 37) (.t 39)),.l 42 (.ldn 7 (.t 41)),.e 11 (.al (.agg #[(.int .i64 0),(.string (mk [])),(.int .i64 0),(.int .i64 0),(.string (mk [])),(.slice none 0 0),(.bool false)]) 97),.s (.st 7 (.t 11) (.t 42))]) (.seq (.reg [.q 43 (.fa 6 (.t 11)),.l 44 (.ld1 (.t 43)),.q 45 (.not (.t 44))]) (.cond (.t 45) (.ord  [.q (.q 46 (.fa 4 (.t 7))),.q (.l 47 (.ld1 (.t 46))),.q (.q 48 (.fa 0 (.t 11))),.q (.l 49 (.ld1 (.t 48))),.q (.l 50 (.ldn 3 (.t 3))),.q (.q 51 (.fa 2 (.t 11))),.q (.l 52 (.ldn 4 (.t 51))),.q (.v 53 2),.q (.q 54 (.bin .sub true (.t 53) (.i 1))),.m (.a 55 (.cl 114 [(.t 50),(.t 52),(.t 54)] [])),.rc (.q 46 (.fa 4 (.t 7))),.rc (.l 47 (.ld1 (.t 46))),.rc (.q 48 (.fa 0 (.t 11))),.rc (.l 49 (.ld1 (.t 48))),.q (.q 56 (.bd [(.int .i64 0),(.int .i64 0),(.int .i64 0),(.string (mk [])),(.slice none 0 0),(.slice none 0 0)] [(0,1,(.t 49)),(1,5,(.t 55))])),.m (.e 57 (.bsl 57 6 [(.t 56)])),.rc (.q 46 (.fa 4 (.t 7))),.rc (.l 47 (.ld1 (.t 46))),.m (.e 58 (.ap 57 6 88 (.t 47) (.t 57))),.q (.q 59 (.fa 4 (.t 7))),.m (.s (.st 1 (.t 59) (.t 58)))]) .skip)))) (.reg [.q 60 (.bin .add true (.t 39) (.i 1)),.v 39 60]))))))) (.seq (.reg [.l 61 (.ldn 5 (.t 7)),.s (.st 5 (.t 6) (.t 61))]) .ret))))))
def xK:List RV:=[.ld (.ldn 5 (.t 6))]
theorem aIS:aN Tryz.prog true ⟨fun r k=>if r=1/\k=5 then .q else .own [],fun _=>false⟩ Tryz.f114=some (zL,xK):=by kernel_rfl
def VL:PC:=.seq (.reg [.q 3 (.mv (.k (.bool false)))]) (.seq (.reg [.v 4 0,.q 5 (.fa 1 (.t 1)),.l 6 (.ld1 (.t 5)),.q 7 (.bin .eql true (.t 4) (.t 6)),.v 3 7]) .ret)
def WV:List RV:=[.mv (.t 3)]
theorem aHH:aN Tryz.prog true ⟨fun _ _=>.own [],fun _=>false⟩ Tryz.f118=some (VL,WV):=by kernel_rfl
def mE:PC:=.seq (.gh (.reg [.v 25 8,.q 26 (.not (.t 25)),.v 27 26,⟨some 28,(some (27,false)),.q (.mv (.t 5))⟩,⟨some 29,(some (27,false)),.q (.bin .gtr true (.t 28) (.i 0))⟩,⟨some 30,(some (27,false)),.q (.mv (.t 29))⟩,⟨some 31,(some (30,true)),.q (.mv (.t 1))⟩,⟨some 32,(some (30,true)),.q (.mv (.t 5))⟩,⟨some 33,(some (30,true)),.q (.bin .sub true (.t 32) (.i 1))⟩,⟨some 34,(some (30,true)),.l (.ia 6 (.t 31) (.t 33))⟩,⟨some 35,(some (30,true)),.q (.fa 0 (.t 34))⟩,⟨some 36,(some (30,true)),.l (.ld1 (.t 35))⟩,⟨some 37,(some (30,true)),.q (.fa 0 (.t 6))⟩,⟨some 38,(some (30,true)),.l (.ld1 (.t 37))⟩,⟨some 39,(some (30,true)),.q (.bin .geq true (.t 36) (.t 38))⟩,⟨some 40,(some (27,false)),.pick (.t 30) (.t 39) (.k (.bool false))⟩,.a 41 (.pick (.t 27) (.k (.bool true)) (.t 40))])) (.cond (.t 41) (.seq (.reg [.q 4 (.mv (.k (.bool false)))]) .ret) .skip)
@[go_sem ↓] theorem aJZ:aT mE:=aU _
def BQ:PC:=.seq (.gh (.reg [.l 19 (.ldn 2 (.t 2)),.q 20 (.fa 0 (.t 6)),.l 21 (.ld1 (.t 20)),.a 22 (.cl 104 [(.t 19),(.t 21)] []),.v 18 22,.q 23 (.ex (.t 18) 0),.q 24 (.ex (.t 18) 1),.e 7 (.al (.agg #[(.int .i64 0),(.string (mk [])),(.int .i64 0),(.int .i64 0),(.string (mk [])),(.slice none 0 0),(.bool false)]) 97),.s (.st 7 (.t 7) (.t 23)),.v 8 24])) (mE)
@[go_sem ↓] theorem aJM:aT BQ:=aU _
def pV:PC:=.seq (.gh (.reg [.q 50 (.fa 6 (.t 10)),.l 51 (.ld1 (.t 50)),.q 52 (.not (.t 51)),.v 53 52,⟨some 54,(some (53,true)),.q (.mv (.t 1))⟩,⟨some 55,(some (53,true)),.q (.mf 142 [(.t 10)])⟩,⟨some 56,(some (53,true)),.cl 141 [(.t 54),(.t 55)] [1]⟩,⟨some 57,(some (53,true)),.q (.not (.t 56))⟩,.a 58 (.pick (.t 53) (.t 57) (.k (.bool false)))])) (.cond (.t 58) (.seq (.reg [.q 4 (.mv (.k (.bool false)))]) .ret) .skip)
@[go_sem ↓] theorem aH7:aT pV:=aU _
def BX:PC:=.seq (.seq (.gh (.reg [.q 43 (.fa 1 (.t 2)),.l 44 (.ld1 (.t 43)),.q 45 (.lnL (.t 44)),.q 46 (.mv (.i 0))])) (.block 2 (.loop (.seq (.reg [.q 47 (.bin .lss true (.t 46) (.t 45))]) (.seq (.cond (.t 47) .skip (.exit 2)) (.seq (.block 3 (.seq (.reg [.l 48 (.ia 7 (.t 44) (.t 46)),.l 49 (.ldn 7 (.t 48)),.e 10 (.al (.agg #[(.int .i64 0),(.string (mk [])),(.int .i64 0),(.int .i64 0),(.string (mk [])),(.slice none 0 0),(.bool false)]) 97),.s (.st 7 (.t 10) (.t 49))]) (pV))) (.reg [.q 59 (.bin .add true (.t 46) (.i 1)),.v 46 59]))))))) (.seq (.reg [.q 4 (.mv (.k (.bool true)))]) .ret)
@[go_sem ↓] theorem aI5:aT BX:=aU _
def V7:PC:=.seq (.reg [.e 2 (.bx 95 (.t 0)),.q 4 (.mv (.k (.bool false)))]) (.seq (.seq (.reg [.v 11 1,.q 12 (.lnL (.t 11)),.q 13 (.mv (.i 0))]) (.block 0 (.loop (.seq (.reg [.q 14 (.bin .lss true (.t 13) (.t 12))]) (.seq (.cond (.t 14) .skip (.exit 0)) (.seq (.block 1 (.seq (.reg [.v 15 13,.l 16 (.ia 6 (.t 11) (.t 13)),.l 17 (.ldn 6 (.t 16)),.e 6 (.al (.agg #[(.int .i64 0),(.int .i64 0),(.int .i64 0),(.string (mk [])),(.slice none 0 0),(.slice none 0 0)]) 57),.v 5 15,.s (.st 6 (.t 6) (.t 17))]) (BQ))) (.reg [.q 42 (.bin .add true (.t 13) (.i 1)),.v 13 42]))))))) (BX))
def V9:List RV:=[.mv (.t 4)]
theorem aIG:aN Tryz.prog true ⟨fun r k=>if r=11/\k=6 then .own [1] else .own [],fun r=>[4,5,8,11].contains r⟩ Tryz.f119=some (V7,V9):=by kernel_rfl
def UO:PC:=.seq (.reg [.e 2 (.bx 57 (.t 0)),.q 3 (.mv (.k (.bool false)))]) (.seq (.reg [.q 4 (.fa 0 (.t 2)),.l 5 (.ld1 (.t 4)),.q 6 (.fa 0 (.t 1)),.l 7 (.ld1 (.t 6)),.q 8 (.bin .eql true (.t 5) (.t 7)),.v 3 8]) .ret)
def XM:List RV:=[.mv (.t 3)]
theorem aF9:aN Tryz.prog true ⟨fun _ _=>.own [],fun _=>false⟩ Tryz.f142=some (UO,XM):=by kernel_rfl
end Go.Proofs.YtkpohmhenegkiaaGreatDoor
namespace Go.Proofs.YtkpohmhenegkiaaGreatDoor
open Go.W
def lC (v:Vl):Bool:=(v.k != 5) && (v.k != 6) && ((v.l.length:Int) == 0) && ((v.f.length:Int) == 0)
def lB (g:Vl->Int) (most:Int) (d:Int) (x:Vl):Int:=bif decide (d<=most) then max d (g x) else d
def o7 (g:Vl->Int) (most:Int) (d:Int) (x:Int × Vl):Int:=bif decide (d<=most) then max d (g x.2) else d
def E6 (g:Vl->Int) (most:Int) (v:Vl):Int:=bif lC v then 0 else 1 + v.f.foldl (o7 g most) (v.l.foldl (lB g most) 0)
def rZ:Nat->Vl->Int
  | 0=>E6 (fun _=>0) (-1)
  | n + 1=>E6 (rZ n) n
def hS:Nat->Vl->Int
  | 0=>fun _=>0
  | n + 1=>rZ n
theorem wU (n:Nat):rZ n=E6 (hS n) ((n:Int) - 1):=by
  cases n with
  | zero=>rfl
  | succ n=>rw [rZ,hS]; congr 1; omega
theorem E7 {g:Vl->Int} {most B:Int} (hg:∀ x,0<=g x/\g x<=B) {d:Int} (h:0<=d/\d<=B) (x:Vl):0<=lB g most d x/\lB g most d x<=B:=by
  unfold lB
  cases decide (d<=most)
  · exact h
  · have:=hg x; show 0<=max d (g x)/\max d (g x)<=B; omega
theorem OA {g:Vl->Int} {most B:Int} (hg:∀ x,0<=g x/\g x<=B) {d:Int} (h:0<=d/\d<=B) (x:Int × Vl):0<=o7 g most d x/\o7 g most d x<=B:=E7 hg h x.2
theorem oY {α:Type} {f:Int->α->Int} {B:Int} (h:∀ d x,0<=d/\d<=B->0<=f d x/\f d x<=B):∀ (l:List α) (d:Int),0<=d/\d<=B->0<=l.foldl f d/\l.foldl f d<=B
  | [],_,hd=>hd
  | x :: l,d,hd=>oY h l (f d x) (h d x hd)
theorem o8:∀ (n:Nat) (x:Vl),0<=hS n x/\hS n x<=n
  | 0,_=>⟨Int.le_refl _,Int.le_refl _⟩
  | n + 1,x=>by
    rw [hS,wU]
    unfold E6
    have h1:=oY (f:=lB (hS n) ((n:Int) - 1)) (fun d x h=>E7 (o8 n) h x) x.l 0 ⟨Int.le_refl _,by omega⟩
    have h2:=oY (f:=o7 (hS n) ((n:Int) - 1)) (fun d x h=>OA (o8 n) h x) x.f _ h1
    cases lC x
    · show 0<=1 + _/\1 + _<=_; omega
    · show (0:Int)<=0/\(0:Int)<=_; omega
theorem CG {α β:Type} {f:β->α->β} {l:List α} {i:Nat} {x:α} (h:l[i]? = some x) (d:β):(l.take (i + 1)).foldl f d=f ((l.take i).foldl f d) x:=by rw [fJ h,List.foldl_append]; rfl
def AB (n:Nat):List S->Prop:=fun av=>match av with
  | [.va (.gs r),.va (.c1 (.vl (.int .i64 k)))]=>0 < n/\pU r/\k=(n:Int) - 2/\n<=100
  | _=>False
theorem kJ {n:Nat} {av:List S} (h:AB n av):∃ m v,n=m + 1/\av=[.va (.gs (aV v)),iS .i64 ((m:Int) - 1)]/\VlOk v/\m<=99:=by
  unfold AB at h
  split at h
  · obtain ⟨h0,⟨v,rfl,hv⟩,rfl,hn⟩:=h
    refine ⟨n - 1,v,by omega,?_,hv,by omega⟩
    rw [show (n:Int) - 2=((n - 1:Nat):Int) - 1 by omega]
  · exact h.elim
noncomputable def NZ (n:Nat):List S->A:=fun av=>match av with
  | [.va (.gs r),.va (.c1 (.vl (.int .i64 _)))]=>iA .i64 (hS n (C.vv r))
  | _=>.gs []
noncomputable def EE (n:Nat):Fun:=⟨AB n,NZ n,fun av h=>by obtain ⟨m,v,_,rfl,_⟩:=kJ h; trivial⟩
theorem P9 {n:Nat}:∀ av H K,(EE n).sp av H K->av.length=2:=fun av H K h=>by obtain ⟨m,v,_,rfl,_⟩:=kJ h.1.1; rfl
attribute [go_sem] EE AB NZ
theorem LB:∀ n,Meets Tryz.prog 52 (EE n).sp
  | 0=>⟨by kernel_rfl,by rintro xs vs E ro w K _ _ _ ⟨⟨h,_⟩,_⟩; obtain ⟨m,_,h,_⟩:=kJ h; omega⟩
  | n + 1=>by
    refine aF Tryz.func52 aN0 2 (by rw [Tryz.ntmps52]; decide) (aG (LB n) (aA _)) P9 ?_
    rintro av H K ⟨⟨h,rfl⟩,hK⟩
    obtain ⟨m,v,hm,rfl,hv,hm99⟩:=kJ h
    obtain rfl:m=n:=by omega
    have hK:K (iS .i64 (rZ m v)) []:=by
      have:(EE (m + 1)).val [.va (.gs (aV v)),iS .i64 ((m:Int) - 1)]=iA .i64 (rZ m v):=by simp -dsimp only [go_sem,hS]
      rw [this] at hK; exact hK
    clear h hm
    rw [wU] at hK
    unfold E6 at hK
    have hll:=hv.ll
    have hlf:=hv.lf
    have bd1:=fun i=>oY (f:=lB (hS m) ((m:Int) - 1)) (fun d x h=>E7 (o8 m) h x) (v.l.take i) 0 ⟨Int.le_refl _,by omega⟩
    have fin:∀ (z:Int) (R:Hp),(bif lC v then 0 else 1 + v.f.foldl (o7 (hS m) ((m:Int) - 1)) (v.l.foldl (lB (hS m) ((m:Int) - 1)) 0))=z->W.Fin 0 K (iS .i64 z) R:=fun z R h=>by
      rw [h] at hK; exact .sel [] (by simp) (by simp) rfl (.done (by simpa [go_sem] using hK))
    clear hK
    cases hsc:lC v with
    | true=>
      have hs':=hsc
      unfold lC at hs'
      simp (maxSteps:=1000000) -dsimp only [go_sem,aI v,QW,Q2,hs']
      exact fin _ _ (by rw [hsc]; rfl)
    | false=>
      have hs':=hsc
      unfold lC at hs'
      rw [hsc] at fin
      simp (maxSteps:=1000000) -dsimp only [go_sem,aI v,QW,Q2,hs']
      refine aK (α:=Nat) (fun i=>[(1,iS .i64 ((m:Int) - 1)),(2,.va (.c1 (.pt 0 0))),(5,iS .i64 ((v.l.take i).foldl (lB (hS m) ((m:Int) - 1)) 0)),(31,.va (.c1 (.fz (v.l.map aV)))),(32,iS .i64 v.l.length),(33,iS .i64 i)]) (fun _=>[.cells (bQ v) 32])
        (fun i=>i<=v.l.length) (fun i=>v.l.length - i) 0 1 (Nat.zero_le _) ?_ ?_ ?_
      · simp -dsimp only [go_sem]<;>simp
      · simp -dsimp only [go_sem,bQ]<;>simp
      intro i hi
      rcases Nat.lt_or_ge i v.l.length with hlt | hge
      · have hg:decide ((i:Int) < (v.l.length:Int))=true:=by simp; omega
        obtain ⟨x,hx⟩:∃ t,v.l[i]? = some t:=⟨_,List.getElem?_eq_getElem hlt⟩
        have q1:=XE hx
        have hxm:=List.mem_of_getElem? hx
        have k1:=cE (hv.l x hxm)
        have k2:=eU x
        have ft:=CG (f:=lB (hS m) ((m:Int) - 1)) hx 0
        have hbd:=bd1 i
        generalize hd:(v.l.take i).foldl (lB (hS m) ((m:Int) - 1)) 0=d at *
        have hgb:=o8 m x
        cases hc:decide (d<=(m:Int) - 1) with
        | true=>
          have hm0:0 < m:=by have:=of_decide_eq_true hc; omega
          have he:(m:Int) - 1 - 1=(m:Int) - 2:=by omega
          have hn:m<=100:=by omega
          simp (maxSteps:=1000000) -dsimp only [go_sem,hg,↓q1,bQ,k1,k2,hc,he,hm0,hn]
          refine ⟨by omega,by omega,by omega,aC (i + 1) 1 (by omega) (by omega) ?_ ?_⟩
          · simp -dsimp only [go_sem,ft,lB,hc]<;>simp
          · simp -dsimp only [go_sem,bQ]<;>simp [bQ]
        | false=>
          simp (maxSteps:=1000000) -dsimp only [go_sem,hg,↓q1,bQ,hc]
          refine ⟨by omega,by omega,aC (i + 1) 1 (by omega) (by omega) ?_ ?_⟩
          · simp -dsimp only [go_sem,ft,lB,hc]<;>simp
          · simp -dsimp only [go_sem,bQ]<;>simp [bQ]
      · have hg:decide ((i:Int) < (v.l.length:Int))=false:=by simp; omega
        obtain rfl:i=v.l.length:=by omega
        have hbd:=bd1 v.l.length
        rw [List.take_length] at hbd ⊢
        simp (maxSteps:=1000000) -dsimp only [go_sem,hg,bQ]
        generalize v.l.foldl (lB (hS m) ((m:Int) - 1)) 0=D at *
        have bd2:=fun i=>oY (f:=o7 (hS m) ((m:Int) - 1)) (fun d x h=>OA (o8 m) h x) (v.f.take i) D hbd
        clear hi hge hg bd1
        refine aK (α:=Nat) (fun i=>[(1,iS .i64 ((m:Int) - 1)),(2,.va (.c1 (.pt 0 0))),(5,iS .i64 ((v.f.take i).foldl (o7 (hS m) ((m:Int) - 1)) D)),(48,.va (.c1 (.fz (v.f.map aY)))),(49,iS .i64 v.f.length),(50,iS .i64 i)]) (fun _=>[.cells (bQ v) 32])
          (fun i=>i<=v.f.length) (fun i=>v.f.length - i) 0 1 (Nat.zero_le _) ?_ ?_ ?_
        · simp -dsimp only [go_sem]<;>simp
        · simp -dsimp only [go_sem,bQ]<;>simp
        intro i hi
        rcases Nat.lt_or_ge i v.f.length with hlt | hge
        · have hg:decide ((i:Int) < (v.f.length:Int))=true:=by simp; omega
          obtain ⟨x,hx⟩:∃ t,v.f[i]? = some t:=⟨_,List.getElem?_eq_getElem hlt⟩
          have q1:=kG hx
          have hxm:=List.mem_of_getElem? hx
          have k1:=cE (hv.f x hxm)
          have k2:=eU x.2
          have ft:=CG (f:=o7 (hS m) ((m:Int) - 1)) hx D
          have hbd2:=bd2 i
          generalize hd:(v.f.take i).foldl (o7 (hS m) ((m:Int) - 1)) D=d at *
          have hgb:=o8 m x.2
          cases hc:decide (d<=(m:Int) - 1) with
          | true=>
            have hm0:0 < m:=by have:=of_decide_eq_true hc; omega
            have he:(m:Int) - 1 - 1=(m:Int) - 2:=by omega
            have hn:m<=100:=by omega
            simp (maxSteps:=1000000) -dsimp only [go_sem,hg,↓q1,bQ,k1,k2,hc,he,hm0,hn]
            refine ⟨by omega,by omega,by omega,aC (i + 1) 1 (by omega) (by omega) ?_ ?_⟩
            · simp -dsimp only [go_sem,ft,o7,hc]<;>simp
            · simp -dsimp only [go_sem,bQ]<;>simp [bQ]
          | false=>
            simp (maxSteps:=1000000) -dsimp only [go_sem,hg,↓q1,bQ,hc]
            refine ⟨by omega,by omega,aC (i + 1) 1 (by omega) (by omega) ?_ ?_⟩
            · simp -dsimp only [go_sem,ft,o7,hc]<;>simp
            · simp -dsimp only [go_sem,bQ]<;>simp [bQ]
        · have hg:decide ((i:Int) < (v.f.length:Int))=false:=by simp; omega
          obtain rfl:i=v.f.length:=by omega
          have hbd2:=bd2 v.f.length
          rw [List.take_length] at hbd2 ⊢
          simp (maxSteps:=1000000) -dsimp only [go_sem,hg,bQ]
          exact ⟨by omega,fin _ _ rfl⟩
end Go.Proofs.YtkpohmhenegkiaaGreatDoor
namespace Go.Proofs.YtkpohmhenegkiaaGreatDoor
open Go.W
theorem y8:∀ N,Meets Tryz.prog 90 (AY N).sp
  | 0=>⟨by kernel_rfl,by rintro xs vs E ro w K _ _ _ ⟨⟨h,_⟩,_⟩; obtain ⟨_,a,_,_,_,h⟩:=iB h; have:=a.h_pos; omega⟩
  | N + 1=>by
    refine aF Tryz.func90 aN9 2 (by rw [Tryz.ntmps90]; decide) (aG (y8 N) (aB m1 (aB wX (aA _)))) I0 ?_
    rintro av H K ⟨⟨h,rfl⟩,hK⟩
    obtain ⟨sc,t,rfl,hs,ht,hh⟩:=iB h
    have hK:K (bS (valF sc.ss sc.es t)) []:=by
      have:(AY (N + 1)).val [.va (.gs (aE sc)),.va (.gs (aM t))]=bA (valF sc.ss sc.es t):=by simp -dsimp only [go_sem]
      rw [this] at hK; exact hK
    clear h
    have fin:∀ (b:Bool) (R:Hp),valF sc.ss sc.es t=b->W.Fin 0 K (bS b) R:=fun b R h=>by
      rw [h] at hK
      exact .sel [] (by simp) (by simp) rfl (.done (by simp -dsimp only [go_sem]; simpa using hK))
    clear hK
    cases t with
    | mk k s n e=>
    have hF:=valF.eq_1 sc.ss sc.es k s n e
    simp (maxSteps:=1000000) -dsimp only [go_sem,aE,aM,aS,aD4,aB7]
    refine ⟨fun k1=>fin _ _ (by rw [hF,k1]; simp only [Bool.cond_true]; ac_rfl),fun k1=>aD rfl (.done ?_)⟩
    rw [k1,Bool.cond_false] at hF
    simp (maxSteps:=1000000) -dsimp only [go_sem,FF]
    refine ⟨fun k2=>aD rfl (.done ?_),fun k2=>aD rfl (.done ?_)⟩
    · rw [k2,Bool.cond_true] at hF
      have hF':valF sc.ss sc.es (.mk k s n e)=((bl n == [] && (e.length:Int) == 0) && (s == 8 || s == 16 || s == 32 || s == 64)):=by rw [hF]; ac_rfl
      clear hF
      cases hp:(bl n == [] && (e.length:Int) == 0) with
      | false=>
        simp (maxSteps:=1000000) -dsimp only [go_sem,m5]
        exact fin _ _ (by rw [hF',hp]; rfl)
      | true=>
        rw [hp,Bool.true_and] at hF'
        cases h8:s == 8 with
        | true=>
          simp (maxSteps:=1000000) -dsimp only [go_sem,m5,h8]
          exact fin _ _ (by rw [hF',h8]; rfl)
        | false=>
        cases h16:s == 16 with
        | true=>
          simp (maxSteps:=1000000) -dsimp only [go_sem,m5,h8,h16]
          exact fin _ _ (by rw [hF',h8,h16]; rfl)
        | false=>
        cases h32:s == 32 with
        | true=>
          simp (maxSteps:=1000000) -dsimp only [go_sem,m5,h8,h16,h32]
          exact fin _ _ (by rw [hF',h8,h16,h32]; rfl)
        | false=>
          simp (maxSteps:=1000000) -dsimp only [go_sem,m5,h8,h16,h32]
          exact fin _ _ (by rw [hF',h8,h16,h32]; rfl)
    rw [k2,Bool.cond_false] at hF
    simp (maxSteps:=1000000) -dsimp only [go_sem,F6]
    refine ⟨fun k3=>aD rfl (.done ?_),fun k3=>aD rfl (.done ?_)⟩
    · rw [k3] at hF
      simp only [Bool.cond_true,Bool.and_false,Bool.or_false] at hF
      have hF':valF sc.ss sc.es (.mk k s n e)=((bl n == [] && (e.length:Int) == 0) && (s == 8 || s == 16 || s == 32)):=by rw [hF]; ac_rfl
      clear hF
      cases hp:(bl n == [] && (e.length:Int) == 0) with
      | false=>
        simp (maxSteps:=1000000) -dsimp only [go_sem,o9]
        exact fin _ _ (by rw [hF',hp]; rfl)
      | true=>
        rw [hp,Bool.true_and] at hF'
        cases h8:s == 8 with
        | true=>
          simp (maxSteps:=1000000) -dsimp only [go_sem,o9,h8]
          exact fin _ _ (by rw [hF',h8]; rfl)
        | false=>
        cases h16:s == 16 with
        | true=>
          simp (maxSteps:=1000000) -dsimp only [go_sem,o9,h8,h16]
          exact fin _ _ (by rw [hF',h8,h16]; rfl)
        | false=>
          simp (maxSteps:=1000000) -dsimp only [go_sem,o9,h8,h16]
          exact fin _ _ (by rw [hF',h8,h16]; rfl)
    rw [k3,Bool.cond_false] at hF
    simp (maxSteps:=1000000) -dsimp only [go_sem,GK]
    refine ⟨fun k4=>fin _ _ (by rw [hF,k4]; simp only [Bool.cond_true]; ac_rfl),fun k4=>aD rfl (.done ?_)⟩
    rw [k4,Bool.cond_false] at hF
    simp (maxSteps:=1000000) -dsimp only [go_sem,A1]
    refine ⟨fun k5=>aD rfl (.done ?_),fun k5=>aD rfl (.done ?_)⟩
    · rw [k5,Bool.cond_true] at hF
      have no:∀ {R:Hp},(bl n == [])=false\/decide (1<=s)=false\/decide (s<=32)=false\/((e.length:Int) == 1)=false->W.Fin 0 K (bS false) R:=fun h=>fin _ _ (by
        rw [hF]
        rcases h with h | h | h | h
        · rw [h,Bool.and_false,Bool.false_and]
        · rw [h,Bool.false_and,Bool.false_and,Bool.false_and]
        · rw [h,Bool.and_false,Bool.false_and,Bool.false_and]
        · match e,h with
          | [],_=>simp [mA]
          | [u],h=>simp at h
          | u :: v :: r,_=>simp [mA])
      cases h1:bl n == [] with
      | false=>
        simp (maxSteps:=1000000) -dsimp only [go_sem,kB,h1]
        exact no (.inl h1)
      | true=>
      cases h2:decide (1<=s) with
      | false=>
        simp (maxSteps:=1000000) -dsimp only [go_sem,kB,h1,h2]
        exact no (.inr (.inl h2))
      | true=>
      cases h3:decide (s<=32) with
      | false=>
        simp (maxSteps:=1000000) -dsimp only [go_sem,kB,h1,h2,h3]
        exact no (.inr (.inr (.inl h3)))
      | true=>
      cases h4:(e.length:Int) == 1 with
      | false=>
        simp (maxSteps:=1000000) -dsimp only [go_sem,kB,h1,h2,h3,h4]
        exact no (.inr (.inr (.inr h4)))
      | true=>
        obtain ⟨u,rfl⟩:∃ u,e=[u]:=List.length_eq_one_iff.1 (by have:(e.length:Int)=1:=by simpa using h4
                                                                       omega)
        have hF':valF sc.ss sc.es (.mk k s n [u])=valF sc.ss sc.es u:=by rw [hF,h1,h2,h3]; simp [mA]
        have hu2:u.h<=N:=by rw [Ty.h,Ty.hs,Ty.hs] at hh; omega
        have hu:eK (aM u):=dH (ht.e u (by simp [Ty.e]))
        have hsf:=eX hs
        rw [aE] at hsf
        have hsd:=dW sc
        rw [aE] at hsd
        have h4':(((1:Nat):Int) == 1)=true:=rfl
        simp (maxSteps:=1000000) -dsimp only [go_sem,kB,h1,h2,h3,h4']
        refine ⟨⟨by omega,fun r hr=>by subst hr; exact gO u⟩,fun r hr=>?_⟩
        subst hr
        simp (maxSteps:=1000000) -dsimp only [go_sem,hsf,hsd,hu,gO]
        exact ⟨hu2,fin _ _ hF'⟩
    rw [k5,Bool.cond_false] at hF
    simp (maxSteps:=1000000) -dsimp only [go_sem,AS]
    refine ⟨fun k6=>aD rfl (.done ?_),fun k6=>aD rfl (.done ?_)⟩
    · rw [k6,Bool.cond_true] at hF
      simp (maxSteps:=1000000) -dsimp only [go_sem,B4]
      refine gP hs ?_
      simp (maxSteps:=1000000) -dsimp only [go_sem,aL]
      refine aD rfl (.done ?_)
      cases h1:fO sc.ss n<;>cases h2:s == 0 <;>
      · simp (maxSteps:=1000000) -dsimp only [go_sem,BG,h2]
        exact fin _ _ (by rw [hF,h1,h2]; rfl)
    rw [k6,Bool.cond_false] at hF
    simp (maxSteps:=1000000) -dsimp only [go_sem,B1]
    refine ⟨fun k7=>aD rfl (.done ?_),fun k7=>fin _ _ (by rw [hF,k7]; rfl)⟩
    rw [k7,Bool.cond_true] at hF
    simp (maxSteps:=1000000) -dsimp only [go_sem,BF]
    refine iY hs ?_
    simp (maxSteps:=1000000) -dsimp only [go_sem,aX]
    refine aD rfl (.done ?_)
    cases h1:fN sc.es n<;>cases h2:s == 0 <;>
    · simp (maxSteps:=1000000) -dsimp only [go_sem,BE,h2]
      exact fin _ _ (by rw [hF,h1,h2]; rfl)
end Go.Proofs.YtkpohmhenegkiaaGreatDoor
namespace Go.Proofs.YtkpohmhenegkiaaGreatDoor
open Go.W
theorem uP:Meets Tryz.prog 90 r0Fn.sp:=eN 0 y8 fun av H K ⟨⟨h,e⟩,hK⟩=>by
  obtain ⟨a,b,rfl,ha,hb⟩:=jR h
  exact ⟨b.h,⟨⟨⟨eX ha,dH hb,by rw [eH]; exact Nat.le_refl _⟩,e⟩,hK⟩⟩
def FM (s:Sc) (t:Ty) (n:Int):Bool:=
  bif t.k == 1 then n == 0 || n == 1
  else bif t.k == 2 then t.s == 64 || (decide (-(2 ^ (t.s.toNat - 1):Int)<=n) && decide (n < (2 ^ (t.s.toNat - 1):Int)))
  else bif t.k == 3 then decide (0<=n) && decide (n < (2 ^ t.s.toNat:Int))
  else bif t.k == 7 then ((bW s.es t.n).getD default).vs.any fun x=>x == n else false
def pK (s:Sc) (t:Ty) (n:Int) (str:ByteArray) (ll lf:Int):Int:=bif !(bl str == []) || decide (0 < ll) || decide (0 < lf) then 13 else bif FM s t n then 0 else 4
def qC (t:Ty) (n:Int) (str:ByteArray) (ll lf:Int):Int:=bif n != 0 || decide (0 < ll) || decide (0 < lf) then 13 else bif decide (t.s < ((bl str).length:Int)) then 3 else 0
def G2:Option Int->Int->Bool
  | none,_=>true
  | some q,n=>decide (q < n)
def ftA (fs:List Fl):Option Int->List (Int × Vl)->Bool
  | _,[]=>true
  | p,x :: r=>(fF fs x.1).isSome && G2 p x.1 && ftA fs (some x.1) r
theorem wT (fs:List Fl) (p:Option Int) (x:Int × Vl) (r:List (Int × Vl)):ftA fs p (x :: r)=((fF fs x.1).isSome && G2 p x.1 && ftA fs (some x.1) r):=by rw [ftA.eq_def]
theorem LG (fs:List Fl) (p:Option Int):ftA fs p []=true:=by rw [ftA.eq_def]
def lI (l:List (Int × Vl)) (n:Int):Bool:=l.any fun y=>y.1 == n
def cO (fs:List Fl) (l:List (Int × Vl)):Bool:=ftA fs none l && fs.all fun f=>f.opt || lI l f.num
mutual
def fD (s:Sc) (t:Ty):Vl->Int
  | .mk k n str l f=>
    bif !(valF s.ss s.es t) || k != t.k then 13
    else bif t.k == 4 then qC t n str l.length f.length
    else bif t.k == 5 then (bif n != 0 || !(bl str == []) || decide (0 < (f.length:Int)) then 13 else bif decide (t.s < (l.length:Int)) then 3 else jV s (t.e.headD default) l)
    else bif t.k == 6 then (bif n != 0 || !(bl str == []) || decide (0 < (l.length:Int)) || !(cO ((fS s.ss t.n).getD default).fs f) then 13 else jU s ((fS s.ss t.n).getD default).fs f)
    else pK s t n str l.length f.length
def jV (s:Sc) (t:Ty):List Vl->Int
  | []=>0
  | v :: r=>bif fD s t v != 0 then fD s t v else jV s t r
def jU (s:Sc) (fs:List Fl):List (Int × Vl)->Int
  | []=>0
  | (i,v) :: r=>bif fD s ((fF fs i).getD default).ty v != 0 then fD s ((fF fs i).getD default).ty v else jU s fs r
end
theorem O7 (s:Sc) (t:Ty) (v:Vl):fD s t v=bif !(valF s.ss s.es t) || v.k != t.k then 13
    else bif t.k == 4 then qC t v.n v.s v.l.length v.f.length
    else bif t.k == 5 then (bif v.n != 0 || !(bl v.s == []) || decide (0 < (v.f.length:Int)) then 13 else bif decide (t.s < (v.l.length:Int)) then 3 else jV s (t.e.headD default) v.l)
    else bif t.k == 6 then (bif v.n != 0 || !(bl v.s == []) || decide (0 < (v.l.length:Int)) || !(cO ((fS s.ss t.n).getD default).fs v.f) then 13 else jU s ((fS s.ss t.n).getD default).fs v.f)
    else pK s t v.n v.s v.l.length v.f.length:=by cases v; rw [fD]; rfl
theorem FJ (s:Sc) (fs:List Fl) (x:Int × Vl) (r:List (Int × Vl)):jU s fs (x :: r)=bif fD s ((fF fs x.1).getD default).ty x.2 != 0 then fD s ((fF fs x.1).getD default).ty x.2 else jU s fs r:=by cases x; rw [jU]
abbrev P2:S:=.va (.c1 (.fn 118 [(false,[.pt 0 0])]))
def aD0:W.Spec:=fun av H K=>∃ (x:Int) (v:Vl),av=[iS .i64 x,.va (.c1 (.pt 0 0))]/\H=[.cells (bQ v) 32]/\K (bS (x == v.n)) [.cells (bQ v) 32]
theorem aEM {x:Int} {v:Vl} {K:S->Hp->Prop} (hK:K (bS (x == v.n)) [.cells (bQ v) 32]):aD0 [iS .i64 x,.va (.c1 (.pt 0 0))] [.cells (bQ v) 32] K:=⟨x,v,rfl,rfl,hK⟩
theorem R3:Meets Tryz.prog 118 aD0:=by
  refine aF Tryz.func118 aHH 2 (by rw [Tryz.ntmps118]; decide) (aA _) (fun av H K h=>by obtain ⟨_,_,rfl,_⟩:=h; rfl) ?_
  rintro av H K ⟨x,v,rfl,rfl,hK⟩
  simp -dsimp only [go_sem,bQ,VL,WV]
  exact .sel [0] (by simp) (by simp) rfl (.done (by simpa [go_sem,bQ] using hK))
def zY (p:Int->Bool):List Int->Nat->Int
  | [],_=>-1
  | x :: l,i=>bif p x then (i:Int) else zY p l (i + 1)
theorem KI (p:Int->Bool):∀ (l:List Int) (i:Nat),decide (0<=zY p l i)=l.any p
  | [],_=>rfl
  | x :: l,i=>by
    rw [List.any_cons,zY]
    cases h:p x
    · rw [Bool.cond_false,KI p l (i + 1),Bool.false_or]
    · simp
def aBA:W.Spec:=fun av H K=>∃ (l:List Int) (v:Vl),av=[.va (.c1 (.fz (l.map bU))),P2]/\H=[.cells (bQ v) 32]/\l.length<=9223372036854775807/\K (iS .i64 (zY (fun x=>x == v.n) l 0)) [.cells (bQ v) 32]
theorem aEU {l:List Int} {v:Vl} {K:S->Hp->Prop} (h:l.length<=9223372036854775807) (hK:K (iS .i64 (zY (fun x=>x == v.n) l 0)) [.cells (bQ v) 32]):aBA [.va (.c1 (.fz (l.map bU))),P2] [.cells (bQ v) 32] K:=⟨l,v,rfl,rfl,h,hK⟩
theorem YM:Meets Tryz.prog 140 aBA:=by
  refine aF Tryz.func140 aF2 2 (by rw [Tryz.ntmps140]; decide) (aB R3 (aA _)) (fun av H K h=>by obtain ⟨_,_,rfl,_⟩:=h; rfl) ?_
  rintro av H K ⟨l,v,rfl,rfl,hl,hK⟩
  simp -dsimp only [go_sem,V8,UG]
  refine aK (α:=Nat) (fun i=>[(0,.va (.c1 (.fz (l.map bU)))),(1,P2),(7,iS .i64 l.length),(8,iS .i64 i)]) (fun _=>[.cells (bQ v) 32])
    (fun i=>i<=l.length/\zY (fun x=>x == v.n) (l.drop i) i=zY (fun x=>x == v.n) l 0) (fun i=>l.length - i) 0 1 ⟨Nat.zero_le _,rfl⟩ ?_ ?_ ?_
  · simp -dsimp only [go_sem]<;>simp
  · simp -dsimp only [go_sem,bQ]<;>simp
  rintro i ⟨hi,ho⟩
  rcases Nat.lt_or_ge i l.length with hlt | hge
  · have hg:decide ((i:Int) < (l.length:Int))=true:=by simp; omega
    have hx:l[i]? = some l[i]:=List.getElem?_eq_getElem hlt
    have q2:=aO (row:=bU) hx
    rw [List.drop_eq_getElem_cons hlt,zY] at ho
    generalize l[i]=y at *
    simp -dsimp only [go_sem,hg,↓q2]
    refine ⟨by omega,aEM ?_⟩
    cases hc:y == v.n with
    | true=>
      rw [hc,Bool.cond_true] at ho
      simp -dsimp only [go_sem]
      exact .sel [0] (by simp) (by simp) rfl (.done (by simpa [go_sem,bQ,ho] using hK))
    | false=>
      rw [hc,Bool.cond_false] at ho
      simp -dsimp only [go_sem]
      refine ⟨by omega,aC (i + 1) 1 ⟨by omega,ho⟩ (by omega) ?_ ?_⟩
      · simp -dsimp only [go_sem]<;>simp
      · simp -dsimp only [go_sem,bQ]<;>simp [bQ]
  · have hg:decide ((i:Int) < (l.length:Int))=false:=by simp; omega
    have:l.drop i=[]:=List.drop_eq_nil_iff.2 (by omega)
    rw [this] at ho
    simp -dsimp only [go_sem,hg]
    exact .sel [0] (by simp) (by simp) rfl (.done (by rw [show zY (fun x=>x == v.n) l 0=-1 from ho.symm] at hK; simpa [go_sem,bQ] using hK))
def aA0:W.Spec:=fun av H K=>∃ (l:List Int) (v:Vl),av=[.va (.c1 (.fz (l.map bU))),P2]/\H=[.cells (bQ v) 32]/\l.length<=9223372036854775807/\K (bS (l.any fun x=>x == v.n)) [.cells (bQ v) 32]
theorem aC7 {l:List Int} {v:Vl} {K:S->Hp->Prop} (h:l.length<=9223372036854775807) (hK:K (bS (l.any fun x=>x == v.n)) [.cells (bQ v) 32]):aA0 [.va (.c1 (.fz (l.map bU))),P2] [.cells (bQ v) 32] K:=⟨l,v,rfl,rfl,h,hK⟩
theorem LX:Meets Tryz.prog 117 aA0:=by
  refine aF Tryz.func117 aGG 2 (by rw [Tryz.ntmps117]; decide) (aB YM (aA _)) (fun av H K h=>by obtain ⟨_,_,rfl,_⟩:=h; rfl) ?_
  rintro av H K ⟨l,v,rfl,rfl,hl,hK⟩
  simp -dsimp only [go_sem,bQ,T8,VU]
  refine aEU hl ?_
  simp -dsimp only [go_sem,bQ,KI]
  exact .sel [0] (by simp) (by simp) rfl (.done (by simpa [go_sem,bQ] using hK))
abbrev PJ:S:=.va (.c1 (.fn 142 [(false,[.pt 0 0])]))
def veX (x:Int × Vl):List C:=[.vl (.int .i64 x.1),.vl (.int .i64 x.2.k),.vl (.int .i64 x.2.n),.vl (.string x.2.s),.fz (x.2.l.map aV),.fz (x.2.f.map aY)]
def TU:W.Spec:=fun av H K=>∃ (x:Int × Vl) (f:Fl),av=[.va (.gs (veX x)),.va (.c1 (.pt 0 0))]/\H=[.cells (aR f) 97]/\K (bS (x.1 == f.num)) [.cells (aR f) 97]
theorem Y3 {x:Int × Vl} {f:Fl} {K:S->Hp->Prop} (hK:K (bS (x.1 == f.num)) [.cells (aR f) 97]):TU [.va (.gs (veX x)),.va (.c1 (.pt 0 0))] [.cells (aR f) 97] K:=⟨x,f,rfl,rfl,hK⟩
theorem aDT:Meets Tryz.prog 142 TU:=by
  refine aF Tryz.func142 aF9 2 (by rw [Tryz.ntmps142]; decide) (aA _) (fun av H K h=>by obtain ⟨_,_,rfl,_⟩:=h; rfl) ?_
  rintro av H K ⟨x,f,rfl,rfl,hK⟩
  simp -dsimp only [go_sem,veX,aR,UO,XM]
  exact .sel [0] (by simp) (by simp) rfl (.done (by simpa [go_sem,aR] using hK))
def x6 (n:Int):List (Int × Vl)->Nat->Int
  | [],_=>-1
  | x :: l,i=>bif x.1 == n then (i:Int) else x6 n l (i + 1)
theorem JQ (n:Int):∀ (l:List (Int × Vl)) (i:Nat),decide (0<=x6 n l i)=lI l n
  | [],_=>rfl
  | x :: l,i=>by
    rw [lI,List.any_cons,x6]
    cases h:x.1 == n
    · rw [Bool.cond_false,JQ n l (i + 1),Bool.false_or]; rfl
    · simp
def aDZ:W.Spec:=fun av H K=>∃ (l:List (Int × Vl)) (f:Fl),av=[.va (.c1 (.fz (l.map aY))),PJ]/\H=[.cells (aR f) 97]/\l.length<=9223372036854775807/\K (iS .i64 (x6 f.num l 0)) [.cells (aR f) 97]
theorem aAQ {l:List (Int × Vl)} {f:Fl} {K:S->Hp->Prop} (h:l.length<=9223372036854775807) (hK:K (iS .i64 (x6 f.num l 0)) [.cells (aR f) 97]):aDZ [.va (.c1 (.fz (l.map aY))),PJ] [.cells (aR f) 97] K:=⟨l,f,rfl,rfl,h,hK⟩
theorem YG:Meets Tryz.prog 157 aDZ:=by
  refine aF Tryz.func157 aFR 2 (by rw [Tryz.ntmps157]; decide) (aB aDT (aA _)) (fun av H K h=>by obtain ⟨_,_,rfl,_⟩:=h; rfl) ?_
  rintro av H K ⟨l,f,rfl,rfl,hl,hK⟩
  simp -dsimp only [go_sem,XN,XR]
  refine aK (α:=Nat) (fun i=>[(0,.va (.c1 (.fz (l.map aY)))),(1,PJ),(7,iS .i64 l.length),(8,iS .i64 i)]) (fun _=>[.cells (aR f) 97])
    (fun i=>i<=l.length/\x6 f.num (l.drop i) i=x6 f.num l 0) (fun i=>l.length - i) 0 1 ⟨Nat.zero_le _,rfl⟩ ?_ ?_ ?_
  · simp -dsimp only [go_sem]<;>simp
  · simp -dsimp only [go_sem,aR]<;>simp
  rintro i ⟨hi,ho⟩
  rcases Nat.lt_or_ge i l.length with hlt | hge
  · have hg:decide ((i:Int) < (l.length:Int))=true:=by simp; omega
    have hx:l[i]? = some l[i]:=List.getElem?_eq_getElem hlt
    have q2:=kG hx
    rw [List.drop_eq_getElem_cons hlt,x6] at ho
    generalize l[i]=y at *
    simp -dsimp only [go_sem,hg,↓q2]
    refine ⟨by omega,Y3 ?_⟩
    cases hc:y.1 == f.num with
    | true=>
      rw [hc,Bool.cond_true] at ho
      simp -dsimp only [go_sem]
      exact .sel [0] (by simp) (by simp) rfl (.done (by simpa [go_sem,aR,ho] using hK))
    | false=>
      rw [hc,Bool.cond_false] at ho
      simp -dsimp only [go_sem]
      refine ⟨by omega,aC (i + 1) 1 ⟨by omega,ho⟩ (by omega) ?_ ?_⟩
      · simp -dsimp only [go_sem]<;>simp
      · simp -dsimp only [go_sem,aR]<;>simp [aR]
  · have hg:decide ((i:Int) < (l.length:Int))=false:=by simp; omega
    have:l.drop i=[]:=List.drop_eq_nil_iff.2 (by omega)
    rw [this] at ho
    simp -dsimp only [go_sem,hg]
    exact .sel [0] (by simp) (by simp) rfl (.done (by rw [show x6 f.num l 0=-1 from ho.symm] at hK; simpa [go_sem,aR] using hK))
def aB5:W.Spec:=fun av H K=>∃ (l:List (Int × Vl)) (f:Fl),av=[.va (.c1 (.fz (l.map aY))),PJ]/\H=[.cells (aR f) 97]/\l.length<=9223372036854775807/\K (bS (lI l f.num)) [.cells (aR f) 97]
theorem aAP {l:List (Int × Vl)} {f:Fl} {K:S->Hp->Prop} (h:l.length<=9223372036854775807) (hK:K (bS (lI l f.num)) [.cells (aR f) 97]):aB5 [.va (.c1 (.fz (l.map aY))),PJ] [.cells (aR f) 97] K:=⟨l,f,rfl,rfl,h,hK⟩
theorem L8:Meets Tryz.prog 141 aB5:=by
  refine aF Tryz.func141 aFS 2 (by rw [Tryz.ntmps141]; decide) (aB YG (aA _)) (fun av H K h=>by obtain ⟨_,_,rfl,_⟩:=h; rfl) ?_
  rintro av H K ⟨l,f,rfl,rfl,hl,hK⟩
  simp -dsimp only [go_sem,aR,WG,V0]
  refine aAQ hl ?_
  simp -dsimp only [go_sem,aR,JQ]
  exact .sel [0] (by simp) (by simp) rfl (.done (by simpa [go_sem,aR] using hK))
end Go.Proofs.YtkpohmhenegkiaaGreatDoor
namespace Go.Proofs.YtkpohmhenegkiaaGreatDoor
open Go.W
def EC (P:Sc->Ty->Vl->Prop):List S->Prop:=fun av=>match av with
  | [.va (.gs r),.va (.gs q),.va (.gs p)]=>iQ r/\eK q/\pU p/\P (C.sc r) (C.ty q) (C.vv p)
  | _=>False
theorem lY {P:Sc->Ty->Vl->Prop} {av:List S} (h:EC P av):∃ s t v,av=[.va (.gs (aE s)),.va (.gs (aM t)),.va (.gs (aV v))]/\s.fit/\TyOk t/\VlOk v/\P s t v:=by
  unfold EC at h
  split at h
  · obtain ⟨⟨s,rfl,hs⟩,⟨t,rfl,ht⟩,⟨v,rfl,hv⟩,h⟩:=h
    rw [dW,eH,kO] at h
    exact ⟨s,t,v,rfl,hs,ht,hv,h⟩
  · exact h.elim
noncomputable def VV (f:Sc->Ty->Vl->Value):List S->A:=fun av=>match av with
  | [.va (.gs r),.va (.gs q),.va (.gs p)]=>.c1 (.vl (f (C.sc r) (C.ty q) (C.vv p)))
  | _=>.gs []
noncomputable def cP (P:Sc->Ty->Vl->Prop) (f:Sc->Ty->Vl->Value):Fun:=⟨EC P,VV f,fun av h=>by obtain ⟨_,_,_,rfl,_⟩:=lY h; trivial⟩
theorem eF {P:Sc->Ty->Vl->Prop} {f:Sc->Ty->Vl->Value}:∀ av H K,(cP P f).sp av H K->av.length=3:=fun av H K h=>by obtain ⟨_,_,_,rfl,_⟩:=lY h.1.1; rfl
attribute [go_sem] cP EC VV
theorem dE {P:Sc->Ty->Vl->Prop} {f:Sc->Ty->Vl->Value} {av:List S} {H:Hp} {K:S->Hp->Prop} (h:(cP P f).sp av H K) :
    ∃ s t v,av=[.va (.gs (aE s)),.va (.gs (aM t)),.va (.gs (aV v))]/\H=[]/\s.fit/\TyOk t/\VlOk v/\P s t v/\K (.va (.c1 (.vl (f s t v)))) []:=by
  obtain ⟨⟨h,rfl⟩,hK⟩:=h
  obtain ⟨s,t,v,rfl,hs,ht,hv,hp⟩:=lY h
  have:(cP P f).val [.va (.gs (aE s)),.va (.gs (aM t)),.va (.gs (aV v))]=.c1 (.vl (f s t v)):=by simp -dsimp only [go_sem]
  rw [this] at hK
  exact ⟨s,t,v,rfl,rfl,hs,ht,hv,hp,hK⟩
theorem aBD:Meets Tryz.prog 92 (cP (fun _ _ _=>True) fun _ t v=>.int .i64 (qC t v.n v.s v.l.length v.f.length)).sp:=by
  refine aF Tryz.func92 aNW 3 (by rw [Tryz.ntmps92]; decide) (aA _) eF ?_
  intro av H K h
  obtain ⟨s,t,v,rfl,rfl,hs,ht,hv,_,hK⟩:=dE h
  clear h
  have fin:∀ (z:Int) (R:Hp),qC t v.n v.s v.l.length v.f.length=z->W.Fin 0 K (iS .i64 z) R:=fun z R h=>by
    rw [h] at hK; exact .sel [] (by simp) (by simp) rfl (.done (by simpa [go_sem] using hK))
  clear hK
  unfold qC at fin
  cases h1:v.n != 0<;>cases h2:decide (0 < (v.l.length:Int))<;>cases h3:decide (0 < (v.f.length:Int))<;>cases h4:decide (t.s < ((bl v.s).length:Int)) <;>
  · rw [h1,h2,h3,h4] at fin
    simp (maxSteps:=1000000) -dsimp only [go_sem,aE,aH t,aI v,aDI,aAI,h1,h2,h3,h4]
    exact fin _ _ rfl
theorem aK2 {ss:List St} {es:List En} {t:Ty} (h:valF ss es t=true) (k:(t.k == 2)=true):t.s=8\/t.s=16\/t.s=32\/t.s=64:=by
  cases t with
  | mk k0 s n e=>
    obtain rfl:k0=2:=by have k:(k0 == 2)=true:=k; simpa using k
    rw [valF] at h
    have:(s == 8 || s == 16 || s == 32 || s == 64)=true:=by
      simp only [show ((2:Int) == 1)=false from rfl,show ((2:Int) == 2)=true from rfl,Bool.cond_true,Bool.cond_false,Bool.and_eq_true] at h
      exact h.1.1
    show s=8\/s=16\/s=32\/s=64
    simp only [Bool.or_eq_true,beq_iff_eq] at this
    omega
theorem aLG {ss:List St} {es:List En} {t:Ty} (h:valF ss es t=true) (k:(t.k == 3)=true):t.s=8\/t.s=16\/t.s=32:=by
  cases t with
  | mk k0 s n e=>
    obtain rfl:k0=3:=by have k:(k0 == 3)=true:=k; simpa using k
    rw [valF] at h
    have:(s == 8 || s == 16 || s == 32)=true:=by
      simp only [show ((3:Int) == 1)=false from rfl,show ((3:Int) == 2)=false from rfl,show ((3:Int) == 3)=true from rfl,Bool.cond_true,Bool.cond_false,Bool.and_eq_true,Bool.and_false,Bool.or_false] at h
      exact h.1.1
    show s=8\/s=16\/s=32
    simp only [Bool.or_eq_true,beq_iff_eq] at this
    omega
theorem S9:Meets Tryz.prog 91 (cP (fun s t _=>valF s.ss s.es t=true) fun s t v=>.int .i64 (pK s t v.n v.s v.l.length v.f.length)).sp:=by
  refine aF Tryz.func91 aN6 3 (by rw [Tryz.ntmps91]; decide) (aB wX (aB LX (aA _))) eF ?_
  intro av H K h
  obtain ⟨s,t,v,rfl,rfl,hs,ht,hv,hp,hK⟩:=dE h
  clear h
  have fin:∀ (z:Int) (R:Hp),pK s t v.n v.s v.l.length v.f.length=z->W.Fin 0 K (iS .i64 z) R:=fun z R h=>by
    rw [h] at hK; exact .sel [] (by simp) (by simp) rfl (.done (by simpa [go_sem] using hK))
  clear hK
  unfold pK at fin
  cases h1:bl v.s == [] with
  | false=>
    rw [h1] at fin
    simp (maxSteps:=1000000) -dsimp only [go_sem,aE,aH t,aI v,GX,GG,h1]
    exact fin _ _ rfl
  | true=>
  cases h2:decide (0 < (v.l.length:Int)) with
  | true=>
    rw [h1,h2] at fin
    simp (maxSteps:=1000000) -dsimp only [go_sem,aE,aH t,aI v,GX,GG,h1,h2]
    exact fin _ _ rfl
  | false=>
  cases h3:decide (0 < (v.f.length:Int)) with
  | true=>
    rw [h1,h2,h3] at fin
    simp (maxSteps:=1000000) -dsimp only [go_sem,aE,aH t,aI v,GX,GG,h1,h2,h3]
    exact fin _ _ rfl
  | false=>
  rw [h1,h2,h3] at fin
  simp only [Bool.not_true,Bool.or_self,Bool.cond_false] at fin
  unfold FM at fin
  simp (maxSteps:=1000000) -dsimp only [go_sem,aE,aH t,aI v,GX,GG,h1,h2,h3]
  refine ⟨fun k1=>aD rfl (.done ?_),fun k1=>aD rfl (.done ?_)⟩
  · rw [k1,Bool.cond_true] at fin
    simp (maxSteps:=1000000) -dsimp only [go_sem,HE]
    refine aD rfl (.done ?_)
    cases h4:(v.n == 0 || v.n == 1) <;>
    · rw [h4] at fin
      simp (maxSteps:=1000000) -dsimp only [go_sem,jD]
      exact fin _ _ rfl
  rw [k1,Bool.cond_false] at fin
  simp (maxSteps:=1000000) -dsimp only [go_sem,G7]
  refine ⟨fun k2=>aD rfl (.done ?_),fun k2=>aD rfl (.done ?_)⟩
  · rw [k2,Bool.cond_true] at fin
    cases h64:t.s == 64 with
    | true=>
      rw [h64] at fin
      simp (maxSteps:=1000000) -dsimp only [go_sem,yT,h64,Bool.false_and]
      refine aD rfl (.done ?_)
      simp (maxSteps:=1000000) -dsimp only [go_sem,jD]
      exact fin _ _ rfl
    | false=>
      rw [h64,Bool.false_or] at fin
      obtain ⟨b1,b2,e1,e2⟩:8<=t.s/\t.s<=32/\IntKind.i64.wrap (-1 * 2 ^ min (t.s - 1).toNat 64)=-(2 ^ (t.s.toNat - 1):Int)/\IntKind.i64.wrap (1 * 2 ^ min (t.s - 1).toNat 64)=(2 ^ (t.s.toNat - 1):Int):=by
        rcases aK2 hp k2 with hz | hz | hz | hz
        · rw [hz]; decide
        · rw [hz]; decide
        · rw [hz]; decide
        · rw [hz] at h64; simp at h64
      have f1:(0<=t.s - 1)=True:=eq_true (by omega)
      have f2:(-9223372036854775808<=t.s - 1)=True:=eq_true (by omega)
      have f3:(t.s - 1<=9223372036854775807)=True:=eq_true (by omega)
      generalize (2 ^ (t.s.toNat - 1):Int)=hi at *
      cases h4:decide (-hi<=v.n)<;>cases h5:decide (v.n < hi) <;>
      · rw [h4,h5] at fin
        simp (maxSteps:=1000000) -dsimp only [go_sem,yT,h64,e1,e2,h4,h5,f1,f2,f3]
        refine aD rfl (.done ?_)
        simp (maxSteps:=1000000) -dsimp only [go_sem,jD]
        exact fin _ _ rfl
  rw [k2,Bool.cond_false] at fin
  simp (maxSteps:=1000000) -dsimp only [go_sem,IS]
  refine ⟨fun k3=>aD rfl (.done ?_),fun k3=>aD rfl (.done ?_)⟩
  · rw [k3,Bool.cond_true] at fin
    obtain ⟨b1,e1⟩:0<=t.s/\IntKind.i64.wrap (1 * 2 ^ min t.s.toNat 64)=(2 ^ t.s.toNat:Int):=by
      rcases aLG hp k3 with hz | hz | hz
      · rw [hz]; decide
      · rw [hz]; decide
      · rw [hz]; decide
    generalize (2 ^ t.s.toNat:Int)=hi at *
    cases h4:decide (0<=v.n)<;>cases h5:decide (v.n < hi) <;>
    · rw [h4,h5] at fin
      simp (maxSteps:=1000000) -dsimp only [go_sem,AD,e1,h4,h5,b1]
      refine aD rfl (.done ?_)
      simp (maxSteps:=1000000) -dsimp only [go_sem,jD]
      exact fin _ _ rfl
  rw [k3,Bool.cond_false] at fin
  simp (maxSteps:=1000000) -dsimp only [go_sem,AO]
  refine ⟨fun k7=>aD rfl (.done ?_),fun k7=>aD rfl (.done ?_)⟩
  · rw [k7,Bool.cond_true] at fin
    simp (maxSteps:=1000000) -dsimp only [go_sem,AK]
    refine iY (s:=s) hs ?_
    generalize hu:(bW s.es t.n).getD default=u at *
    have hul:u.vs.length<=9223372036854775807:=by
      rw [<-hu]
      cases hf:bW s.es t.n with
      | none=>exact Nat.zero_le _
      | some w=>exact (hs.ok.es w (ZE hf).1).lv
    simp (maxSteps:=1000000) -dsimp only [go_sem,aX]
    refine aD rfl (.done ?_)
    simp (maxSteps:=1000000) -dsimp only [go_sem,BC]
    refine aC7 hul ?_
    simp (maxSteps:=1000000) -dsimp only [go_sem,bQ]
    refine aD rfl (.done ?_)
    cases h4:u.vs.any fun x=>x == v.n <;>
    · rw [h4] at fin
      simp (maxSteps:=1000000) -dsimp only [go_sem,jD]
      exact fin _ _ rfl
  rw [k7] at fin
  simp (maxSteps:=1000000) -dsimp only [go_sem,jD]
  exact fin _ _ rfl
end Go.Proofs.YtkpohmhenegkiaaGreatDoor
namespace Go.Proofs.YtkpohmhenegkiaaGreatDoor
open Go.W
theorem K3 {a b:Int × Vl} (h:aY a=aY b):a=b:=by
  obtain ⟨i,x⟩:=a
  obtain ⟨j,y⟩:=b
  obtain ⟨h1,h2⟩:=List.cons.inj h
  have e:i=j:=by simpa using h1
  have e2:x=y:=sZ h2
  rw [e,e2]
instance:Inhabited (Int × Vl):=⟨(0,default)⟩
noncomputable def C.ve:=qR aY
@[go_sem] theorem aRQ (v:Int × Vl):C.ve (aY v)=v:=iM K3 v
@[go_sem] theorem aAV (l:List (Int × Vl)):(l.map aY).map C.ve=l:=jY K3 l
def EF (r:List C):Prop:=∃ u:St,r=aL u/\u.ok/\∀ f ∈ u.fs,TySm f.ty
def aE1 (rs:List (List C)):Prop:=∃ l:List (Int × Vl),rs=l.map aY/\l.length * 88<=140737488355328/\∀ x ∈ l,bK x.1/\VlOk x.2
theorem ZN {v:Vl} (h:VlOk v):aE1 (v.f.map aY):=⟨v.f,rfl,h.lf,fun x hx=>⟨h.fn x hx,h.f x hx⟩⟩
theorem GA {s:Sc} (hs:s.fit) (n:ByteArray):EF (aL ((fS s.ss n).getD default)):=by
  refine ⟨_,rfl,?_⟩
  cases hf:fS s.ss n with
  | none=>exact ⟨St.ok_default,fun f hf=>(List.not_mem_nil hf).elim⟩
  | some w=>exact ⟨hs.ok.ss w (hJ hf).1,(hs.sm w (hJ hf).1).2⟩
def xZ:List S->Prop:=fun av=>match av with
  | [.va (.gs r),.va (.c1 (.fz rs))]=>EF r/\aE1 rs
  | _=>False
theorem n6 {av:List S} (h:xZ av):∃ (u:St) (l:List (Int × Vl)),av=[.va (.gs (aL u)),.va (.c1 (.fz (l.map aY)))]/\u.ok/\(∀ f ∈ u.fs,TySm f.ty)/\l.length * 88<=140737488355328/\∀ x ∈ l,bK x.1/\VlOk x.2:=by
  unfold xZ at h
  split at h
  · obtain ⟨⟨u,rfl,h1,h2⟩,⟨l,rfl,h3,h4⟩⟩:=h; exact ⟨u,l,rfl,h1,h2,h3,h4⟩
  · exact h.elim
noncomputable def PL:List S->A:=fun av=>match av with
  | [.va (.gs r),.va (.c1 (.fz rs))]=>bA (cO (C.st r).fs (rs.map C.ve))
  | _=>.gs []
noncomputable def ftFn1:Fun:=⟨xZ,PL,fun av h=>by obtain ⟨_,_,rfl,_⟩:=n6 h; trivial⟩
theorem NY:∀ av H K,ftFn1.sp av H K->av.length=2:=fun av H K h=>by obtain ⟨_,_,rfl,_⟩:=n6 h.1.1; rfl
attribute [go_sem] ftFn1 xZ PL
def uM (l:List (Int × Vl)):Nat->Option Int
  | 0=>none
  | j + 1=>(l[j]?).map (·.1)
theorem F5 {l:List (Int × Vl)} {n:Int} {x:Int × Vl} (h:l[n.toNat]? = some x) (p:List C->Prop):(∀ r,(l.map aY)[n.toNat]? = some r->p r)=p [.vl (.int .i64 x.1),.vl (.int .i64 x.2.k),.vl (.int .i64 x.2.n),.vl (.string x.2.s),.fz (x.2.l.map aV),.fz (x.2.f.map aY)]:=by
  rw [<-HK]; exact oZ (row:=aY) h p
theorem aE9:Meets Tryz.prog 119 ftFn1.sp:=by
  refine aF Tryz.func119 aIG 2 (by rw [Tryz.ntmps119]; decide) (aB sF (aB L8 (aA _))) NY ?_
  rintro av H K ⟨⟨h,rfl⟩,hK⟩
  obtain ⟨u,l,rfl,hu,hus,hl,hlo⟩:=n6 h
  replace hK:K (bS (cO u.fs l)) []:=by
    have:ftFn1.val [.va (.gs (aL u)),.va (.c1 (.fz (l.map aY)))]=bA (cO u.fs l):=by simp -dsimp only [go_sem]
    rw [this] at hK; exact hK
  clear h
  have fin:∀ (b:Bool) (R:Hp),cO u.fs l=b->W.Fin 0 K (bS b) R:=fun b R h=>by
    rw [h] at hK; exact .sel [] (by simp) (by simp) rfl (.done (by simpa [go_sem] using hK))
  clear hK
  have hfl:=hu.len
  generalize hR:u.fs.all (fun f=>f.opt || lI l f.num)=R2
  have hF:cO u.fs l=(ftA u.fs none l && R2):=by rw [<-hR]; rfl
  rw [hF] at fin
  generalize hR0:(ftA u.fs none l && R2)=R0 at fin
  clear hF
  simp (maxSteps:=1000000) -dsimp only [go_sem,aL,V7,V9]
  refine aK (α:=Nat) (fun i=>[(1,.va (.c1 (.fz (l.map aY)))),(2,.va (.c1 (.pt 0 0))),(11,.va (.c1 (.fz (l.map aY)))),(12,iS .i64 l.length),(13,iS .i64 i)]) (fun _=>[.cells (aL u) 95])
    (fun i=>i<=l.length/\(ftA u.fs (uM l i) (l.drop i) && R2)=R0) (fun i=>l.length - i) 0 1 ⟨Nat.zero_le _,hR0⟩ ?_ ?_ ?_
  · simp -dsimp only [go_sem]<;>simp
  · simp -dsimp only [go_sem,aL]<;>simp
  rintro i ⟨hi,ho⟩
  rcases Nat.lt_or_ge i l.length with hlt | hge
  · have hg:decide ((i:Int) < (l.length:Int))=true:=by simp; omega
    obtain ⟨x,hx⟩:∃ t,l[i]? = some t:=⟨_,List.getElem?_eq_getElem hlt⟩
    have q1:=kG hx
    have hdr:l.drop i=x :: l.drop (i + 1):=by
      obtain ⟨h,rfl⟩:=List.getElem?_eq_some_iff.1 hx
      exact List.drop_eq_getElem_cons h
    have hpv:uM l (i + 1)=some x.1:=by rw [uM,hx]; rfl
    rw [hdr,wT,<-hpv] at ho
    simp (maxSteps:=1000000) -dsimp only [go_sem,hg,↓q1,aL]
    refine ⟨by omega,aD rfl (.done ?_)⟩
    simp (maxSteps:=1000000) -dsimp only [go_sem,BQ]
    refine KD (t:=u) hu hus ?_
    cases hf:fF u.fs x.1 with
    | none=>
      rw [hf] at ho
      simp (maxSteps:=1000000) -dsimp only [go_sem,sS,Option.getD_none,Option.isSome_none]
      refine aD rfl (.done ?_)
      simp (maxSteps:=1000000) -dsimp only [go_sem,mE,Bool.false_and]
      exact fin _ _ ho.symm
    | some g=>
      rw [hf,Option.isSome_some,Bool.true_and] at ho
      simp (maxSteps:=1000000) -dsimp only [go_sem,aR,Option.getD_some,Option.isSome_some]
      refine aD rfl (.done ?_)
      cases hz:decide ((0:Int) < (i:Int)) with
      | false=>
        obtain rfl:i=0:=by have:=of_decide_eq_false hz; omega
        simp (maxSteps:=1000000) -dsimp only [go_sem,mE,hz]
        refine ⟨by omega,aC (0 + 1) 1 ⟨by omega,ho⟩ (by omega) ?_ ?_⟩
        · simp -dsimp only [go_sem]<;>simp
        · simp -dsimp only [go_sem,aL]<;>simp [aL]
      | true=>
        have hz':=of_decide_eq_true hz
        obtain ⟨y,hy⟩:∃ t,l[i - 1]? = some t:=⟨_,List.getElem?_eq_getElem (by omega)⟩
        have hti:((i:Int) - 1).toNat=i - 1:=by omega
        have q2:=fun p=>F5 (n:=(i:Int) - 1) (x:=y) (by rw [hti]; exact hy) p
        have hpi:uM l i=some y.1:=by
          match i,hz',hy with
          | j + 1,_,hy=>rw [uM]; rw [show j + 1 - 1=j by omega] at hy; rw [hy]; rfl
        rw [hpi,G2] at ho
        have f1:(0<=(i:Int) - 1)=True:=eq_true (by omega)
        have f2:((i:Int) - 1 < (l.length:Int))=True:=eq_true (by omega)
        cases hc:decide (x.1<=y.1) with
        | true=>
          have:decide (y.1 < x.1)=false:=by have:=of_decide_eq_true hc; simp; omega
          rw [this] at ho
          simp (maxSteps:=1000000) -dsimp only [go_sem,mE,hz,↓q2,hc,f1,f2,s6]
          exact ⟨by omega,fin _ _ ho.symm⟩
        | false=>
          have:decide (y.1 < x.1)=true:=by have:=of_decide_eq_false hc; simp; omega
          rw [this,Bool.true_and] at ho
          simp (maxSteps:=1000000) -dsimp only [go_sem,mE,hz,↓q2,hc,f1,f2,s6]
          refine ⟨by omega,by omega,aC (i + 1) 1 ⟨by omega,ho⟩ (by omega) ?_ ?_⟩
          · simp -dsimp only [go_sem]<;>simp
          · simp -dsimp only [go_sem,aL]<;>simp [aL]
  · have hg:decide ((i:Int) < (l.length:Int))=false:=by simp; omega
    obtain rfl:i=l.length:=by omega
    rw [List.drop_length,LG,Bool.true_and] at ho
    simp (maxSteps:=1000000) -dsimp only [go_sem,hg,aL]
    refine aD rfl (.done ?_)
    simp (maxSteps:=1000000) -dsimp only [go_sem,BX]
    clear hi hge hg hR0
    rw [<-hR] at ho
    clear hR
    refine aK (α:=Nat) (fun i=>[(1,.va (.c1 (.fz (l.map aY)))),(2,.va (.c1 (.pt 0 0))),(44,.va (.c1 (.fz (u.fs.map aR)))),(45,iS .i64 u.fs.length),(46,iS .i64 i)]) (fun _=>[.cells (aL u) 95])
      (fun i=>i<=u.fs.length/\(u.fs.drop i).all (fun f=>f.opt || lI l f.num)=R0) (fun i=>u.fs.length - i) 0 1 ⟨Nat.zero_le _,ho⟩ ?_ ?_ ?_
    · simp -dsimp only [go_sem]<;>simp
    · simp -dsimp only [go_sem,aL]<;>simp
    clear ho
    rintro i ⟨hi,ho⟩
    rcases Nat.lt_or_ge i u.fs.length with hlt | hge
    · have hg:decide ((i:Int) < (u.fs.length:Int))=true:=by simp; omega
      obtain ⟨f,hx⟩:∃ t,u.fs[i]? = some t:=⟨_,List.getElem?_eq_getElem hlt⟩
      have q1:=aO (row:=aR) hx
      rw [mZ hx] at ho
      simp (maxSteps:=1000000) -dsimp only [go_sem,hg,↓q1,aL,aR]
      refine ⟨by omega,aD rfl (.done ?_)⟩
      cases hop:f.opt with
      | true=>
        rw [hop,Bool.true_or,Bool.true_and] at ho
        simp (maxSteps:=1000000) -dsimp only [go_sem,pV,hop]
        refine ⟨by omega,aC (i + 1) 1 ⟨by omega,ho⟩ (by omega) ?_ ?_⟩
        · simp -dsimp only [go_sem]<;>simp
        · simp -dsimp only [go_sem,aL]<;>simp [aL]
      | false=>
        rw [hop,Bool.false_or] at ho
        have cu:=fun K h=>aAP (l:=l) (f:=f) (K:=K) (by omega) h
        rw [aR,hop] at cu
        simp (maxSteps:=1000000) -dsimp only [go_sem,pV,hop]
        refine cu _ ?_
        cases hc:lI l f.num with
        | false=>
          rw [hc,Bool.false_and] at ho
          simp (maxSteps:=1000000) -dsimp only [go_sem]
          exact fin _ _ ho.symm
        | true=>
          rw [hc,Bool.true_and] at ho
          simp (maxSteps:=1000000) -dsimp only [go_sem]
          refine ⟨by omega,aC (i + 1) 1 ⟨by omega,ho⟩ (by omega) ?_ ?_⟩
          · simp -dsimp only [go_sem]<;>simp
          · simp -dsimp only [go_sem,aL]<;>simp [aL]
    · have hg:decide ((i:Int) < (u.fs.length:Int))=false:=by simp; omega
      obtain rfl:i=u.fs.length:=by omega
      rw [oX] at ho
      simp (maxSteps:=1000000) -dsimp only [go_sem,hg,aL]
      exact fin _ _ ho.symm
end Go.Proofs.YtkpohmhenegkiaaGreatDoor
namespace Go.Proofs.YtkpohmhenegkiaaGreatDoor
open Go.W
abbrev VN (s:Sc) (t:Ty) (v:Vl):Value:=.int .i64 (fD s t v)
abbrev qP (N:Nat):Sc->Ty->Vl->Prop:=fun _ _ v=>v.h<=N
def L1 (s:Sc) (t:Ty) (v:Vl):Int:=bif v.n != 0 || !(bl v.s == []) || decide (0 < (v.f.length:Int)) then 13 else bif decide (t.s < (v.l.length:Int)) then 3 else jV s (t.e.headD default) v.l
def M5 (s:Sc) (t:Ty) (v:Vl):Int:=bif v.n != 0 || !(bl v.s == []) || decide (0 < (v.l.length:Int)) || !(cO ((fS s.ss t.n).getD default).fs v.f) then 13 else jU s ((fS s.ss t.n).getD default).fs v.f
theorem cM {t:Ty} (h:TyOk t):eK [.vl (.int .i64 t.k),.vl (.int .i64 t.s),.vl (.string t.n),.fz (t.e.map aM)]:=by rw [<-aH]; exact dH h
theorem fM (t:Ty):C.ty [.vl (.int .i64 t.k),.vl (.int .i64 t.s),.vl (.string t.n),.fz (t.e.map aM)]=t:=by rw [<-aH,eH]
theorem dX {s:Sc} (h:s.fit):iQ [.vl (.int .i64 s.ver),.fz (s.es.map aX),.fz (s.ss.map aL)]:=eX h
theorem gZ (s:Sc):C.sc [.vl (.int .i64 s.ver),.fz (s.es.map aX),.fz (s.ss.map aL)]=s:=dW s
theorem RA {ss:List St} {es:List En} {t:Ty} (h:valF ss es t=true) (k:(t.k == 5)=true):∃ u,t.e=[u]/\valF ss es u=true:=by
  cases t with
  | mk k0 s n e=>
    obtain rfl:k0=5:=by have k:(k0 == 5)=true:=k; simpa using k
    exact vH h
theorem aBO (N:Nat) (hc:Meets Tryz.prog 53 (cP (qP N) VN).sp):Meets Tryz.prog 93 (cP (fun s t v=>valF s.ss s.es t=true/\(t.k == 5)=true/\v.h<=N + 1) fun s t v=>.int .i64 (L1 s t v)).sp:=by
  refine aF Tryz.func93 aM1 3 (by rw [Tryz.ntmps93]; decide) (aG hc (aA _)) eF ?_
  intro av H K h
  obtain ⟨s,t,v,rfl,rfl,hs,ht,hv,⟨hp,hk,hh⟩,hK⟩:=dE h
  clear h
  have fin:∀ (z:Int) (R:Hp),L1 s t v=z->W.Fin 0 K (iS .i64 z) R:=fun z R h=>by
    rw [h] at hK; exact .sel [] (by simp) (by simp) rfl (.done (by simpa [go_sem] using hK))
  clear hK
  unfold L1 at fin
  obtain ⟨u,he,hu⟩:=RA hp hk
  have huo:TyOk u:=ht.e u (by rw [he]; simp)
  have hll:=hv.ll
  rw [he] at fin
  simp only [List.headD_cons] at fin
  cases h0:(v.n != 0 || !(bl v.s == []) || decide (0 < (v.f.length:Int))) with
  | true=>
    rw [h0] at fin
    cases h1:v.n != 0<;>cases h2:bl v.s == []<;>cases h3:decide (0 < (v.f.length:Int)) <;>
    first
      | (exfalso; rw [h1,h2,h3] at h0; exact absurd h0 (by decide))
      | (simp (maxSteps:=1000000) -dsimp only [go_sem,aE,aH t,aI v,LZ,MR,h1,h2,h3]
         exact fin _ _ rfl)
  | false=>
  rw [h0] at fin
  obtain ⟨h1,h2,h3⟩:(v.n != 0)=false/\(bl v.s == [])=true/\decide (0 < (v.f.length:Int))=false:=by
    simp only [Bool.or_eq_false_iff,Bool.not_eq_false'] at h0; exact ⟨h0.1.1,h0.1.2,h0.2⟩
  cases h4:decide (t.s < (v.l.length:Int)) with
  | true=>
    rw [h4] at fin
    simp (maxSteps:=1000000) -dsimp only [go_sem,aE,aH t,aI v,LZ,MR,h1,h2,h3,h4]
    exact fin _ _ rfl
  | false=>
  rw [h4] at fin
  simp only [Bool.cond_false] at fin
  simp (maxSteps:=1000000) -dsimp only [go_sem,aE,aH t,aI v,LZ,MR,h1,h2,h3,h4]
  refine aK (α:=Nat) (fun i=>[(3,.va (.c1 (.pt 0 0))),(4,.va (.c1 (.pt 1 0))),(5,.va (.c1 (.pt 2 0))),(33,.va (.c1 (.fz (v.l.map aV)))),(34,iS .i64 v.l.length),(35,iS .i64 i)]) (fun _=>[.cells (aE s) 105,.cells [.vl (.int .i64 t.k),.vl (.int .i64 t.s),.vl (.string t.n),.fz (t.e.map aM)] 28,.cells (bQ v) 32])
    (fun i=>i<=v.l.length/\jV s u (v.l.drop i)=jV s u v.l) (fun i=>v.l.length - i) 0 3 ⟨Nat.zero_le _,rfl⟩ ?_ ?_ ?_
  · simp -dsimp only [go_sem]<;>simp
  · simp -dsimp only [go_sem,bQ,aE]<;>simp
  rintro i ⟨hi,ho⟩
  rcases Nat.lt_or_ge i v.l.length with hlt | hge
  · have hg:decide ((i:Int) < (v.l.length:Int))=true:=by simp; omega
    obtain ⟨x,hx⟩:∃ t,v.l[i]? = some t:=⟨_,List.getElem?_eq_getElem hlt⟩
    have q1:=XE hx
    have hxm:=List.mem_of_getElem? hx
    have k1:=cE (hv.l x hxm)
    have k2:=eU x
    have k3:x.h<=N:=by have:=Vl.h_l hxm; omega
    have hdr:v.l.drop i=x :: v.l.drop (i + 1):=by
      obtain ⟨h,rfl⟩:=List.getElem?_eq_some_iff.1 hx
      exact List.drop_eq_getElem_cons h
    have k4:=cM huo
    have k5:=fM u
    have k6:=dX hs
    have k7:=gZ s
    rw [hdr,jV] at ho
    rw [he]
    cases h5:fD s u x != 0 with
    | true=>
      rw [h5,Bool.cond_true] at ho
      simp (maxSteps:=1000000) -dsimp only [go_sem,hg,↓q1,bQ,aE,aH u,k1,k2,k3,k4,k5,k6,k7,h5,List.getElem?_cons_zero,Option.some.injEq,forall_eq']
      exact ⟨by omega,by omega,fin _ _ ho.symm⟩
    | false=>
      rw [h5,Bool.cond_false] at ho
      simp (maxSteps:=1000000) -dsimp only [go_sem,hg,↓q1,bQ,aE,aH u,k1,k2,k3,k4,k5,k6,k7,h5,List.getElem?_cons_zero,Option.some.injEq,forall_eq']
      refine ⟨by omega,by omega,by omega,aC (i + 1) 3 ⟨by omega,ho⟩ (by omega) ?_ ?_⟩
      · simp -dsimp only [go_sem]<;>simp
      · simp -dsimp only [go_sem,bQ,aE]<;>simp [bQ,aE,he,aH u]
  · have hg:decide ((i:Int) < (v.l.length:Int))=false:=by simp; omega
    obtain rfl:i=v.l.length:=by omega
    rw [List.drop_length,jV] at ho
    simp (maxSteps:=1000000) -dsimp only [go_sem,hg,bQ,aE]
    exact fin _ _ ho.symm
end Go.Proofs.YtkpohmhenegkiaaGreatDoor
namespace Go.Proofs.YtkpohmhenegkiaaGreatDoor
open Go.W
theorem IL:TyOk default:=.mk (by unfold bK; decide) (by unfold bK; decide) (by decide) (by decide) (fun _ h=>by cases h)
theorem aFC {fs:List Fl} {u:St} (hu:u.ok) (e:fs=u.fs) (k:Int):TyOk ((fF fs k).getD default).ty:=by
  subst e
  cases hf:fF u.fs k with
  | none=>exact IL
  | some g=>exact (hu.fs g (List.mem_of_find?_eq_some hf)).ty
theorem PN (N:Nat) (hc:Meets Tryz.prog 53 (cP (qP N) VN).sp):Meets Tryz.prog 94 (cP (fun _ _ v=>v.h<=N + 1) fun s t v=>.int .i64 (M5 s t v)).sp:=by
  refine aF Tryz.func94 aLB 3 (by rw [Tryz.ntmps94]; decide) (aG hc (aB m1 (aG aE9 (aB sF (aA _))))) eF ?_
  intro av H K h
  obtain ⟨s,t,v,rfl,rfl,hs,ht,hv,hh,hK⟩:=dE h
  clear h
  have fin:∀ (z:Int) (R:Hp),M5 s t v=z->W.Fin 0 K (iS .i64 z) R:=fun z R h=>by
    rw [h] at hK; exact .sel [] (by simp) (by simp) rfl (.done (by simpa [go_sem] using hK))
  clear hK
  unfold M5 at fin
  have hlf:=hv.lf
  have kS:=GA hs t.n
  have kE:=ZN hv
  simp (maxSteps:=1000000) -dsimp only [go_sem,aE,aH t,aI v,aC0,aAU]
  refine gP (s:=s) hs ?_
  generalize (fS s.ss t.n).getD default=u at *
  obtain ⟨huo,hus⟩:u.ok/\∀ f ∈ u.fs,TySm f.ty:=by
    obtain ⟨w,hw,h1,h2⟩:=kS
    obtain rfl:=tH hw
    exact ⟨h1,h2⟩
  have kd:=PU u
  have kv:=aAV v.f
  rw [aL] at kS kd
  simp (maxSteps:=1000000) -dsimp only [go_sem,aL]
  refine aD rfl (.done ?_)
  cases h0:(v.n != 0 || !(bl v.s == []) || decide (0 < (v.l.length:Int)) || !(cO u.fs v.f)) with
  | true=>
    rw [h0] at fin
    cases h1:v.n != 0<;>cases h2:bl v.s == []<;>cases h3:decide (0 < (v.l.length:Int))<;>cases h4:cO u.fs v.f <;>
    first
      | (exfalso; rw [h1,h2,h3,h4] at h0; exact absurd h0 (by decide))
      | (simp (maxSteps:=1000000) -dsimp only [go_sem,y6,h1,h2,h3,h4,kS,kE,kd]
         exact fin _ _ rfl)
  | false=>
  rw [h0] at fin
  simp only [Bool.cond_false] at fin
  obtain ⟨h1,h2,h3,h4⟩:(v.n != 0)=false/\(bl v.s == [])=true/\decide (0 < (v.l.length:Int))=false/\cO u.fs v.f=true:=by
    simp only [Bool.or_eq_false_iff,Bool.not_eq_false'] at h0; exact ⟨h0.1.1.1,h0.1.1.2,h0.1.2,h0.2⟩
  simp (maxSteps:=1000000) -dsimp only [go_sem,y6,h1,h2,h3,h4,kS,kE,kd]
  refine aK (α:=Nat) (fun i=>[(3,.va (.c1 (.pt 0 0))),(4,.va (.c1 (.pt 1 0))),(5,.va (.c1 (.pt 2 0))),(7,.va (.c1 (.pt 3 0))),(44,.va (.c1 (.fz (v.f.map aY)))),(45,iS .i64 v.f.length),(46,iS .i64 i)]) (fun _=>[.cells (aE s) 105,.cells [.vl (.int .i64 t.k),.vl (.int .i64 t.s),.vl (.string t.n),.fz (t.e.map aM)] 28,.cells (bQ v) 32,.cells (aL u) 95])
    (fun i=>i<=v.f.length/\jU s u.fs (v.f.drop i)=jU s u.fs v.f) (fun i=>v.f.length - i) 0 4 ⟨Nat.zero_le _,rfl⟩ ?_ ?_ ?_
  · simp -dsimp only [go_sem]<;>simp
  · simp -dsimp only [go_sem,bQ,aE,aL]<;>simp
  rintro i ⟨hi,ho⟩
  rcases Nat.lt_or_ge i v.f.length with hlt | hge
  · have hg:decide ((i:Int) < (v.f.length:Int))=true:=by simp; omega
    obtain ⟨x,hx⟩:∃ t,v.f[i]? = some t:=⟨_,List.getElem?_eq_getElem hlt⟩
    have q1:=kG hx
    have hxm:=List.mem_of_getElem? hx
    have k1:=cE (hv.f x hxm)
    have k2:=eU x.2
    have k3:x.2.h<=N:=by have:=Vl.h_f hxm; omega
    have hdr:v.f.drop i=x :: v.f.drop (i + 1):=by
      obtain ⟨h,rfl⟩:=List.getElem?_eq_some_iff.1 hx
      exact List.drop_eq_getElem_cons h
    have k6:=dX hs
    have k7:=gZ s
    rw [hdr,FJ] at ho
    have hgo:=aFC huo rfl x.1
    simp (maxSteps:=1000000) -dsimp only [go_sem,hg,↓q1,bQ,aE,aL]
    refine ⟨by omega,aD rfl (.done ?_)⟩
    simp (maxSteps:=1000000) -dsimp only [go_sem,FA]
    refine KD (t:=u) huo hus ?_
    generalize (fF u.fs x.1).getD default=g at *
    have k4:=cM hgo
    have k5:=fM g.ty
    simp (maxSteps:=1000000) -dsimp only [go_sem,aR]
    refine aD rfl (.done ?_)
    simp (maxSteps:=1000000) -dsimp only [go_sem,FR,k1,k2,k3,k4,k5,k6,k7]
    refine aD rfl (.done ?_)
    cases h5:fD s g.ty x.2 != 0 with
    | true=>
      rw [h5,Bool.cond_true] at ho
      simp (maxSteps:=1000000) -dsimp only [go_sem,xQ,h5]
      exact fin _ _ ho.symm
    | false=>
      rw [h5,Bool.cond_false] at ho
      simp (maxSteps:=1000000) -dsimp only [go_sem,xQ,h5]
      refine ⟨by omega,aC (i + 1) 4 ⟨by omega,ho⟩ (by omega) ?_ ?_⟩
      · simp -dsimp only [go_sem]<;>simp
      · simp -dsimp only [go_sem,bQ,aE,aL]<;>simp [bQ,aE,aL]
  · have hg:decide ((i:Int) < (v.f.length:Int))=false:=by simp; omega
    obtain rfl:i=v.f.length:=by omega
    rw [List.drop_length,jU] at ho
    simp (maxSteps:=1000000) -dsimp only [go_sem,hg,bQ,aE,aL]
    exact fin _ _ ho.symm
theorem A8:∀ N,Meets Tryz.prog 53 (cP (qP N) VN).sp
  | 0=>⟨by kernel_rfl,by rintro xs vs E ro w K _ _ _ h; obtain ⟨_,_,v,_,_,_,_,_,h,_⟩:=dE h; have:=v.h_pos; have h:v.h<=0:=h; omega⟩
  | N + 1=>by
    refine aF Tryz.func53 aNQ 3 (by rw [Tryz.ntmps53]; decide) (aG uP (aG S9 (aG aBD (aG (aBO N (A8 N)) (aG (PN N (A8 N)) (aA _)))))) eF ?_
    intro av H K h
    obtain ⟨s,t,v,rfl,rfl,hs,ht,hv,hh,hK⟩:=dE h
    clear h
    have hh:v.h<=N + 1:=hh
    have fin:∀ (z:Int) (R:Hp),fD s t v=z->W.Fin 0 K (iS .i64 z) R:=fun z R h=>by
      have hK:K (iS .i64 (fD s t v)) []:=hK
      rw [h] at hK; exact .sel [] (by simp) (by simp) rfl (.done (by simpa [go_sem] using hK))
    clear hK
    rw [O7] at fin
    have k1:=cE hv
    have k2:=eU v
    have k4:=cM ht
    have k5:=fM t
    have k6:=dX hs
    have k7:=gZ s
    cases h1:valF s.ss s.es t with
    | false=>
      rw [h1] at fin
      simp (maxSteps:=1000000) -dsimp only [go_sem,aE,aH t,aI v,v8,v6,k4,k5,k6,k7,h1]
      exact fin _ _ rfl
    | true=>
    cases h2:v.k != t.k with
    | true=>
      rw [h1,h2] at fin
      simp (maxSteps:=1000000) -dsimp only [go_sem,aE,aH t,aI v,v8,v6,k4,k5,k6,k7,h1,h2]
      exact fin _ _ rfl
    | false=>
    rw [h1,h2] at fin
    simp only [Bool.not_true,Bool.or_self,Bool.cond_false] at fin
    cases h4:t.k == 4 with
    | true=>
      rw [h4,Bool.cond_true] at fin
      simp (maxSteps:=1000000) -dsimp only [go_sem,aE,aH t,aI v,v8,v6,k1,k2,k4,k5,k6,k7,h1,h2,h4,List.all_cons,List.all_nil]
      exact fin _ _ rfl
    | false=>
    rw [h4,Bool.cond_false] at fin
    cases h5:t.k == 5 with
    | true=>
      rw [h5,Bool.cond_true] at fin
      simp (maxSteps:=1000000) -dsimp only [go_sem,aE,aH t,aI v,v8,v6,k1,k2,k4,k5,k6,k7,h1,h2,h4,h5,hh,List.all_cons,List.all_nil]
      exact fin _ _ rfl
    | false=>
    rw [h5,Bool.cond_false] at fin
    cases h6:t.k == 6 with
    | true=>
      rw [h6,Bool.cond_true] at fin
      simp (maxSteps:=1000000) -dsimp only [go_sem,aE,aH t,aI v,v8,v6,k1,k2,k4,k5,k6,k7,h1,h2,h4,h5,h6,hh,List.all_cons,List.all_nil]
      exact fin _ _ rfl
    | false=>
    rw [h6,Bool.cond_false] at fin
    simp (maxSteps:=1000000) -dsimp only [go_sem,aE,aH t,aI v,v8,v6,k1,k2,k4,k5,k6,k7,h1,h2,h4,h5,h6,List.all_cons,List.all_nil]
    exact fin _ _ rfl
def dQ (s:Sc) (t:Ty) (v:Vl):Int:=bif decide (6 < rZ 7 v) then 9 else fD s t v
theorem Y2:Meets Tryz.prog 53 (cP (fun _ _ _=>True) VN).sp:=eN 0 A8 fun av H K h=>by
  obtain ⟨s,t,v,rfl,rfl,hs,ht,hv,_,hK⟩:=dE h
  refine ⟨v.h,⟨⟨eX hs,dH ht,JY hv,?_⟩,rfl⟩,?_⟩
  · show (C.vv (aV v)).h<=v.h; rw [kO]; exact Nat.le_refl _
  · simpa -dsimp only [go_sem] using hK
theorem AP:Meets Tryz.prog 23 (cP (fun _ _ _=>True) fun s t v=>.int .i64 (dQ s t v)).sp:=by
  refine aF Tryz.func23 aMV 3 (by rw [Tryz.ntmps23]; decide) (aG (LB 8) (aG Y2 (aA _))) eF ?_
  intro av H K h
  obtain ⟨s,t,v,rfl,rfl,hs,ht,hv,_,hK⟩:=dE h
  clear h
  have fin:∀ (z:Int) (R:Hp),dQ s t v=z->W.Fin 0 K (iS .i64 z) R:=fun z R h=>by
    rw [h] at hK; exact .sel [] (by simp) (by simp) rfl (.done (by simpa [go_sem] using hK))
  clear hK
  unfold dQ at fin
  have k1:=cE hv
  have k2:=eU v
  have k4:=cM ht
  have k5:=fM t
  have k6:=dX hs
  have k7:=gZ s
  have e8:((6:Int)=((8:Nat):Int) - 2)=True:=by decide
  have e9:hS 8 v=rZ 7 v:=rfl
  cases h1:decide (6 < rZ 7 v) with
  | true=>
    rw [h1] at fin
    simp (maxSteps:=1000000) -dsimp only [go_sem,aE,aH t,aI v,RW,SA,k1,k2,e8,e9,h1]
    exact fin _ _ rfl
  | false=>
    rw [h1] at fin
    simp (maxSteps:=1000000) -dsimp only [go_sem,aE,aH t,aI v,RW,SA,k1,k2,k4,k5,k6,k7,e8,e9,h1]
    exact fin _ _ rfl
end Go.Proofs.YtkpohmhenegkiaaGreatDoor
namespace Go.Proofs.YtkpohmhenegkiaaGreatDoor
open Go.W
theorem X2:∀ (m:Nat) (r:List UInt8) (i:Nat) (out:List UInt8),r.length=m->(quoL i r out).1<=i + r.length:=by
  intro m
  induction m using Nat.strongRecOn with
  | ind m ih=>
    intro r i out hm
    cases r with
    | nil=>rw [pL]; exact Nat.le_add_right _ _
    | cons c r=>
      rw [kQ]
      simp only [List.length_cons] at hm ⊢
      cases (decide (c < 32) || decide (126 < c)) with
      | true=>simp
      | false=>
        cases (c == 34) with
        | true=>simp
        | false=>
          cases (c == 92) with
          | true=>
            simp only [Bool.cond_false,Bool.cond_true]
            cases r with
            | nil=>simp
            | cons d r'=>
              simp only [List.length_cons] at hm ⊢
              cases (d == 34 || d == 92) with
              | true=>simp only [Bool.cond_true]; have:=ih r'.length (by omega) r' (i + 2) (out ++ [d]) rfl; omega
              | false=>simp
          | false=>
            simp only [Bool.cond_false]
            have:=ih r.length (by omega) r (i + 1) (out ++ [c]) rfl; omega
structure Told (l:List UInt8) (p:Nat) (k:Int) (x:List UInt8) (n:Int) (z:Nat):Prop where
  zero:k=0->p=l.length/\x=[]/\n=0
  one:k ≠ 0->∃ c,l[p]? = some c/\p < z/\z<=l.length/\0 < k/\k<=4/\32 < c.toNat/\c.toNat ≠ 35/\(c == 34)=(k == 3)/\(k == 1)=a8 c.toNat
theorem z6 {l:List UInt8} {a:Nat} (ha:a<=l.length):(∀ {e t},jH l a=.bad e t->0<=t/\t<=l.length)/\∀ {k x n z},jH l a=.ok k x n z->k=1:=by
  have:=tB (p:=aW) ha
  unfold jH
  simp only
  cases decide (16 < bL aW l a - a)<;>cases (l[bL aW l a]? == some 45)<;>simp [R.bad.injEq,R.ok.injEq]
  all_goals (intros; omega)
theorem DE {l:List UInt8} {a:Nat} {c:UInt8} (hc:l[a]? = some c):(∀ {e t},lJ l a=.bad e t->0<=t/\t<=l.length)/\∀ {k x n z},lJ l a=.ok k x n z->k=2:=by
  have hlt:a < l.length:=(List.getElem?_eq_some_iff.1 hc).1
  have hge:(bif l[a]? == some 45 then a + 1 else a)<=l.length:=by cases (l[a]? == some 45)<;>simp<;>omega
  have hz2:=tB (p:=bJ) hge
  unfold lJ
  simp only
  generalize (List.drop (bif l[a]? == some 45 then a + 1 else a) (List.take (bL bJ l (bif l[a]? == some 45 then a + 1 else a)) l))=q
  cases (q == [] || (q[0]? == some 48 && (decide (1 < q.length) || l[a]? == some 45))) with
  | true=>simp only [Bool.cond_true,R.bad.injEq,reduceCtorEq,false_implies,implies_true,and_true]; rintro e t ⟨rfl,rfl⟩; omega
  | false=>
    simp only [Bool.cond_false]
    split
    · simp only [R.bad.injEq,reduceCtorEq,false_implies,implies_true,and_true]; rintro e t ⟨rfl,rfl⟩; omega
    · cases wR l (bL bJ l (bif l[a]? == some 45 then a + 1 else a))<;>simp only [Bool.cond_true,Bool.cond_false,R.bad.injEq,R.ok.injEq,reduceCtorEq,false_implies,implies_true,and_true,true_and]
      · rintro k x n z ⟨rfl,_⟩; rfl
      · rintro e t ⟨rfl,rfl⟩; omega
theorem AA {l:List UInt8} {a:Nat} (ha:a < l.length):(∀ {e t},iU l a=.bad e t->0<=t/\t<=l.length)/\∀ {k x n z},iU l a=.ok k x n z->k=3:=by
  have:=X2 _ (l.drop (a + 1)) (a + 1) [] rfl
  simp only [List.length_drop] at this
  unfold iU
  split
  · rename_i i hq
    rw [hq] at this
    simp only at this
    constructor
    · intro e t h; simp only [R.bad.injEq] at h; omega
    · intro k x n z h; cases h
  · rename_i z o hq
    cases decide (200 < o.length)<;>simp [R.bad.injEq,R.ok.injEq]
    all_goals (intros; omega)
def KT (c:UInt8):Bool:=
  (!(a8 c.toNat || bJ c || c == 45 || c == 34 || f0 c.toNat) || (decide (32 < c.toNat) && c.toNat != 35)) && (!a8 c.toNat || !(c == 34)) && (!(bJ c || c == 45) || !(c == 34)) && (!f0 c.toNat || !(c == 34))
theorem N3 (c:UInt8):KT c=true:=cQ (by decide +kernel) c
theorem q9 {l:List UInt8} {p:Nat} (hp:p<=l.length):(∀ {e t},iW l p=.bad e t->e ≠ 0/\0<=t/\t<=l.length)/\∀ {k x n z},iW l p=.ok k x n z->Told l p k x n z:=by
  obtain ⟨hb,ho⟩:=zN hp
  refine ⟨fun {e t} h=>⟨hb h,?_⟩,fun {k x n z} h=>?_⟩
  · unfold iW at h
    split at h
    · cases h
    · rename_i c hc
      have hlt:p < l.length:=(List.getElem?_eq_some_iff.1 hc).1
      revert h
      cases a8 c.toNat with
      | true=>exact fun h=>(z6 hp).1 h
      | false=>
        cases (bJ c || c == 45) with
        | true=>exact fun h=>(DE hc).1 h
        | false=>
          cases (c == 34) with
          | true=>exact fun h=>(AA hlt).1 h
          | false=>
            cases f0 c.toNat with
            | true=>intro h; cases h
            | false=>intro h; simp only [Bool.cond_false,R.bad.injEq] at h; omega
  · obtain ⟨o1,o2⟩:=ho h
    unfold iW at h
    split at h
    · simp only [R.ok.injEq] at h
      exact ⟨fun h0=>⟨o1 h0,h.2.1.symm,h.2.2.1.symm⟩,fun h0=>absurd h.1.symm h0⟩
    · rename_i c hc
      have hlt:p < l.length:=(List.getElem?_eq_some_iff.1 hc).1
      have hs:=N3 c
      unfold KT at hs
      have key:∀ {q:Int},k=q->0 < q->q<=4->(32 < c.toNat/\c.toNat ≠ 35)->(c == 34)=(q == 3)->(q == 1)=a8 c.toNat->Told l p k x n z:=by
        rintro q rfl h1 h2 h3 h4 h5
        obtain ⟨h6,h7⟩:=o2 (by omega)
        exact ⟨fun h=>by omega,fun _=>⟨c,hc,h6,h7,h1,h2,h3.1,h3.2,h4,h5⟩⟩
      revert h hs
      cases hL:a8 c.toNat with
      | true=>
        intro h hs
        simp at hs
        exact key ((z6 hp).2 h) (by omega) (by omega) hs.1.1.1 (by simpa using hs.1.1.2) (by rw [hL]; rfl)
      | false=>
        cases hd:(bJ c || c == 45) with
        | true=>
          intro h hs
          have hd':bJ c=true\/c=45:=by simpa using hd
          simp only [Bool.false_or,hd,Bool.true_or,Bool.not_true,Bool.not_false,Bool.and_true,Bool.true_and,Bool.and_eq_true] at hs
          simp at hs
          exact key ((DE hc).2 h) (by omega) (by omega) hs.1.1 (by simpa using hs.1.2) (by rw [hL]; rfl)
        | false=>
          cases h4:(c == 34) with
          | true=>
            intro h hs
            have:c=34:=by simpa using h4
            subst this
            exact key ((AA hlt).2 h) (by omega) (by omega) (by decide) (by rfl) (by rw [hL]; rfl)
          | false=>
            cases hm:f0 c.toNat with
            | true=>
              intro h hs
              simp only [Bool.false_or,hd,Bool.or_true,Bool.not_true,Bool.not_false,Bool.and_true,Bool.true_and,Bool.and_eq_true] at hs
              simp at hs
              simp only [Bool.cond_false,Bool.cond_true,R.ok.injEq] at h
              exact key h.1.symm (by omega) (by omega) hs (by rw [h4]; rfl) (by rw [hL]; rfl)
            | false=>intro h hs; cases h
def q8 (l:List UInt8):Nat->List Tk->Prop
  | _,[]=>False
  | a,t :: ts=>a<=t.a/\t.a<=l.length/\∃ z,Told l t.a t.k t.x t.n z/\(t.k=0->ts=[])/\(t.k ≠ 0->q8 l z ts)
theorem DL {l:List UInt8}:∀ (f a:Nat) (ts:List Tk),a<=l.length->l.length < f + a->fV f l a=.ok ts->q8 l a ts
  | 0,a,ts,ha,hf,h=>by omega
  | f + 1,a,ts,ha,hf,h=>by
    have hpl:bM l a<=l.length:=p7 ha
    have hpa:a<=bM l a:=FW
    rw [fV] at h
    split at h
    · cases h
    · rename_i k x n z hR
      have ht:=(q9 hpl).2 hR
      cases hk:k == 0 with
      | true=>
        rw [hk] at h
        simp only [Bool.cond_true,SR.ok.injEq] at h
        subst h
        exact ⟨hpa,hpl,z,ht,fun _=>rfl,fun h=>absurd (by simpa using hk) h⟩
      | false=>
        rw [hk] at h
        have hk':k ≠ 0:=by simpa using hk
        obtain ⟨c,_,h1,h2,_⟩:=ht.one hk'
        cases hr:fV f l z with
        | bad e t=>rw [hr] at h; cases h
        | ok us=>
          rw [hr] at h
          simp only [Bool.cond_false,SR.cons,SR.ok.injEq] at h
          subst h
          exact ⟨hpa,hpl,z,ht,fun h=>absurd h hk',fun _=>DL f z us h2 (by omega) hr⟩
theorem HS {l:List UInt8}:∀ (f a:Nat) (e t:Int),a<=l.length->fV f l a=.bad e t->e ≠ 0/\0<=t/\t<=l.length
  | 0,a,e,t,ha,h=>by cases h
  | f + 1,a,e,t,ha,h=>by
    have hpl:bM l a<=l.length:=p7 ha
    rw [fV] at h
    split at h
    · rename_i e' t' hR
      have:=(q9 hpl).1 hR
      simp only [SR.bad.injEq] at h
      obtain ⟨rfl,rfl⟩:=h; exact this
    · rename_i k x n z hR
      have ht:=(q9 hpl).2 hR
      cases hk:k == 0 with
      | true=>rw [hk] at h; cases h
      | false=>
        rw [hk] at h
        have hk':k ≠ 0:=by simpa using hk
        obtain ⟨c,_,h1,h2,_⟩:=ht.one hk'
        cases hr:fV f l z with
        | bad e' t'=>rw [hr] at h; simp only [Bool.cond_false,SR.cons,SR.bad.injEq] at h; obtain ⟨rfl,rfl⟩:=h; exact HS f z _ _ h2 hr
        | ok us=>rw [hr] at h; cases h
theorem M9 (l:List UInt8):(a7 l).err ≠ 0/\(a7 l).toks=[]/\0<=(a7 l).off/\(a7 l).off<=l.length\/(a7 l).err=0/\(a7 l).off=0/\l.length<=4000/\q8 l 0 (a7 l).toks:=by
  unfold a7
  cases h:decide (4000 < l.length) with
  | true=>left; exact ⟨by simp [SR.err],rfl,by simp [SR.off],by simp [SR.off]⟩
  | false=>
    have h4:l.length<=4000:=by simpa using h
    simp only [Bool.cond_false]
    cases hr:fV (l.length + 1) l 0 with
    | bad e t=>left; obtain ⟨h1,h2,h3⟩:=HS _ _ _ _ (by omega) hr; exact ⟨h1,rfl,h2,h3⟩
    | ok ts=>right; exact ⟨rfl,rfl,h4,DL _ _ _ (by omega) (by omega) hr⟩
theorem KR {l:List UInt8} {a:Nat} {ts:List Tk} (h:q8 l a ts):0 < ts.length:=by
  cases ts with
  | nil=>exact h.elim
  | cons t ts=>simp
theorem E5 {l:List UInt8}:∀ {a:Nat} {ts:List Tk},q8 l a ts->ts.length + a<=l.length + 1
  | a,[],h=>h.elim
  | a,t :: ts,⟨h1,h2,z,h3,h4,h5⟩=>by
    rcases Decidable.em (t.k=0) with h0 | h0
    · rw [h4 h0]; simp only [List.length_cons,List.length_nil]; omega
    · obtain ⟨c,_,g1,_⟩:=h3.one h0
      have:=E5 (h5 h0)
      simp only [List.length_cons]; omega
theorem JR {l:List UInt8}:∀ {a:Nat} {ts:List Tk} {i:Nat} {t:Tk},q8 l a ts->ts[i]? = some t->
    a<=t.a/\t.a<=l.length/\(∃ z,Told l t.a t.k t.x t.n z)/\(t.k=0 ↔ i + 1=ts.length)/\∀ u,0 < i->ts[i - 1]? = some u->u.a < t.a
  | a,[],i,t,h,_=>h.elim
  | a,s :: ts,0,t,⟨h1,h2,z,h3,h4,h5⟩,hi=>by
    simp at hi; subst hi
    refine ⟨h1,h2,⟨z,h3⟩,⟨fun h=>by rw [h4 h]; rfl,fun h=>?_⟩,fun u h=>by omega⟩
    rcases Decidable.em (s.k=0) with h0 | h0
    · exact h0
    · have:=KR (h5 h0); simp only [List.length_cons] at h; omega
  | a,s :: ts,i + 1,t,⟨h1,h2,z,h3,h4,h5⟩,hi=>by
    simp at hi
    have h0:s.k ≠ 0:=fun h=>by rw [h4 h] at hi; simp at hi
    obtain ⟨c,_,g1,g2,_⟩:=h3.one h0
    obtain ⟨q1,q2,q3,q4,q5⟩:=JR (h5 h0) hi
    refine ⟨by omega,q2,q3,by rw [q4]; simp,fun u _ hu=>?_⟩
    simp only [Nat.add_sub_cancel] at hu
    cases i with
    | zero=>simp at hu; subst hu; omega
    | succ i=>simp at hu; exact q5 u (by omega) (by simpa using hu)
end Go.Proofs.YtkpohmhenegkiaaGreatDoor
namespace Go.Proofs.YtkpohmhenegkiaaGreatDoor
open Go.W
def Got:R->ByteArray->Int->Int->Int->Int->Prop
  | .ok _ x n z,x',n',z',e',t'=>x'=mk x/\n'=n/\z'=z/\e'=0/\t'=0
  | .bad e t,_,_,_,e',t'=>e'=e/\t'=t
end Go.Proofs.YtkpohmhenegkiaaGreatDoor
namespace Go.Proofs.YtkpohmhenegkiaaGreatDoor
open Go.W
theorem Got.bad {r:R} {e t:Int} (h:r=.bad e t) {x:ByteArray} {n z:Int}:Got r x n z e t:=by subst h; exact ⟨rfl,rfl⟩
theorem Got.ok {r:R} {k:Int} {x:List UInt8} {n:Int} {z:Nat} (h:r=.ok k x n z):Got r (mk x) n z 0 0:=by subst h; exact ⟨rfl,rfl,rfl,rfl,rfl⟩
end Go.Proofs.YtkpohmhenegkiaaGreatDoor
namespace Go.Proofs.YtkpohmhenegkiaaGreatDoor
open Go.W
theorem RM (l:List UInt8):cF l=true ↔ ∃ c,l[0]? = some c/\l.length<=16/\a8 c.toNat=true/\∀ x ∈ l,aW x=true:=by
  cases l with
  | nil=>simp [cF]
  | cons c l=>simp [cF,and_assoc]
end Go.Proofs.YtkpohmhenegkiaaGreatDoor
namespace Go.Proofs.YtkpohmhenegkiaaGreatDoor
open Go.W
structure Ends (ts:List Tk):Prop where
  pos:0 < ts.length
  le:ts.length<=4001
  last:∀ (i:Nat) (t:Tk),ts[i]? = some t->(t.k=0 ↔ i + 1=ts.length)
abbrev gT (T:TypeId) (ts:List Tk) (n:Nat):B:=.cells [.fz (ts.map cW),.vl (.int .i64 n)] T
theorem SQ (T:TypeId) (ts:List Tk) (n:Nat):gT T ts (n + 1)=.cells [.fz (ts.map cW),.vl (.int .i64 ((n:Int) + 1))] T:=rfl
def eD (T:TypeId) (post:List Tk->Nat->(S->Hp->Prop)->Prop):W.Spec:=fun xs H K=>
  match xs,H with
  | [.va (.c1 (.pt 0 0))],[.cells [.fz r,.vl (.int .i64 a)] T']=>T'=T/\∃ (ts:List Tk) (n:Nat),r=ts.map cW/\a=n/\Ends ts/\n < ts.length/\post ts n K
  | _,_=>False
theorem r8 {T:TypeId} {post:List Tk->Nat->(S->Hp->Prop)->Prop} {xs:List S} {H:Hp} {K:S->Hp->Prop} (h:eD T post xs H K) :
    ∃ ts n,xs=[.va (.c1 (.pt 0 0))]/\H=[gT T ts n]/\Ends ts/\n < ts.length/\post ts n K:=by
  unfold eD at h
  split at h
  · obtain ⟨rfl,ts,n,rfl,rfl,h1,h2,h3⟩:=h; exact ⟨ts,n,rfl,rfl,h1,h2,h3⟩
  · exact h.elim
theorem HD {T:TypeId} {post:List Tk->Nat->(S->Hp->Prop)->Prop}:∀ xs H K,eD T post xs H K->xs.length=1:=fun xs H K h=>by obtain ⟨ts,n,rfl,_⟩:=r8 h; rfl
attribute [go_sem ↓] eD
def b9 (ts:List Tk) (n:Nat):Nat:=if n + 1 < ts.length then n + 1 else n
def bT (T:TypeId):W.Spec:=eD T fun ts n K=>∀ t,ts[n]? = some t->K (.va (.gs (cW t))) [gT T ts n]
def b8 (T:TypeId):W.Spec:=eD T fun ts n K=>∀ t,ts[n]? = some t->K (.va (.gs (cW t))) [gT T ts (b9 ts n)]
attribute [go_sem ↓] bT b8
theorem pW:Meets Tryz.prog 30 (bT 114):=by
  refine aF Tryz.func30 aKS 1 (by rw [Tryz.ntmps30]; decide) (aA _) HD ?_
  intro xs H K h
  obtain ⟨ts,n,rfl,rfl,hE,hn,hK⟩:=r8 h
  simp -dsimp only [go_sem,aEW,aB2]
  refine ⟨fun h=>?_,fun _=>⟨by omega,fun t ht=>.sel [0] (by simp) (by simp) rfl (.done (hK t ht))⟩⟩
  have:=hE.pos; simp at h; simp [h] at this
theorem EK:Meets Tryz.prog 100 (b8 114):=by
  refine aF Tryz.func100 aF7 1 (by rw [Tryz.ntmps100]; decide) (aB pW (aA _)) HD ?_
  intro xs H K h
  obtain ⟨ts,n,rfl,rfl,hE,hn,hK⟩:=r8 h
  simp -dsimp only [go_sem,WZ,V3]
  refine ⟨ts,n,rfl,rfl,hE,hn,fun t ht=>?_⟩
  have hK:=hK t ht
  have hle:=hE.le
  refine ⟨by omega,fun h=>⟨by omega,?_⟩,fun h=>?_⟩
  · have e:b9 ts n=n + 1:=if_pos (by simp at h; omega)
    rw [e,SQ] at hK
    exact .sel [0] (by simp) (by simp) rfl (.done hK)
  · have e:b9 ts n=n:=if_neg (by simp at h; omega)
    rw [e] at hK
    exact .sel [0] (by simp) (by simp) rfl (.done hK)
def fC (k:Int) (w:List UInt8) (t:Tk):Bool:=t.k == k && t.x == w
def rD (k:Int) (w:List UInt8) (ts:List Tk) (n:Nat) (t:Tk):Nat:=bif fC k w t then b9 ts n else n
def bR (k:Int) (T:TypeId):W.Spec:=fun xs H K=>
  match xs,H with
  | [.va (.c1 (.pt 0 0)),.va (.c1 (.vl (.string w)))],[.cells [.fz r,.vl (.int .i64 a)] T']=>T'=T/\∃ (ts:List Tk) (n:Nat),r=ts.map cW/\a=n/\Ends ts/\n < ts.length/\
      ∀ t,ts[n]? = some t->K (bS (fC k (bl w) t)) [gT T ts (rD k (bl w) ts n t)]
  | _,_=>False
theorem oD {k:Int} {T:TypeId} {xs:List S} {H:Hp} {K:S->Hp->Prop} (h:bR k T xs H K) :
    ∃ w ts n,xs=[.va (.c1 (.pt 0 0)),tS w]/\H=[gT T ts n]/\Ends ts/\n < ts.length/\∀ t,ts[n]? = some t->K (bS (fC k (bl w) t)) [gT T ts (rD k (bl w) ts n t)]:=by
  unfold bR at h
  split at h
  · obtain ⟨rfl,ts,n,rfl,rfl,h1,h2,h3⟩:=h; exact ⟨_,ts,n,rfl,rfl,h1,h2,h3⟩
  · exact h.elim
theorem xM {k:Int} {T:TypeId}:∀ xs H K,bR k T xs H K->xs.length=2:=fun xs H K h=>by obtain ⟨w,ts,n,rfl,_⟩:=oD h; rfl
def cC (T:TypeId):W.Spec:=fun xs H K=>
  match xs,H with
  | [.va (.c1 (.pt 0 0)),.va (.c1 (.vl (.int .i64 k))),.va (.c1 (.vl (.string w)))],[.cells [.fz r,.vl (.int .i64 a)] T']=>T'=T/\∃ (ts:List Tk) (n:Nat),r=ts.map cW/\a=n/\Ends ts/\n < ts.length/\
      ∀ t,ts[n]? = some t->K (bS (fC k (bl w) t)) [gT T ts (rD k (bl w) ts n t)]
  | _,_=>False
theorem uJ {T:TypeId} {xs:List S} {H:Hp} {K:S->Hp->Prop} (h:cC T xs H K) :
    ∃ k w ts n,xs=[.va (.c1 (.pt 0 0)),iS .i64 k,tS w]/\H=[gT T ts n]/\Ends ts/\n < ts.length/\∀ t,ts[n]? = some t->K (bS (fC k (bl w) t)) [gT T ts (rD k (bl w) ts n t)]:=by
  unfold cC at h
  split at h
  · obtain ⟨rfl,ts,n,rfl,rfl,h1,h2,h3⟩:=h; exact ⟨_,_,ts,n,rfl,rfl,h1,h2,h3⟩
  · exact h.elim
theorem L4 {T:TypeId}:∀ xs H K,cC T xs H K->xs.length=3:=fun xs H K h=>by obtain ⟨k,w,ts,n,rfl,_⟩:=uJ h; rfl
attribute [go_sem ↓] bR cC
theorem W1:Meets Tryz.prog 120 (cC 114):=by
  refine aF Tryz.func120 aG8 3 (by rw [Tryz.ntmps120]; decide) (aB pW (aB EK (aA _))) L4 ?_
  intro xs H K h
  obtain ⟨k,w,ts,n,rfl,rfl,hE,hn,hK⟩:=uJ h
  simp -dsimp only [go_sem,UM,W4]
  refine ⟨ts,n,rfl,rfl,hE,hn,fun t ht=>?_⟩
  have hK:=hK t ht
  have hg:(t.k != k || !t.x == bl w)=!(fC k (bl w) t):=by simp [fC,bne,Bool.not_and]
  rw [hg]
  refine ⟨fun h=>?_,fun h=>⟨ts,n,rfl,rfl,hE,hn,fun u hu=>?_⟩⟩
  · have h:fC k (bl w) t=false:=by simpa using h
    simp only [rD,h,Bool.cond_false] at hK
    exact .sel [0] (by simp) (by simp) rfl (.done hK)
  · have h:fC k (bl w) t=true:=by simpa using h
    simp only [rD,h,Bool.cond_true] at hK
    exact .sel [0] (by simp) (by simp) rfl (.done hK)
theorem aA3:Meets Tryz.prog 148 (bR 4 114):=by
  refine aF Tryz.func148 aFT 2 (by rw [Tryz.ntmps148]; decide) (aB W1 (aA _)) xM ?_
  intro xs H K h
  obtain ⟨w,ts,n,rfl,rfl,hE,hn,hK⟩:=oD h
  simp -dsimp only [go_sem,UF,W8]
  refine ⟨ts,n,rfl,rfl,hE,hn,fun t ht=>.done ?_⟩
  exact hK t ht
theorem aER:Meets Tryz.prog 95 (bR 1 114):=by
  refine aF Tryz.func95 aOQ 2 (by rw [Tryz.ntmps95]; decide) (aB W1 (aA _)) xM ?_
  intro xs H K h
  obtain ⟨w,ts,n,rfl,rfl,hE,hn,hK⟩:=oD h
  simp -dsimp only [go_sem,aAD,aDK]
  refine ⟨ts,n,rfl,rfl,hE,hn,fun t ht=>.done ?_⟩
  exact hK t ht
end Go.Proofs.YtkpohmhenegkiaaGreatDoor
namespace Go.Proofs.YtkpohmhenegkiaaGreatDoor
open Go.W
def gG:W.Spec:=fun xs H K=>
  match xs,H with
  | [.va (.c1 (.vl (.string s)))],[]=>((a7 (bl s)).err=0->K (.tu [.c1 (.pt 0 0),iA .i64 0,iA .i64 0]) [gT 114 (a7 (bl s)).toks 0])/\
      ((a7 (bl s)).err ≠ 0->K (.tu [.c1 (.vl (.pointer none)),iA .i64 (a7 (bl s)).err,iA .i64 (a7 (bl s)).off]) [])
  | _,_=>False
theorem yN {xs:List S} {H:Hp} {K:S->Hp->Prop} (h:gG xs H K):∃ s,xs=[tS s]/\H=[]/\((a7 (bl s)).err=0->K (.tu [.c1 (.pt 0 0),iA .i64 0,iA .i64 0]) [gT 114 (a7 (bl s)).toks 0])/\
      ((a7 (bl s)).err ≠ 0->K (.tu [.c1 (.vl (.pointer none)),iA .i64 (a7 (bl s)).err,iA .i64 (a7 (bl s)).off]) []):=by
  unfold gG at h
  split at h
  · exact ⟨_,rfl,rfl,h.1,h.2⟩
  · exact h.elim
attribute [go_sem ↓] gG
theorem aOH:Meets Tryz.prog 29 gG:=by
  refine aF Tryz.func29 aMK 1 (by rw [Tryz.ntmps29]; decide) (aB aHG (aA _)) (fun xs H K h=>by obtain ⟨s,rfl,_⟩:=yN h; rfl) ?_
  intro xs H K h
  obtain ⟨s,rfl,rfl,hK1,hK2⟩:=yN h
  simp -dsimp only [go_sem,aDU,aE2]
  refine ⟨fun h=>.done (hK2 (by simpa using h)),fun h=>?_⟩
  have hK:=hK1 (by simpa using h)
  exact .sel [0] (by simp) (by simp) rfl (.done hK)
end Go.Proofs.YtkpohmhenegkiaaGreatDoor
namespace Go.Proofs.YtkpohmhenegkiaaGreatDoor.Pr
open Go.W
def pc96:PC:=.seq (.reg [.q 2 (.mv (.k (.string (mk []))))]) (.seq (.reg [.e 3 (.al (.agg #[(.pointer none),(.slice none 0 0)]) 146)]) (.seq (.seq (.reg [.v 8 0,.q 9 (.lnL (.t 8)),.q 10 (.mv (.i 0))]) (.block 0 (.loop (.seq (.reg [.q 11 (.bin .lss true (.t 10) (.t 9))]) (.seq (.cond (.t 11) .skip (.exit 0)) (.seq (.block 1 (.seq (.reg [.l 12 (.ia 4 (.t 8) (.t 10)),.l 13 (.ldn 4 (.t 12)),.e 5 (.al (.agg #[(.int .i64 0),(.string (mk [])),(.int .i64 0),(.int .i64 0)]) 71),.s (.st 4 (.t 5) (.t 13))]) (.seq (.reg [.l 15 (.ldn 4 (.t 5)),.a 16 (.cl 121 [(.t 15)] []),.v 14 16,.q 17 (.ex (.t 14) 0),.q 18 (.ex (.t 14) 1),.v 6 17,.v 7 18]) (.seq (.seq (.reg [.v 19 7,.q 20 (.not (.t 19))]) (.cond (.t 20) (.exit 1) .skip)) (.seq (.seq (.reg [.a 21 (.cl 122 [(.t 3)] [0,1]),.q 22 (.bin .gtr true (.t 21) (.i 0))]) (.cond (.t 22) (.reg [.a 23 (.cl 123 [(.t 3),(.k (.int .u8 32))] [0,1])]) .skip)) (.reg [.v 24 6,.a 25 (.cl 124 [(.t 3),(.t 24)] [0,1])])))))) (.reg [.q 26 (.bin .add true (.t 10) (.i 1)),.v 10 26]))))))) (.seq (.reg [.a 27 (.cl 125 [(.t 3)] [0,1]),.v 2 27]) .ret)))
def rs96:List RV:=[.mv (.t 2)]
theorem ok96:aN Tryz.prog true ⟨fun r k=>if r=7/\k=0 then .own [0,1] else if r=8/\k=0 then .own [0,1] else if r=9/\k=1 then .own [0,1] else if r=11/\k=0 then .own [0,1] else .own [],fun _=>false⟩ Tryz.f96=some (pc96,rs96):=by kernel_rfl
def pc124:PC:=.seq (.reg [.q 4 (.mv (.i 0)),.q 5 (.mv (.k .nilIface))]) (.seq (.reg [.v 6 0,.a 7 (.cl 147 [(.t 6)] [0,1])]) (.seq (.reg [.v 8 0,.v 9 0,.q 10 (.nc (.t 9)),.q 11 (.fa 1 (.t 10)),.l 12 (.ld1 (.t 11)),.v 13 1,.e 14 (.aps 5 (.t 12) (.t 13)),.q 15 (.nc (.t 8)),.q 16 (.fa 1 (.t 15)),.s (.st 1 (.t 16) (.t 14))]) (.seq (.reg [.v 17 1,.q 18 (.lnS (.t 17)),.v 4 18,.q 5 (.mv (.k .nilIface))]) .ret)))
def rs124:List RV:=[.mv (.t 4),.mv (.t 5)]
theorem ok124:aN Tryz.prog true ⟨fun r k=>if r=1/\k=1 then .own [0,1] else .own [],fun _=>false⟩ Tryz.f124=some (pc124,rs124):=by kernel_rfl
def pc144_4:PC:=.seq (.gh (.reg [.q 4 (.mv (.k (.string (mk []))))])) (.seq (.seq (.reg [.q 5 (.mv (.k (.bool true)))]) (.block 0 (.loop (.seq (.seq (.reg [.v 12 5,.v 13 12,⟨some 14,(some (13,false)),.q (.mv (.t 3))⟩,⟨some 15,(some (13,false)),.q (.bin .gtr true (.t 14) (.k (.int .u64 0)))⟩,.a 16 (.pick (.t 13) (.k (.bool true)) (.t 15))]) (.cond (.t 16) .skip (.exit 0))) (.seq (.block 1 (.seq (.reg [.v 17 3,.q 18 (.bin .rem true (.t 17) (.k (.int .u64 10))),.q 19 (.bin .add true (.k (.int .u64 48)) (.t 18)),.q 20 (.cvt .u8 (.t 19)),.e 21 (.bsl 5 1 [(.t 20)]),.q 22 (.b2s (.t 21)),.v 23 4,.q 24 (.bin .add true (.t 22) (.t 23)),.v 4 24]) (.reg [.v 25 3,.q 26 (.bin .quo true (.t 25) (.k (.int .u64 10))),.v 3 26]))) (.reg [.q 5 (.mv (.k (.bool false)))])))))) (.seq (.seq (.reg [.v 27 0,.q 28 (.bin .lss true (.t 27) (.i 0))]) (.cond (.t 28) (.seq (.reg [.v 29 4,.q 30 (.bin .add true (.k (.string (mk [45]))) (.t 29)),.v 2 30]) .ret) .skip)) (.seq (.reg [.v 31 4,.v 2 31]) .ret)))
@[go_sem ↓] theorem OU:aT pc144_4:=aU _
def pc144:PC:=.seq (.reg [.q 2 (.mv (.k (.string (mk []))))]) (.seq (.reg [.v 6 0,.q 7 (.cvt .u64 (.t 6)),.v 3 7]) (.seq (.seq (.reg [.v 8 0,.q 9 (.bin .lss true (.t 8) (.i 0))]) (.cond (.t 9) (.reg [.v 10 3,.q 11 (.neg false (.t 10)),.v 3 11]) .skip)) (pc144_4)))
def rs144:List RV:=[.mv (.t 2)]
theorem ok144:aN Tryz.prog true ⟨fun _ _=>.own [],fun r=>[4].contains r⟩ Tryz.f144=some (pc144,rs144):=by kernel_rfl
end Go.Proofs.YtkpohmhenegkiaaGreatDoor.Pr
