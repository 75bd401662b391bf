/- Lemmas and walks for the proof. -/
import Derived.Test.YtgogpogophflhaaGreatDoorQd
import Derived.ProofKit
import Derived.OpenShut
import Derived.WalkKit
import Derived.Deep.LoopGhost
import Derived.Deep.QuietTactic
import Derived.BigQuiet
import Derived.Test.YtgogpogophflhaaGreatDoorProg
set_option maxRecDepth 100000
set_option maxHeartbeats 8000000
namespace Go.Proofs.YtgogpogophflhaaGreatDoor
open Go.W
attribute [-go_sem] gT jR f7 lI iI
def n6 (ts:List Tk) (z:Fs):Fs:=bG [58] ts (bJ false ts (dU false ts z))
def vG (ts:List Tk) (z:Fs):Fs:=(mO ts (n6 ts z)).2
def jD (ts:List Tk) (z:Fs):Fl × Fs:=(⟨eQ false ts z,cB false ts (dU false ts z),(mO ts (n6 ts z)).1,aN 4 [63] ts (vG ts z)⟩,bG [59] ts (aX 4 [63] ts (vG ts z)))
def lW (ts:List Tk):Nat->List Fl->Fs->List Fl × Fs
 | 0,l,z=>(l,z)
 | f + 1,l,z=>bif z.bad then (l,z) else bif aN 4 [125] ts z then (l,aX 4 [125] ts z) else bif (aT ts z.n).k != 2 then (l,bP ts z) else lW ts f (l ++ [(jD ts z).1]) (jD ts z).2
theorem j9 (ts:List Tk) (f:Nat) (l:List Fl) (z:Fs):lW ts (f + 1) l z=bif z.bad then (l,z) else bif aN 4 [125] ts z then (l,aX 4 [125] ts z) else bif (aT ts z.n).k != 2 then (l,bP ts z) else lW ts f (l ++ [(jD ts z).1]) (jD ts z).2:=rfl
def iB (ts:List Tk) (z:Fs):St × Fs:=(⟨cB true ts z,(lW ts (ts.length + 1) [] (bG [123] ts (bJ true ts z))).1⟩,(lW ts (ts.length + 1) [] (bG [123] ts (bJ true ts z))).2)
theorem HE {c:Bool} {ts:List Tk} {z:Fs} (he:Ends ts) (hn:z.n < ts.length) (h:gI c ts z=true):dG ts z.n=z.n + 1/\z.n + 1 < ts.length/\z.bad=false:=by
 unfold gI at h
 rw [Bool.and_eq_true,Bool.and_eq_true] at h
 obtain ⟨h1,h2,_⟩:=h
 have hb:z.bad=false:=by cases hb:z.bad with
  | false=>rfl
  | true=>rw [hb] at h1; cases h1
 have hne:¬ (z.n + 1=ts.length):=fun e=>by
  have:=(he.last _ _ (eJ hn)).2 e
  rw [eq_of_beq h2] at this; cases this
 have hlt:z.n + 1 < ts.length:=by omega
 exact ⟨if_pos hlt,hlt,hb⟩
theorem BN {ts:List Tk} {z:Fs} (h:z.n < ts.length):(dU false ts z).n<=(jD ts z).2.n/\(jD ts z).2.n < ts.length:=by
 have h1:=j3 (c:=false) h
 have h2:=dY (c:=false) h1.2
 have h3:=cF (w:=[58]) h2.2
 have h4:=VZ h3.2
 have h5:=fJ (k:=4) (w:=[63]) h4.2
 have h6:=cF (w:=[59]) h5.2
 unfold jD vG n6
 simp only
 omega
theorem UE {ts:List Tk}:∀ (f:Nat) (l:List Fl) (z:Fs),z.n < ts.length->z.n<=(lW ts f l z).2.n/\(lW ts f l z).2.n < ts.length
 | 0,l,z,h=>⟨Nat.le_refl _,h⟩
 | f + 1,l,z,h=>by
  rw [j9]
  cases z.bad
  · cases aN 4 [125] ts z
    · cases (aT ts z.n).k != 2
      · have h1:=BN h
        have h0:=j3 (c:=false) h
        have h3:=UE f (l ++ [(jD ts z).1]) _ h1.2
        rw [aF,aF,aF]
        omega
      · rw [aK,aF,aF,jC]; exact ⟨Nat.le_refl _,h⟩
    · exact fJ h
  · exact ⟨Nat.le_refl _,h⟩
theorem FH {ts:List Tk} {z:Fs} (h:z.n < ts.length):z.n<=(iB ts z).2.n/\(iB ts z).2.n < ts.length:=by
 have h1:=dY (c:=true) h
 have h2:=cF (w:=[123]) h1.2
 have h3:=UE (ts.length + 1) [] _ h2.2
 unfold iB
 simp only
 omega
def N0:W.Spec:=pK [] (fun ts z=>.va (.gs (aL (iB ts z).1))) fun ts z=>(iB ts z).2
theorem aBP {o:Po} {ts:List Tk} {z:Fs} {K:S->Hp->Prop} (h1:Tks ts) (h2:z.n < ts.length) (hK:K (.va (.gs (aL (iB ts z).1))) (pH o ts (iB ts z).2)):N0 [.va (.c1 (.pt 0 0))] (pH o ts z) K:=kS (V:=fun ts z=>.va (.gs (aL (iB ts z).1))) (F:=fun ts z=>(iB ts z).2) h1 h2 hK
theorem R8:Meets Tryz.prog 40 N0:=by
 refine aG Tryz.func40 aKA 1 (by rw [Tryz.ntmps40]; decide) (aA F3 (aA zF (aA A0 (aA VS (aA tE (aA rL (aA aBD (aB _)))))))) (fun av H K h=>by obtain ⟨_,_,_,rfl,_⟩:=h; rfl) ?_
 rintro av H K ⟨o,ts,z0,rfl,rfl,ht,hn0,hK⟩
 have hK:K (.va (.gs (aL (iB ts z0).1))) (pH o ts (iB ts z0).2):=hK
 have hle:=ht.e.le
 unfold iB at hK
 simp (maxSteps:=9^6) -dsimp only [go_sem,aE8,OL]
 refine o8 ht hn0 ?_
 have hn1:=(dY (c:=true) hn0).2
 simp only at hK
 generalize cB true ts z0=nm at *
 generalize bJ true ts z0=z1 at *
 simp (maxSteps:=9^6) -dsimp only [go_sem]
 refine jJ ht hn1 ?_
 rw [show bl (mk [123])=[123] from rfl]
 have hn2:=(cF (w:=[123]) hn1).2
 generalize bG [123] ts z1=z2 at *
 simp (maxSteps:=9^6) -dsimp only [go_sem]
 refine cI (α:=Nat × List Fl × Fs) (fun x=>[(0,.va (.c1 (.pt 0 0))),(2,.va (.c1 (.pt 4 0))),(3,.va (.c1 (.pt 5 0)))])
  (fun x=>[pB o x.2.2.bad x.2.2.off,gQ 123 ts x.2.2.n,.row o.es 62 3,.row o.ss 56 2,.cells [.vl (.string (mk [])),.vl (.slice none 0 0)] 56,.cells [.vl (.string nm),.sl 6 x.2.1.length] 56,.row (x.2.1.map bH) 64 7])
  (fun x=>x.2.2.n < ts.length/\x.2.1.length + x.1<=ts.length + 1/\ts.length < x.2.2.n + x.1/\lW ts x.1 x.2.1 x.2.2=lW ts (ts.length + 1) [] z2)
  (fun x=>x.1) (.nilc 5 1 64 7 _ _ rfl rfl (hY (ts.length + 1,[],z2) 7 ⟨hn2,by simp,by simp only; omega,rfl⟩ ?_ ?_)) ?_
 · simp -dsimp only [go_sem]<;>simp
 · simp -dsimp only [go_sem]<;>simp
 rintro ⟨f,l,z⟩ ⟨h1,h2,h3,h4⟩
 simp only at h1 h2 h3 h4
 obtain ⟨f,rfl⟩:∃ g,f=g + 1:=⟨f - 1,by omega⟩
 rw [j9] at h4
 have fin:∀ z',lW ts (ts.length + 1) [] z2=(l,z')->vc [(83,Entry.s wS),(37,Entry.s oR),(36,Entry.s pG),(84,Entry.s zU),(38,Entry.s (gT 123)),(35,Entry.s rS),(55,Entry.s (NX mO))] 4 pc40_12.ungh
  (cJ [(0,.va (.c1 (.pt 0 0))),(2,.va (.c1 (.pt 4 0))),(3,.va (.c1 (.pt 5 0)))]) [pB o z'.bad z'.off,gQ 123 ts z'.n,.row o.es 62 3,.row o.ss 56 2,.cells [.vl (.string (mk [])),.vl (.slice none 0 0)] 56,.cells [.vl (.string nm),.sl 6 l.length] 56,.row (l.map bH) 64 7] (eO 4 OL K):=fun z' e=>by
  rw [e] at hK
  simp (maxSteps:=9^6) -dsimp only [go_sem,pc40_12,OL]
  refine .pub 6 _ _ _ rfl (.sel [0,1,2,3] (by simp) (by simp [cC]) rfl (.done ?_))
  simp (maxSteps:=9^6) -dsimp only [go_sem,cC]
  exact hK
 obtain ⟨bb,oo,n⟩:=z
 cases bb with
 | true=>
  rw [aK] at h4
  simp (maxSteps:=9^6) -dsimp only [go_sem]
  refine cA 7 (fin _ h4.symm) ?_ ?_
  · simp -dsimp only [go_sem]<;>simp
  · simp -dsimp only [go_sem]<;>simp
 | false=>
 rw [aF] at h4
 simp (maxSteps:=9^6) -dsimp only [go_sem]
 refine B7 (z:=⟨false,oo,n⟩) ht h1 ?_
 rw [show bl (mk [125])=[125] from rfl]
 cases hh:aN 4 [125] ts ⟨false,oo,n⟩ with
 | true=>
  rw [hh,aK] at h4
  simp (maxSteps:=9^6) -dsimp only [go_sem]
  refine cA 7 (fin _ h4.symm) ?_ ?_
  · simp -dsimp only [go_sem]<;>simp
  · simp -dsimp only [go_sem]<;>simp
 | false=>
 rw [hh,aF] at h4
 rw [fM hh]
 simp (maxSteps:=9^6) -dsimp only [go_sem]
 refine aU rfl (.done ?_)
 simp (maxSteps:=9^6) -dsimp only [go_sem,HR]
 refine oX ht.e h1 ?_
 simp only at h4
 cases hk:(aT ts n).k != 2 with
 | true=>
  rw [hk,aK] at h4
  simp (maxSteps:=9^6) -dsimp only [go_sem,cQ,hk]
  refine lD (z:=⟨false,oo,n⟩) ht h1 ?_
  simp (maxSteps:=9^6) -dsimp only [go_sem]
  refine cA 7 (fin _ h4.symm) ?_ ?_
  · simp -dsimp only [go_sem]<;>simp
  · simp -dsimp only [go_sem]<;>simp
 | false=>
 rw [hk,aF] at h4
 clear fin
 simp (maxSteps:=9^6) -dsimp only [go_sem,cQ,hk]
 refine aU rfl (.done ?_)
 simp (maxSteps:=9^6) -dsimp only [go_sem,I8]
 have hnu:gI false ts ⟨false,oo,n⟩=true:=by unfold gI; rw [bne_eq_false_iff_eq] at hk; simp [hk]
 obtain ⟨q1,q2,_⟩:=HE ht.e h1 hnu
 have q1:dG ts n=n + 1:=q1
 have hz1:dU false ts ⟨false,oo,n⟩=⟨false,oo,n + 1⟩:=by unfold dU; rw [hnu]; simp [q1]
 have hgo:=BN h1
 rw [hz1] at hgo
 simp only at hgo
 unfold jD vG n6 at h4 hgo
 rw [hz1] at h4 hgo
 refine xA (z:=⟨false,oo,n⟩) ht h1 ?_
 rw [hz1]
 generalize eQ false ts ⟨false,oo,n⟩=v at *
 simp (maxSteps:=9^6) -dsimp only [go_sem]
 refine o8 (z:=⟨false,oo,n + 1⟩) ht q2 ?_
 have g1:=dY (c:=false) (z:=⟨false,oo,n + 1⟩) q2
 generalize cB false ts ⟨false,oo,n + 1⟩=w at *
 generalize bJ false ts ⟨false,oo,n + 1⟩=y1 at *
 simp (maxSteps:=9^6) -dsimp only [go_sem]
 refine aU rfl (.done ?_)
 simp (maxSteps:=9^6) -dsimp only [go_sem,IV]
 refine jJ ht g1.2 ?_
 rw [show bl (mk [58])=[58] from rfl]
 have g2:=cF (w:=[58]) g1.2
 generalize bG [58] ts y1=y2 at *
 simp (maxSteps:=9^6) -dsimp only [go_sem]
 refine aU rfl (.done ?_)
 simp (maxSteps:=9^6) -dsimp only [go_sem,IB]
 refine RF ht g2.2 ?_
 have g3:=VZ g2.2
 generalize mO ts y2=r at *
 obtain ⟨t,y3⟩:=r
 simp only at h4 hgo g3 ⊢
 simp (maxSteps:=9^6) -dsimp only [go_sem,bM t]
 refine aU rfl (.done ?_)
 simp (maxSteps:=9^6) -dsimp only [go_sem,GO]
 refine B7 ht g3.2 ?_
 rw [show bl (mk [63])=[63] from rfl]
 have g4:=fJ (k:=4) (w:=[63]) g3.2
 generalize aN 4 [63] ts y3=op at *
 generalize aX 4 [63] ts y3=y4 at *
 simp (maxSteps:=9^6) -dsimp only [go_sem]
 refine aU rfl (.done ?_)
 simp (maxSteps:=9^6) -dsimp only [go_sem,C1]
 refine jJ ht g4.2 ?_
 rw [show bl (mk [59])=[59] from rfl]
 have g5:=cF (w:=[59]) g4.2
 generalize bG [59] ts y4=y5 at *
 simp (maxSteps:=9^6) -dsimp only [go_sem]
 refine aU rfl (.done ?_)
 simp (maxSteps:=9^6) -dsimp only [go_sem,CD]
 refine ⟨by omega,aC (f,l ++ [⟨v,w,t,op⟩],y5) 7 ⟨g5.2,?_,?_,h4⟩ (by simp) ?_ ?_⟩
 · simp only [List.length_append,List.length_singleton]; omega
 · simp only at g1 h3 ⊢; omega
 · simp -dsimp only [go_sem]<;>simp
 · simp -dsimp only [go_sem,bH]<;>simp
end Go.Proofs.YtgogpogophflhaaGreatDoor
namespace Go.W
open Go.RowKit
structure Stay (w w':World):Prop where
 os:w'.os=w.os
 out:w'.output=w.output
 size:w.heap.size<=w'.heap.size
 keep:∀ b:Nat,b < w.heap.size->w'.heap[b]? = w.heap[b]?
theorem Stay.kept {w w':World} (h:Stay w w') (may:MemPlace->Prop):w.keptBut w' may:=by
 refine ⟨h.os,h.out,fun i hi=>?_⟩
 rw [h.keep i hi]
 split
 · rename_i h1 h2; rw [h1] at h2; cases h2; exact ⟨rfl,rfl,rfl,fun _ _=>rfl⟩
 · rename_i h1 h2; rw [h1] at h2; cases h2; exact Or.inr ⟨rfl,rfl⟩
 · rfl
theorem Stay.frozen {w w':World} (h:Stay w w') {a:Addr} (ha:a.block < w.heap.size):w'.frozen? a=w.frozen? a:=by
 unfold World.frozen?; rw [h.keep _ ha]
theorem Stay.cell {w w':World} (h:Stay w w') {a:Addr} (ha:a.block < w.heap.size):w'.cell? a=w.cell? a:=by
 unfold World.cell?; rw [h.keep _ ha]
theorem ZD {w:World} {ro:RO} (h:∀ (b off:Nat) (v:Value),ro b off=some v->w.cell? ⟨b,off,none⟩=some v) (hz:∀ b,ro.st b=0):Rel ⟨w,eG [],ro,gm []⟩ [] ro w where
 own:=fun n g blk h=>by simp at h
 inj:=fun n m gn gm bn bm b h=>by simp at h
 apart:=fun b off v _ n g blk h=>by simp at h
 rd:=fun b off v hv=>⟨h b off v hv,fun q=>absurd (hz b) q⟩
 ro0:=fun _ _ _ h=>⟨h,rfl⟩
 rob:=fun b off v h=>.inl h
 par:=fun n b g blk h=>by simp at h
 gx:=.refl _
 sz:=Nat.le_refl _
 keep:=fun b _ _=>rfl
 os:=rfl
 tape:=rfl
 output:=rfl
theorem Meets.run {P:Program} {f:FuncId} {s:Fun} (hm:Meets P f s.sp) {av:List S} {vs:List Value} {ro:RO} {w:World} {x:A} (hpre:s.pre av) (hval:s.val av=x) (hl:av.length=vs.length)
 (hrel:∀ (i:Nat) (x:S) (v:Value),av[i]? = some x->vs[i]? = some v->x.rel (gm []) ro v) (hro:∀ (b off:Nat) (v:Value),ro b off=some v->w.cell? ⟨b,off,none⟩=some v) (hG:GR P ro w) (hz:∀ b,ro.st b=0:=by intro _; rfl) :
 Calls P f vs.toArray w fun e w'=>∃ v γ ro',e=.returned v/\S.rel γ ro' (.va x) v/\Stay w w':=by
 subst hval
 refine (hm.2 av vs [] ro w (fun r H=>r=.va (s.val av)/\H=[]) hl hrel (ZD hro hz) ⟨⟨hpre,rfl⟩,rfl,rfl⟩ hG).mono ?_
 rintro e w' ⟨r,v,E',ro',rfl,h1,⟨rfl,h2⟩,h3⟩
 exact ⟨v,_,ro',rfl,h1,h3.os,h3.output,h3.sz,fun b hb=>h3.keep b hb (by simp [eG])⟩
theorem Meets.yes {P:Program} {f:FuncId} {s:Fun} (hm:Meets P f s.sp) {av:List S} {vs:List Value} {ro:RO} {w:World} (hpre:s.pre av) (hval:s.val av=.c1 (.vl (.bool true))) (hl:av.length=vs.length)
 (hrel:∀ (i:Nat) (x:S) (v:Value),av[i]? = some x->vs[i]? = some v->x.rel (gm []) ro v) (hro:∀ (b off:Nat) (v:Value),ro b off=some v->w.cell? ⟨b,off,none⟩=some v) (hG:GR P ro w) (hz:∀ b,ro.st b=0:=by intro _; rfl) :
 Calls P f vs.toArray w fun e w'=>e=.returned (.bool true)/\Stay w w':=by
 refine (hm.run hpre hval hl hrel hro hG hz).mono ?_
 rintro e w' ⟨v,γ,ro',rfl,h1,h2⟩
 have:v=.bool true:=h1
 exact ⟨by rw [this],h2⟩
section
variable {H:Type} {enc:TypeId × Value->H} {P:Program}
theorem HB {f:Func} {s:ChangeSpec} {apart fresh handsOn again:Bool} {W W':World} {args:Array Value} {v:Value} {ds gs:List (DataW H)} {before pa pv:List MemPlace}
 (hW:DataW.Whole enc P f.params.toList s.vars apart W args.toList ds gs before)
 (hres:∀ (b:Nat) (sp:Nat->Bool) (hd:Bool),DataW.TrodAll enc P W' b sp hd f.resultTypes.toList (v.resultList f.resultTypes.size) (s.fn H (ds ++ gs)).results [])
 (hargs:∀ sp:Nat->Bool,(∀ p ∈ before,sp p.block=true)->DataW.TrodAll enc P W' 0 sp true f.params.toList args.toList (s.fn H (ds ++ gs)).args pa)
 (hvars:∀ sp:Nat->Bool,(∀ p ∈ before,sp p.block=true)->DataW.TrodVars enc P W' sp s.vars (s.fn H (ds ++ gs)).vars pv)
 (hps:before=pa ++ pv) (hs:Stay W W')
 (hok:∀ (j:Nat) (t:TypeId) (r:Value),f.resultTypes[j]? = some t->(v.resultList f.resultTypes.size)[j]? = some r->Value.okWide P W' .any 0 t r) :
 s.post enc P f apart fresh handsOn again W args v W':=by
 have hlt:∀ p ∈ before,p.block < W.heap.size:=fun p hp=>hW.lt p hp
 have hsp:∀ p ∈ before,(fun b=>decide (b < W.heap.size)) p.block=true:=fun p hp=>by simpa using hlt p hp
 have hall:∀ p ∈ before,(fun _:Nat=>true) p.block=true:=fun _ _=>rfl
 obtain ⟨_,_,_,_,_,hz,hn⟩:=id hW
 refine ⟨ds,gs,before,[],pa,pv,hW,hres _ _ _,hargs _ hsp,hvars _ hsp,World.keptBut_mono (fun p hp=>⟨hp,.inr ?_⟩) (hs.kept (· ∈ before)),fun _=>⟨hok,_,_,([] ++ pa) ++ pv,
  ⟨[] ++ pa,pv,ChangeShapes.trodAll_append (hargs _ hall) (hres _ _ _),hvars _ hall,rfl,fun b off hp=>?_,fun ha=>?_⟩,fun p hp _=>?_⟩⟩
 · rw [hps,List.mem_append] at hp; exact hp
 · have hb:MemPlace.cell b off ∈ before:=by rw [hps]; simpa using hp
   rw [hs.frozen (hlt _ hb)]
   exact hz b off hb
 · have:=hn ha
   rw [hps] at this
   simpa using this
 · rw [hps]
   simpa using hp
end
def uE:Nat->Code->Option (Code × Code)
 | 0,.seq x y=>some (x,y)
 | n + 1,.seq _ y=>uE n y
 | _,_=>none
def wV:Nat->PC->Option (PC × PC)
 | 0,.seq _ y=>some (.skip,y)
 | n + 1,.seq x y=>(wV n y).map fun t=>(.seq x t.1,t.2)
 | _,_=>none
def uW (Mid:Fr->Hp->Prop) (K:Ex->Fr->Hp->Prop):Ex->Fr->Hp->Prop
 | .n,fr,H=>Mid fr H
 | ex,fr,H=>K ex fr H
section
variable {P:Program} {N:Nat} {nw:Bool} {X:Ctx} {Γ:dP}
theorem OZ {h:Hint} {x y:Code} {pc:PC} (hpc:tr P nw N h (.seq x y)=some pc):∃ px py,tr P nw N h x=some px/\tr P nw N h y=some py/\pc=.seq px py:=by
 simp only [tr] at hpc
 split at hpc
 · rename_i px py hx hy; exact ⟨px,py,hx,hy,(bK hpc).symm⟩
 · cases hpc
theorem GK (hm:MeetsIn P X Γ) {h:Hint} {k0:Nat} (hk0:X.g0.length=k0) {K:Ex->Fr->Hp->Prop} {Mid:Fr->Hp->Prop} {Q:Exit->Act->World->Prop}
 (hQ:∀ ex fr' E' ro' a' w',ex ≠ .n->K ex fr' (hp E')->FRel N (gm E') ro' fr' a'->Rel X E' ro' w'->Q ex.to a' w') :
 ∀ (n:Nat) (c:Code) (pc pre post:PC) (r c2:Code),tr P nw N h c=some pc->uE n c=some (r,c2)->wV n pc=some (pre,post)->
 tr P nw N h c2=some post/\∀ (fr:Fr) (E:Es) (ro:RO) (a:Act) (w:World),FRel N (gm E) ro fr a->Rel X E ro w->vc Γ k0 pre fr (hp E) (uW Mid K)->
  (∀ fr' E' ro' a' w',Mid fr' (hp E')->FRel N (gm E') ro' fr' a'->Rel X E' ro' w'->r.wp P (Exit.then (c2.wp P Q) Q) a' w')->c.wp P Q a w
 | 0,.seq x y,pc,pre,post,r,c2,hpc,hc,hp=>by
  obtain ⟨px,py,hx,hy,rfl⟩:=OZ hpc
  simp only [uE,aH,Prod.mk.injEq] at hc
  simp only [wV,aH,Prod.mk.injEq] at hp
  obtain ⟨rfl,rfl⟩:=hc
  obtain ⟨rfl,rfl⟩:=hp
  refine ⟨hy,fun fr E ro a w hf hr hv hmid=>?_⟩
  simp only [vc] at hv
  exact wp_seq (hmid fr E ro a w hv hf hr)
 | n + 1,.seq x y,pc,pre,post,r,c2,hpc,hc,hp=>by
  obtain ⟨px,py,hx,hy,rfl⟩:=OZ hpc
  simp only [uE] at hc
  simp only [wV,Option.map_eq_some_iff,Prod.mk.injEq] at hp
  obtain ⟨⟨t1,t2⟩,ht,rfl,rfl⟩:=hp
  obtain ⟨h1,h2⟩:=GK hm hk0 hQ n y py t1 t2 r c2 hy hc ht
  refine ⟨h1,fun fr E ro a w hf hr hv hmid=>?_⟩
  simp only [vc] at hv
  refine wp_seq (sU hm hk0 x px hx fr E ro a w _ hf hr hv _ ?_)
  intro ex fr' E' ro' a' w' hK hf' hr'
  cases ex with
  | n=>exact h2 fr' E' ro' a' w' hf' hr' hK hmid
  | e id=>exact hQ (.e id) _ _ _ _ _ (by simp) hK hf' hr'
  | r=>exact hQ .r _ _ _ _ _ (by simp) hK hf' hr'
theorem XZ {f:FuncId} {o1 o2:Oper} {tys:Array TypeId} {id s d:Nat} {a:Act} {w:World} {v:Value} {Q:Exit->Act->World->Prop} {R:Ending->World->Prop} (h1:o1.op=.move (.tmp s)) (g1:o1.guard=none) (d1:o1.dst=some d)
 (h2:o2.op=.call { callee:=.value (.func f),args:=#[.tmp d],argTypes:=tys }) (g2:o2.guard=none) (hs:a.tmps.getD s undef=v) (hd:d < a.tmps.size) (he:nP P f=true)
 (hc:Calls P f #[v] w R) (hR:∀ e w',R e w'->∃ u,e=.returned u/\Q .normal ((a.put o1.dst v).put o2.dst u) w'):(Code.region id #[o1,o2] false).wp P Q a w:=by
 refine wp_region_list ?_
 simp only [wpList]
 rw [if_pos (eF g1 _)]
 refine .inl ?_
 have r1:(execOp a.eval o1).run P w=.ok (.value v) w:=by simp [execOp,h1,Act.eval,hs]
 unfold Oper.wp
 rw [r1,Oper.upon_value,if_pos (eF g2 _)]
 refine .inl ?_
 have hv:(a.put o1.dst v).tmps.getD d undef=v:=by
  simp only [Act.put,d1]
  rw [Array.getD_eq_getD_getElem?,Array.getElem?_setIfInBounds_self_of_lt hd]; rfl
 have he':=nN he #[v] w
 have r2:(execOp (a.put o1.dst v).eval o2).run P w=.ok (.enter f #[v]) w:=by
  simp [execOp,h2,resolve,Act.eval,hv,Deferred.ofValue,invoke,he']
 rw [r2,Oper.upon_enter]
 refine hc.mono fun e w' he=>?_
 obtain ⟨u,rfl,hq⟩:=hR e w' he
 exact hq
end
open Classical in
noncomputable def roG (P:Program) (ro:RO):RO:=⟨fun b off=>if off=0/\∃ x ∈ FK,P.globalNamed x.1=some b then ro b off else none,ro.st⟩
theorem L8 (P:Program) (ro:RO):Ext (roG P ro) ro:=fun b off v h=>by
 simp only [roG] at h
 split at h
 · exact ⟨h,rfl⟩
 · cases h
theorem Y6 {P:Program} {ro:RO} {b off:Nat} {v:Value} (h:roG P ro b off=some v):off=0:=by
 simp only [roG] at h
 split at h
 · rename_i hc; exact hc.1
 · cases h
theorem GR.roG {P:Program} {ro:RO} {w:World} (h:GR P ro w):GR P (roG P ro) w:=fun x hx g hg=>⟨by
 obtain ⟨v,hv⟩:=(h x hx g hg).1
 refine ⟨v,?_⟩
 exact (if_pos ⟨rfl,x,hx,hg⟩).trans hv,(h x hx g hg).2⟩
theorem Rel.nilRo {w:World} {ro ro1:RO} {pb:List Nat} (h:Rel ⟨w,pb,ro,[]⟩ [] ro w) (he:Ext ro1 ro):Rel ⟨w,[],ro1,[]⟩ [] ro1 w where
 own:=fun n g blk h=>by simp at h
 inj:=fun n m gn gm bn bm b h=>by simp at h
 apart:=fun b off v _ n g blk h=>by simp at h
 rd:=fun b off v hv=>by
  have h1:=he b off v hv
  rw [<-h1.2]
  exact h.rd b off v h1.1
 ro0:=.refl _
 rob:=fun b off v h=>.inl h
 par:=fun n b g blk h=>by simp at h
 gx:=.refl _
 sz:=Nat.le_refl _
 keep:=fun b _ _=>rfl
 os:=rfl
 tape:=rfl
 output:=rfl
def EB (w:World) (ro ro':RO):RO:=⟨fun b off=>if b < w.heap.size then ro b off else ro' b off,fun b=>if b < w.heap.size then ro.st b else ro'.st b⟩
theorem Rel.widen {w w':World} {ro ro1 ro':RO} {E':Es} (h:Rel ⟨w,[],ro,[]⟩ [] ro w) (he:Ext ro1 ro) (k:Rel ⟨w,[],ro1,[]⟩ E' ro' w'):Ext ro' (EB w ro ro')/\Rel ⟨w,[],ro,[]⟩ E' (EB w ro ro') w':=by
 have hx:Ext ro' (EB w ro ro'):=fun b off v hv=>by
  simp only [EB]
  rcases k.rob b off v hv with h1 | ⟨h1 | h1,_⟩
  · have h2:=he b off v h1
    have hlt:=h.cell_lt h2.1
    rw [if_pos hlt,if_pos hlt]
    exact ⟨h2.1,h2.2.trans (k.ro0 b off v h1).2.symm⟩
  · have hlt:¬ b < w.heap.size:=Nat.not_lt.2 h1
    rw [if_neg hlt,if_neg hlt]; exact ⟨hv,rfl⟩
  · cases h1
 have hpar:∀ (n b:Nat) (g:Gb) (blk:B),E'[n]? = some (g,blk)->g.ob=some b->blk.live=true->¬ b < w.heap.size:=fun n b g blk h1 h2 h3=>by
  rcases k.par n b g blk h1 h2 h3 with q | q
  · exact Nat.not_lt.2 q
  · cases q
 refine ⟨hx,⟨fun n g blk hn=>?_,k.inj,fun b off v hv n g blk hn hb=>?_,fun b off v hv=>?_,fun b off v hv=>?_,fun b off v hv=>?_,k.par,k.gx,k.sz,k.keep,k.os,k.tape,k.output⟩⟩
 · by_cases hl:blk.live=true
   · exact (k.own n g blk hn).same (.refl _) hx fun _ _=>rfl
   · cases blk<;>simp [B.live] at hl; trivial
 · by_cases hl:blk.live=true
   · have hlt:=hpar n b g blk hn hb hl
     simp only [EB] at hv
     rw [if_neg hlt] at hv
     exact k.apart b off v hv n g blk hn hb
   · simpa using hl
 · simp only [EB] at hv ⊢
   split at hv
   · rename_i hlt
     rw [if_pos hlt]
     exact (h.rd b off v hv).same (k.keep b hlt (by simp))
   · rename_i hlt
     rw [if_neg hlt]
     exact k.rd b off v hv
 · have hlt:=h.cell_lt hv
   simp only [EB]
   rw [if_pos hlt,if_pos hlt]; exact ⟨hv,rfl⟩
 · simp only [EB] at hv ⊢
   split at hv
   · exact .inl hv
   · rename_i hlt
     rw [if_neg hlt]
     rcases k.rob b off v hv with h1 | ⟨_,h2⟩
     · exact absurd (h.cell_lt (he b off v h1).1) hlt
     · exact .inr ⟨.inl (Nat.not_lt.1 hlt),h2⟩
theorem Q5 {P:Program} {nw:Bool} {Γ:dP} {f:FuncId} {fn:Func} {c r c2:Code} {n:Nat} {pc pre post:PC} {rs:List RV} {h:Hint} (hf:P.funcs[f]? = some fn) (hb:fn.body=some c) (hpc:aY P nw h fn=some (pc,rs))
 (hcut:uE n c=some (r,c2)) (hcp:wV n pc=some (pre,post)) (hm:gP P Γ) {s:Spec} (hlen:∀ az H K,s az H K->az.length<=fn.ntmps) (hH:∀ az H K,s az H K->H=[]/\∀ x ∈ az,∃ v,x=.va (.c1 (.vl v)))
 {Mid:(S->Hp->Prop)->Fr->Hp->Prop} (hs:∀ az K,s az [] K->vc Γ 0 pre (xD az) [] (uW (Mid K) (eO 0 rs K)))
 (hr:∀ (K:S->Hp->Prop) (w0:World) (ro0:RO) (fr:Fr) (E:Es) (ro:RO) (a:Act) (w:World),(∀ b off v,ro0 b off=some v->off=0/\b < w0.heap.size)->Mid K fr (hp E)->FRel fn.ntmps (gm E) ro fr a->Rel ⟨w0,[],ro0,[]⟩ E ro w->GR P ro w->
   ∀ Q:Exit->Act->World->Prop,(∀ fr' E' ro' a' w',vc Γ 0 post fr' (hp E') (eO 0 rs K)->FRel fn.ntmps (gm E') ro' fr' a'->Rel ⟨w0,[],ro0,[]⟩ E' ro' w'->Q .normal a' w')->r.wp P Q a w):Meets P f s:=by
 unfold aY at hpc
 split at hpc
 · cases hpc
 rename_i hnm
 rw [hb] at hpc
 simp only at hpc
 obtain ⟨hpc,hrs⟩:tr P nw fn.ntmps h c=some pc/\p6 P fn.results.toList=some rs:=by
  cases h1:tr P nw fn.ntmps h c with
  | none=>rw [h1] at hpc; cases hpc
  | some p1=>
   cases h2:p6 P fn.results.toList with
   | none=>rw [h1,h2] at hpc; cases hpc
   | some r1=>
    rw [h1,h2] at hpc
    simp only [aH,Prod.mk.injEq] at hpc
    exact ⟨congrArg some hpc.1,congrArg some hpc.2⟩
 refine ⟨by simp [nP,hf,hb,hnm],?_⟩
 intro az vs E ro w K hl hrel hr0 hsp hG
 obtain ⟨hE,hflat⟩:=hH az (hp E) K hsp
 have hE0:E=[]:=by cases E with
  | nil=>rfl
  | cons x r=>simp [hp] at hE
 subst hE0
 have hlN:=hlen az _ K hsp
 have hG1:=hG.roG
 have hr1:Rel ⟨w,[],roG P ro,[]⟩ [] (roG P ro) w:=hr0.nilRo (L8 P ro)
 refine calls_of_wp hf hb ?_
 have hfr:FRel fn.ntmps (gm []) (roG P ro) (xD az) { tmps:=vs.toArray ++ Array.replicate (fn.ntmps - vs.toArray.size) undef,defers:=[] }:=by
  refine ⟨by simp; omega,fun i=>?_,rfl⟩
  unfold xD
  rw [List.getD_eq_getElem?_getD]
  cases hi:az[i]? with
  | none=>trivial
  | some x=>
   have hlt:i < vs.length:=by rw [<-hl]; exact (bC.1 hi).1
   have hv:vs[i]? = some vs[i]:=bB hlt
   have:=hrel i x _ hi hv
   simp only [Option.getD_some]
   have he:(vs.toArray ++ Array.replicate (fn.ntmps - vs.toArray.size) undef).getD i undef=vs[i]:=by
    rw [Array.getD_eq_getD_getElem?,Array.getElem?_append_left (by simpa using hlt)]
    simp [hlt]
   simp only [he]
   obtain ⟨u,rfl⟩:=hflat x (bW hi)
   exact this
 have fin:∀ fr' E' ro' a' w',v8 fr' (hp E') rs (fun l=>Fin 0 K (DW l).nf (hp E'))->FRel fn.ntmps (gm E') ro' fr' a'->Rel ⟨w,[],roG P ro,[]⟩ E' ro' w'->
  a'.defers=[]/\∃ v,(results fn a'.tmps).run P w'=.ok v w'/\∃ r v' E'' ro'',Ending.returned v=.returned v'/\S.rel (gm E'') ro'' r v'/\K r (hp E'')/\Rel ⟨w,eG [],ro,gm []⟩ E'' ro'' w':=by
  intro fr' E' ro' a' w' h1 h4 h5
  obtain ⟨l,us,h3,hrun,hus⟩:=uJ h4 h5 hrs h1
  refine ⟨h4.defers,(if h:us.toArray.size=1 then us.toArray[0] else .tuple us.toArray),?_,?_⟩
  · simp only [xI,Array.mapM_eq_mapM_toList,Sem.run_bind,Sem.run_map,hrun,Result.andThen_ok,Sem.run_pure]
  · have hrel:(DW l).rel (gm E') ro' (if h:us.toArray.size=1 then us.toArray[0] else .tuple us.toArray):=by
     match l,us,hus with
     | [],us,hus=>have:=hus.nil_inv; subst this; exact ⟨[],rfl,.nil⟩
     | [y],us,hus=>
      obtain ⟨u,m',rfl,hy,hm'⟩:=hus.cons_inv
      have:=hm'.nil_inv
      subst this
      exact hy
     | y :: z :: r,us,hus=>
      have:¬ us.toArray.size=1:=by have:=hus.1; simp at this ⊢; omega
      rw [dif_neg this]
      exact ⟨us,rfl,hus⟩
    obtain ⟨r',E'',ro'',hK,hr',hR⟩:=EF (X:=⟨w,[],roG P ro,[]⟩) rfl h3 rfl (S.rel_nf hrel) h5
    obtain ⟨g1,g2⟩:=hr0.widen (L8 P ro) hR
    exact ⟨r',_,E'',_,rfl,S.rel_mono (.refl _) g1 hr',hK,g2⟩
 have hmI:MeetsIn P ⟨w,[],roG P ro,[]⟩ Γ:=⟨hG1,fun x hx g hg hb=>(by cases hb),hm⟩
 have hQ:∀ ex fr' E' ro' a' w',eO 0 rs K ex fr' (hp E')->FRel fn.ntmps (gm E') ro' fr' a'->Rel ⟨w,[],roG P ro,[]⟩ E' ro' w'->bodyPost P fn (fun e w'=>∃ r v E' ro',e=.returned v/\S.rel (gm E') ro' r v/\K r (hp E')/\Rel ⟨w,eG [],ro,gm []⟩ E' ro' w') ex.to a' w':=by
  intro ex fr' E' ro' a' w' hK h4 h5
  cases ex with
  | n=>exact fin fr' E' ro' a' w' hK h4 h5
  | r=>exact fin fr' E' ro' a' w' hK h4 h5
  | e id=>exact hK.elim
 obtain ⟨q1,q2⟩:=GK hmI (X:=⟨w,[],roG P ro,[]⟩) rfl (K:=eO 0 rs K) (Mid:=Mid K) (Q:=bodyPost P fn _) (fun ex fr' E' ro' a' w' _ hK h4 h5=>hQ ex fr' E' ro' a' w' hK h4 h5) n c pc pre post r c2 hpc hcut hcp
 refine q2 _ [] _ _ _ hfr hr1 (hs az K hsp) fun fr' E' ro' a' w' h1 h2 h3=>?_
 refine hr K w (roG P ro) fr' E' ro' a' w' (fun b off v hv=>⟨Y6 hv,hr1.cell_lt hv⟩) h1 h2 h3 (hmI.at h3) _ fun fr2 E2 ro2 a2 w2 k1 k2 k3=>?_
 exact sU hmI (X:=⟨w,[],roG P ro,[]⟩) rfl c2 post q1 fr2 E2 ro2 a2 w2 _ k2 k3 k1 _ hQ
end Go.W
namespace Go.Proofs.YtgogpogophflhaaGreatDoor
open Go.W
theorem BY {ro:RO} {xs:List (List C)} {v:Value} (h:FzR ro xs v) {i sz:Nat} {r:List C} (hr:xs[i]? = some r) (hz:r.length=sz) (hs:0 < sz) :
 ∃ b off cap,v=.slice (some ⟨b,off,none⟩) xs.length cap/\(ro.st b=0\/(ro.st b=sz/\off % sz=0))/\∀ k c,r[k]? = some c->∃ u,ro b (off + i * sz + k)=some u/\c.fv ro u:=by
 obtain ⟨b,off,cap,rfl,h2⟩:=P5 h hr hz
 refine ⟨b,off,cap,rfl,?_,h2⟩
 generalize hv:Value.slice (some ⟨b,off,none⟩) xs.length cap=v at h
 obtain ⟨_,sz',ob,oa,koa,cap',vs,k1,k2,k3,k4,k5,k6,k7,k8⟩:=h
 have hi:i < xs.length:=(bC.1 hr).1
 have hne:xs ≠ []:=fun e=>by subst e; simp at hi
 have hob:=k3 hne
 obtain rfl:=koa hne
 have hmem:=bW hr
 have hs':sz'=sz:=by rw [<-k1 r hmem,hz]
 subst hs'
 cases ob with
 | none=>simp at hob
 | some y=>
  simp only [tT,Option.map_some,Nat.add_zero,Value.slice.injEq,aH,Addr.mk.injEq] at hv
  obtain ⟨⟨rfl,rfl,_⟩,_,_⟩:=hv
  have hk:0 < r.length:=by omega
  have hfl:xs.flatten[i * sz' + 0]? = some r[0]:=by rw [jO k1 hi hs,hr]; exact bB hk
  exact k8 _ _ hfl
theorem BK {ro ro2:RO} {xs ys:List (List C)} {v:Value} (h:FzR ro xs v) (hl:ys.length=xs.length) (hst:ro2.st=ro.st)
 (hy:∀ (i:Nat) (x y:List C),xs[i]? = some x->ys[i]? = some y->y.length=x.length/\∀ b off cap,v=.slice (some ⟨b,off,none⟩) xs.length cap->(ro.st b=0\/(ro.st b=x.length/\off % x.length=0))->
   ∀ (j:Nat) (c c':C) (u:Value),x[j]? = some c->y[j]? = some c'->ro b (off + i * x.length + j)=some u->c.fv ro u->∃ u',ro2 b (off + i * x.length + j)=some u'/\c'.fv ro2 u'/\c'.shut=true):FzR ro2 ys v:=by
 have hrow:∀ (i:Nat) (x:List C),xs[i]? = some x->0 < x.length->∃ b off cap,v=.slice (some ⟨b,off,none⟩) xs.length cap/\(ro.st b=0\/(ro.st b=x.length/\off % x.length=0))/\∀ k c,x[k]? = some c->∃ u,ro b (off + i * x.length + k)=some u/\c.fv ro u:=
  fun i x hx hp=>BY h hx rfl hp
 generalize hv:v=v' at h
 obtain ⟨_,sz,ob,oa,koa,cap,vs,k1,k2,k3,k4,k5,k6,k7,k8⟩:=h
 subst hv
 have hz:∀ y ∈ ys,y.length=sz:=fun y hm=>by
  obtain ⟨i,hi⟩:=List.mem_iff_getElem?.1 hm
  have hlt:=(bC.1 hi).1
  have hx:xs[i]? = some xs[i]:=bB (by omega)
  rw [(hy i _ y hx hi).1]
  exact k1 _ (List.getElem_mem _)
 have hcell:∀ (k:Nat) (c':C),ys.flatten[k]? = some c'->∃ u,ro2 (ob.getD (0,0)).1 ((ob.getD (0,0)).2 + k)=some u/\c'.fv ro2 u/\c'.shut=true:=fun k c' hk=>by
  have hkl:k < ys.length * sz:=by
   have h1:=(bC.1 hk).1
   rwa [lF _ hz] at h1
  have hsz:0 < sz:=Nat.pos_of_ne_zero fun e=>by subst e; omega
  have hi:k / sz < ys.length:=(Nat.div_lt_iff_lt_mul hsz).2 hkl
  have hj:=Nat.mod_lt k hsz
  have hg:=jO hz hi hj
  rw [Nat.mul_comm,Nat.div_add_mod,hk] at hg
  have hyi:ys[k / sz]? = some ys[k / sz]:=bB hi
  have hi':k / sz < xs.length:=by rw [<-hl]; exact hi
  have hxi:xs[k / sz]? = some xs[k / sz]:=bB hi'
  rw [hyi,Option.bind_some] at hg
  have hxl:(xs[k / sz]).length=sz:=k1 _ (List.getElem_mem _)
  obtain ⟨q1,q2⟩:=hy _ _ _ hxi hyi
  have hxp:0 < (xs[k / sz]).length:=by rw [hxl]; exact hsz
  obtain ⟨b,off,cp,e1,e2,e3⟩:=hrow _ _ hxi hxp
  have hjx:k % sz < (xs[k / sz]).length:=by rw [hxl]; exact hj
  have hxj:(xs[k / sz])[k % sz]? = some ((xs[k / sz])[k % sz]):=bB hjx
  obtain ⟨u,e4,e5⟩:=e3 _ _ hxj
  obtain ⟨u',f1,f2,f3⟩:=q2 b off cp e1 e2 _ _ _ u hxj hg.symm e4 e5
  have hne:xs ≠ []:=fun e=>by
   rw [e] at hi'
   exact Nat.not_lt_zero _ hi'
  have hob:=k3 hne
  have hoa:=koa hne
  cases ob with
  | none=>simp at hob
  | some y=>
   rw [hoa] at e1
   simp only [tT,Option.map_some,Nat.add_zero,Value.slice.injEq,aH,Addr.mk.injEq] at e1
   obtain ⟨⟨e6,e7,_⟩,_,_⟩:=e1
   refine ⟨u',?_,f2,f3⟩
   simp only [Option.getD_some]
   rw [hxl,Nat.add_assoc,Nat.mul_comm,Nat.div_add_mod] at f1
   rw [e6,e7]; exact f1
 rw [<-hl]
 refine .mk ys sz ob oa (fun hne=>koa fun e=>hne (List.eq_nil_of_length_eq_zero (by rw [hl,e]; rfl))) cap (fun k=>(ro2 (ob.getD (0,0)).1 ((ob.getD (0,0)).2 + k)).getD undef) hz (by rw [hl]; exact k2) (fun hne=>k3 fun e=>hne (List.eq_nil_of_length_eq_zero (by rw [hl,e]; rfl)))
  (fun k c hk=>?_) (fun k u hk=>?_) (fun k zs hk=>?_) (fun c hc=>?_) (fun k c hk=>?_)
 · obtain ⟨u,h1,_,_⟩:=hcell k c hk
   rw [h1]; rfl
 · obtain ⟨u',h1,h2,_⟩:=hcell k _ hk
   have h2:u'=u:=h2
   simp only [h1,Option.getD_some]; exact h2
 · obtain ⟨u',h1,h2,_⟩:=hcell k _ hk
   have h2:FzR ro2 zs u':=h2
   simp only [h1,Option.getD_some]; exact h2
 · obtain ⟨k,hk⟩:=List.mem_iff_getElem?.1 hc
   exact (hcell k c hk).choose_spec.2.2
 · rw [hst]
   have hkl:k < xs.flatten.length:=by
    have h1:=(bC.1 hk).1
    rw [lF _ hz] at h1
    rw [lF _ k1,<-hl]; exact h1
   exact k8 k _ (bB hkl)
structure TyAt (ro:RO) (b off:Nat) (t:Ty):Prop where
 k:ro b off=some (.int .i64 t.k)
 s:ro b (off + 1)=some (.int .i64 t.s)
 n:ro b (off + 2)=some (.string t.n)
 e:∃ v,ro b (off + 3)=some v/\FzR ro (t.e.map aP) v
 st:ro.st b=0\/(ro.st b=4/\off % 4=0)\/(ro.st b=7/\off % 7=2)
theorem O8 {ro:RO} {l:List Ty} {v:Value} {i:Nat} {t:Ty} (h:FzR ro (l.map aP) v) (hi:l[i]? = some t):∃ b off cap,v=.slice (some ⟨b,off,none⟩) l.length cap/\TyAt ro b (off + i * 4) t:=by
 obtain ⟨b,off,cap,h1,h2,h3⟩:=BY h (i:=i) (sz:=4) (r:=aP t) (by rw [List.getElem?_map,hi]; rfl) (by rw [bM]; rfl) (by decide)
 rw [List.length_map] at h1
 rw [bM] at h3
 obtain ⟨u0,a0,b0⟩:=h3 0 _ rfl
 obtain ⟨u1,a1,b1⟩:=h3 1 _ rfl
 obtain ⟨u2,a2,b2⟩:=h3 2 _ rfl
 obtain ⟨u3,a3,b3⟩:=h3 3 _ rfl
 have b0:u0=_:=b0
 have b1:u1=_:=b1
 have b2:u2=_:=b2
 subst b0 b1 b2
 refine ⟨b,off,cap,h1,a0,a1,a2,⟨u3,a3,b3⟩,?_⟩
 rcases h2 with h2 | ⟨h2,h4⟩
 · exact .inl h2
 · exact .inr (.inl ⟨h2,by omega⟩)
theorem aC4 {ro:RO} {l:List Fl} {v:Value} {i:Nat} {f:Fl} (h:FzR ro (l.map bH) v) (hi:l[i]? = some f):∃ b off cap,v=.slice (some ⟨b,off,none⟩) l.length cap/\TyAt ro b (off + i * 7 + 2) f.ty:=by
 obtain ⟨b,off,cap,h1,h2,h3⟩:=BY h (i:=i) (sz:=7) (r:=bH f) (by rw [List.getElem?_map,hi]; rfl) rfl (by decide)
 rw [List.length_map] at h1
 obtain ⟨u0,a0,b0⟩:=h3 2 _ rfl
 obtain ⟨u1,a1,b1⟩:=h3 3 _ rfl
 obtain ⟨u2,a2,b2⟩:=h3 4 _ rfl
 obtain ⟨u3,a3,b3⟩:=h3 5 _ rfl
 have b0:u0=_:=b0
 have b1:u1=_:=b1
 have b2:u2=_:=b2
 subst b0 b1 b2
 refine ⟨b,off,cap,h1,a0,a1,a2,⟨u3,a3,b3⟩,?_⟩
 rcases h2 with h2 | ⟨h2,h4⟩
 · exact .inl h2
 · exact .inr (.inr ⟨h2,by omega⟩)
def mV (ns:List ByteArray) (n:ByteArray):Bool:=ns.any fun m=>decide (m=n)
mutual
def gS (ns:List ByteArray):Ty->Ty
 | .mk k s n e=>bif k == 5 then .mk k s n (C6 ns e) else bif k == 6 && mV ns n then .mk 7 s n e else .mk k s n e
def C6 (ns:List ByteArray):List Ty->List Ty
 | []=>[]
 | t :: r=>gS ns t :: C6 ns r
end
def iU (ns:List ByteArray) (f:Fl):Fl:=⟨f.num,f.nm,gS ns f.ty,f.opt⟩
def jM (ns:List ByteArray) (s:St):St:=⟨s.nm,s.fs.map (iU ns)⟩
def EK (d:List Int) (t0 t:Ty):Prop:=t=b8 d t0/\t0.k ≠ 5/\t0.e=[]
theorem x6 {ns:List ByteArray} {t0:Ty}:∀ d:List Int,gS ns (b8 d t0)=b8 d (gS ns t0)
 | []=>rfl
 | s :: d=>by
  show gS ns (.mk 5 s (mk []) [b8 d t0])=.mk 5 s (mk []) [b8 d (gS ns t0)]
  rw [gS,C6,C6,x6 d]; rfl
theorem sL {ns:List ByteArray} {t:Ty} (h:t.k ≠ 5):gS ns t=bif t.k == 6 && mV ns t.n then .mk 7 t.s t.n t.e else t:=by
 cases t with
 | mk k s n e=>
  have h:k ≠ 5:=h
  rw [gS,beq_eq_false_iff_ne.2 h]; rfl
def InA (ro:RO) (t0:Ty):List Int->Nat->Nat->Nat->Nat->Prop
 | [],b,off,b',o'=>(b=b'/\off=o')/\TyAt ro b off t0
 | s :: d,b,off,b',o'=>TyAt ro b off (b8 (s :: d) t0)/\∃ b1 o1 cap,ro b (off + 3)=some (.slice (some ⟨b1,o1,none⟩) 1 cap)/\InA ro t0 d b1 o1 b' o'
theorem G1 {ro:RO} {t0:Ty}:∀ (d:List Int) (b off:Nat),TyAt ro b off (b8 d t0)->∃ b' o',InA ro t0 d b off b' o'
 | [],b,off,h=>⟨b,off,⟨rfl,rfl⟩,h⟩
 | s :: d,b,off,h=>by
  obtain ⟨v,h1,h2⟩:=h.e
  have h2:FzR ro ([b8 d t0].map aP) v:=h2
  obtain ⟨b1,o1,cap,rfl,h3⟩:=O8 h2 (i:=0) rfl
  obtain ⟨b',o',h4⟩:=G1 d b1 (o1 + 0 * 4) h3
  rw [Nat.zero_mul,Nat.add_zero] at h4
  exact ⟨b',o',h,b1,o1,cap,h1,h4⟩
theorem InA.at {ro:RO} {t0:Ty}:∀ {d:List Int} {b off b' o':Nat},InA ro t0 d b off b' o'->TyAt ro b' o' t0
 | [],b,off,b',o',⟨⟨h1,h2⟩,h⟩=>by subst h1 h2; exact h
 | s :: d,b,off,b',o',⟨_,b1,o1,cap,_,h⟩=>h.at
theorem InA.fst {ro:RO} {t0:Ty}:∀ {d:List Int} {b off b' o':Nat},InA ro t0 d b off b' o'->TyAt ro b off (b8 d t0)
 | [],b,off,b',o',⟨⟨h1,h2⟩,h⟩=>h
 | s :: d,b,off,b',o',⟨h,_⟩=>h
theorem InA.uniq {ro:RO} {t0:Ty}:∀ {d:List Int} {b off b' o' b2 o2:Nat},InA ro t0 d b off b' o'->InA ro t0 d b off b2 o2->b'=b2/\o'=o2
 | [],b,off,b',o',b2,o2,⟨⟨h1,h2⟩,_⟩,⟨⟨h3,h4⟩,_⟩=>⟨h1.symm.trans h3,h2.symm.trans h4⟩
 | s :: d,b,off,b',o',b2,o2,⟨_,b1,o1,cap,e1,h⟩,⟨_,b3,o3,cap3,e2,h2⟩=>by
  rw [e1] at e2
  simp only [aH,Value.slice.injEq,Addr.mk.injEq] at e2
  obtain ⟨⟨rfl,rfl,_⟩,_,_⟩:=e2
  exact h.uniq h2
def mD (ns:List ByteArray) (ro:RO) (a:Nat × Nat):Prop:=
 ro a.1 a.2=some (.int .i64 6)/\(∃ m ∈ ns,ro a.1 (a.2 + 2)=some (.string m))/\((ro.st a.1=4/\a.2 % 4=0)\/(ro.st a.1=7/\a.2 % 7=2))
def qE (L:List (Nat × Nat)) (ro:RO):RO:=⟨fun b off=>if (b,off) ∈ L then some (.int .i64 7) else ro b off,ro.st⟩
theorem eT {L:List (Nat × Nat)} {ro:RO} {b off:Nat} (h:(b,off) ∉ L):qE L ro b off=ro b off:=if_neg h
theorem OT {L:List (Nat × Nat)} {ro:RO} {b off:Nat} (h:(b,off) ∈ L):qE L ro b off=some (.int .i64 7):=if_pos h
section
variable {ns:List ByteArray} {ro:RO} {L:List (Nat × Nat)}
theorem H6 {n:ByteArray}:mV ns n=true ↔ n ∈ ns:=by
 unfold mV
 rw [List.any_eq_true]
 constructor
 · rintro ⟨m,h1,h2⟩
   rw [<-of_decide_eq_true h2]; exact h1
 · exact fun h=>⟨n,h,decide_eq_true rfl⟩
theorem K8 {xs:List (List C)} {v:Value} (hL:∀ a ∈ L,mD ns ro a) (h:FzR ro xs v) (hz:∀ x ∈ xs,x.length=1) (hv:∀ x ∈ xs,∀ c ∈ x,∃ u,c=.vl u):FzR (qE L ro) xs v:=by
 refine BK h rfl rfl fun i x y hx hy=>?_
 rw [hx] at hy
 obtain rfl:=bK hy
 refine ⟨rfl,fun b off cap _ hst j c c' u h1 h2 h3 h4=>?_⟩
 rw [h1] at h2
 obtain rfl:=bK h2
 have hxm:=bW hx
 obtain ⟨w,rfl⟩:=hv x hxm c (bW h1)
 refine ⟨u,?_,h4,rfl⟩
 rw [eT fun hin=>?_]
 · exact h3
 · have:=(hL _ hin).2.2
   rw [hz x hxm] at hst
   simp only at this
   omega
theorem KC {v:Value} (h:FzR ro [] v):FzR (qE L ro) [] v:=BK h rfl rfl fun i x y hx=>by simp at hx
structure Ty4 (ro:RO) (b off:Nat) (t:Ty):Prop where
 k:ro b off=some (.int .i64 t.k)
 s:ro b (off + 1)=some (.int .i64 t.s)
 n:ro b (off + 2)=some (.string t.n)
 e:∃ v,ro b (off + 3)=some v/\FzR ro (t.e.map aP) v
theorem Ty4.cell {b off:Nat} {t:Ty} (h:Ty4 ro b off t) {j:Nat} {c:C} (hc:(aP t)[j]? = some c):∃ u,ro b (off + j)=some u/\c.fv ro u/\c.shut=true:=by
 rw [bM] at hc
 match j,hc with
 | 0,hc=>cases hc; exact ⟨_,h.k,rfl,rfl⟩
 | 1,hc=>cases hc; exact ⟨_,h.s,rfl,rfl⟩
 | 2,hc=>cases hc; exact ⟨_,h.n,rfl,rfl⟩
 | 3,hc=>cases hc; obtain ⟨v,h1,h2⟩:=h.e; exact ⟨v,h1,h2,rfl⟩
 | j + 4,hc=>cases hc
theorem zD {b off:Nat} {t:Ty} (hL:∀ a ∈ L,mD ns ro a) (h:TyAt ro b off t):(b,off + 1) ∉ L/\(b,off + 2) ∉ L/\(b,off + 3) ∉ L:=by
 have hs:=h.st
 refine ⟨fun hin=>?_,fun hin=>?_,fun hin=>?_⟩<;>(have:=(hL _ hin).2.2; simp only at this; omega)
theorem PD {t0:Ty} (hL:∀ a ∈ L,mD ns ro a) (h5:t0.k ≠ 5) (he:t0.e=[]):∀ (d:List Int) (b off b' o':Nat),InA ro t0 d b off b' o'->(t0.k=6->t0.n ∈ ns->(b',o') ∈ L)->Ty4 (qE L ro) b off (b8 d (gS ns t0))
 | [],b,off,b',o',⟨⟨h1,h2⟩,h⟩,hc=>by
  subst h1 h2
  obtain ⟨n1,n2,n3⟩:=zD hL h
  obtain ⟨v,hv,hf⟩:=h.e
  rw [he] at hf
  show Ty4 (qE L ro) b off (gS ns t0)
  rw [sL h5]
  cases hk:t0.k == 6 && mV ns t0.n with
  | true=>
   rw [Bool.and_eq_true] at hk
   have hin:=hc (eq_of_beq hk.1) (H6.1 hk.2)
   exact ⟨OT hin,by rw [eT n1]; exact h.s,by rw [eT n2]; exact h.n,v,by rw [eT n3]; exact hv,by
    show FzR _ (t0.e.map aP) v
    rw [he]; exact KC hf⟩
  | false=>
   have n0:(b,off) ∉ L:=fun hin=>by
    obtain ⟨m1,⟨m,hm,m2⟩,_⟩:=hL _ hin
    simp only at m1 m2
    rw [h.k] at m1
    rw [h.n] at m2
    have e1:t0.k=6:=by simpa using m1
    have e2:t0.n=m:=by simpa using m2
    rw [e1,e2] at hk
    rw [H6.2 hm] at hk
    cases hk
   exact ⟨by rw [eT n0]; exact h.k,by rw [eT n1]; exact h.s,by rw [eT n2]; exact h.n,v,by rw [eT n3]; exact hv,by
    show FzR _ (t0.e.map aP) v
    rw [he]; exact KC hf⟩
 | s :: d,b,off,b',o',⟨h,b1,o1,cap,h1,h2⟩,hc=>by
  obtain ⟨n1,n2,n3⟩:=zD hL h
  have n0:(b,off) ∉ L:=fun hin=>by
   have m1:=(hL _ hin).1
   simp only at m1
   rw [h.k] at m1
   have e1:(5:Int)=6:=by
    have:(b8 (s :: d) t0).k=6:=by simpa using m1
    exact this
   cases e1
  have ih:=PD hL h5 he d b1 o1 b' o' h2 hc
  obtain ⟨v,hv,hf⟩:=h.e
  rw [h1] at hv
  obtain rfl:=bK hv
  refine ⟨by rw [eT n0]; exact h.k,by rw [eT n1]; exact h.s,by rw [eT n2]; exact h.n,_,by rw [eT n3]; exact h1,?_⟩
  have hf:FzR ro [aP (b8 d t0)] (.slice (some ⟨b1,o1,none⟩) 1 cap):=hf
  show FzR (qE L ro) [aP (b8 d (gS ns t0))] _
  refine BK hf rfl rfl fun i x y hx hy=>?_
  match i,hx,hy with
  | 0,hx,hy=>
   obtain rfl:=bK hx
   obtain rfl:=bK hy
   refine ⟨by rw [bM,bM]; rfl,fun b2 o2 cap2 e2 _ j c c' u k1 k2 k3 k4=>?_⟩
   simp only [Value.slice.injEq,aH,Addr.mk.injEq] at e2
   obtain ⟨⟨rfl,rfl,_⟩,_,_⟩:=e2
   have:=ih.cell k2
   rwa [Nat.zero_mul,Nat.add_zero]
  | i + 1,hx,hy=>cases hx
def FlOk (ns:List ByteArray) (L:List (Nat × Nat)) (ro:RO) (f:Fl) (b off:Nat):Prop:=∃ d t0,EK d t0 f.ty/\∀ b' o',InA ro t0 d b off b' o'->t0.k=6->t0.n ∈ ns->(b',o') ∈ L
theorem aGR {fs:List Fl} {v:Value} (hL:∀ a ∈ L,mD ns ro a) (h:FzR ro (fs.map bH) v) (hc:∀ (i:Nat) (f:Fl) (b off cap:Nat),fs[i]? = some f->v=.slice (some ⟨b,off,none⟩) fs.length cap->FlOk ns L ro f b (off + i * 7 + 2)):FzR (qE L ro) ((fs.map (iU ns)).map bH) v:=by
 refine BK h (by simp) rfl fun i x y hx hy=>?_
 rw [List.getElem?_map] at hx
 rw [List.map_map,List.getElem?_map] at hy
 cases hf:fs[i]? with
 | none=>rw [hf] at hx; cases hx
 | some f=>
  rw [hf] at hx hy
  obtain rfl:=bK hx
  obtain rfl:=bK hy
  refine ⟨rfl,fun b off cap e hst j c c' u k1 k2 k3 k4=>?_⟩
  rw [List.length_map] at e
  have hst:ro.st b=0\/(ro.st b=7/\off % 7=0):=hst
  obtain ⟨b9,o9,c9,e9,hat⟩:=aC4 h hf
  rw [e] at e9
  simp only [Value.slice.injEq,aH,Addr.mk.injEq] at e9
  obtain ⟨⟨rfl,rfl,_⟩,_,_⟩:=e9
  obtain ⟨d,t0,⟨w1,w2,w3⟩,hin⟩:=hc i f b off cap hf e
  rw [w1] at hat
  obtain ⟨b',o',hA⟩:=G1 d _ _ hat
  have h4:=PD hL w2 w3 d _ _ _ _ hA (hin b' o' hA)
  rw [<-x6,<-w1] at h4
  have e7:(bH f).length=7:=rfl
  rw [e7] at k3 ⊢
  have no:∀ m,m ≠ 2->m < 7->(b,off + i * 7 + m) ∉ L:=fun m hm hm7 hin=>by
   have:=(hL _ hin).2.2
   simp only at this
   omega
  match j,k1,k2,k3 with
  | 0,k1,k2,k3=>cases k1; cases k2; exact ⟨u,by rw [eT (no 0 (by decide) (by decide))]; exact k3,k4,rfl⟩
  | 1,k1,k2,k3=>cases k1; cases k2; exact ⟨u,by rw [eT (no 1 (by decide) (by decide))]; exact k3,k4,rfl⟩
  | 2,k1,k2,k3=>exact h4.cell (j:=0) (c:=c') (by rw [bM]; exact k2)
  | 3,k1,k2,k3=>exact h4.cell (j:=1) (c:=c') (by rw [bM]; exact k2)
  | 4,k1,k2,k3=>exact h4.cell (j:=2) (c:=c') (by rw [bM]; exact k2)
  | 5,k1,k2,k3=>exact h4.cell (j:=3) (c:=c') (by rw [bM]; exact k2)
  | 6,k1,k2,k3=>cases k1; cases k2; exact ⟨u,by rw [eT (no 6 (by decide) (by decide))]; exact k3,k4,rfl⟩
  | j + 7,k1,k2,k3=>cases k1
end
structure Cu (w:World) (L:List (Nat × Nat)) (wr:World):Prop where
 sz:w.heap.size<=wr.heap.size
 cell:∀ b off,b < w.heap.size->wr.cell? ⟨b,off,none⟩=if (b,off) ∈ L then some (.int .i64 7) else w.cell? ⟨b,off,none⟩
 fz:∀ b off,b < w.heap.size->wr.frozen? ⟨b,off,none⟩=w.frozen? ⟨b,off,none⟩
 keep:∀ b,b < w.heap.size->(∀ off,(b,off) ∉ L)->wr.heap[b]? = w.heap[b]?
 os:wr.os=w.os
 tape:wr.tape=w.tape
 output:wr.output=w.output
theorem Cu.refl (w:World):Cu w [] w:=⟨Nat.le_refl _,fun b off _=>by simp,fun _ _ _=>rfl,fun _ _ _=>rfl,rfl,rfl,rfl⟩
theorem Cu.alloc {w wr:World} {L:List (Nat × Nat)} (h:Cu w L wr) (o:Obj):Cu w L (wr.alloc o) where
 sz:=Nat.le_trans h.sz (by simp)
 cell:=fun b off hb=>by rw [World.cell?_alloc_lt wr o ⟨b,off,none⟩ (Nat.lt_of_lt_of_le hb h.sz)]; exact h.cell b off hb
 fz:=fun b off hb=>by
  have hlt:b < wr.heap.size:=Nat.lt_of_lt_of_le hb h.sz
  rw [<-h.fz b off hb]
  unfold World.frozen?
  rw [RowKit.Below.heap_alloc wr o b hlt]
 keep:=fun b hb hl=>by rw [RowKit.Below.heap_alloc wr o b (Nat.lt_of_lt_of_le hb h.sz)]; exact h.keep b hb hl
 os:=h.os
 tape:=h.tape
 output:=h.output
theorem Cu.set {w wr:World} {L:List (Nat × Nat)} (h:Cu w L wr) {b off:Nat} {u:Value} (hb:b < w.heap.size) (hc:w.cell? ⟨b,off,none⟩=some u):Cu w ((b,off) :: L) (wr.setCell ⟨b,off,none⟩ (.int .i64 7)) where
 sz:=by simpa using h.sz
 cell:=fun b' o' hb'=>by
  by_cases e:(b',o')=(b,off)
  · cases e
    have:∃ u',wr.cell? ⟨b,off,none⟩=some u':=by
     rw [h.cell b off hb]
     split
     · exact ⟨_,rfl⟩
     · exact ⟨u,hc⟩
    obtain ⟨u',hu'⟩:=this
    rw [World.cell?_setCell_same wr _ _ hu',if_pos (List.mem_cons_self ..)]
  · rw [World.cell?_setCell_other wr _ _ _ (fun e2=>e (by cases e2; rfl)),h.cell b' o' hb']
    by_cases hin:(b',o') ∈ L
    · rw [if_pos hin,if_pos (List.mem_cons_of_mem _ hin)]
    · rw [if_neg hin,if_neg (fun hm=>by rcases List.mem_cons.1 hm with h1 | h1; exact e h1; exact hin h1)]
 fz:=fun b' o' hb'=>by rw [World.frozen?_setCell]; exact h.fz b' o' hb'
 keep:=fun b' hb' hl=>by
  have hne:b' ≠ b:=fun e=>hl off (by rw [e]; exact List.mem_cons_self ..)
  rw [<-h.keep b' hb' fun o hin=>hl o (List.mem_cons_of_mem _ hin)]
  unfold World.setCell
  simp only [Array.getElem?_modify]
  rw [if_neg (fun e=>hne e.symm)]
 os:=h.os
 tape:=h.tape
 output:=h.output
theorem Cu.no {w wr:World} {L:List (Nat × Nat)} (h:Cu w L wr) {b off:Nat} {u:Value} (hb:b < w.heap.size) (hc:w.cell? ⟨b,off,none⟩=some u) (hn:(b,off) ∉ L):wr.cell? ⟨b,off,none⟩=some u:=by
 rw [h.cell b off hb,if_neg hn]; exact hc
structure Rs (ns:List ByteArray) (ro:RO) (w:World) (es:List En) (ss:List St) (aE aS:Option Nat):Prop where
 rd:∀ b off v,ro b off=some v->b < w.heap.size/\Rd (ro.st b) w b off v
 fr:∀ b off v,ro b off=some v->off ≠ 0->ro.st b ≠ 0
 e:∀ j e,es[j]? = some e->∃ b u1 u2,aE=some b/\b < w.heap.size/\(∀ v off,ro b off ≠ some v)/\w.cell? ⟨b,j * 3,none⟩=some (.string e.nm)/\w.cell? ⟨b,j * 3 + 1,none⟩=some u1/\w.cell? ⟨b,j * 3 + 2,none⟩=some u2/\(∃ o n c,u1=.slice o n c)/\∃ o n c,u2=.slice o n c
 s:∀ i s,ss[i]? = some s->∃ b u,aS=some b/\b < w.heap.size/\(∀ v off,ro b off ≠ some v)/\w.cell? ⟨b,i * 2 + 1,none⟩=some u/\FzR ro (s.fs.map bH) u
 w:∀ s ∈ ss,∀ f ∈ s.fs,∃ d t0,EK d t0 f.ty
 n:ns=es.map En.nm
def DnF (ns:List ByteArray) (ro:RO) (L:List (Nat × Nat)) (s:St) (u:Value) (m:Nat):Prop:=∀ (k:Nat) (f:Fl) (b off cap:Nat),k < m->s.fs[k]? = some f->u=.slice (some ⟨b,off,none⟩) s.fs.length cap->FlOk ns L ro f b (off + k * 7 + 2)
def DnS (ns:List ByteArray) (ro:RO) (w:World) (L:List (Nat × Nat)) (ss:List St) (aS:Option Nat) (m:Nat):Prop:=∀ (i:Nat) (s:St) (b:Nat) (u:Value),i < m->ss[i]? = some s->aS=some b->w.cell? ⟨b,i * 2 + 1,none⟩=some u->DnF ns ro L s u s.fs.length
theorem FlOk.mono {ns:List ByteArray} {ro:RO} {L L':List (Nat × Nat)} {f:Fl} {b off:Nat} (h:FlOk ns L ro f b off) (hL:∀ a ∈ L,a ∈ L'):FlOk ns L' ro f b off:=by
 obtain ⟨d,t0,h1,h2⟩:=h
 exact ⟨d,t0,h1,fun b' o' k1 k2 k3=>hL _ (h2 b' o' k1 k2 k3)⟩
theorem DnF.mono {ns:List ByteArray} {ro:RO} {L L':List (Nat × Nat)} {s:St} {u:Value} {m:Nat} (h:DnF ns ro L s u m) (hL:∀ a ∈ L,a ∈ L'):DnF ns ro L' s u m:=fun k f b off cap h1 h2 h3=>(h k f b off cap h1 h2 h3).mono hL
theorem DnS.mono {ns:List ByteArray} {ro:RO} {w:World} {L L':List (Nat × Nat)} {ss:List St} {aS:Option Nat} {m:Nat} (h:DnS ns ro w L ss aS m) (hL:∀ a ∈ L,a ∈ L'):DnS ns ro w L' ss aS m:=fun i s b u h1 h2 h3 h4=>(h i s b u h1 h2 h3 h4).mono hL
theorem x8 (b k:Nat):bI (some b) k=some ⟨b,k,none⟩:=rfl
theorem aAU {ro:RO} {xs:List (List C)} {v:Value} (h:FzR ro xs v):∃ o c,v=.slice o xs.length c:=by cases h; exact ⟨_,_,rfl⟩
theorem Cu.loc {w w1 wr:World} {L:List (Nat × Nat)} {cs:Array Value} {T:TypeId} (h1:w1=w.alloc (.cells cs T)) (hL:∀ a ∈ L,a.1 < w.heap.size) (h:Cu w1 L wr) {j:Nat} {u:Value} (hc:cs[j]? = some u):wr.cell? ⟨w.heap.size,j,none⟩=some u:=by
 subst h1
 refine h.no (by simp) ?_ fun hin=>Nat.lt_irrefl _ (hL _ hin)
 rw [World.cell?_alloc_new]; exact hc
theorem Cu.old {w w1 wr:World} {L:List (Nat × Nat)} {o:Obj} (h1:w1=w.alloc o) (h:Cu w1 L wr):Cu w L wr where
 sz:=by subst h1; exact Nat.le_trans (by simp) h.sz
 cell:=fun b off hb=>by subst h1; rw [h.cell b off (by simp; omega),World.cell?_alloc_lt w o ⟨b,off,none⟩ hb]
 fz:=fun b off hb=>by
  subst h1
  rw [h.fz b off (by simp; omega)]
  unfold World.frozen?
  rw [RowKit.Below.heap_alloc w o b hb]
 keep:=fun b hb hl=>by subst h1; rw [h.keep b (by simp; omega) hl,RowKit.Below.heap_alloc w o b hb]
 os:=by subst h1; exact h.os
 tape:=by subst h1; exact h.tape
 output:=by subst h1; exact h.output
theorem Rs.lt {ns:List ByteArray} {ro:RO} {w:World} {es:List En} {ss:List St} {aE aS:Option Nat} (H:Rs ns ro w es ss aE aS) {L:List (Nat × Nat)} (hL:∀ a ∈ L,mD ns ro a):∀ a ∈ L,a.1 < w.heap.size:=fun a ha=>(H.rd _ _ _ (hL a ha).1).1
theorem Rs.outer {ns:List ByteArray} {ro:RO} {w w1 wr:World} {es:List En} {ss:List St} {aE aS:Option Nat} {L:List (Nat × Nat)} {m cE cS:Nat} {ver:Int} (H:Rs ns ro w es ss aE aS)
 (h1:w1=w.alloc (.cells #[.int .i64 ver,.slice (bI aE 0) es.length cE,.slice (bI aS 0) ss.length cS] 25)) (hL:∀ a ∈ L,mD ns ro a) (hC:Cu w1 L wr) (hm:m < ss.length) :
 ∃ s b o c,ss[m]? = some s/\aS=some b/\wr.cell? ⟨w.heap.size,2,none⟩=some (.slice (bI aS 0) ss.length cS)/\wr.cell? ⟨b,m * 2 + 1,none⟩=some (.slice o s.fs.length c)/\FzR ro (s.fs.map bH) (.slice o s.fs.length c)/\w.cell? ⟨b,m * 2 + 1,none⟩=some (.slice o s.fs.length c):=by
 obtain ⟨s,hs⟩:∃ s,ss[m]? = some s:=⟨_,bB hm⟩
 obtain ⟨b,u,e1,e2,e3,e4,e5⟩:=H.s m s hs
 obtain ⟨o,c,rfl⟩:=aAU e5
 rw [List.length_map] at e4 e5
 exact ⟨s,b,o,c,hs,e1,hC.loc h1 (H.lt hL) rfl,(hC.old h1).no e2 e4 fun hin=>e3 _ _ (hL _ hin).1,e5,e4⟩
theorem Rs.inner {ns:List ByteArray} {ro:RO} {w w1 wr:World} {es:List En} {ss:List St} {aE:Option Nat} {b:Nat} {L:List (Nat × Nat)} {m q cE cS c:Nat} {ver:Int} {o:Option Addr} {s:St} (H:Rs ns ro w es ss aE (some b))
 (h1:w1=w.alloc (.cells #[.int .i64 ver,.slice (bI aE 0) es.length cE,.slice (bI (some b) 0) ss.length cS] 25)) (hL:∀ a ∈ L,mD ns ro a) (hC:Cu w1 L wr) (hm:ss[m]? = some s) (hS:w.cell? ⟨b,m * 2 + 1,none⟩=some (.slice o s.fs.length c))
 (hF:FzR ro (s.fs.map bH) (.slice o s.fs.length c)) (hq:q < s.fs.length) :
 ∃ f bF oF d t0 b' o',s.fs[q]? = some f/\o=some ⟨bF,oF,none⟩/\wr.cell? ⟨w.heap.size,2,none⟩=some (.slice (bI (some b) 0) ss.length cS)/\wr.cell? ⟨b,m * 2 + 1,none⟩=some (.slice o s.fs.length c)/\EK d t0 f.ty/\InA ro t0 d bF (oF + q * 7 + 2) b' o':=by
 obtain ⟨f,hf⟩:∃ f,s.fs[q]? = some f:=⟨_,bB hq⟩
 obtain ⟨b2,u,e1,e2,e3,e4,e5⟩:=H.s m s hm
 cases e1
 obtain ⟨d,t0,hw⟩:=H.w s (bW hm) f (bW hf)
 obtain ⟨bF,oF,cap,h2,h3⟩:=aC4 hF hf
 simp only [Value.slice.injEq] at h2
 rw [hw.1] at h3
 obtain ⟨b',o',h4⟩:=G1 d _ _ h3
 exact ⟨f,bF,oF,d,t0,b',o',hf,h2.1,hC.loc h1 (H.lt hL) rfl,(hC.old h1).no e2 hS fun hin=>e3 _ _ (hL _ hin).1,hw,h4⟩
theorem Rs.step {ns:List ByteArray} {ro:RO} {w w1 wr:World} {es:List En} {ss:List St} {aE aS:Option Nat} {L:List (Nat × Nat)} {o:Obj} {t0:Ty} {x:Int} {d:List Int} {b1 o1 b' o':Nat} (H:Rs ns ro w es ss aE aS)
 (h1:w1=w.alloc o) (hL:∀ a ∈ L,mD ns ro a) (hC:Cu w1 L wr) (hI:InA ro t0 (x :: d) b1 o1 b' o') :
 ∃ b3 o3 cap,wr.cell? ⟨b1,o1,none⟩=some (.int .i64 5)/\wr.cell? ⟨b1,o1 + 3,none⟩=some (.slice (some ⟨b3,o3,none⟩) 1 cap)/\InA ro t0 d b3 o3 b' o':=by
 obtain ⟨hT,b3,o3,cap,h2,h3⟩:=hI
 have hk:=hT.k
 have hlt:=(H.rd _ _ _ hk).1
 refine ⟨b3,o3,cap,(hC.old h1).no hlt (H.rd _ _ _ hk).2.1 fun hin=>?_,(hC.old h1).no hlt (H.rd _ _ _ h2).2.1 fun hin=>?_,h3⟩
 · have:=(hL _ hin).1
   simp only at this
   rw [hk] at this
   have h5:(b8 (x :: d) t0).k=5:=rfl
   rw [h5] at this
   cases this
 · have:=(hL _ hin).1
   simp only at this
   rw [h2] at this
   cases this
theorem Rs.last {ns:List ByteArray} {ro:RO} {w w1 wr:World} {es:List En} {ss:List St} {aE:Option Nat} {b cE cS:Nat} {ver:Int} {L:List (Nat × Nat)} {t0:Ty} {b1 o1 b' o':Nat} (H:Rs ns ro w es ss aE (some b))
 (h1:w1=w.alloc (.cells #[.int .i64 ver,.slice (bI aE 0) es.length cE,.slice (bI (some b) 0) ss.length cS] 25)) (hL:∀ a ∈ L,mD ns ro a) (hC:Cu w1 L wr) (h5:t0.k ≠ 5) (hI:InA ro t0 [] b1 o1 b' o') :
 ∃ kk,wr.cell? ⟨b1,o1,none⟩=some (.int .i64 kk)/\kk ≠ 5/\(b1=b'/\o1=o')/\wr.cell? ⟨w.heap.size,1,none⟩=some (.slice (bI aE 0) es.length cE)/\TyAt ro b' o' t0/\True:=by
 obtain ⟨⟨e1,e2⟩,hT⟩:=hI
 subst e1 e2
 have hlt:=(H.rd _ _ _ hT.k).1
 have hcell:=(hC.old h1).cell b1 o1 hlt
 by_cases hin:(b1,o1) ∈ L
 · rw [if_pos hin] at hcell
   exact ⟨7,hcell,by decide,⟨rfl,rfl⟩,hC.loc h1 (H.lt hL) rfl,hT,trivial⟩
 · rw [if_neg hin,(H.rd _ _ _ hT.k).2.1] at hcell
   exact ⟨t0.k,hcell,h5,⟨rfl,rfl⟩,hC.loc h1 (H.lt hL) rfl,hT,trivial⟩
def DnT (es:List En) (L:List (Nat × Nat)) (t0:Ty) (b o m:Nat):Prop:=∀ (j:Nat) (e:En),j < m->es[j]? = some e->t0.k=6->e.nm=t0.n->(b,o) ∈ L
theorem DnF.succ {ns:List ByteArray} {ro:RO} {L L':List (Nat × Nat)} {s:St} {m bF oF b' o' c:Nat} {f:Fl} {d:List Int} {t0:Ty} {es:List En} (h:DnF ns ro L s (.slice (some ⟨bF,oF,none⟩) s.fs.length c) m) (hL:∀ a ∈ L,a ∈ L') (hf:s.fs[m]? = some f) (hw:EK d t0 f.ty)
 (hI:InA ro t0 d bF (oF + m * 7 + 2) b' o') (hn:ns=es.map En.nm) (hT:DnT es L' t0 b' o' es.length):DnF ns ro L' s (.slice (some ⟨bF,oF,none⟩) s.fs.length c) (m + 1):=by
 intro k g b off cap hk hg he
 rcases bL k m with h1 | h1
 · exact (h k g b off cap h1 hg he).mono hL
 · obtain rfl:k=m:=by omega
   rw [hf] at hg
   obtain rfl:=bK hg
   simp only [Value.slice.injEq,aH,Addr.mk.injEq] at he
   obtain ⟨⟨rfl,rfl,_⟩,_⟩:=he
   refine ⟨d,t0,hw,fun b2 o2 hI2 hk6 hnm=>?_⟩
   obtain ⟨rfl,rfl⟩:=hI.uniq hI2
   rw [hn] at hnm
   obtain ⟨e,hm,hen⟩:=List.mem_map.1 hnm
   obtain ⟨j,hj⟩:=List.mem_iff_getElem?.1 hm
   exact hT j e (bC.1 hj).1 hj hk6 hen
theorem DnS.succ {ns:List ByteArray} {ro:RO} {w:World} {L':List (Nat × Nat)} {ss:List St} {b m c:Nat} {o:Option Addr} {s:St} (h:DnS ns ro w L' ss (some b) m) (hs:ss[m]? = some s) (hc:w.cell? ⟨b,m * 2 + 1,none⟩=some (.slice o s.fs.length c))
 (hF:DnF ns ro L' s (.slice o s.fs.length c) s.fs.length):DnS ns ro w L' ss (some b) (m + 1):=by
 intro i s2 b2 u hi hs2 hb hu
 rcases bL i m with h1 | h1
 · exact h i s2 b2 u h1 hs2 hb hu
 · obtain rfl:i=m:=by omega
   cases hb
   rw [hs] at hs2
   obtain rfl:=bK hs2
   rw [hc] at hu
   obtain rfl:=bK hu
   exact hF
theorem Rs.each {ns:List ByteArray} {ro:RO} {w w1 wr:World} {es:List En} {ss:List St} {aE:Option Nat} {b cE cS:Nat} {ver:Int} {L:List (Nat × Nat)} {t0:Ty} {b1 o1 j:Nat} (H:Rs ns ro w es ss aE (some b))
 (h1:w1=w.alloc (.cells #[.int .i64 ver,.slice (bI aE 0) es.length cE,.slice (bI (some b) 0) ss.length cS] 25)) (hL:∀ a ∈ L,mD ns ro a) (hC:Cu w1 L wr) (hT:TyAt ro b1 o1 t0) (hj:j < es.length) :
 ∃ e bE,∃ _:Unit,∃ o2 n2 c2 o3 n3 c3 kk,es[j]? = some e/\aE=some bE/\wr.cell? ⟨bE,j * 3,none⟩=some (.string e.nm)/\wr.cell? ⟨bE,j * 3 + 1,none⟩=some (.slice o2 n2 c2)/\wr.cell? ⟨bE,j * 3 + 2,none⟩=some (.slice o3 n3 c3)/\
  wr.cell? ⟨b1,o1,none⟩=some (.int .i64 kk)/\wr.cell? ⟨b1,o1 + 2,none⟩=some (.string t0.n)/\b1 < wr.heap.size/\wr.frozen? ⟨b1,o1,none⟩=false/\(((b1,o1) ∈ L/\kk=7)\/((b1,o1) ∉ L/\kk=t0.k)):=by
 obtain ⟨e,he⟩:∃ e,es[j]? = some e:=⟨_,bB hj⟩
 obtain ⟨bE,u1,u2,e1,e2,e3,e4,e5,e6,⟨o2,n2,c2,rfl⟩,o3,n3,c3,rfl⟩:=H.e j e he
 have hO:=hC.old h1
 have no:∀ off,(bE,off) ∉ L:=fun off hin=>e3 _ _ (hL _ hin).1
 have hlt:=(H.rd _ _ _ hT.k).1
 have hst:ro.st b1 ≠ 0:=H.fr _ _ _ hT.s (by omega)
 have hfz:wr.frozen? ⟨b1,o1,none⟩=false:=by rw [hO.fz b1 o1 hlt]; exact (H.rd _ _ _ hT.k).2.2 hst
 have hnm:=hO.no hlt (H.rd _ _ _ hT.n).2.1 (zD hL hT).2.1
 have hcell:=hO.cell b1 o1 hlt
 have hsz:b1 < wr.heap.size:=Nat.lt_of_lt_of_le hlt hO.sz
 by_cases hin:(b1,o1) ∈ L
 · rw [if_pos hin] at hcell
   exact ⟨e,bE,(),o2,n2,c2,o3,n3,c3,7,he,e1,hO.no e2 e4 (no _),hO.no e2 e5 (no _),hO.no e2 e6 (no _),hcell,hnm,hsz,hfz,.inl ⟨hin,rfl⟩⟩
 · rw [if_neg hin,(H.rd _ _ _ hT.k).2.1] at hcell
   exact ⟨e,bE,(),o2,n2,c2,o3,n3,c3,t0.k,he,e1,hO.no e2 e4 (no _),hO.no e2 e5 (no _),hO.no e2 e6 (no _),hcell,hnm,hsz,hfz,.inr ⟨hin,rfl⟩⟩
theorem Cu.drewN {w wr:World} {L:List (Nat × Nat)} (h:Cu w L wr) (n:Nat):Cu w L (wr.drewN n):=⟨h.sz,h.cell,h.fz,h.keep,h.os,h.tape,h.output⟩
theorem aHU {a b:ByteArray} (h:(a.toList == b.toList)=true):a=b:=by
 have h1:=eq_of_beq h
 rw [nK,nK] at h1
 rw [<-nA a,h1,nA]
theorem aH4 {a b:ByteArray} (h:(a.toList == b.toList)=false):a ≠ b:=fun e=>by
 rw [e,beq_self_eq_true] at h; cases h
theorem kk6 {p:Prop} {q:Prop} {t0:Ty} (h:(p/\(6:Int)=7)\/(q/\(6:Int)=t0.k)):t0.k=6:=by
 rcases h with ⟨_,h⟩ | ⟨_,h⟩
 · cases h
 · exact h.symm
theorem DnT.skip {es:List En} {L:List (Nat × Nat)} {t0:Ty} {b o m:Nat} {e:En} (h:DnT es L t0 b o m) (he:es[m]? = some e) (hn:t0.k=6->e.nm=t0.n->False):DnT es L t0 b o (m + 1):=by
 intro j e2 hj he2 hk hnm
 rcases bL j m with h1 | h1
 · exact h j e2 h1 he2 hk hnm
 · obtain rfl:j=m:=by omega
   rw [he] at he2
   obtain rfl:=bK he2
   exact (hn hk hnm).elim
theorem DnT.other {es:List En} {L:List (Nat × Nat)} {t0:Ty} {b o m:Nat} {kk:Int} (h:DnT es L t0 b o m) (hk:(((b,o) ∈ L/\kk=7)\/((b,o) ∉ L/\kk=t0.k))) (h6:¬ kk=6):DnT es L t0 b o (m + 1):=by
 intro j e2 hj he2 hk6 hnm
 rcases hk with ⟨hin,_⟩ | ⟨_,hk⟩
 · exact hin
 · exact absurd (hk.trans hk6) h6
theorem Rs.mark {ns:List ByteArray} {ro:RO} {w w1 wr:World} {es:List En} {ss:List St} {aE aS:Option Nat} {L:List (Nat × Nat)} {o:Obj} {t0:Ty} {b1 o1 j:Nat} {e:En} (H:Rs ns ro w es ss aE aS) (h1:w1=w.alloc o) (hL:∀ a ∈ L,mD ns ro a) (hC:Cu w1 L wr)
 (hT:TyAt ro b1 o1 t0) (he:es[j]? = some e) (hk:t0.k=6) (hn:t0.n=e.nm):(∀ a ∈ (b1,o1) :: L,mD ns ro a)/\Cu w1 ((b1,o1) :: L) (wr.setCell ⟨b1,o1,none⟩ (.int .i64 7)):=by
 have hst:ro.st b1 ≠ 0:=H.fr _ _ _ hT.s (by omega)
 have hlt:=(H.rd _ _ _ hT.k).1
 refine ⟨fun a ha=>?_,?_⟩
 · rcases List.mem_cons.1 ha with rfl | ha
   · refine ⟨by rw [<-hk]; exact hT.k,⟨e.nm,?_,by rw [<-hn]; exact hT.n⟩,?_⟩
     · rw [H.n]; exact List.mem_map.2 ⟨e,bW he,rfl⟩
     · rcases hT.st with h | h | h
       · exact absurd h hst
       · exact .inl h
       · exact .inr h
   · exact hL a ha
 · subst h1
   refine hC.set (u:=.int .i64 t0.k) (by simp; omega) ?_
   rw [World.cell?_alloc_lt w o ⟨b1,o1,none⟩ hlt]
   exact (H.rd _ _ _ hT.k).2.1
theorem HQ (w:World) (bp:Nat) (ver:Int) (aE aS:Option Nat) (cE cS:Nat) (es:List En) (ss:List St) (ns:List ByteArray) (ro:RO) (H:Rs ns ro w es ss aE aS) (hlE:es.length<=1000000) (hlS:ss.length<=1000000) (hlF:∀ s ∈ ss,s.fs.length<=1000000) (h3:w.cell? ⟨bp,3,none⟩=some (.int .i64 ver)) (h4:w.cell? ⟨bp,4,none⟩=some (.slice (bI aE 0) es.length cE)) (h5:w.cell? ⟨bp,5,none⟩=some (.slice (bI aS 0) ss.length cS)) :
 Calls Tryz.prog 41 #[.pointer (some ⟨bp,0,none⟩)] w fun e w'=>e=.returned (.tuple #[])/\∃ L,(∀ a ∈ L,mD ns ro a)/\Cu w L w'/\DnS ns ro w L ss aS ss.length:=by
 go_enter Tryz.func41,Tryz.ntmps41
 have A:Aside (Rs ns ro w es ss aE aS/\∀ s ∈ ss,s.fs.length<=1000000):=⟨H,hlF⟩
 clear H hlF
 go_wp2
 obtain ⟨w1,hw1⟩:∃ w1,w1=w.alloc (.cells #[.int .i64 ver,.slice (bI aE 0) es.length cE,.slice (bI aS 0) ss.length cS] 25):=⟨_,rfl⟩
 rw [<-hw1]
 have A1:Aside (w1=w.alloc (.cells #[.int .i64 ver,.slice (bI aE 0) es.length cE,.slice (bI aS 0) ss.length cS] 25)):=hw1
 clear hw1
 go_loopg [15] ss.length (fun k i wr=>∃ m L,i=.int .i64 (m:Nat)/\m + k=ss.length/\Aside ((∀ a ∈ L,mD ns ro a)/\Cu w1 L wr/\DnS ns ro w L ss aS m))
 case atStart=>exact ⟨0,[],rfl,by simp,fun a h=>(by cases h),Cu.refl _,fun i s b u h=>(by omega)⟩
 case round=>
  obtain ⟨m,L,rfl,hm,hR⟩:=hrel
  by_cases hlt:m < ss.length
  · have B:=A.out.1.outer A1.out hR.out.1 hR.out.2.1 hlt
    obtain ⟨s,b,o,c,hx,rfl,q1,q2,q3,q4⟩:=B
    rw [x8] at q1 ⊢
    have q3':Aside (FzR ro (s.fs.map bH) (.slice o s.fs.length c)):=q3
    have hx':Aside (ss[m]? = some s):=hx
    have hlf:s.fs.length<=1000000:=A.out.2 s (bW hx)
    clear hx q3
    have hcS:Aside (w.cell? ⟨b,m * 2 + 1,none⟩=some (.slice o s.fs.length c)):=q4
    clear q4
    go_wp2
    obtain ⟨wo,rfl⟩:∃ wo:World,wo=wr:=⟨_,rfl⟩
    go_loopg [25] s.fs.length (fun k i wr=>∃ q L',i=.int .i64 (q:Nat)/\q + k=s.fs.length/\Aside ((∀ a ∈ L',mD ns ro a)/\Cu w1 L' wr/\DnS ns ro w L' ss (some b) m/\DnF ns ro L' s (.slice o s.fs.length c) q))
    case atStart=>exact ⟨0,L,rfl,by simp,hR.out.1,hR.out.2.1,hR.out.2.2,fun k f b off cap h=>(by omega)⟩
    case round=>
     obtain ⟨q,L',rfl,hq,hR'⟩:=hrel
     by_cases hlq:q < s.fs.length
     · have B:=A.out.1.inner A1.out hR'.out.1 hR'.out.2.1 hx'.out hcS.out q3'.out hlq
       obtain ⟨f,bF,oF,d,t0,b',o',hf,rfl,q5,q6,q7,q8⟩:=B
       have q8':Aside (s.fs[q]? = some f/\EK d t0 f.ty/\InA ro t0 d bF (oF + q * 7 + 2) b' o'):=⟨hf,q7,q8⟩
       clear hf q7 q8 q1 q2
       rw [x8] at q5
       go_wp2
       obtain ⟨wi,rfl⟩:∃ wi:World,wi=wr:=⟨_,rfl⟩
       go_loopg [5] d.length (fun k v wr=>∃ d' b1 o1,v=.pointer (some ⟨b1,o1,none⟩)/\Aside (d'.length=k)/\Aside (InA ro t0 d' b1 o1 b' o')/\wr=wi)
       case atStart=>exact ⟨d,bF,_,rfl,rfl,q8'.out.2.2,rfl⟩
       case round=>
        obtain ⟨d',b1,o1,rfl,hd,hI,rfl⟩:=hrel
        match d',hd,hI with
        | x :: d2,hd,hI=>
         have B:=A.out.1.step A1.out hR'.out.1 hR'.out.2.1 hI.out
         obtain ⟨b3,o3,cap,q9,q10,q11⟩:=B
         have hI2:Aside (InA ro t0 d2 b3 o3 b' o'):=q11
         clear q11
         go_wp2
         go_roundg d2.length
         case rel=>exact ⟨d2,b3,o3,rfl,rfl,hI2.out,rfl⟩
         case measure=>have:=hd.out; simp only [List.length_cons] at this; omega
        | [],hd,hI=>
         have B:=A.out.1.last A1.out hR'.out.1 hR'.out.2.1 q8'.out.2.1.2.1 hI.out
         obtain ⟨kk,q9,q10,⟨rfl,rfl⟩,q12,q13,_⟩:=B
         have q13':Aside (TyAt ro b1 o1 t0):=q13
         clear q13
         go_wp2
         clear q9 q10 q12
         obtain ⟨wj,rfl⟩:∃ wj:World,wj=wr:=⟨_,rfl⟩
         go_loopg [50] es.length (fun k i wr=>∃ j L2,i=.int .i64 (j:Nat)/\j + k=es.length/\Aside ((∀ a ∈ L2,mD ns ro a)/\Cu w1 L2 wr/\(∀ a ∈ L',a ∈ L2)/\DnT es L2 t0 b1 o1 j))
         case atStart=>exact ⟨0,L',rfl,by simp,hR'.out.1,hR'.out.2.1,fun _ h=>h,fun i e h=>(by omega)⟩
         case round=>
          obtain ⟨j,L2,rfl,hj,hR2⟩:=hrel
          by_cases hlj:j < es.length
          · have B:=A.out.1.each A1.out hR2.out.1 hR2.out.2.1 q13'.out hlj
            obtain ⟨e,bE,u1,o2,n2,c2,o3,n3,c3,kk,hx2,rfl,r1,r2,r3,r4,r5,r6,r7,r8⟩:=B
            rw [x8]
            have hx2':Aside (es[j]? = some e/\(((b1,o1) ∈ L2/\kk=7)\/((b1,o1) ∉ L2/\kk=t0.k))):=⟨hx2,r8⟩
            clear hx2 r8
            by_cases h6:kk=6
            · subst h6
              go_wp2
              go_quiet (fail)
              go_wp2
              · rename_i hnm
                go_roundg (es.length - (j + 1))
                case rel=>
                 have e1:=kk6 hx2'.out.2
                 have e2:=aHU hnm
                 exact ⟨j + 1,(b1,o1) :: L2,by simp,by omega,(A.out.1.mark A1.out hR2.out.1 hR2.out.2.1 q13'.out hx2'.out.1 e1 e2).1,(A.out.1.mark A1.out hR2.out.1 ((hR2.out.2.1.alloc _).drewN _) q13'.out hx2'.out.1 e1 e2).2,fun a h=>List.mem_cons_of_mem _ (hR2.out.2.2.1 a h),fun _ _ _ _ _ _=>List.mem_cons_self ..⟩
                case measure=>omega
              · rename_i hnm
                go_roundg (es.length - (j + 1))
                case rel=>exact ⟨j + 1,L2,by simp,by omega,hR2.out.1,(hR2.out.2.1.alloc _).drewN _,hR2.out.2.2.1,hR2.out.2.2.2.skip hx2'.out.1 fun _ e=>aH4 hnm e.symm⟩
                case measure=>omega
            · have hd:decide (kk=6)=false:=decide_eq_false h6
              have hd2:(kk == 6)=false:=beq_eq_false_iff_ne.2 h6
              go_wp2
              go_quiet (fail)
              go_wp2
              go_roundg (es.length - (j + 1))
              case rel=>exact ⟨j + 1,L2,by simp,by omega,hR2.out.1,(hR2.out.2.1.alloc _).drewN _,hR2.out.2.2.1,hR2.out.2.2.2.other hx2'.out.2 h6⟩
              case measure=>omega
          · obtain rfl:j=es.length:=by omega
            go_wp2
            go_roundg (s.fs.length - (q + 1))
            case rel=>exact ⟨q + 1,L2,by simp,by omega,hR2.out.1,hR2.out.2.1,hR'.out.2.2.1.mono hR2.out.2.2.1,hR'.out.2.2.2.succ hR2.out.2.2.1 q8'.out.1 q8'.out.2.1 q8'.out.2.2 A.out.1.n hR2.out.2.2.2⟩
            case measure=>omega
     · obtain rfl:q=s.fs.length:=by omega
       go_wp2
       go_roundg (ss.length - (m + 1))
       case rel=>exact ⟨m + 1,L',by simp,by omega,hR'.out.1,hR'.out.2.1,hR'.out.2.2.1.succ hx'.out hcS.out hR'.out.2.2.2⟩
       case measure=>omega
  · obtain rfl:m=ss.length:=by omega
    go_wp2
    exact bodyPost_end (results_none rfl _ _ _) rfl ⟨rfl,L,hR.out.1,hR.out.2.1.old A1.out,hR.out.2.2⟩
theorem F5 {α β:Type} {R S:α->β->Prop} {l:List α} {m:List β} (h:All2 R l m) (hi:∀ x ∈ l,∀ y,R x y->S x y):All2 S l m:=⟨h.1,fun i x y hx hy=>hi x (bW hx) y (h.2 i x y hx hy)⟩
def ind:C->Bool
 | .fz _ | .fp _ _ | .fn _ _ | .fm _ _=>false
 | _=>true
theorem Y5 {γ:List Gb} {ro ro2:RO} {c:C} {v:Value} (hc:ind c=true) (h:c.rel γ ro v):c.rel γ ro2 v:=by
 cases c<;>first | exact h | cases hc
theorem G7 {γ:List Gb} {ro ro2:RO} {cs:List C} {vs:List Value} (hc:cs.all ind=true) (h:All2 (C.rel γ ro) cs vs):All2 (C.rel γ ro2) cs vs:=
 F5 h fun x hx y hr=>Y5 (List.all_eq_true.1 hc x hx) hr
theorem L6 {l:List St} {i:Nat} {s:St} (h:l[i]? = some s) (j:Nat) (hj:j < 2):(l.map aL).flatten[i * 2 + j]? = (aL s)[j]?:=by
 rw [jO (sz:=2) (fun x hx=>by obtain ⟨y,_,rfl⟩:=List.mem_map.1 hx; rfl) (by rw [List.length_map]; exact (bC.1 h).1) hj,List.getElem?_map,h]; rfl
theorem C9 {l:List En} {i:Nat} {e:En} (h:l[i]? = some e) (j:Nat) (hj:j < 3):(l.map aO).flatten[i * 3 + j]? = (aO e)[j]?:=by
 rw [jO (sz:=3) (fun x hx=>by obtain ⟨y,_,rfl⟩:=List.mem_map.1 hx; rfl) (by rw [List.length_map]; exact (bC.1 h).1) hj,List.getElem?_map,h]; rfl
theorem LQ {ns:List ByteArray} {ro:RO} {L:List (Nat × Nat)} (hL:∀ a ∈ L,mD ns ro a):∀ (ss:List St) (vs:List Value),All2 (C.fv ro) (ss.map aL).flatten vs->(∀ (i:Nat) (s:St) (u:Value),ss[i]? = some s->vs[i * 2 + 1]? = some u->DnF ns ro L s u s.fs.length)->
 All2 (C.fv (qE L ro)) ((ss.map (jM ns)).map aL).flatten vs
 | [],vs,h,_=>by
  have h:All2 (C.fv ro) [] vs:=h
  obtain rfl:=h.nil_inv
  exact .nil
 | s :: ss,vs,h,hc=>by
  have h:All2 (C.fv ro) (.vl (.string s.nm) :: .fz (s.fs.map bH) :: (ss.map aL).flatten) vs:=h
  obtain ⟨v0,vs',rfl,a0,h⟩:=h.cons_inv
  obtain ⟨v1,vs',rfl,a1,h⟩:=h.cons_inv
  have a1:FzR ro (s.fs.map bH) v1:=a1
  have hd:=hc 0 s v1 rfl rfl
  refine All2.cons a0 (All2.cons ?_ (LQ hL ss vs' h fun i s' u h1 h2=>hc (i + 1) s' u (by simpa using h1) (by rw [show (i + 1) * 2 + 1=i * 2 + 1 + 1 + 1 by omega]; simpa using h2)))
  show FzR (qE L ro) ((s.fs.map (iU ns)).map bH) v1
  exact aGR hL a1 fun i f b off cap h1 h2=>hd i f b off cap (bC.1 h1).1 h1 h2
theorem YF {ns:List ByteArray} {ro:RO} {L:List (Nat × Nat)} (hL:∀ a ∈ L,mD ns ro a) {es:List En} {vs:List Value} (h:All2 (C.fv ro) (es.map aO).flatten vs):All2 (C.fv (qE L ro)) (es.map aO).flatten vs:=by
 refine F5 h fun x hx y hr=>?_
 obtain ⟨r,hr1,hr2⟩:=List.mem_flatten.1 hx
 obtain ⟨e,_,rfl⟩:=List.mem_map.1 hr1
 simp only [aO,List.mem_cons,List.not_mem_nil,or_false] at hr2
 rcases hr2 with rfl | rfl | rfl
 · exact hr
 · have hr:FzR ro (e.ns.map bQ) y:=hr
   refine K8 hL hr (fun x hx=>by obtain ⟨z,_,rfl⟩:=List.mem_map.1 hx; rfl) fun x hx c hc=>?_
   obtain ⟨z,_,rfl⟩:=List.mem_map.1 hx
   exact ⟨_,List.mem_singleton.1 hc⟩
 · have hr:FzR ro (e.vs.map eD) y:=hr
   refine K8 hL hr (fun x hx=>by obtain ⟨z,_,rfl⟩:=List.mem_map.1 hx; rfl) fun x hx c hc=>?_
   obtain ⟨z,_,rfl⟩:=List.mem_map.1 hx
   exact ⟨_,List.mem_singleton.1 hc⟩
theorem uN {X:Ctx} {E:Es} {ro:RO} {w:World} (h:Rel X E ro w) {n:Nat} {g:Gb} {xs:List (List C)} {T sz:Nat} (hn:E[n]? = some (g,.row xs T sz)) {k:Nat} {c:C} (hk:xs.flatten[k]? = some c) :
 ∃ b u,g.ob=some b/\b < w.heap.size/\(∀ v off,ro b off ≠ some v)/\g.vs[k]? = some u/\w.cell? ⟨b,k,none⟩=some u/\c.fv ro u:=by
 have hon:=h.own n g _ hn
 obtain ⟨h1,h2,h3,h4,hown,hrel,h7⟩:=hon
 obtain ⟨u,hu,hc⟩:=hrel.get hk
 have hxne:xs.length ≠ 0:=fun e=>by
  rw [List.eq_nil_of_length_eq_zero e] at hk; simp at hk
 cases hb:g.ob with
 | none=>
  exfalso
  rw [hb] at hown
  rcases hown.2 with ⟨_,h0⟩ | ⟨b,cap0,cur,hv,_⟩
  · exact hxne h0
  · simp [bI] at hv
 | some b=>
  refine ⟨b,u,rfl,(h.own n g _ hn).lt rfl hb,fun v off hv=>?_,hu,?_,hc⟩
  · have:=h.apart b off v hv n g _ hn hb
    simp [B.live] at this
  · rw [hb] at hown
    have:=World.ownsRow.cells (h:=hown) (g:=b) rfl k u hu
    rwa [eN,Nat.zero_add] at this
abbrev psC (ver:Int) (bad:Bool) (at_:Int) (nE nS:Nat):List C:=[.pt 1 0,.vl (.bool bad),.vl (.int .i64 at_),.vl (.int .i64 ver),.sl 3 nE,.sl 4 nS]
section
variable {w0 w:World} {ro0 ro:RO} {g0 g1 g2 g3 g4:Gb} {b1:B} {es:List En} {ss:List St} {ver at_:Int} {bad:Bool} {T0 T2 T3 T4:TypeId} {c0:List C}
abbrev G6 (g0 g1 g2 g3 g4:Gb) (b1:B) (c0:List C) (ver:Int) (bad:Bool) (at_:Int) (es:List En) (ss:List St) (T0 T2 T3 T4:TypeId):Es:=
 [(g0,.cells c0 T0),(g1,b1),(g2,.cells (psC ver bad at_ es.length ss.length) T2),(g3,.row (es.map aO) T3 3),(g4,.row (ss.map aL) T4 2)]
theorem aHM (h:Rel ⟨w0,[],ro0,[]⟩ (G6 g0 g1 g2 g3 g4 b1 c0 ver bad at_ es ss T0 T2 T3 T4) ro w) (h0:∀ b off v,ro0 b off=some v->off=0/\b < w0.heap.size) (hw:∀ s ∈ ss,∀ f ∈ s.fs,∃ d t0,EK d t0 f.ty):Rs (es.map En.nm) ro w es ss g3.ob g4.ob where
 rd:=fun b off v hv=>⟨h.cell_lt hv,h.rd b off v hv⟩
 fr:=fun b off v hv ho=>by
  rcases h.rob b off v hv with q | ⟨_,q⟩
  · exact absurd (h0 b off v q).1 ho
  · exact q
 e:=fun j e he=>by
  obtain ⟨b,u0,q1,q2,q3,q4,q5,q6⟩:=uN h (n:=3) rfl (C9 he 0 (by decide))
  obtain ⟨b',u1,r1,r2,r3,r4,r5,r6⟩:=uN h (n:=3) rfl (C9 he 1 (by decide))
  obtain ⟨b'',u2,s1,s2,s3,s4,s5,s6⟩:=uN h (n:=3) rfl (C9 he 2 (by decide))
  rw [q1] at r1 s1
  cases r1
  cases s1
  have q6:u0=.string e.nm:=q6
  subst q6
  have r6:FzR ro (e.ns.map bQ) u1:=r6
  have s6:FzR ro (e.vs.map eD) u2:=s6
  exact ⟨b,u1,u2,q1,q2,q3,q5,r5,s5,FzR.slice r6,FzR.slice s6⟩
 s:=fun i s hs=>by
  obtain ⟨b,u,q1,q2,q3,q4,q5,q6⟩:=uN h (n:=4) rfl (L6 hs 1 (by decide))
  exact ⟨b,u,q1,q2,q3,q5,q6⟩
 w:=hw
 n:=rfl
theorem S5 (h:Rel ⟨w0,[],ro0,[]⟩ (G6 g0 g1 g2 g3 g4 b1 c0 ver bad at_ es ss T0 T2 T3 T4) ro w) :
 ∃ bp,g2.ob=some bp/\w.cell? ⟨bp,3,none⟩=some (.int .i64 ver)/\w.cell? ⟨bp,4,none⟩=some (.slice (bI g3.ob 0) es.length g3.cap)/\w.cell? ⟨bp,5,none⟩=some (.slice (bI g4.ob 0) ss.length g4.cap):=by
 obtain ⟨h1,bp,h2,h3,h4⟩:=h.own 2 g2 _ rfl
 have l3:=(h.own 3 g3 _ rfl).2.1
 have l4:=(h.own 4 g4 _ rfl).2.1
 rw [List.length_map] at l3 l4
 obtain ⟨u3,a3,r3⟩:=h4.get (i:=3) rfl
 obtain ⟨u4,a4,r4⟩:=h4.get (i:=4) rfl
 obtain ⟨u5,a5,r5⟩:=h4.get (i:=5) rfl
 have r3:u3=.int .i64 ver:=r3
 obtain ⟨k4,e4,_,_,_,f4⟩:=r4
 obtain ⟨k5,e5,_,_,_,f5⟩:=r5
 obtain rfl:g3=k4:=bK e4
 obtain rfl:g4=k5:=bK e5
 have cell:∀ (j:Nat) (u:Value),g2.vs[j]? = some u->w.cell? ⟨bp,j,none⟩=some u:=fun j u hu=>by
  unfold World.cell?
  rw [h3]
  simpa using hu
 refine ⟨bp,h2,cell 3 _ (by rw [a3,r3]),cell 4 _ (by rw [a4,f4 l3.symm]),cell 5 _ (by rw [a5,f5 l4.symm])⟩
theorem aLC {L:List (Nat × Nat)} {w':World} (h:Rel ⟨w0,[],ro0,[]⟩ (G6 g0 g1 g2 g3 g4 b1 c0 ver bad at_ es ss T0 T2 T3 T4) ro w) (h0:∀ b off v,ro0 b off=some v->off=0/\b < w0.heap.size) (hc0:c0.all ind=true)
 (hL:∀ a ∈ L,mD (es.map En.nm) ro a) (hC:Cu w L w') (hD:DnS (es.map En.nm) ro w L ss g4.ob ss.length) :
 Rel ⟨w0,[],ro0,[]⟩ (G6 g0 g1 g2 g3 g4 .dead c0 ver bad at_ es (ss.map (jM (es.map En.nm))) T0 T2 T3 T4) (qE L ro) w':=by
 have hfresh:∀ a ∈ L,w0.heap.size<=a.1:=fun a ha=>by
  obtain ⟨_,⟨m,_,h2⟩,_⟩:=hL a ha
  rcases h.rob _ _ _ h2 with q | ⟨q | q,_⟩
  · have:=(h0 _ _ _ q).1; omega
  · exact q
  · cases q
 have hro:∀ b off v,qE L ro b off=some v->∃ v',ro b off=some v':=fun b off v hv=>by
  by_cases hin:(b,off) ∈ L
  · exact ⟨_,(hL _ hin).1⟩
  · rw [eT hin] at hv; exact ⟨v,hv⟩
 have hblk:∀ (n:Nat) (g:Gb) (blk:B) (b:Nat),(G6 g0 g1 g2 g3 g4 b1 c0 ver bad at_ es ss T0 T2 T3 T4)[n]? = some (g,blk)->g.ob=some b->blk.live=true->w'.heap[b]? = w.heap[b]?:=fun n g blk b hn hb hl=>by
  refine hC.keep b ((h.own n g blk hn).lt hl hb) fun off hin=>?_
  have:=h.apart b off _ (hL _ hin).1 n g blk hn hb
  rw [hl] at this; cases this
 have hlen:(ss.map (jM (es.map En.nm))).length=ss.length:=by rw [List.length_map]
 have old:∀ (n:Nat) (g:Gb) (blk:B),(G6 g0 g1 g2 g3 g4 .dead c0 ver bad at_ es (ss.map (jM (es.map En.nm))) T0 T2 T3 T4)[n]? = some (g,blk)->blk.live=true->∃ blk0,(G6 g0 g1 g2 g3 g4 b1 c0 ver bad at_ es ss T0 T2 T3 T4)[n]? = some (g,blk0)/\blk0.live=true:=fun n g blk hn hl=>by
  match n,hn with
  | 0,hn=>cases hn; exact ⟨_,rfl,rfl⟩
  | 1,hn=>cases hn; cases hl
  | 2,hn=>cases hn; exact ⟨_,rfl,rfl⟩
  | 3,hn=>cases hn; exact ⟨_,rfl,rfl⟩
  | 4,hn=>cases hn; exact ⟨_,rfl,rfl⟩
  | n + 5,hn=>cases hn
 refine ⟨fun n g blk hn=>?_,fun n m gn gm bn bm b hn hm en em ln lm=>?_,fun b off v hv n g blk hn hb=>?_,fun b off v hv=>?_,fun b off v hv=>?_,fun b off v hv=>?_,fun n b g blk hn hb hl=>?_,fun n g hn=>by simp at hn,Nat.le_trans h.sz hC.sz,fun b hb hp=>?_,hC.os.trans h.os,hC.tape.trans h.tape,hC.output.trans h.output⟩
 · match n,hn with
   | 0,hn=>
    cases hn
    obtain ⟨k1,b,k2,k3,k4⟩:=h.own 0 g0 _ rfl
    exact ⟨k1,b,k2,by rw [hblk 0 g0 _ b rfl k2 rfl]; exact k3,G7 hc0 k4⟩
   | 1,hn=>cases hn; trivial
   | 2,hn=>
    cases hn
    obtain ⟨k1,b,k2,k3,k4⟩:=h.own 2 g2 _ rfl
    refine ⟨k1,b,k2,by rw [hblk 2 g2 _ b rfl k2 rfl]; exact k3,?_⟩
    rw [hlen]
    exact G7 rfl k4
   | 3,hn=>
    cases hn
    obtain ⟨k1,k2,k3,k4,k5,k6,k7⟩:=h.own 3 g3 _ rfl
    refine ⟨k1,k2,k3,k4,?_,YF hL k6,k7⟩
    have hs:=B.On.same (w':=w') (h.own 3 g3 _ rfl) (.refl _) (.refl _) fun b hb=>hblk 3 g3 _ b rfl hb rfl
    exact hs.2.2.2.2.1
   | 4,hn=>
    cases hn
    have hs:=B.On.same (w':=w') (h.own 4 g4 _ rfl) (.refl _) (.refl _) fun b hb=>hblk 4 g4 _ b rfl hb rfl
    obtain ⟨k1,k2,k3,k4,k5,k6,k7⟩:=hs
    rw [List.length_map] at k2 k5
    refine ⟨k1,by rw [List.length_map,hlen]; exact k2,fun x hx=>?_,fun c hc=>?_,by rw [List.length_map,hlen]; exact k5,?_,k7⟩
    · obtain ⟨y,_,rfl⟩:=List.mem_map.1 hx; rfl
    · obtain ⟨r,hr1,hr2⟩:=List.mem_flatten.1 hc
      obtain ⟨y,_,rfl⟩:=List.mem_map.1 hr1
      simp only [aL,List.mem_cons,List.not_mem_nil,or_false] at hr2
      rcases hr2 with rfl | rfl<;>rfl
    · refine LQ hL ss _ k6 fun i s u h1 h2=>?_
      obtain ⟨b,u',q1,q2,q3,q4,q5,q6⟩:=uN h (n:=4) rfl (L6 h1 1 (by decide))
      rw [q4] at h2
      obtain rfl:=bK h2
      exact hD i s b u' (bC.1 h1).1 h1 q1 q5
   | n + 5,hn=>cases hn
 · obtain ⟨x,hx,lx⟩:=old n gn bn hn ln
   obtain ⟨y,hy,ly⟩:=old m gm bm hm lm
   exact h.inj n m gn gm x y b hx hy en em lx ly
 · by_cases hl:blk.live=true
   · obtain ⟨x,hx,lx⟩:=old n g blk hn hl
     obtain ⟨v',hv'⟩:=hro b off v hv
     have:=h.apart b off v' hv' n g x hx hb
     rw [lx] at this; cases this
   · simpa using hl
 · obtain ⟨v',hv'⟩:=hro b off v hv
   have hlt:=h.cell_lt hv'
   have hrd:=h.rd b off v' hv'
   refine ⟨?_,fun hst=>?_⟩
   · rw [hC.cell b off hlt]
     by_cases hin:(b,off) ∈ L
     · rw [OT hin] at hv; rw [if_pos hin]; exact hv
     · rw [eT hin] at hv; rw [if_neg hin]; exact (h.rd b off v hv).1
   · rw [hC.fz b off hlt]; exact hrd.2 hst
 · have hno:(b,off) ∉ L:=fun hin=>Nat.lt_irrefl _ (Nat.lt_of_lt_of_le (h0 b off v hv).2 (hfresh _ hin))
   rw [eT hno]
   exact h.ro0 b off v hv
 · by_cases hin:(b,off) ∈ L
   · refine .inr ⟨.inl (hfresh _ hin),?_⟩
     have:=(hL _ hin).2.2
     show ro.st b ≠ 0
     simp only at this
     omega
   · rw [eT hin] at hv
     exact h.rob b off v hv
 · obtain ⟨x,hx,lx⟩:=old n g blk hn hl
   exact h.par n b g x hx hb lx
 · rw [hC.keep b (Nat.lt_of_lt_of_le hb h.sz) fun off hin=>Nat.lt_irrefl _ (Nat.lt_of_lt_of_le hb (hfresh _ hin))]
   exact h.keep b hb hp
end
theorem O3:dS 0:=⟨by decide,by decide⟩
theorem vP {c:Bool} {ts:List Tk} {z:Fs} (h:Tks ts) (hn:z.n < ts.length):dS (eQ c ts z):=by
 unfold eQ
 cases gI c ts z
 · exact O3
 · exact (h.g _ (sW hn)).i
theorem pC {c:Bool} {ts:List Tk} {z:Fs} (h:Tks ts) (hn:z.n < ts.length):(cB c ts z).size<=200:=by
 unfold cB
 cases fO c ts z
 · exact Nat.zero_le _
 · have:=(h.g _ (sW hn)).len
   rw [aK,jW]
   exact this
def TyP (t:Ty):Prop:=∃ d t0,t=b8 d t0/\dS t0.k/\t0.k ≠ 5/\t0.e=[]/\t0.n.size<=200/\dS t0.s/\d.length<=4002/\∀ s ∈ d,dS s
structure FlP (f:Fl):Prop where
 n:dS f.num
 m:f.nm.size<=200
 t:TyP f.ty
structure StP (s:St):Prop where
 n:s.nm.size<=200
 l:s.fs.length<=4002
 f:∀ f ∈ s.fs,FlP f
structure EnP (e:En):Prop where
 n:e.nm.size<=200
 l:e.ns.length<=4002
 v:e.vs.length<=4002
 a:∀ n ∈ e.ns,n.size<=200
 b:∀ n ∈ e.vs,dS n
structure ScP (s:Sc):Prop where
 v:dS s.ver
 e:s.es.length<=4002
 l:s.ss.length<=4002
 a:∀ e ∈ s.es,EnP e
 b:∀ t ∈ s.ss,StP t
theorem ME {ts:List Tk} {z:Fs} (h:Tks ts) (hn:z.n < ts.length):∀ l:List Int,(∀ s ∈ l,dS s)->TyP (lZ ts z l).1
 | [],_=>⟨[],_,rfl,⟨by show (_:Int)<=6; decide,by show (6:Int)<=_; decide⟩,by show (6:Int) ≠ 5; decide,rfl,pC h hn,O3,by decide,fun s h=>by cases h⟩
 | s :: r,hl=>by
  rw [lZ]
  cases aN 1 (qV s) ts z
  · cases decide (s < 64) && aN 1 (m7 s) ts z
    · exact ME h hn r fun s hs=>hl s (List.mem_cons_of_mem _ hs)
    · exact ⟨[],_,rfl,⟨by show (_:Int)<=3; decide,by show (3:Int)<=_; decide⟩,by show (3:Int) ≠ 5; decide,rfl,Nat.zero_le _,hl s (List.mem_cons_self ..),by decide,fun s h=>by cases h⟩
  · exact ⟨[],_,rfl,⟨by show (_:Int)<=2; decide,by show (2:Int)<=_; decide⟩,by show (2:Int) ≠ 5; decide,rfl,Nat.zero_le _,hl s (List.mem_cons_self ..),by decide,fun s h=>by cases h⟩
theorem C7 {ts:List Tk} {z:Fs} (h:Tks ts) (hn:z.n < ts.length):dS (g9 ts z):=vP h (cF hn).2
theorem YR {ts:List Tk} {z:Fs} (h:Tks ts) (hn:z.n < ts.length):TyP (gV ts z).1:=by
 unfold gV
 cases aN 1 gD ts z
 · cases aN 1 wText ts z
   · exact ME h hn szs (by unfold szs dS; decide)
   · exact ⟨[],_,rfl,⟨by show (_:Int)<=4; decide,by show (4:Int)<=_; decide⟩,by show (4:Int) ≠ 5; decide,rfl,Nat.zero_le _,C7 h (fJ hn).2,by decide,fun s h=>by cases h⟩
 · exact ⟨[],_,rfl,⟨by show (_:Int)<=1; decide,by show (1:Int)<=_; decide⟩,by show (1:Int) ≠ 5; decide,rfl,Nat.zero_le _,⟨by show (_:Int)<=0; decide,by show (0:Int)<=_; decide⟩,by decide,fun s h=>by cases h⟩
theorem UH {ts:List Tk} (h:Tks ts):∀ (f:Nat) (d:List Int) (z:Fs),z.n < ts.length->(∀ s ∈ d,dS s)->(∀ s ∈ (lQ ts f d z).1,dS s)/\(lQ ts f d z).1.length<=d.length + f
 | 0,d,z,_,hd=>⟨hd,Nat.le_refl _⟩
 | f + 1,d,z,hn,hd=>by
  rw [j6]
  cases aN 1 cL ts z
  · exact ⟨hd,by show d.length<=_; omega⟩
  · have h1:=fJ (k:=1) (w:=cL) hn
    have h2:=pN h1.2
    have h3:=zN h2.2
    have ih:=UH h f (d ++ [g9 ts (aX 1 cL ts z)]) _ h3.2 fun s hs=>by
     rcases List.mem_append.1 hs with hs | hs
     · exact hd s hs
     · rw [List.mem_singleton.1 hs]; exact C7 h h1.2
    rw [aK]
    refine ⟨ih.1,?_⟩
    have:=ih.2
    rw [List.length_append,List.length_singleton] at this
    omega
theorem zA {ts:List Tk} {z:Fs}:(gV ts z).1.k ≠ 5/\(gV ts z).1.e=[]:=by
 have hS:∀ l:List Int,(lZ ts z l).1.k ≠ 5/\(lZ ts z l).1.e=[]:=fun l=>by
  induction l with
  | nil=>exact ⟨by show (6:Int) ≠ 5; decide,rfl⟩
  | cons s r ih=>
   rw [lZ]
   cases aN 1 (qV s) ts z
   · cases decide (s < 64) && aN 1 (m7 s) ts z
     · exact ih
     · exact ⟨by show (3:Int) ≠ 5; decide,rfl⟩
   · exact ⟨by show (2:Int) ≠ 5; decide,rfl⟩
 unfold gV
 cases aN 1 gD ts z
 · cases aN 1 wText ts z
   · exact hS szs
   · exact ⟨by show (4:Int) ≠ 5; decide,rfl⟩
 · exact ⟨by show (1:Int) ≠ 5; decide,rfl⟩
theorem TyP.leaf {t:Ty} (h:TyP t) (h5:t.k ≠ 5):dS t.k/\t.n.size<=200/\dS t.s:=by
 obtain ⟨d,t0,rfl,h1,h2,h3,h4,h6,_⟩:=h
 cases d with
 | nil=>exact ⟨h1,h4,h6⟩
 | cons s d=>exact absurd rfl h5
theorem ZF {ts:List Tk} {z:Fs} (h:Tks ts) (hn:z.n < ts.length):TyP (mO ts z).1:=by
 have h1:=N4 (ts.length + 1) [] z hn
 have h2:=UH h (ts.length + 1) [] z hn fun s hs=>by cases hs
 have h3:=zA (ts:=ts) (z:=(lQ ts (ts.length + 1) [] z).2)
 have h4:=(YR h h1.2).leaf h3.1
 have h5:=h.e.le
 have h6:=h2.2
 simp only [List.length_nil] at h6
 exact ⟨_,_,rfl,h4.1,h3.1,h3.2,h4.2.1,h4.2.2,by omega,h2.1⟩
theorem aIC {ts:List Tk} {z:Fs} (h:Tks ts) (hn:z.n < ts.length):FlP (jD ts z).1:=by
 have h1:=j3 (c:=false) hn
 have h2:=dY (c:=false) h1.2
 have h3:=cF (w:=[58]) h2.2
 exact ⟨vP h hn,pC h h1.2,ZF h h3.2⟩
theorem V8 {ts:List Tk} (h:Tks ts):∀ (f:Nat) (l:List Fl) (z:Fs),z.n < ts.length->(∀ x ∈ l,FlP x)->(∀ x ∈ (lW ts f l z).1,FlP x)/\(lW ts f l z).1.length<=l.length + f
 | 0,l,z,_,hl=>⟨hl,Nat.le_refl _⟩
 | f + 1,l,z,hn,hl=>by
  rw [j9]
  cases z.bad
  · cases aN 4 [125] ts z
    · cases (aT ts z.n).k != 2
      · have ih:=V8 h f (l ++ [(jD ts z).1]) _ (BN hn).2 fun x hx=>by
         rcases List.mem_append.1 hx with hx | hx
         · exact hl x hx
         · rw [List.mem_singleton.1 hx]; exact aIC h hn
        rw [aF,aF,aF]
        refine ⟨ih.1,?_⟩
        have:=ih.2
        rw [List.length_append,List.length_singleton] at this
        omega
      · exact ⟨hl,by simp only [aK,aF]; omega⟩
    · exact ⟨hl,by simp only [aK,aF]; omega⟩
  · exact ⟨hl,by simp only [aK]; omega⟩
theorem aIU {ts:List Tk} {z:Fs} (h:Tks ts) (hn:z.n < ts.length):StP (iB ts z).1:=by
 have h1:=dY (c:=true) hn
 have h2:=cF (w:=[123]) h1.2
 have h3:=V8 h (ts.length + 1) [] _ h2.2 fun x hx=>by cases hx
 have h5:=h.e.le
 have h6:=h3.2
 simp only [List.length_nil] at h6
 refine ⟨pC h hn,?_,h3.1⟩
 unfold iB
 simp only
 omega
theorem V1 {ts:List Tk} (h:Tks ts):∀ (f:Nat) (a:List ByteArray) (b:List Int) (z:Fs),z.n < ts.length->(∀ x ∈ a,x.size<=200)->(∀ x ∈ b,dS x)->
 ((∀ x ∈ (mL ts f a b z).1.1,x.size<=200)/\∀ x ∈ (mL ts f a b z).1.2,dS x)/\(mL ts f a b z).1.1.length<=a.length + f/\(mL ts f a b z).1.2.length<=b.length + f
 | 0,a,b,z,_,ha,hb=>⟨⟨ha,hb⟩,Nat.le_refl _,Nat.le_refl _⟩
 | f + 1,a,b,z,hn,ha,hb=>by
  have h1:=dY (c:=false) hn
  have h2:=cF (w:=[61]) h1.2
  have ha':∀ x ∈ a ++ [cB false ts z],x.size<=200:=fun x hx=>by
   rcases List.mem_append.1 hx with hx | hx
   · exact ha x hx
   · rw [List.mem_singleton.1 hx]; exact pC h hn
  have hb':∀ x ∈ b ++ [eQ false ts (bG [61] ts (bJ false ts z))],dS x:=fun x hx=>by
   rcases List.mem_append.1 hx with hx | hx
   · exact hb x hx
   · rw [List.mem_singleton.1 hx]; exact vP h h2.2
  rw [mU]
  cases z.bad
  · cases aN 4 [44] ts (iY ts z)
    · refine ⟨⟨ha',hb'⟩,?_,?_⟩<;>(simp only [aF,List.length_append,List.length_singleton]; omega)
    · have ih:=V1 h f _ _ _ (fJ (k:=4) (w:=[44]) (WD hn).2).2 ha' hb'
      rw [aF,aK]
      refine ⟨ih.1,?_,?_⟩
      · have:=ih.2.1; rw [List.length_append,List.length_singleton] at this; omega
      · have:=ih.2.2; rw [List.length_append,List.length_singleton] at this; omega
  · exact ⟨⟨ha,hb⟩,by simp only [aK]; omega,by simp only [aK]; omega⟩
theorem aIV {ts:List Tk} {z:Fs} (h:Tks ts) (hn:z.n < ts.length):EnP (gJ ts z).1:=by
 have h1:=dY (c:=true) hn
 have h2:=cF (w:=[123]) h1.2
 have h3:=V1 h (ts.length + 1) [] [] _ h2.2 (fun x hx=>by cases hx) fun x hx=>by cases hx
 have h5:=h.e.le
 have h6:=h3.2
 simp only [List.length_nil] at h6
 exact ⟨pC h hn,by unfold gJ; simp only; omega,by unfold gJ; simp only; omega,h3.1.1,h3.1.2⟩
theorem TyP.wrp {t:Ty} (h:TyP t):∃ d t0,EK d t0 t:=by
 obtain ⟨d,t0,h1,_,h2,h3,_⟩:=h
 exact ⟨d,t0,h1,h2,h3⟩
theorem TyP.rs {t:Ty} (h:TyP t) (ns:List ByteArray):TyP (gS ns t):=by
 obtain ⟨d,t0,rfl,h1,h2,h3,h4,h5,h6,h7⟩:=h
 rw [x6,sL h2]
 cases t0.k == 6 && mV ns t0.n
 · exact ⟨d,t0,rfl,h1,h2,h3,h4,h5,h6,h7⟩
 · exact ⟨d,_,rfl,⟨by show (_:Int)<=7; decide,by show (7:Int)<=_; decide⟩,by show (7:Int) ≠ 5; decide,h3,h4,h5,h6,h7⟩
theorem StP.rs {s:St} (h:StP s) (ns:List ByteArray):StP (jM ns s):=
 ⟨h.n,by show (s.fs.map _).length<=_; rw [List.length_map]; exact h.l,fun f hf=>by
  obtain ⟨g,hg,rfl⟩:=List.mem_map.1 hf
  have:=h.f g hg
  exact ⟨this.n,this.m,this.t.rs ns⟩⟩
theorem TyP.ok {t:Ty} (h:TyP t):TyOk t/\TySm t/\(cH t).1<=4002:=by
 obtain ⟨d,t0,rfl,h1,h2,h3,h4,h5,h6,h7⟩:=h
 have key:∀ d:List Int,(∀ s ∈ d,dS s)->TyOk (b8 d t0)/\TySm (b8 d t0)/\(cH (b8 d t0)).1<=d.length:=fun d=>by
  induction d with
  | nil=>
   intro _
   cases t0 with
   | mk k s n e=>
    have h3:e=[]:=h3
    subst h3
    have h2:k ≠ 5:=h2
    have h4:n.size<=200:=h4
    refine ⟨.mk h1 h5 (by omega) (by simp) (fun u hu=>by cases hu),.mk (by simp) (fun u hu=>by cases hu),?_⟩
    show (cH (.mk k s n [])).1<=0
    rw [cH,beq_eq_false_iff_ne.2 h2]; exact Nat.le_refl _
  | cons s d ih=>
   intro hd
   obtain ⟨i1,i2,i3⟩:=ih fun s hs=>hd s (List.mem_cons_of_mem _ hs)
   show TyOk (.mk 5 s (mk []) [b8 d t0])/\TySm (.mk 5 s (mk []) [b8 d t0])/\(cH (.mk 5 s (mk []) [b8 d t0])).1<=d.length + 1
   refine ⟨.mk ⟨by decide,by decide⟩ (hd s (List.mem_cons_self ..)) (by decide) (by simp) (fun u hu=>by rw [List.mem_singleton.1 hu]; exact i1),.mk (by simp) (fun u hu=>by rw [List.mem_singleton.1 hu]; exact i2),?_⟩
   rw [cH]
   show (cH (b8 d t0)).1 + 1<=d.length + 1
   omega
 have:=key d h7
 exact ⟨this.1,this.2.1,by omega⟩
theorem ScP.fit {s:Sc} (h:ScP s):s.fit where
 ok:=⟨h.v,by have:=h.e; omega,by have:=h.l; omega,fun e he=>by
  have q:=h.a e he
  exact ⟨by have:=q.n; omega,by have:=q.l; omega,by have:=q.v; omega,fun n hn=>by have:=q.a n hn; omega,q.b⟩,fun t ht=>by
  have q:=h.b t ht
  refine ⟨by have:=q.n; omega,by have:=q.l; omega,fun f hf=>?_⟩
  have r:=q.f f hf
  exact ⟨r.n,by have:=r.m; omega,r.t.ok.1⟩⟩
 lv:=fun t ht f hf=>by have:=((h.b t ht).f f hf).t.ok.2.2; omega
 sm:=fun t ht=>⟨by have:=(h.b t ht).l; omega,fun f hf=>((h.b t ht).f f hf).t.ok.2.1⟩
 en:=fun e he=>⟨by have:=(h.a e he).l; omega,by have:=(h.a e he).v; omega⟩
def aBN:PC:=.seq (.reg [.e 2 (.bx 25 (.t 0)),.e 3 (.bx 25 (.t 1)),.q 4 (.mv (.k (.bool false)))]) (.seq (.seq (.reg [.q 7 (.fa 0 (.t 2)),.l 8 (.ld1 (.t 7)),.q 9 (.fa 0 (.t 3)),.l 10 (.ld1 (.t 9)),.q 11 (.bin .neq true (.t 8) (.t 10)),.v 12 11,⟨some 13,(some (12,false)),.q (.fa 1 (.t 2))⟩,⟨some 14,(some (12,false)),.l (.ld1 (.t 13))⟩,⟨some 15,(some (12,false)),.q (.lnL (.t 14))⟩,⟨some 16,(some (12,false)),.q (.fa 1 (.t 3))⟩,⟨some 17,(some (12,false)),.l (.ld1 (.t 16))⟩,⟨some 18,(some (12,false)),.q (.lnL (.t 17))⟩,⟨some 19,(some (12,false)),.q (.bin .neq true (.t 15) (.t 18))⟩,.a 20 (.pick (.t 12) (.k (.bool true)) (.t 19)),.v 21 20,⟨some 22,(some (21,false)),.q (.fa 2 (.t 2))⟩,⟨some 23,(some (21,false)),.l (.ld1 (.t 22))⟩,⟨some 24,(some (21,false)),.q (.lnL (.t 23))⟩,⟨some 25,(some (21,false)),.q (.fa 2 (.t 3))⟩,⟨some 26,(some (21,false)),.l (.ld1 (.t 25))⟩,⟨some 27,(some (21,false)),.q (.lnL (.t 26))⟩,⟨some 28,(some (21,false)),.q (.bin .neq true (.t 24) (.t 27))⟩,.a 29 (.pick (.t 21) (.k (.bool true)) (.t 28))]) (.cond (.t 29) (.seq (.reg [.q 4 (.mv (.k (.bool false)))]) .ret) .skip)) (.seq (.seq (.reg [.q 5 (.mv (.i 0))]) (.block 0 (.loop (.seq (.seq (.reg [.v 30 5,.q 31 (.fa 1 (.t 2)),.l 32 (.ld1 (.t 31)),.q 33 (.lnL (.t 32)),.q 34 (.bin .lss true (.t 30) (.t 33))]) (.cond (.t 34) .skip (.exit 0))) (.seq (.block 1 (.seq (.reg [.q 37 (.fa 1 (.t 2)),.l 38 (.ld1 (.t 37)),.v 39 5,.l 40 (.ia 3 (.t 38) (.t 39)),.l 41 (.ldn 3 (.t 40)),.q 42 (.fa 1 (.t 3)),.l 43 (.ld1 (.t 42)),.v 44 5,.l 45 (.ia 3 (.t 43) (.t 44)),.l 46 (.ldn 3 (.t 45)),.a 47 (.cq 42 [(.t 41),(.t 46)]),.q 48 (.not (.t 47))]) (.cond (.t 48) (.seq (.reg [.q 4 (.mv (.k (.bool false)))]) .ret) .skip))) (.reg [.v 35 5,.q 36 (.bin .add true (.t 35) (.i 1)),.v 5 36])))))) (.seq (.seq (.reg [.q 6 (.mv (.i 0))]) (.block 2 (.loop (.seq (.seq (.reg [.v 49 6,.q 50 (.fa 2 (.t 2)),.l 51 (.ld1 (.t 50)),.q 52 (.lnL (.t 51)),.q 53 (.bin .lss true (.t 49) (.t 52))]) (.cond (.t 53) .skip (.exit 2))) (.seq (.block 3 (.seq (.reg [.q 56 (.fa 2 (.t 2)),.l 57 (.ld1 (.t 56)),.v 58 6,.l 59 (.ia 2 (.t 57) (.t 58)),.l 60 (.ldn 2 (.t 59)),.q 61 (.fa 2 (.t 3)),.l 62 (.ld1 (.t 61)),.v 63 6,.l 64 (.ia 2 (.t 62) (.t 63)),.l 65 (.ldn 2 (.t 64)),.a 66 (.cq 43 [(.t 60),(.t 65)]),.q 67 (.not (.t 66))]) (.cond (.t 67) (.seq (.reg [.q 4 (.mv (.k (.bool false)))]) .ret) .skip))) (.reg [.v 54 6,.q 55 (.bin .add true (.t 54) (.i 1)),.v 6 55])))))) (.seq (.reg [.q 4 (.mv (.k (.bool true)))]) .ret))))
def aAI:List RV:=[.mv (.t 4)]
theorem aL6:aY Tryz.prog true ⟨fun r k=>if r=6/\k=10 then .q else if r=11/\k=10 then .q else .own [],fun _=>false⟩ Tryz.f13=some (aBN,aAI):=by kernel_rfl
def aAC:PC:=.seq (.reg [.e 2 (.bx 37 (.t 0)),.e 3 (.bx 37 (.t 1)),.q 4 (.mv (.k (.bool false)))]) (.seq (.seq (.reg [.q 6 (.fa 0 (.t 2)),.l 7 (.ld1 (.t 6)),.q 8 (.fa 0 (.t 3)),.l 9 (.ld1 (.t 8)),.q 10 (.bin .neq true (.t 7) (.t 9)),.v 11 10,⟨some 12,(some (11,false)),.q (.fa 1 (.t 2))⟩,⟨some 13,(some (11,false)),.l (.ld1 (.t 12))⟩,⟨some 14,(some (11,false)),.q (.fa 1 (.t 3))⟩,⟨some 15,(some (11,false)),.l (.ld1 (.t 14))⟩,⟨some 16,(some (11,false)),.q (.bin .neq true (.t 13) (.t 15))⟩,.a 17 (.pick (.t 11) (.k (.bool true)) (.t 16)),.v 18 17,⟨some 19,(some (18,false)),.q (.fa 2 (.t 2))⟩,⟨some 20,(some (18,false)),.l (.ld1 (.t 19))⟩,⟨some 21,(some (18,false)),.q (.fa 2 (.t 3))⟩,⟨some 22,(some (18,false)),.l (.ld1 (.t 21))⟩,⟨some 23,(some (18,false)),.q (.bin .neq true (.t 20) (.t 22))⟩,.a 24 (.pick (.t 18) (.k (.bool true)) (.t 23)),.v 25 24,⟨some 26,(some (25,false)),.q (.fa 3 (.t 2))⟩,⟨some 27,(some (25,false)),.l (.ld1 (.t 26))⟩,⟨some 28,(some (25,false)),.q (.lnL (.t 27))⟩,⟨some 29,(some (25,false)),.q (.fa 3 (.t 3))⟩,⟨some 30,(some (25,false)),.l (.ld1 (.t 29))⟩,⟨some 31,(some (25,false)),.q (.lnL (.t 30))⟩,⟨some 32,(some (25,false)),.q (.bin .neq true (.t 28) (.t 31))⟩,.a 33 (.pick (.t 25) (.k (.bool true)) (.t 32))]) (.cond (.t 33) (.seq (.reg [.q 4 (.mv (.k (.bool false)))]) .ret) .skip)) (.seq (.seq (.reg [.q 5 (.mv (.i 0))]) (.block 0 (.loop (.seq (.seq (.reg [.v 34 5,.q 35 (.fa 3 (.t 2)),.l 36 (.ld1 (.t 35)),.q 37 (.lnL (.t 36)),.q 38 (.bin .lss true (.t 34) (.t 37))]) (.cond (.t 38) .skip (.exit 0))) (.seq (.block 1 (.seq (.reg [.q 41 (.fa 3 (.t 2)),.l 42 (.ld1 (.t 41)),.v 43 5,.l 44 (.ia 4 (.t 42) (.t 43)),.l 45 (.ldn 4 (.t 44)),.q 46 (.fa 3 (.t 3)),.l 47 (.ld1 (.t 46)),.v 48 5,.l 49 (.ia 4 (.t 47) (.t 48)),.l 50 (.ldn 4 (.t 49)),.a 51 (.cq 19 [(.t 45),(.t 50)]),.q 52 (.not (.t 51))]) (.cond (.t 52) (.seq (.reg [.q 4 (.mv (.k (.bool false)))]) .ret) .skip))) (.reg [.v 39 5,.q 40 (.bin .add true (.t 39) (.i 1)),.v 5 40])))))) (.seq (.reg [.q 4 (.mv (.k (.bool true)))]) .ret)))
def aEA:List RV:=[.mv (.t 4)]
theorem aKG:aY Tryz.prog true ⟨fun r k=>if r=6/\k=10 then .q else .own [],fun _=>false⟩ Tryz.f19=some (aAC,aEA):=by kernel_rfl
def aFN:PC:=.seq (.reg [.e 2 (.bx 62 (.t 0)),.e 3 (.bx 62 (.t 1)),.q 4 (.mv (.k (.bool false)))]) (.seq (.seq (.reg [.q 7 (.fa 0 (.t 2)),.l 8 (.ld1 (.t 7)),.q 9 (.fa 0 (.t 3)),.l 10 (.ld1 (.t 9)),.q 11 (.bin .neq true (.t 8) (.t 10)),.v 12 11,⟨some 13,(some (12,false)),.q (.fa 1 (.t 2))⟩,⟨some 14,(some (12,false)),.l (.ld1 (.t 13))⟩,⟨some 15,(some (12,false)),.q (.lnL (.t 14))⟩,⟨some 16,(some (12,false)),.q (.fa 1 (.t 3))⟩,⟨some 17,(some (12,false)),.l (.ld1 (.t 16))⟩,⟨some 18,(some (12,false)),.q (.lnL (.t 17))⟩,⟨some 19,(some (12,false)),.q (.bin .neq true (.t 15) (.t 18))⟩,.a 20 (.pick (.t 12) (.k (.bool true)) (.t 19)),.v 21 20,⟨some 22,(some (21,false)),.q (.fa 2 (.t 2))⟩,⟨some 23,(some (21,false)),.l (.ld1 (.t 22))⟩,⟨some 24,(some (21,false)),.q (.lnL (.t 23))⟩,⟨some 25,(some (21,false)),.q (.fa 2 (.t 3))⟩,⟨some 26,(some (21,false)),.l (.ld1 (.t 25))⟩,⟨some 27,(some (21,false)),.q (.lnL (.t 26))⟩,⟨some 28,(some (21,false)),.q (.bin .neq true (.t 24) (.t 27))⟩,.a 29 (.pick (.t 21) (.k (.bool true)) (.t 28))]) (.cond (.t 29) (.seq (.reg [.q 4 (.mv (.k (.bool false)))]) .ret) .skip)) (.seq (.seq (.reg [.q 5 (.mv (.i 0))]) (.block 0 (.loop (.seq (.seq (.reg [.v 30 5,.q 31 (.fa 1 (.t 2)),.l 32 (.ld1 (.t 31)),.q 33 (.lnL (.t 32)),.q 34 (.bin .lss true (.t 30) (.t 33))]) (.cond (.t 34) .skip (.exit 0))) (.seq (.block 1 (.seq (.reg [.q 37 (.fa 1 (.t 2)),.l 38 (.ld1 (.t 37)),.v 39 5,.l 40 (.ia 1 (.t 38) (.t 39)),.l 41 (.ld1 (.t 40)),.q 42 (.fa 1 (.t 3)),.l 43 (.ld1 (.t 42)),.v 44 5,.l 45 (.ia 1 (.t 43) (.t 44)),.l 46 (.ld1 (.t 45)),.q 47 (.bin .neq true (.t 41) (.t 46))]) (.cond (.t 47) (.seq (.reg [.q 4 (.mv (.k (.bool false)))]) .ret) .skip))) (.reg [.v 35 5,.q 36 (.bin .add true (.t 35) (.i 1)),.v 5 36])))))) (.seq (.seq (.reg [.q 6 (.mv (.i 0))]) (.block 2 (.loop (.seq (.seq (.reg [.v 48 6,.q 49 (.fa 2 (.t 2)),.l 50 (.ld1 (.t 49)),.q 51 (.lnL (.t 50)),.q 52 (.bin .lss true (.t 48) (.t 51))]) (.cond (.t 52) .skip (.exit 2))) (.seq (.block 3 (.seq (.reg [.q 55 (.fa 2 (.t 2)),.l 56 (.ld1 (.t 55)),.v 57 6,.l 58 (.ia 1 (.t 56) (.t 57)),.l 59 (.ld1 (.t 58)),.q 60 (.fa 2 (.t 3)),.l 61 (.ld1 (.t 60)),.v 62 6,.l 63 (.ia 1 (.t 61) (.t 62)),.l 64 (.ld1 (.t 63)),.q 65 (.bin .neq true (.t 59) (.t 64))]) (.cond (.t 65) (.seq (.reg [.q 4 (.mv (.k (.bool false)))]) .ret) .skip))) (.reg [.v 53 6,.q 54 (.bin .add true (.t 53) (.i 1)),.v 6 54])))))) (.seq (.reg [.q 4 (.mv (.k (.bool true)))]) .ret))))
def Z1:List RV:=[.mv (.t 4)]
theorem aM7:aY Tryz.prog true ⟨fun _ _=>.own [],fun _=>false⟩ Tryz.f42=some (aFN,Z1):=by kernel_rfl
def aCW:PC:=.seq (.reg [.e 2 (.bx 56 (.t 0)),.e 3 (.bx 56 (.t 1)),.q 4 (.mv (.k (.bool false)))]) (.seq (.seq (.reg [.q 8 (.fa 0 (.t 2)),.l 9 (.ld1 (.t 8)),.q 10 (.fa 0 (.t 3)),.l 11 (.ld1 (.t 10)),.q 12 (.bin .neq true (.t 9) (.t 11)),.v 13 12,⟨some 14,(some (13,false)),.q (.fa 1 (.t 2))⟩,⟨some 15,(some (13,false)),.l (.ld1 (.t 14))⟩,⟨some 16,(some (13,false)),.q (.lnL (.t 15))⟩,⟨some 17,(some (13,false)),.q (.fa 1 (.t 3))⟩,⟨some 18,(some (13,false)),.l (.ld1 (.t 17))⟩,⟨some 19,(some (13,false)),.q (.lnL (.t 18))⟩,⟨some 20,(some (13,false)),.q (.bin .neq true (.t 16) (.t 19))⟩,.a 21 (.pick (.t 13) (.k (.bool true)) (.t 20))]) (.cond (.t 21) (.seq (.reg [.q 4 (.mv (.k (.bool false)))]) .ret) .skip)) (.seq (.seq (.reg [.q 5 (.mv (.i 0))]) (.block 0 (.loop (.seq (.seq (.reg [.v 22 5,.q 23 (.fa 1 (.t 2)),.l 24 (.ld1 (.t 23)),.q 25 (.lnL (.t 24)),.q 26 (.bin .lss true (.t 22) (.t 25))]) (.cond (.t 26) .skip (.exit 0))) (.seq (.block 1 (.seq (.ord  [.q (.q 29 (.fa 1 (.t 2))),.q (.l 30 (.ld1 (.t 29))),.q (.v 31 5),.q (.l 32 (.ia 7 (.t 30) (.t 31))),.q (.l 33 (.ldn 7 (.t 32))),.q (.q 34 (.fa 1 (.t 3))),.q (.l 35 (.ld1 (.t 34))),.q (.v 36 5),.q (.l 37 (.ia 7 (.t 35) (.t 36))),.q (.l 38 (.ldn 7 (.t 37))),.m (.e 6 (.al (.agg #[(.int .i64 0),(.string (mk [])),(.int .i64 0),(.int .i64 0),(.string (mk [])),(.slice none 0 0),(.bool false)]) 64)),.rc (.q 29 (.fa 1 (.t 2))),.rc (.l 30 (.ld1 (.t 29))),.rc (.v 31 5),.rc (.l 32 (.ia 7 (.t 30) (.t 31))),.rc (.l 33 (.ldn 7 (.t 32))),.rc (.q 34 (.fa 1 (.t 3))),.rc (.l 35 (.ld1 (.t 34))),.rc (.v 36 5),.rc (.l 37 (.ia 7 (.t 35) (.t 36))),.rc (.l 38 (.ldn 7 (.t 37))),.m (.e 7 (.al (.agg #[(.int .i64 0),(.string (mk [])),(.int .i64 0),(.int .i64 0),(.string (mk [])),(.slice none 0 0),(.bool false)]) 64)),.rc (.q 29 (.fa 1 (.t 2))),.rc (.l 30 (.ld1 (.t 29))),.rc (.v 31 5),.rc (.l 32 (.ia 7 (.t 30) (.t 31))),.rc (.l 33 (.ldn 7 (.t 32))),.rc (.q 34 (.fa 1 (.t 3))),.rc (.l 35 (.ld1 (.t 34))),.rc (.v 36 5),.rc (.l 37 (.ia 7 (.t 35) (.t 36))),.rc (.l 38 (.ldn 7 (.t 37))),.m (.s (.st 7 (.t 6) (.t 33))),.rc (.q 34 (.fa 1 (.t 3))),.rc (.l 35 (.ld1 (.t 34))),.rc (.v 36 5),.rc (.l 37 (.ia 7 (.t 35) (.t 36))),.rc (.l 38 (.ldn 7 (.t 37))),.m (.s (.st 7 (.t 7) (.t 38)))]) (.seq (.reg [.q 39 (.fa 0 (.t 6)),.l 40 (.ld1 (.t 39)),.q 41 (.fa 0 (.t 7)),.l 42 (.ld1 (.t 41)),.q 43 (.bin .neq true (.t 40) (.t 42)),.v 44 43,⟨some 45,(some (44,false)),.q (.fa 1 (.t 6))⟩,⟨some 46,(some (44,false)),.l (.ld1 (.t 45))⟩,⟨some 47,(some (44,false)),.q (.fa 1 (.t 7))⟩,⟨some 48,(some (44,false)),.l (.ld1 (.t 47))⟩,⟨some 49,(some (44,false)),.q (.bin .neq true (.t 46) (.t 48))⟩,.a 50 (.pick (.t 44) (.k (.bool true)) (.t 49)),.v 51 50,⟨some 52,(some (51,false)),.q (.fa 6 (.t 6))⟩,⟨some 53,(some (51,false)),.l (.ld1 (.t 52))⟩,⟨some 54,(some (51,false)),.q (.fa 6 (.t 7))⟩,⟨some 55,(some (51,false)),.l (.ld1 (.t 54))⟩,⟨some 56,(some (51,false)),.q (.eqB true (.t 53) (.t 55))⟩,.a 57 (.pick (.t 51) (.k (.bool true)) (.t 56)),.v 58 57,⟨some 59,(some (58,false)),.q (.fa 2 (.t 6))⟩,⟨some 60,(some (58,false)),.l (.ldn 4 (.t 59))⟩,⟨some 61,(some (58,false)),.q (.fa 2 (.t 7))⟩,⟨some 62,(some (58,false)),.l (.ldn 4 (.t 61))⟩,⟨some 63,(some (58,false)),.cq 19 [(.t 60),(.t 62)]⟩,⟨some 64,(some (58,false)),.q (.not (.t 63))⟩,.a 65 (.pick (.t 58) (.k (.bool true)) (.t 64))]) (.cond (.t 65) (.seq (.reg [.q 4 (.mv (.k (.bool false)))]) .ret) .skip)))) (.reg [.v 27 5,.q 28 (.bin .add true (.t 27) (.i 1)),.v 5 28])))))) (.seq (.reg [.q 4 (.mv (.k (.bool true)))]) .ret)))
def aC6:List RV:=[.mv (.t 4)]
theorem aN2:aY Tryz.prog true ⟨fun r k=>if r=7/\k=24 then .q else .own [],fun _=>false⟩ Tryz.f43=some (aCW,aC6):=by kernel_rfl
def aEO:PC:=.seq (.reg [.v 6 0,.v 7 1,.v 8 2,.a 9 (.cl 49 [(.t 6),(.t 7),(.t 8)] [0])]) (.cond (.t 9) (.reg [.v 10 0,.q 11 (.nc (.t 10)),.q 12 (.fa 1 (.t 11)),.l 13 (.ld1 (.t 12)),.q 14 (.bin .add true (.t 13) (.i 1)),.q 15 (.nc (.t 10)),.q 16 (.fa 1 (.t 15)),.s (.st 1 (.t 16) (.t 14))]) (.reg [.v 17 0,.a 18 (.cl 93 [(.t 17)] [0])]))
def aBX:List RV:=[]
theorem aJ7:aY Tryz.prog true ⟨fun r k=>if r=0/\k=3 then .own [0] else if r=2/\k=1 then .own [0] else .own [],fun _=>false⟩ Tryz.f46=some (aEO,aBX):=by kernel_rfl
def S3:PC:=.seq (.reg [.e 4 (.al (.agg #[(.int .i64 0),(.string (mk [])),(.int .i64 0),(.int .i64 0)]) 74)]) (.seq (.seq (.reg [.v 5 0,.q 6 (.nc (.t 5)),.q 7 (.fa 2 (.t 6)),.l 8 (.ld1 (.t 7)),.q 9 (.bin .lss true (.t 8) (.i 0)),.v 10 9,⟨some 11,(some (10,true)),.q (.mv (.t 0))⟩,⟨some 12,(some (10,true)),.q (.nc (.t 11))⟩,⟨some 13,(some (10,true)),.q (.fa 0 (.t 12))⟩,⟨some 14,(some (10,true)),.l (.ld1 (.t 13))⟩,⟨some 15,(some (10,true)),.q (.mv (.t 0))⟩,⟨some 16,(some (10,true)),.q (.nc (.t 15))⟩,⟨some 17,(some (10,true)),.q (.fa 1 (.t 16))⟩,⟨some 18,(some (10,true)),.l (.ld1 (.t 17))⟩,⟨some 19,(some (10,true)),.l (.ia 4 (.t 14) (.t 18))⟩,⟨some 20,(some (10,true)),.q (.fa 0 (.t 19))⟩,⟨some 21,(some (10,true)),.l (.ld1 (.t 20))⟩,⟨some 22,(some (10,true)),.q (.mv (.t 1))⟩,⟨some 23,(some (10,true)),.q (.bin .eql true (.t 21) (.t 22))⟩,.a 24 (.pick (.t 10) (.t 23) (.k (.bool false)))]) (.cond (.t 24) (.seq (.reg [.v 25 0,.q 26 (.nc (.t 25)),.q 27 (.fa 1 (.t 26)),.l 28 (.ld1 (.t 27)),.q 29 (.bin .add true (.t 28) (.i 1)),.q 30 (.nc (.t 25)),.q 31 (.fa 1 (.t 30)),.s (.st 1 (.t 31) (.t 29))]) (.seq (.reg [.v 32 0,.q 33 (.nc (.t 32)),.q 34 (.fa 0 (.t 33)),.l 35 (.ld1 (.t 34)),.v 36 0,.q 37 (.nc (.t 36)),.q 38 (.fa 1 (.t 37)),.l 39 (.ld1 (.t 38)),.q 40 (.bin .sub true (.t 39) (.i 1)),.l 41 (.ia 4 (.t 35) (.t 40)),.l 42 (.ldn 4 (.t 41)),.s (.st 4 (.t 4) (.t 42))]) .ret)) .skip)) (.seq (.reg [.v 43 0,.a 44 (.cl 93 [(.t 43)] [0])]) (.seq (.reg [.q 45 (.bd [(.int .i64 0),(.string (mk [])),(.int .i64 0),(.int .i64 0)] []),.s (.st 4 (.t 4) (.t 45))]) .ret)))
def TZ:List RV:=[.ld (.ldn 4 (.t 4))]
theorem aKY:aY Tryz.prog true ⟨fun r k=>if r=4/\k=1 then .own [0] else .own [],fun _=>false⟩ Tryz.f47=some (S3,TZ):=by kernel_rfl
def aB6:PC:=.seq (.reg [.e 2 (.al (.agg #[(.int .i64 0),(.string (mk [])),(.int .i64 0),(.int .i64 0)]) 74)]) (.seq (.reg [.v 3 0,.q 4 (.nc (.t 3)),.q 5 (.fa 0 (.t 4)),.l 6 (.ld1 (.t 5)),.v 7 0,.q 8 (.nc (.t 7)),.q 9 (.fa 1 (.t 8)),.l 10 (.ld1 (.t 9)),.l 11 (.ia 4 (.t 6) (.t 10)),.l 12 (.ldn 4 (.t 11)),.s (.st 4 (.t 2) (.t 12))]) .ret)
def aFT:List RV:=[.ld (.ldn 4 (.t 2))]
theorem aOB:aY Tryz.prog true ⟨fun _ _=>.own [],fun _=>false⟩ Tryz.f48=some (aB6,aFT):=by kernel_rfl
def SL:PC:=.seq (.reg [.q 6 (.mv (.k (.bool false)))]) (.seq (.reg [.v 7 0,.q 8 (.nc (.t 7)),.q 9 (.fa 2 (.t 8)),.l 10 (.ld1 (.t 9)),.q 11 (.bin .lss true (.t 10) (.i 0)),.v 12 11,⟨some 13,(some (12,true)),.q (.mv (.t 0))⟩,⟨some 14,(some (12,true)),.q (.nc (.t 13))⟩,⟨some 15,(some (12,true)),.q (.fa 0 (.t 14))⟩,⟨some 16,(some (12,true)),.l (.ld1 (.t 15))⟩,⟨some 17,(some (12,true)),.q (.mv (.t 0))⟩,⟨some 18,(some (12,true)),.q (.nc (.t 17))⟩,⟨some 19,(some (12,true)),.q (.fa 1 (.t 18))⟩,⟨some 20,(some (12,true)),.l (.ld1 (.t 19))⟩,⟨some 21,(some (12,true)),.l (.ia 4 (.t 16) (.t 20))⟩,⟨some 22,(some (12,true)),.q (.fa 0 (.t 21))⟩,⟨some 23,(some (12,true)),.l (.ld1 (.t 22))⟩,⟨some 24,(some (12,true)),.q (.mv (.t 1))⟩,⟨some 25,(some (12,true)),.q (.bin .eql true (.t 23) (.t 24))⟩,.a 26 (.pick (.t 12) (.t 25) (.k (.bool false))),.v 27 26,⟨some 28,(some (27,true)),.q (.mv (.t 0))⟩,⟨some 29,(some (27,true)),.q (.nc (.t 28))⟩,⟨some 30,(some (27,true)),.q (.fa 0 (.t 29))⟩,⟨some 31,(some (27,true)),.l (.ld1 (.t 30))⟩,⟨some 32,(some (27,true)),.q (.mv (.t 0))⟩,⟨some 33,(some (27,true)),.q (.nc (.t 32))⟩,⟨some 34,(some (27,true)),.q (.fa 1 (.t 33))⟩,⟨some 35,(some (27,true)),.l (.ld1 (.t 34))⟩,⟨some 36,(some (27,true)),.l (.ia 4 (.t 31) (.t 35))⟩,⟨some 37,(some (27,true)),.q (.fa 1 (.t 36))⟩,⟨some 38,(some (27,true)),.l (.ld1 (.t 37))⟩,⟨some 39,(some (27,true)),.q (.mv (.t 2))⟩,⟨some 40,(some (27,true)),.q (.bin .eql true (.t 38) (.t 39))⟩,.a 41 (.pick (.t 27) (.t 40) (.k (.bool false))),.v 6 41]) .ret)
def TR:List RV:=[.mv (.t 6)]
theorem aKQ:aY Tryz.prog true ⟨fun _ _=>.own [],fun _=>false⟩ Tryz.f49=some (SL,TR):=by kernel_rfl
def G8:PC:=.seq (.seq (.gh (.reg [.v 27 0,.a 28 (.cl 49 [(.t 27),(.i 4),(.k (.string (mk [44])))] [0]),.q 29 (.not (.t 28))])) (.cond (.t 29) (.exit 0) .skip)) (.reg [.v 30 0,.q 31 (.nc (.t 30)),.q 32 (.fa 1 (.t 31)),.l 33 (.ld1 (.t 32)),.q 34 (.bin .add true (.t 33) (.i 1)),.q 35 (.nc (.t 30)),.q 36 (.fa 1 (.t 35)),.s (.st 1 (.t 36) (.t 34))])
@[go_sem ↓] theorem aN1:bT G8:=bY _
def HC:PC:=.seq (.gh (.ord  [.q (.q 19 (.fa 2 (.t 3))),.q (.l 20 (.ld1 (.t 19))),.q (.v 21 0),.m (.a 22 (.cl 47 [(.t 21),(.i 2)] [0])),.rc (.q 19 (.fa 2 (.t 3))),.rc (.l 20 (.ld1 (.t 19))),.q (.q 23 (.fld1 2 (.t 22))),.m (.e 24 (.bsl 3 1 [(.t 23)])),.rc (.q 19 (.fa 2 (.t 3))),.rc (.l 20 (.ld1 (.t 19))),.m (.e 25 (.ap 3 1 8 (.t 20) (.t 24))),.q (.q 26 (.fa 2 (.t 3))),.m (.s (.st 1 (.t 26) (.t 25)))])) (G8)
@[go_sem ↓] theorem aND:bT HC:=bY _
def G2:PC:=.seq (.gh (.reg [.v 17 0,.a 18 (.cl 46 [(.t 17),(.i 4),(.k (.string (mk [61])))] [0])])) (HC)
@[go_sem ↓] theorem aNF:bT G2:=bY _
def pc50_8:PC:=.seq (.gh (.reg [.v 37 0,.a 38 (.cl 46 [(.t 37),(.i 4),(.k (.string (mk [125])))] [0])])) (.seq (.reg [.l 39 (.ldn 3 (.t 3)),.s (.st 3 (.t 2) (.t 39))]) .ret)
@[go_sem ↓] theorem aN5:bT pc50_8:=bY _
def Z9:PC:=.seq (.reg [.e 2 (.al (.agg #[(.string (mk [])),(.slice none 0 0),(.slice none 0 0)]) 62)]) (.seq (.reg [.v 4 0,.a 5 (.cl 94 [(.t 4)] [0]),.q 6 (.bd [(.string (mk [])),(.slice none 0 0),(.slice none 0 0)] [(0,1,(.t 5))]),.e 3 (.al (.agg #[(.string (mk [])),(.slice none 0 0),(.slice none 0 0)]) 62),.s (.st 3 (.t 3) (.t 6))]) (.seq (.reg [.v 7 0,.a 8 (.cl 46 [(.t 7),(.i 4),(.k (.string (mk [123])))] [0])]) (.seq (.block 0 (.loop (.block 1 (.seq (.ord  [.q (.q 9 (.fa 1 (.t 3))),.q (.l 10 (.ld1 (.t 9))),.q (.v 11 0),.m (.a 12 (.cl 47 [(.t 11),(.i 1)] [0])),.rc (.q 9 (.fa 1 (.t 3))),.rc (.l 10 (.ld1 (.t 9))),.q (.q 13 (.fld1 1 (.t 12))),.m (.e 14 (.bsl 9 1 [(.t 13)])),.rc (.q 9 (.fa 1 (.t 3))),.rc (.l 10 (.ld1 (.t 9))),.m (.e 15 (.ap 9 1 16 (.t 10) (.t 14))),.q (.q 16 (.fa 1 (.t 3))),.m (.s (.st 1 (.t 16) (.t 15)))]) (G2))))) (pc50_8))))
def NS:List RV:=[.ld (.ldn 3 (.t 2))]
theorem aOJ:aY Tryz.prog true ⟨fun r k=>if r=1/\k=1 then .own [0] else if r=2/\k=1 then .own [0] else if r=3/\k=3 then .own [0] else if r=4/\k=1 then .own [0] else if r=5/\k=3 then .own [0] else if r=6/\k=1 then .own [0] else if r=8/\k=1 then .own [0] else .own [],fun r=>[4,5,6,8].contains r⟩ Tryz.f50=some (Z9,NS):=by kernel_rfl
def wQ:PC:=.seq (.gh (.reg [.v 43 0,.a 44 (.cl 46 [(.t 43),(.i 4),(.k (.string (mk [59])))] [0])])) (.gh (.reg [.q 45 (.fa 1 (.t 3)),.l 46 (.ld1 (.t 45)),.l 47 (.ldn 7 (.t 4)),.e 48 (.bsl 64 7 [(.t 47)]),.e 49 (.ap 64 7 88 (.t 46) (.t 48)),.q 50 (.fa 1 (.t 3)),.s (.st 1 (.t 50) (.t 49))]))
@[go_sem ↓] theorem aJP:bT wQ:=bY _
def JU:PC:=.seq (.seq (.gh (.reg [.v 33 0,.a 34 (.cl 49 [(.t 33),(.i 4),(.k (.string (mk [63])))] [0])])) (.cond (.t 34) (.seq (.reg [.v 35 0,.q 36 (.nc (.t 35)),.q 37 (.fa 1 (.t 36)),.l 38 (.ld1 (.t 37)),.q 39 (.bin .add true (.t 38) (.i 1)),.q 40 (.nc (.t 35)),.q 41 (.fa 1 (.t 40)),.s (.st 1 (.t 41) (.t 39))]) (.reg [.q 42 (.fa 6 (.t 4)),.s (.st 1 (.t 42) (.k (.bool true)))])) .skip)) (wQ)
@[go_sem ↓] theorem aOM:bT JU:=bY _
def I4:PC:=.seq (.gh (.reg [.v 30 0,.a 31 (.cl 56 [(.t 30)] [0]),.q 32 (.fa 2 (.t 4)),.s (.st 4 (.t 32) (.t 31))])) (JU)
@[go_sem ↓] theorem aL1:bT I4:=bY _
def HP:PC:=.seq (.gh (.reg [.v 28 0,.a 29 (.cl 46 [(.t 28),(.i 4),(.k (.string (mk [58])))] [0])])) (I4)
@[go_sem ↓] theorem aNN:bT HP:=bY _
def IR:PC:=.seq (.gh (.reg [.v 24 0,.a 25 (.cl 47 [(.t 24),(.i 1)] [0]),.q 26 (.fld1 1 (.t 25)),.q 27 (.fa 1 (.t 4)),.s (.st 1 (.t 27) (.t 26))])) (HP)
@[go_sem ↓] theorem aOC:bT IR:=bY _
def GY:PC:=.seq (.gh (.reg [.v 20 0,.a 21 (.cl 47 [(.t 20),(.i 2)] [0]),.q 22 (.fld1 2 (.t 21)),.q 23 (.bd [(.int .i64 0),(.string (mk [])),(.int .i64 0),(.int .i64 0),(.string (mk [])),(.slice none 0 0),(.bool false)] [(0,1,(.t 22))]),.e 4 (.al (.agg #[(.int .i64 0),(.string (mk [])),(.int .i64 0),(.int .i64 0),(.string (mk [])),(.slice none 0 0),(.bool false)]) 64),.s (.st 7 (.t 4) (.t 23))])) (IR)
@[go_sem ↓] theorem aN4:bT GY:=bY _
def pc51_13:PC:=.seq (.gh (.reg [.v 51 0,.a 52 (.cl 46 [(.t 51),(.i 4),(.k (.string (mk [125])))] [0])])) (.seq (.reg [.l 53 (.ldn 2 (.t 3)),.s (.st 2 (.t 2) (.t 53))]) .ret)
@[go_sem ↓] theorem aJV:bT pc51_13:=bY _
def aAX:PC:=.seq (.reg [.e 2 (.al (.agg #[(.string (mk [])),(.slice none 0 0)]) 56)]) (.seq (.reg [.v 5 0,.a 6 (.cl 94 [(.t 5)] [0]),.q 7 (.bd [(.string (mk [])),(.slice none 0 0)] [(0,1,(.t 6))]),.e 3 (.al (.agg #[(.string (mk [])),(.slice none 0 0)]) 56),.s (.st 2 (.t 3) (.t 7))]) (.seq (.reg [.v 8 0,.a 9 (.cl 46 [(.t 8),(.i 4),(.k (.string (mk [123])))] [0])]) (.seq (.block 0 (.loop (.seq (.seq (.reg [.v 10 0,.q 11 (.nc (.t 10)),.q 12 (.fa 2 (.t 11)),.l 13 (.ld1 (.t 12)),.q 14 (.bin .lss true (.t 13) (.i 0)),.v 15 14,⟨some 16,(some (15,true)),.q (.mv (.t 0))⟩,⟨some 17,(some (15,true)),.cl 49 [(.t 16),(.i 4),(.k (.string (mk [125])))] [0]⟩,⟨some 18,(some (15,true)),.q (.not (.t 17))⟩,.a 19 (.pick (.t 15) (.t 18) (.k (.bool false)))]) (.cond (.t 19) .skip (.exit 0))) (.block 1 (GY))))) (pc51_13))))
def MJ:List RV:=[.ld (.ldn 2 (.t 2))]
theorem aL8:aY Tryz.prog true ⟨fun r k=>if r=1/\k=1 then .own [0] else if r=2/\k=1 then .own [0] else if r=3/\k=7 then .own [0] else if r=4/\k=1 then .own [0] else if r=5/\k=1 then .own [0] else if r=6/\k=1 then .own [0] else if r=7/\k=1 then .own [0] else if r=8/\k=1 then .own [0] else if r=11/\k=1 then .own [0] else if r=13/\k=1 then .own [0] else .own [],fun r=>[4,5,6,7,8,11,12,13].contains r⟩ Tryz.f51=some (aAX,MJ):=by kernel_rfl
def RU:PC:=.seq (.reg [.e 2 (.bx 37 (.t 0)),.e 4 (.al (.agg #[(.int .i64 0),(.int .i64 0),(.string (mk [])),(.slice none 0 0)]) 37)]) (.seq (.seq (.reg [.q 6 (.fa 0 (.t 2)),.l 7 (.ld1 (.t 6)),.q 8 (.bin .eql true (.t 7) (.i 5))]) (.cond (.t 8) (.seq (.ord  [.q (.q 9 (.fa 0 (.t 2))),.q (.l 10 (.ld1 (.t 9))),.q (.q 11 (.fa 1 (.t 2))),.q (.l 12 (.ld1 (.t 11))),.q (.q 13 (.fa 3 (.t 2))),.q (.l 14 (.ld1 (.t 13))),.q (.l 15 (.ia 4 (.t 14) (.i 0))),.q (.l 16 (.ldn 4 (.t 15))),.q (.v 17 1),.m (.a 18 (.cl 52 [(.t 16),(.t 17)] [])),.rc (.q 9 (.fa 0 (.t 2))),.rc (.l 10 (.ld1 (.t 9))),.rc (.q 11 (.fa 1 (.t 2))),.rc (.l 12 (.ld1 (.t 11))),.m (.e 19 (.bsl 37 4 [(.t 18)])),.rc (.q 9 (.fa 0 (.t 2))),.rc (.l 10 (.ld1 (.t 9))),.rc (.q 11 (.fa 1 (.t 2))),.rc (.l 12 (.ld1 (.t 11))),.q (.q 20 (.bd [(.int .i64 0),(.int .i64 0),(.string (mk [])),(.slice none 0 0)] [(0,1,(.t 10)),(1,1,(.t 12)),(3,1,(.t 19))])),.m (.s (.st 4 (.t 4) (.t 20)))]) .ret) .skip)) (.seq (.seq (.reg [.q 5 (.mv (.i 0))]) (.block 0 (.loop (.seq (.seq (.reg [.v 21 5,.v 22 1,.q 23 (.lnL (.t 22)),.q 24 (.bin .lss true (.t 21) (.t 23))]) (.cond (.t 24) .skip (.exit 0))) (.seq (.block 1 (.seq (.reg [.q 27 (.fa 0 (.t 2)),.l 28 (.ld1 (.t 27)),.q 29 (.bin .eql true (.t 28) (.i 6)),.v 30 29,⟨some 31,(some (30,true)),.q (.mv (.t 1))⟩,⟨some 32,(some (30,true)),.q (.mv (.t 5))⟩,⟨some 33,(some (30,true)),.l (.ia 3 (.t 31) (.t 32))⟩,⟨some 34,(some (30,true)),.q (.fa 0 (.t 33))⟩,⟨some 35,(some (30,true)),.l (.ld1 (.t 34))⟩,⟨some 36,(some (30,true)),.q (.fa 2 (.t 2))⟩,⟨some 37,(some (30,true)),.l (.ld1 (.t 36))⟩,⟨some 38,(some (30,true)),.q (.bin .eql true (.t 35) (.t 37))⟩,.a 39 (.pick (.t 30) (.t 38) (.k (.bool false)))]) (.cond (.t 39) (.seq (.reg [.q 40 (.fa 2 (.t 2)),.l 41 (.ld1 (.t 40)),.q 42 (.bd [(.int .i64 0),(.int .i64 0),(.string (mk [])),(.slice none 0 0)] [(0,1,(.i 7)),(2,1,(.t 41))]),.s (.st 4 (.t 4) (.t 42))]) .ret) .skip))) (.reg [.v 25 5,.q 26 (.bin .add true (.t 25) (.i 1)),.v 5 26])))))) (.seq (.reg [.l 43 (.ldn 4 (.t 2)),.s (.st 4 (.t 4) (.t 43))]) .ret)))
def UC:List RV:=[.ld (.ldn 4 (.t 4))]
theorem aNV:aY Tryz.prog true ⟨fun _ _=>.own [],fun _=>false⟩ Tryz.f52=some (RU,UC):=by kernel_rfl
def CY:PC:=.seq (.gh (.reg [.v 125 3,.v 126 0,.a 127 (.cl 56 [(.t 126)] [0]),.e 128 (.bsl 37 4 [(.t 127)]),.q 129 (.bd [(.int .i64 0),(.int .i64 0),(.string (mk [])),(.slice none 0 0)] [(0,1,(.i 5)),(1,1,(.t 125)),(3,1,(.t 128))]),.s (.st 4 (.t 2) (.t 129))])) .ret
@[go_sem ↓] theorem aJ5:bT CY:=bY _
def DA:PC:=.seq (.gh (.reg [.v 123 0,.a 124 (.cl 46 [(.t 123),(.i 1),(.k (.string (mk [111,102])))] [0])])) (CY)
@[go_sem ↓] theorem aJM:bT DA:=bY _
def CA:PC:=.seq (.gh (.reg [.v 130 0,.a 131 (.cl 94 [(.t 130)] [0]),.q 132 (.bd [(.int .i64 0),(.int .i64 0),(.string (mk [])),(.slice none 0 0)] [(0,1,(.i 6)),(2,1,(.t 131))]),.s (.st 4 (.t 2) (.t 132))])) .ret
@[go_sem ↓] theorem aJJ:bT CA:=bY _
def GU:PC:=.seq (.seq (.gh (.reg [.v 17 0,.a 18 (.cl 48 [(.t 17)] [0]),.q 19 (.fld1 1 (.t 18))])) (.block 0 (.seq (.reg [.q 21 (.bin .eql true (.t 19) (.k (.string (mk [98,111,111,108])))),.v 20 21]) (.cond (.t 20) (.seq (.reg [.v 22 0,.q 23 (.nc (.t 22)),.q 24 (.fa 1 (.t 23)),.l 25 (.ld1 (.t 24)),.q 26 (.bin .add true (.t 25) (.i 1)),.q 27 (.nc (.t 22)),.q 28 (.fa 1 (.t 27)),.s (.st 1 (.t 28) (.t 26))]) (.seq (.reg [.q 29 (.bd [(.int .i64 0),(.int .i64 0),(.string (mk [])),(.slice none 0 0)] [(0,1,(.i 1))]),.s (.st 4 (.t 2) (.t 29))]) .ret)) (.seq (.reg [.q 31 (.bin .eql true (.t 19) (.k (.string (mk [105,110,116,56])))),.v 30 31]) (.cond (.t 30) (.seq (.reg [.v 32 0,.q 33 (.nc (.t 32)),.q 34 (.fa 1 (.t 33)),.l 35 (.ld1 (.t 34)),.q 36 (.bin .add true (.t 35) (.i 1)),.q 37 (.nc (.t 32)),.q 38 (.fa 1 (.t 37)),.s (.st 1 (.t 38) (.t 36))]) (.seq (.reg [.q 39 (.bd [(.int .i64 0),(.int .i64 0),(.string (mk [])),(.slice none 0 0)] [(0,1,(.i 2)),(1,1,(.i 8))]),.s (.st 4 (.t 2) (.t 39))]) .ret)) (.seq (.reg [.q 41 (.bin .eql true (.t 19) (.k (.string (mk [105,110,116,49,54])))),.v 40 41]) (.cond (.t 40) (.seq (.reg [.v 42 0,.q 43 (.nc (.t 42)),.q 44 (.fa 1 (.t 43)),.l 45 (.ld1 (.t 44)),.q 46 (.bin .add true (.t 45) (.i 1)),.q 47 (.nc (.t 42)),.q 48 (.fa 1 (.t 47)),.s (.st 1 (.t 48) (.t 46))]) (.seq (.reg [.q 49 (.bd [(.int .i64 0),(.int .i64 0),(.string (mk [])),(.slice none 0 0)] [(0,1,(.i 2)),(1,1,(.i 16))]),.s (.st 4 (.t 2) (.t 49))]) .ret)) (.seq (.reg [.q 51 (.bin .eql true (.t 19) (.k (.string (mk [105,110,116,51,50])))),.v 50 51]) (.cond (.t 50) (.seq (.reg [.v 52 0,.q 53 (.nc (.t 52)),.q 54 (.fa 1 (.t 53)),.l 55 (.ld1 (.t 54)),.q 56 (.bin .add true (.t 55) (.i 1)),.q 57 (.nc (.t 52)),.q 58 (.fa 1 (.t 57)),.s (.st 1 (.t 58) (.t 56))]) (.seq (.reg [.q 59 (.bd [(.int .i64 0),(.int .i64 0),(.string (mk [])),(.slice none 0 0)] [(0,1,(.i 2)),(1,1,(.i 32))]),.s (.st 4 (.t 2) (.t 59))]) .ret)) (.seq (.reg [.q 61 (.bin .eql true (.t 19) (.k (.string (mk [105,110,116,54,52])))),.v 60 61]) (.cond (.t 60) (.seq (.reg [.v 62 0,.q 63 (.nc (.t 62)),.q 64 (.fa 1 (.t 63)),.l 65 (.ld1 (.t 64)),.q 66 (.bin .add true (.t 65) (.i 1)),.q 67 (.nc (.t 62)),.q 68 (.fa 1 (.t 67)),.s (.st 1 (.t 68) (.t 66))]) (.seq (.reg [.q 69 (.bd [(.int .i64 0),(.int .i64 0),(.string (mk [])),(.slice none 0 0)] [(0,1,(.i 2)),(1,1,(.i 64))]),.s (.st 4 (.t 2) (.t 69))]) .ret)) (.seq (.reg [.q 71 (.bin .eql true (.t 19) (.k (.string (mk [117,105,110,116,56])))),.v 70 71]) (.cond (.t 70) (.seq (.reg [.v 72 0,.q 73 (.nc (.t 72)),.q 74 (.fa 1 (.t 73)),.l 75 (.ld1 (.t 74)),.q 76 (.bin .add true (.t 75) (.i 1)),.q 77 (.nc (.t 72)),.q 78 (.fa 1 (.t 77)),.s (.st 1 (.t 78) (.t 76))]) (.seq (.reg [.q 79 (.bd [(.int .i64 0),(.int .i64 0),(.string (mk [])),(.slice none 0 0)] [(0,1,(.i 3)),(1,1,(.i 8))]),.s (.st 4 (.t 2) (.t 79))]) .ret)) (.seq (.reg [.q 81 (.bin .eql true (.t 19) (.k (.string (mk [117,105,110,116,49,54])))),.v 80 81]) (.cond (.t 80) (.seq (.reg [.v 82 0,.q 83 (.nc (.t 82)),.q 84 (.fa 1 (.t 83)),.l 85 (.ld1 (.t 84)),.q 86 (.bin .add true (.t 85) (.i 1)),.q 87 (.nc (.t 82)),.q 88 (.fa 1 (.t 87)),.s (.st 1 (.t 88) (.t 86))]) (.seq (.reg [.q 89 (.bd [(.int .i64 0),(.int .i64 0),(.string (mk [])),(.slice none 0 0)] [(0,1,(.i 3)),(1,1,(.i 16))]),.s (.st 4 (.t 2) (.t 89))]) .ret)) (.seq (.reg [.q 91 (.bin .eql true (.t 19) (.k (.string (mk [117,105,110,116,51,50])))),.v 90 91]) (.cond (.t 90) (.seq (.reg [.v 92 0,.q 93 (.nc (.t 92)),.q 94 (.fa 1 (.t 93)),.l 95 (.ld1 (.t 94)),.q 96 (.bin .add true (.t 95) (.i 1)),.q 97 (.nc (.t 92)),.q 98 (.fa 1 (.t 97)),.s (.st 1 (.t 98) (.t 96))]) (.seq (.reg [.q 99 (.bd [(.int .i64 0),(.int .i64 0),(.string (mk [])),(.slice none 0 0)] [(0,1,(.i 3)),(1,1,(.i 32))]),.s (.st 4 (.t 2) (.t 99))]) .ret)) (.seq (.reg [.q 101 (.bin .eql true (.t 19) (.k (.string (mk [116,101,120,116])))),.v 100 101]) (.cond (.t 100) (.seq (.reg [.v 102 0,.q 103 (.nc (.t 102)),.q 104 (.fa 1 (.t 103)),.l 105 (.ld1 (.t 104)),.q 106 (.bin .add true (.t 105) (.i 1)),.q 107 (.nc (.t 102)),.q 108 (.fa 1 (.t 107)),.s (.st 1 (.t 108) (.t 106))]) (.seq (.reg [.v 109 0,.a 110 (.cl 99 [(.t 109)] [0]),.q 111 (.bd [(.int .i64 0),(.int .i64 0),(.string (mk [])),(.slice none 0 0)] [(0,1,(.i 4)),(1,1,(.t 110))]),.s (.st 4 (.t 2) (.t 111))]) .ret)) (.seq (.reg [.q 113 (.bin .eql true (.t 19) (.k (.string (mk [108,105,115,116])))),.v 112 113]) (.cond (.t 112) (.seq (.reg [.v 114 0,.q 115 (.nc (.t 114)),.q 116 (.fa 1 (.t 115)),.l 117 (.ld1 (.t 116)),.q 118 (.bin .add true (.t 117) (.i 1)),.q 119 (.nc (.t 114)),.q 120 (.fa 1 (.t 119)),.s (.st 1 (.t 120) (.t 118))]) (.seq (.reg [.v 121 0,.a 122 (.cl 99 [(.t 121)] [0]),.v 3 122]) (DA))) .skip)))))))))))))))))))))) (CA)
@[go_sem ↓] theorem aL2:bT GU:=bY _
def S9:PC:=.seq (.reg [.e 2 (.al (.agg #[(.int .i64 0),(.int .i64 0),(.string (mk [])),(.slice none 0 0)]) 37)]) (.seq (.seq (.reg [.v 4 0,.q 5 (.nc (.t 4)),.q 6 (.fa 2 (.t 5)),.l 7 (.ld1 (.t 6)),.q 8 (.bin .geq true (.t 7) (.i 0))]) (.cond (.t 8) (.seq (.reg [.q 9 (.bd [(.int .i64 0),(.int .i64 0),(.string (mk [])),(.slice none 0 0)] []),.s (.st 4 (.t 2) (.t 9))]) .ret) .skip)) (.seq (.seq (.reg [.v 10 0,.a 11 (.cl 48 [(.t 10)] [0]),.q 12 (.fld1 0 (.t 11)),.q 13 (.bin .neq true (.t 12) (.i 1))]) (.cond (.t 13) (.seq (.reg [.v 14 0,.a 15 (.cl 93 [(.t 14)] [0])]) (.seq (.reg [.q 16 (.bd [(.int .i64 0),(.int .i64 0),(.string (mk [])),(.slice none 0 0)] []),.s (.st 4 (.t 2) (.t 16))]) .ret)) .skip)) (GU)))
def M3:List RV:=[.ld (.ldn 4 (.t 2))]
theorem aNI:aY Tryz.prog true ⟨fun r k=>if r=3/\k=1 then .own [0] else if r=4/\k=1 then .own [0] else if r=6/\k=1 then .own [0] else if r=33/\k=1 then .own [0] else if r=36/\k=1 then .own [0] else if r=37/\k=1 then .own [0] else if r=38/\k=2 then .own [0] else if r=39/\k=1 then .own [0] else .own [],fun r=>[6,37,38,39].contains r⟩ Tryz.f56=some (S9,M3):=by kernel_rfl
def TV:PC:=.seq (.reg [.v 2 0,.q 3 (.nc (.t 2)),.q 4 (.fa 2 (.t 3)),.l 5 (.ld1 (.t 4)),.q 6 (.bin .lss true (.t 5) (.i 0))]) (.cond (.t 6) (.reg [.v 7 0,.v 8 0,.q 9 (.nc (.t 8)),.q 10 (.fa 0 (.t 9)),.l 11 (.ld1 (.t 10)),.v 12 0,.q 13 (.nc (.t 12)),.q 14 (.fa 1 (.t 13)),.l 15 (.ld1 (.t 14)),.l 16 (.ia 4 (.t 11) (.t 15)),.q 17 (.fa 3 (.t 16)),.l 18 (.ld1 (.t 17)),.q 19 (.nc (.t 7)),.q 20 (.fa 2 (.t 19)),.s (.st 1 (.t 20) (.t 18))]) .skip)
def S1:List RV:=[]
theorem aMS:aY Tryz.prog true ⟨fun _ _=>.own [],fun _=>false⟩ Tryz.f93=some (TV,S1):=by kernel_rfl
def JI:PC:=.seq (.reg [.q 2 (.mv (.k (.string (mk []))))]) (.seq (.seq (.reg [.v 3 0,.q 4 (.nc (.t 3)),.q 5 (.fa 2 (.t 4)),.l 6 (.ld1 (.t 5)),.q 7 (.bin .lss true (.t 6) (.i 0)),.v 8 7,⟨some 9,(some (8,true)),.q (.mv (.t 0))⟩,⟨some 10,(some (8,true)),.q (.nc (.t 9))⟩,⟨some 11,(some (8,true)),.q (.fa 0 (.t 10))⟩,⟨some 12,(some (8,true)),.l (.ld1 (.t 11))⟩,⟨some 13,(some (8,true)),.q (.mv (.t 0))⟩,⟨some 14,(some (8,true)),.q (.nc (.t 13))⟩,⟨some 15,(some (8,true)),.q (.fa 1 (.t 14))⟩,⟨some 16,(some (8,true)),.l (.ld1 (.t 15))⟩,⟨some 17,(some (8,true)),.l (.ia 4 (.t 12) (.t 16))⟩,⟨some 18,(some (8,true)),.q (.fa 0 (.t 17))⟩,⟨some 19,(some (8,true)),.l (.ld1 (.t 18))⟩,⟨some 20,(some (8,true)),.q (.bin .eql true (.t 19) (.i 1))⟩,.a 21 (.pick (.t 8) (.t 20) (.k (.bool false))),.v 22 21,⟨some 23,(some (22,true)),.q (.mv (.t 0))⟩,⟨some 24,(some (22,true)),.q (.nc (.t 23))⟩,⟨some 25,(some (22,true)),.q (.fa 0 (.t 24))⟩,⟨some 26,(some (22,true)),.l (.ld1 (.t 25))⟩,⟨some 27,(some (22,true)),.q (.mv (.t 0))⟩,⟨some 28,(some (22,true)),.q (.nc (.t 27))⟩,⟨some 29,(some (22,true)),.q (.fa 1 (.t 28))⟩,⟨some 30,(some (22,true)),.l (.ld1 (.t 29))⟩,⟨some 31,(some (22,true)),.l (.ia 4 (.t 26) (.t 30))⟩,⟨some 32,(some (22,true)),.q (.fa 1 (.t 31))⟩,⟨some 33,(some (22,true)),.l (.ld1 (.t 32))⟩,⟨some 34,(some (22,true)),.cq 96 [(.t 33)]⟩,.a 35 (.pick (.t 22) (.t 34) (.k (.bool false)))]) (.cond (.t 35) (.seq (.reg [.v 36 0,.q 37 (.nc (.t 36)),.q 38 (.fa 1 (.t 37)),.l 39 (.ld1 (.t 38)),.q 40 (.bin .add true (.t 39) (.i 1)),.q 41 (.nc (.t 36)),.q 42 (.fa 1 (.t 41)),.s (.st 1 (.t 42) (.t 40))]) (.seq (.reg [.v 43 0,.q 44 (.nc (.t 43)),.q 45 (.fa 0 (.t 44)),.l 46 (.ld1 (.t 45)),.v 47 0,.q 48 (.nc (.t 47)),.q 49 (.fa 1 (.t 48)),.l 50 (.ld1 (.t 49)),.q 51 (.bin .sub true (.t 50) (.i 1)),.l 52 (.ia 4 (.t 46) (.t 51)),.q 53 (.fa 1 (.t 52)),.l 54 (.ld1 (.t 53)),.v 2 54]) .ret)) .skip)) (.seq (.reg [.v 55 0,.a 56 (.cl 93 [(.t 55)] [0])]) (.seq (.reg [.q 2 (.mv (.k (.string (mk []))))]) .ret)))
def GZ:List RV:=[.mv (.t 2)]
theorem aK4:aY Tryz.prog true ⟨fun r k=>if r=1/\k=31 then .q else if r=4/\k=1 then .own [0] else .own [],fun _=>false⟩ Tryz.f94=some (JI,GZ):=by kernel_rfl
def aDU:PC:=.seq (.reg [.q 2 (.mv (.k (.bool false)))]) (.seq (.seq (.reg [.v 5 0,.q 6 (.lnS (.t 5)),.q 7 (.bin .lss true (.t 6) (.i 1)),.v 8 7,⟨some 9,(some (8,false)),.q (.mv (.t 0))⟩,⟨some 10,(some (8,false)),.q (.lnS (.t 9))⟩,⟨some 11,(some (8,false)),.q (.bin .gtr true (.t 10) (.i 16))⟩,.a 12 (.pick (.t 8) (.k (.bool true)) (.t 11)),.v 13 12,⟨some 14,(some (13,false)),.q (.mv (.t 0))⟩,⟨some 15,(some (13,false)),.ix (.t 14) (.i 0)⟩,⟨some 16,(some (13,false)),.q (.bin .lss true (.t 15) (.k (.int .u8 65)))⟩,.a 17 (.pick (.t 13) (.k (.bool true)) (.t 16)),.v 18 17,⟨some 19,(some (18,false)),.q (.mv (.t 0))⟩,⟨some 20,(some (18,false)),.ix (.t 19) (.i 0)⟩,⟨some 21,(some (18,false)),.q (.bin .gtr true (.t 20) (.k (.int .u8 90)))⟩,.a 22 (.pick (.t 18) (.k (.bool true)) (.t 21))]) (.cond (.t 22) (.seq (.reg [.q 2 (.mv (.k (.bool false)))]) .ret) .skip)) (.seq (.seq (.reg [.q 3 (.mv (.i 0))]) (.block 0 (.loop (.seq (.seq (.reg [.v 23 3,.v 24 0,.q 25 (.lnS (.t 24)),.q 26 (.bin .lss true (.t 23) (.t 25))]) (.cond (.t 26) .skip (.exit 0))) (.seq (.block 1 (.seq (.reg [.v 29 0,.v 30 3,.a 31 (.ix (.t 29) (.t 30)),.v 4 31]) (.seq (.reg [.v 32 4,.q 33 (.bin .geq true (.t 32) (.k (.int .u8 97))),.v 34 33,⟨some 35,(some (34,true)),.q (.mv (.t 4))⟩,⟨some 36,(some (34,true)),.q (.bin .leq true (.t 35) (.k (.int .u8 122)))⟩,.a 37 (.pick (.t 34) (.t 36) (.k (.bool false))),.v 38 37,⟨some 39,(some (38,false)),.q (.mv (.t 4))⟩,⟨some 40,(some (38,false)),.q (.bin .geq true (.t 39) (.k (.int .u8 65)))⟩,⟨some 41,(some (38,false)),.q (.mv (.t 40))⟩,⟨some 42,(some (41,true)),.q (.mv (.t 4))⟩,⟨some 43,(some (41,true)),.q (.bin .leq true (.t 42) (.k (.int .u8 90)))⟩,⟨some 44,(some (38,false)),.pick (.t 41) (.t 43) (.k (.bool false))⟩,.a 45 (.pick (.t 38) (.k (.bool true)) (.t 44)),.v 46 45,⟨some 47,(some (46,false)),.q (.mv (.t 4))⟩,⟨some 48,(some (46,false)),.q (.bin .geq true (.t 47) (.k (.int .u8 48)))⟩,⟨some 49,(some (46,false)),.q (.mv (.t 48))⟩,⟨some 50,(some (49,true)),.q (.mv (.t 4))⟩,⟨some 51,(some (49,true)),.q (.bin .leq true (.t 50) (.k (.int .u8 57)))⟩,⟨some 52,(some (46,false)),.pick (.t 49) (.t 51) (.k (.bool false))⟩,.a 53 (.pick (.t 46) (.k (.bool true)) (.t 52)),.v 54 53,⟨some 55,(some (54,false)),.q (.mv (.t 4))⟩,⟨some 56,(some (54,false)),.q (.bin .eql true (.t 55) (.k (.int .u8 95)))⟩,.a 57 (.pick (.t 54) (.k (.bool true)) (.t 56)),.q 58 (.not (.t 57))]) (.cond (.t 58) (.seq (.reg [.q 2 (.mv (.k (.bool false)))]) .ret) .skip)))) (.reg [.v 27 3,.q 28 (.bin .add true (.t 27) (.i 1)),.v 3 28])))))) (.seq (.reg [.q 2 (.mv (.k (.bool true)))]) .ret)))
def aCT:List RV:=[.mv (.t 2)]
theorem aKF:aY Tryz.prog true ⟨fun _ _=>.own [],fun _=>false⟩ Tryz.f96=some (aDU,aCT):=by kernel_rfl
def pc99_4:PC:=.seq (.gh (.reg [.v 41 0,.a 42 (.cl 47 [(.t 41),(.i 2)] [0]),.q 43 (.fld1 2 (.t 42)),.v 3 43])) (.seq (.reg [.v 44 0,.a 45 (.cl 46 [(.t 44),(.i 4),(.k (.string (mk [93])))] [0])]) (.seq (.reg [.v 46 3,.v 2 46]) .ret))
@[go_sem ↓] theorem aMV:bT pc99_4:=bY _
def rJ:PC:=.seq (.seq (.gh (.reg [.v 6 0,.q 7 (.nc (.t 6)),.q 8 (.fa 2 (.t 7)),.l 9 (.ld1 (.t 8)),.q 10 (.bin .lss true (.t 9) (.i 0)),.v 11 10,⟨some 12,(some (11,true)),.q (.mv (.t 0))⟩,⟨some 13,(some (11,true)),.q (.nc (.t 12))⟩,⟨some 14,(some (11,true)),.q (.fa 0 (.t 13))⟩,⟨some 15,(some (11,true)),.l (.ld1 (.t 14))⟩,⟨some 16,(some (11,true)),.q (.mv (.t 0))⟩,⟨some 17,(some (11,true)),.q (.nc (.t 16))⟩,⟨some 18,(some (11,true)),.q (.fa 1 (.t 17))⟩,⟨some 19,(some (11,true)),.l (.ld1 (.t 18))⟩,⟨some 20,(some (11,true)),.l (.ia 4 (.t 15) (.t 19))⟩,⟨some 21,(some (11,true)),.q (.fa 0 (.t 20))⟩,⟨some 22,(some (11,true)),.l (.ld1 (.t 21))⟩,⟨some 23,(some (11,true)),.q (.bin .eql true (.t 22) (.i 2))⟩,.a 24 (.pick (.t 11) (.t 23) (.k (.bool false))),.v 25 24,⟨some 26,(some (25,true)),.q (.mv (.t 0))⟩,⟨some 27,(some (25,true)),.q (.nc (.t 26))⟩,⟨some 28,(some (25,true)),.q (.fa 0 (.t 27))⟩,⟨some 29,(some (25,true)),.l (.ld1 (.t 28))⟩,⟨some 30,(some (25,true)),.q (.mv (.t 0))⟩,⟨some 31,(some (25,true)),.q (.nc (.t 30))⟩,⟨some 32,(some (25,true)),.q (.fa 1 (.t 31))⟩,⟨some 33,(some (25,true)),.l (.ld1 (.t 32))⟩,⟨some 34,(some (25,true)),.l (.ia 4 (.t 29) (.t 33))⟩,⟨some 35,(some (25,true)),.q (.fa 2 (.t 34))⟩,⟨some 36,(some (25,true)),.l (.ld1 (.t 35))⟩,⟨some 37,(some (25,true)),.q (.bin .lss true (.t 36) (.i 0))⟩,.a 38 (.pick (.t 25) (.t 37) (.k (.bool false)))])) (.cond (.t 38) (.reg [.v 39 0,.a 40 (.cl 93 [(.t 39)] [0])]) .skip)) (pc99_4)
@[go_sem ↓] theorem aKS:bT rJ:=bY _
def aF1:PC:=.seq (.reg [.q 2 (.mv (.i 0))]) (.seq (.reg [.v 4 0,.a 5 (.cl 46 [(.t 4),(.i 4),(.k (.string (mk [91])))] [0])]) (rJ))
def NR:List RV:=[.mv (.t 2)]
theorem aM2:aY Tryz.prog true ⟨fun r k=>if r=1/\k=1 then .own [0] else if r=3/\k=1 then .own [0] else if r=4/\k=1 then .own [0] else if r=5/\k=1 then .own [0] else .own [],fun r=>[2,4].contains r⟩ Tryz.f99=some (aF1,NR):=by kernel_rfl
def bv (z:Fs):Int:=bif z.bad then (z.off.toNat:Int) else -1
abbrev eE (ts:List Tk) (z:Fs):Hp:=[.cells [.fz (ts.map cQ),.vl (.int .i64 z.n),.vl (.int .i64 (bv z))] 82]
def qW (av0:List S) (V:List Tk->Fs->S) (F:List Tk->Fs->Fs):List S->Hp->(S->Hp->Prop)->Prop:=fun av H K=>
 ∃ ts z,av=.va (.c1 (.pt 0 0)) :: av0/\H=eE ts z/\Tks ts/\z.n < ts.length/\K (V ts z) (eE ts (F ts z))
theorem l6 {av0:List S} {V:List Tk->Fs->S} {F:List Tk->Fs->Fs} {ts:List Tk} {z:Fs} {K:S->Hp->Prop} (h1:Tks ts) (h2:z.n < ts.length) (hK:K (V ts z) (eE ts (F ts z))) :
 qW av0 V F (.va (.c1 (.pt 0 0)) :: av0) (eE ts z) K:=⟨ts,z,rfl,rfl,h1,h2,hK⟩
theorem qT (a:Int) (n:Nat):bv ⟨true,a,n⟩=(a.toNat:Int):=rfl
theorem kR (a:Int) (n:Nat):bv ⟨false,a,n⟩=-1:=rfl
theorem mF:decide ((-1:Int) < 0)=true:=rfl
theorem WV:decide ((0:Int)<=-1)=false:=rfl
theorem m0 (n:Nat):decide ((n:Int) < 0)=false:=decide_eq_false (by omega)
def xS (k:Int) (w:List UInt8) (ts:List Tk) (z:Fs):Fs:=bif aN k w ts z then ⟨false,z.off,z.n + 1⟩ else bP ts z
def BO (k:Int) (ts:List Tk) (z:Fs):Bool:=!z.bad && (aT ts z.n).k == k
def JO (k:Int) (ts:List Tk) (z:Fs):Tk:=bif BO k ts z then aT ts z.n else ⟨0,[],0,0⟩
def A5 (k:Int) (ts:List Tk) (z:Fs):Fs:=bif BO k ts z then ⟨false,z.off,z.n + 1⟩ else bP ts z
def M7:W.Spec:=qW [] DL bP
def E7:W.Spec:=qW [] (fun ts z=>.va (.gs (cQ (aT ts z.n)))) (fun _ z=>z)
def DY:W.Spec:=fun av H K=>∃ k w,qW [iS .i64 k,tS w] (fun ts z=>bS (aN k (bl w) ts z)) (fun _ z=>z) av H K
def oK:W.Spec:=fun av H K=>∃ k w,qW [iS .i64 k,tS w] DL (xS k (bl w)) av H K
def oA:W.Spec:=fun av H K=>∃ k,qW [iS .i64 k] (fun ts z=>.va (.gs (cQ (JO k ts z)))) (A5 k) av H K
def CF:W.Spec:=qW [] (fun ts z=>tS (cB true ts z)) (bJ true)
def VK:W.Spec:=qW [] (fun ts z=>iS .i64 (g9 ts z)) fG
section
variable {ts:List Tk} {z:Fs} {K:S->Hp->Prop}
theorem jG (h1:Tks ts) (h2:z.n < ts.length) (hK:K (.tu []) (eE ts (bP ts z))):M7 [.va (.c1 (.pt 0 0))] (eE ts z) K:=l6 h1 h2 hK
theorem vK (h1:Tks ts) (h2:z.n < ts.length) (hK:K (.va (.gs (cQ (aT ts z.n)))) (eE ts z)):E7 [.va (.c1 (.pt 0 0))] (eE ts z) K:=l6 (F:=fun _ z=>z) h1 h2 hK
theorem rW {k:Int} {w:ByteArray} (h1:Tks ts) (h2:z.n < ts.length) (hK:K (bS (aN k (bl w) ts z)) (eE ts z)):DY [.va (.c1 (.pt 0 0)),iS .i64 k,tS w] (eE ts z) K:=⟨k,w,l6 (F:=fun _ z=>z) h1 h2 hK⟩
theorem eC {k:Int} {w:ByteArray} (h1:Tks ts) (h2:z.n < ts.length) (hK:K (.tu []) (eE ts (xS k (bl w) ts z))):oK [.va (.c1 (.pt 0 0)),iS .i64 k,tS w] (eE ts z) K:=⟨k,w,l6 (F:=xS k (bl w)) h1 h2 hK⟩
theorem lS {k:Int} (h1:Tks ts) (h2:z.n < ts.length) (hK:K (.va (.gs (cQ (JO k ts z)))) (eE ts (A5 k ts z))):oA [.va (.c1 (.pt 0 0)),iS .i64 k] (eE ts z) K:=⟨k,l6 (F:=A5 k) h1 h2 hK⟩
theorem yM (h1:Tks ts) (h2:z.n < ts.length) (hK:K (tS (cB true ts z)) (eE ts (bJ true ts z))):CF [.va (.c1 (.pt 0 0))] (eE ts z) K:=l6 h1 h2 hK
theorem DN (h1:Tks ts) (h2:z.n < ts.length) (hK:K (iS .i64 (g9 ts z)) (eE ts (fG ts z))):VK [.va (.c1 (.pt 0 0))] (eE ts z) K:=l6 h1 h2 hK
end
theorem NN {ts:List Tk} {n:Nat} {k:Int} (h:Tks ts) (hn:n < ts.length) (hk:(aT ts n).k=k) (h0:k ≠ 0):dG ts n=n + 1/\n + 1 < ts.length:=by
 have hne:¬ (n + 1=ts.length):=fun e=>h0 (hk ▸ (h.e.last _ _ (eJ hn)).2 e)
 have hlt:n + 1 < ts.length:=by omega
 exact ⟨if_pos hlt,hlt⟩
theorem AX {k:Int} {w:List UInt8} {ts:List Tk} {z:Fs} (h0:k ≠ 0) (h:Tks ts) (hn:z.n < ts.length):xS k w ts z=bif aN k w ts z then ⟨false,z.off,dG ts z.n⟩ else bP ts z:=by
 unfold xS
 cases hk:aN k w ts z
 · rfl
 · rw [(jV h0 h.e hn hk).1]
theorem gN {w:List UInt8} {ts:List Tk} {z:Fs} (h:Tks ts) (hn:z.n < ts.length):xS 4 w ts z=bG w ts z:=AX (by decide) h hn
theorem JE {ts:List Tk} {z:Fs} (h:Tks ts) (hn:z.n < ts.length):A5 1 ts z=bJ false ts z/\mk (JO 1 ts z).x=cB false ts z:=by
 have e:BO 1 ts z=fO false ts z:=by unfold BO fO; rw [Bool.not_false,Bool.true_or,Bool.and_true]
 unfold A5 JO bJ cB
 rw [<-e]
 cases hb:BO 1 ts z
 · exact ⟨rfl,rfl⟩
 · have:=(NN h hn (eq_of_beq (Bool.and_eq_true_iff.1 hb).2) (by decide)).1
   rw [this]; exact ⟨rfl,rfl⟩
theorem oS {ts:List Tk} {z:Fs} (h:Tks ts) (hn:z.n < ts.length):A5 2 ts z=dU false ts z/\(JO 2 ts z).n=eQ false ts z:=by
 have e:BO 2 ts z=gI false ts z:=by unfold BO gI; rw [Bool.not_false,Bool.true_or,Bool.and_true]
 unfold A5 JO dU eQ
 rw [<-e]
 cases hb:BO 2 ts z
 · exact ⟨rfl,rfl⟩
 · have:=(NN h hn (eq_of_beq (Bool.and_eq_true_iff.1 hb).2) (by decide)).1
   rw [this]; exact ⟨rfl,rfl⟩
theorem uC:Meets Tryz.prog 93 M7:=by
 refine aG Tryz.func93 aMS 1 (by rw [Tryz.ntmps93]; decide) (aB _) (fun av H K h=>by obtain ⟨_,_,rfl,_⟩:=h; rfl) ?_
 rintro av H K ⟨ts,⟨b,a,n⟩,rfl,rfl,ht,hn,hK⟩
 unfold bP DL at hK
 have hle:=ht.e.le
 simp only at hn
 have q1:=aQ (row:=cQ) (eJ hn)
 cases b with
 | true=>
  have hb:=m0 a.toNat
  simp (maxSteps:=9^6) -dsimp only [go_sem,TV,S1,qT,hb]
  exact .done hK
 | false=>
  simp (maxSteps:=9^6) -dsimp only [go_sem,TV,S1,kR,mF,↓q1,cQ]
  exact ⟨⟨by omega,by omega⟩,.done hK⟩
theorem O0:Meets Tryz.prog 48 E7:=by
 refine aG Tryz.func48 aOB 1 (by rw [Tryz.ntmps48]; decide) (aB _) (fun av H K h=>by obtain ⟨_,_,rfl,_⟩:=h; rfl) ?_
 rintro av H K ⟨ts,⟨b,a,n⟩,rfl,rfl,ht,hn,hK⟩
 simp only at hn
 have q1:=aQ (row:=cQ) (eJ hn)
 simp (maxSteps:=9^6) -dsimp only [go_sem,aB6,aFT,↓q1,cQ]
 refine ⟨⟨by omega,by omega⟩,.sel [0] (by simp) (by simp) rfl (.done ?_)⟩
 simpa [go_sem,cQ] using hK
theorem MT:Meets Tryz.prog 49 DY:=by
 refine aG Tryz.func49 aKQ 3 (by rw [Tryz.ntmps49]; decide) (aB _) (fun av H K h=>by obtain ⟨_,_,_,_,rfl,_⟩:=h; rfl) ?_
 rintro av H K ⟨k,w,ts,⟨b,a,n⟩,rfl,rfl,ht,hn,hK⟩
 simp only at hn
 have q1:=aQ (row:=cQ) (eJ hn)
 unfold aN gC at hK
 cases b with
 | true=>
  have hb:=m0 a.toNat
  simp (maxSteps:=9^6) -dsimp only [go_sem,SL,TR,qT,hb]
  exact .done hK
 | false=>
  simp (maxSteps:=9^6) -dsimp only [go_sem,SL,TR,kR,mF,↓q1,cQ]
  refine ⟨⟨by omega,by omega⟩,fun hk=>⟨⟨by omega,by omega⟩,.done ?_⟩,fun hk=>.done ?_⟩
  · simp only [hk,Bool.not_false,Bool.true_and] at hK; exact hK
  · simp only [hk,Bool.not_false,Bool.true_and,Bool.false_and] at hK; exact hK
theorem BH:Meets Tryz.prog 47 oA:=by
 refine aG Tryz.func47 aKY 2 (by rw [Tryz.ntmps47]; decide) (aA uC (aB _)) (fun av H K h=>by obtain ⟨_,_,_,rfl,_⟩:=h; rfl) ?_
 rintro av H K ⟨k,ts,⟨b,a,n⟩,rfl,rfl,ht,hn,hK⟩
 simp only at hn
 have hle:=ht.e.le
 have q1:=aQ (row:=cQ) (eJ hn)
 unfold JO A5 BO at hK
 cases b with
 | true=>
  have hb:=m0 a.toNat
  simp (maxSteps:=9^6) -dsimp only [go_sem,S3,TZ,qT,hb]
  refine jG (z:=⟨true,a,n⟩) ht hn ?_
  simp (maxSteps:=9^6) -dsimp only [go_sem]
  refine .sel [0] (by simp) (by simp) rfl (.done ?_)
  simpa [go_sem,cQ] using hK
 | false=>
  simp (maxSteps:=9^6) -dsimp only [go_sem,S3,TZ,kR,mF,↓q1,cQ]
  refine ⟨⟨by omega,by omega⟩,fun hk=>⟨⟨by omega,by omega⟩,⟨by omega,by omega⟩,⟨by omega,by omega⟩,fun x hx=>?_⟩,fun hk=>jG (z:=⟨false,a,n⟩) ht hn ?_⟩
  · rw [show ((n:Int) + 1 - 1).toNat=n by omega,eJ hn] at hx
    obtain rfl:=bK hx
    simp only [hk,Bool.not_false,Bool.true_and,aK,cQ] at hK
    refine .sel [0] (by simp) (by simp) rfl (.done ?_)
    simp -dsimp only [go_sem]
    exact hK
  · simp only [hk] at hK
    simp (maxSteps:=9^6) -dsimp only [go_sem]
    refine .sel [0] (by simp) (by simp) rfl (.done ?_)
    simpa [go_sem,cQ] using hK
theorem uY:Meets Tryz.prog 46 oK:=by
 refine aG Tryz.func46 aJ7 3 (by rw [Tryz.ntmps46]; decide) (aA MT (aA uC (aB _))) (fun av H K h=>by obtain ⟨_,_,_,_,rfl,_⟩:=h; rfl) ?_
 rintro av H K ⟨k,w,ts,z,rfl,rfl,ht,hn,hK⟩
 have hle:=ht.e.le
 unfold xS DL at hK
 simp (maxSteps:=9^6) -dsimp only [go_sem,aEO,aBX]
 refine rW ht hn ?_
 cases hk:aN k (bl w) ts z with
 | true=>
  rw [hk,aK] at hK
  have hb:z.bad=false:=by unfold aN at hk; cases h:z.bad; rfl; rw [h] at hk; cases hk
  simp (maxSteps:=9^6) -dsimp only [go_sem]
  refine ⟨by omega,.done ?_⟩
  rw [show bv z=-1 by unfold bv; rw [hb]; rfl]
  exact hK
 | false=>
  rw [hk,aF] at hK
  simp (maxSteps:=9^6) -dsimp only [go_sem]
  refine jG ht hn ?_
  simp (maxSteps:=9^6) -dsimp only [go_sem]
  exact .done hK
theorem aGJ {ts:List Tk} {z:Fs} (h1:z.bad=false) (h2:((aT ts z.n).k == 2)=true) (h3:decide ((aT ts z.n).n < 0)=true):dU true ts z=bP ts z/\eQ true ts z=0/\dU false ts (bP ts z)=bP ts z/\eQ false ts (bP ts z)=0:=by
 have e:gI true ts z=false:=by unfold gI; rw [h1,h2]; have:=of_decide_eq_true h3; simp; omega
 have e2:gI false ts (bP ts z)=false:=by unfold gI bP; rw [h1]; rfl
 unfold dU eQ
 rw [e,e2]
 refine ⟨rfl,rfl,?_,rfl⟩
 show bP ts (bP ts z)=_
 unfold bP; rw [h1]; rfl
theorem OP {ts:List Tk} {z:Fs} (h:z.bad=true\/((aT ts z.n).k == 2)=false\/decide ((aT ts z.n).n < 0)=false):dU true ts z=dU false ts z/\eQ true ts z=eQ false ts z:=by
 have e:gI true ts z=gI false ts z:=by
  unfold gI
  rcases h with h | h | h
  · rw [h]; rfl
  · rw [h]; simp
  · have:=of_decide_eq_false h
    rw [show decide (0<=(aT ts z.n).n)=true from decide_eq_true (by omega)]; simp
 unfold dU eQ
 rw [e]; exact ⟨rfl,rfl⟩
theorem aFY:Meets Tryz.prog 99 VK:=by
 refine aG Tryz.func99 aM2 1 (by rw [Tryz.ntmps99]; decide) (aA uY (aA BH (aA uC (aB _)))) (fun av H K h=>by obtain ⟨_,_,rfl,_⟩:=h; rfl) ?_
 rintro av H K ⟨ts,z,rfl,rfl,ht,hn,hK⟩
 have hK:K (iS .i64 (eQ true ts (bG [91] ts z))) (eE ts (bG [93] ts (dU true ts (bG [91] ts z)))):=hK
 simp (maxSteps:=9^6) -dsimp only [go_sem,aF1,NR]
 refine eC ht hn ?_
 rw [show bl (mk [91])=[91] from rfl,gN ht hn]
 simp (maxSteps:=9^6) -dsimp only [go_sem]
 have hn1:=(cF (w:=[91]) hn).2
 generalize bG [91] ts z=z1 at *
 obtain ⟨b,a,n⟩:=z1
 simp only at hn1
 have q1:=aQ (row:=cQ) (eJ hn1)
 have tail:∀ z2:Fs,z2.n < ts.length->dU false ts z2=dU true ts ⟨b,a,n⟩->eQ false ts z2=eQ true ts ⟨b,a,n⟩->
  vc [(46,Entry.s oK),(47,Entry.s oA),(93,Entry.s M7)] 1 pc99_4.ungh (cJ [(0,.va (.c1 (.pt 0 0)))]) (eE ts z2) (eO 1 NR K):=fun z2 h1 h2 h3=>by
  rw [<-h2,<-h3,<-(oS ht h1).1,<-(oS ht h1).2] at hK
  simp (maxSteps:=9^6) -dsimp only [go_sem,pc99_4,NR]
  refine lS ht h1 ?_
  simp (maxSteps:=9^6) -dsimp only [go_sem,cQ]
  have h4:(A5 2 ts z2).n < ts.length:=by rw [(oS ht h1).1]; exact (j3 h1).2
  refine eC ht h4 ?_
  rw [show bl (mk [93])=[93] from rfl,gN ht h4]
  simp (maxSteps:=9^6) -dsimp only [go_sem]
  exact .done hK
 refine cA (up:=[(0,.va (.c1 (.pt 0 0)))]) (Hs:=eE ts ⟨b,a,n⟩) 1 ?_ ?_ ?_
 case refine_2=>simp -dsimp only [go_sem]<;>simp
 case refine_3=>simp -dsimp only [go_sem]<;>simp
 cases b with
 | true=>
  have hb:=m0 a.toNat
  simp (maxSteps:=9^6) -dsimp only [go_sem,rJ,qT,hb]
  obtain ⟨e1,e2⟩:=OP (ts:=ts) (z:=⟨true,a,n⟩) (.inl rfl)
  refine cA 1 (tail ⟨true,a,n⟩ hn1 e1.symm e2.symm) ?_ ?_
  · simp -dsimp only [go_sem]<;>simp
  · simp -dsimp only [go_sem,qT]<;>simp [bv]
 | false=>
  cases h2:(aT ts n).k == 2 with
  | false=>
   simp (maxSteps:=9^6) -dsimp only [go_sem,rJ,kR,mF,↓q1,cQ,h2]
   obtain ⟨e1,e2⟩:=OP (ts:=ts) (z:=⟨false,a,n⟩) (.inr (.inl h2))
   refine ⟨by omega,cA 1 (tail ⟨false,a,n⟩ hn1 e1.symm e2.symm) ?_ ?_⟩
   · simp -dsimp only [go_sem]<;>simp
   · simp -dsimp only [go_sem]<;>simp [bv]
  | true=>
   cases h3:decide ((aT ts n).n < 0) with
   | false=>
    simp (maxSteps:=9^6) -dsimp only [go_sem,rJ,kR,mF,↓q1,cQ,h2,h3]
    obtain ⟨e1,e2⟩:=OP (ts:=ts) (z:=⟨false,a,n⟩) (.inr (.inr h3))
    refine ⟨by omega,by omega,cA 1 (tail ⟨false,a,n⟩ hn1 e1.symm e2.symm) ?_ ?_⟩
    · simp -dsimp only [go_sem]<;>simp
    · simp -dsimp only [go_sem]<;>simp [bv]
   | true=>
    simp (maxSteps:=9^6) -dsimp only [go_sem,rJ,kR,mF,↓q1,cQ,h2,h3]
    obtain ⟨e1,e2,e3,e4⟩:=aGJ (ts:=ts) (z:=⟨false,a,n⟩) rfl h2 h3
    refine ⟨by omega,by omega,jG (z:=⟨false,a,n⟩) ht hn1 ?_⟩
    simp (maxSteps:=9^6) -dsimp only [go_sem]
    refine cA 1 (tail (bP ts ⟨false,a,n⟩) (by rw [jC]; exact hn1) (by rw [e1,e3]) (by rw [e2,e4])) ?_ ?_
    · simp -dsimp only [go_sem]<;>simp
    · simp -dsimp only [go_sem]<;>simp
def wInt:List UInt8:=[105,110,116]
def wUint:List UInt8:=[117,105,110,116]
def jY (x:List UInt8):Bool:=match x with | b :: _=>decide (65<=b) && decide (b<=90) | []=>false
def LJ (t:Ty):List UInt8:=bif bl t.n == [] && (t.s == 8 || t.s == 16 || t.s == 32 || (t.s == 64 && t.k == 2)) then wInt ++ bU t.s else []
def HG (t:Ty):List UInt8:=bif t.s == 0 && bX (bl t.n) && jY (bl t.n) then bl t.n else []
theorem aB0 {A:Bool} {x:List UInt8} {c1 c2:UInt8} (h1:A=true->x[0]? = some c1) (h2:(A && decide (65<=(c1.toNat:Int)))=true->x[0]? = some c2):(A && decide (65<=(c1.toNat:Int)) && decide ((c2.toNat:Int)<=90))=(A && jY x):=by
 cases A
 · rfl
 have h1:=h1 rfl
 match x,h1 with
 | b :: r,h1=>
  obtain rfl:b=c1:=bK h1
  have e1:decide (65<=(b.toNat:Int))=decide (65<=b):=decide_eq_decide.2 (by rw [UInt8.le_iff_toNat_le]; exact Int.ofNat_le (m:=65))
  rw [e1] at h2 ⊢
  unfold jY
  cases h3:decide (65<=b)
  · simp only [h3]; rfl
  · rw [h3] at h2
    obtain rfl:b=c2:=bK (h2 rfl)
    simp only [Bool.true_and,h3]
    exact decide_eq_decide.2 (show ((b.toNat:Int)<=((90:Nat):Int)) ↔ b<=90 from Int.ofNat_le.trans (UInt8.le_iff_toNat_le (b:=90)).symm)
theorem JM {x:List UInt8} {A:Bool} (h:(A && bX x)=true):0 < x.length:=by
 rw [Bool.and_eq_true] at h
 match x,h.2 with
 | _ :: _,_=>simp
def kO (t:Ty):List UInt8:=
 bif decide (0 < (t.e.length:Int)) then [] else
 bif t.k == 1 then bif t.s == 0 && bl t.n == [] then gD else [] else
 bif t.k == 3 then bif bl t.n == [] && (t.s == 8 || t.s == 16 || t.s == 32 || (t.s == 64 && t.k == 2)) then wUint ++ bU t.s else [] else
 bif t.k == 2 then LJ t else
 bif t.k == 4 then bif decide (0<=t.s) && bl t.n == [] then wText ++ [91] ++ bU t.s ++ [93] else [] else
 bif t.k == 6 || t.k == 7 then HG t else []
noncomputable def pxFn:Fun:=p7 fZ C.ty fun t=>.string (mk (kO t))
attribute [go_sem] pxFn
theorem N7:Meets Tryz.prog 53 pxFn.sp:=by
 refine aG Tryz.func53 aLK 1 (by rw [Tryz.ntmps53]; decide) (aI FF (aI wN (aB _))) kK ?_
 rintro av H K ⟨⟨h,rfl⟩,hK⟩
 obtain ⟨_,rfl,t,rfl,hs⟩:=fT h
 have hK:K (tS (mk (kO t))) []:=by
  have:pxFn.val [.va (.gs (aP t))]=tA (mk (kO t)):=by simp -dsimp only [go_sem]
  rw [this] at hK; exact hK
 clear h
 have fin:∀ (x:List UInt8) (R:Hp),kO t=x->W.Fin 0 K (tS (mk x)) R:=fun x R h1=>by
  rw [h1] at hK
  exact .z (hK)
 simp (maxSteps:=9^6) -dsimp only [go_sem,aEG,aEK,bM t]
 have hsn:dS t.s:=hs.s
 have hln:(bl t.n).length<=9223372036854775807:=hs.n
 have hd:(bU t.s).length<=21:=kG hsn.1 hsn.2
 repeat' first | (intro _) | (refine And.intro ?_ ?_)
 all_goals first
  | exact hsn.1
  | exact hsn.2
  | omega
  | exact Int.ofNat_lt.2 (JM ‹(t.s == 0 && bX (bl t.n))=true›)
  | exact Int.ofNat_lt.2 (JM (Bool.and_eq_true_iff.1 ‹(t.s == 0 && bX (bl t.n) && _)=true›).1)
  | (refine fin _ _ ?_; unfold kO; simp only [*,aK,aF,Bool.or_true,Bool.true_or]; done)
  | (refine fin _ _ ?_; unfold kO; simp only [*,aK,aF,Bool.or_true,Bool.true_or]; rfl)
  | (refine fin _ _ ?_; unfold kO; simp only [*,aK,aF,Bool.or_true,Bool.true_or]; unfold LJ; rename_i h; rw [h]; rfl)
  | (refine fin _ _ ?_; unfold kO; simp only [*,aK,aF,Bool.or_true,Bool.true_or]; unfold HG; rename_i q1 _ q2 q; rw [<-aB0 q1 q2,q]; rfl)
  | (simp [*]; done)
  | (simp_all; done)
  | skip
def wOfs:List UInt8:=[93,32,111,102,32]
def tZ (s:Int):List UInt8:=[108,105,115,116,91] ++ (bU s ++ wOfs)
def dX:Nat->Ty->List UInt8
 | f,t=>bif t.k == 5 then (match f with
  | 0=>[]
  | f + 1=>bif decide (t.s < 0) || !(bl t.n == []) || (t.e.length:Int) != 1 then [] else
   bif dX f (t.e.headD default) == [] then [] else tZ t.s ++ dX f (t.e.headD default)) else kO t
noncomputable def txFn:Fun:=p7 fZ C.ty fun t=>.string (mk (dX 6 t))
attribute [go_sem] txFn
theorem kT {f:Nat} {t:Ty} (h:(t.k == 5)=false):dX f t=kO t:=by unfold dX; rw [h]; rfl
theorem zO {t:Ty} (h:(t.k == 5)=true):dX 0 t=[]:=by unfold dX; rw [h]; rfl
theorem lN {f:Nat} {t:Ty} (h:(t.k == 5)=true):dX (f + 1) t=bif decide (t.s < 0) || !(bl t.n == []) || (t.e.length:Int) != 1 then [] else
 bif dX f (t.e.headD default) == [] then [] else tZ t.s ++ dX f (t.e.headD default):=by rw [dX,h]; rfl
theorem jA {b:Bool} {x y:List UInt8} {n:Nat} (hx:x.length<=n) (hy:y.length<=n):(bif b then x else y).length<=n:=by cases b<;>assumption
theorem W3 (t:Ty):(HG t).length<=30:=by
 unfold HG
 cases h:t.s == 0 && bX (bl t.n) && jY (bl t.n)
 · exact Nat.zero_le _
 · rw [Bool.and_eq_true,Bool.and_eq_true] at h
   have:=lG h.1.2
   rw [aK]; omega
theorem CR {t:Ty} (h:dS t.s):(kO t).length<=30:=by
 have hd:(bU t.s).length<=21:=kG h.1 h.2
 have h0:([]:List UInt8).length<=30:=by decide
 unfold kO LJ
 refine jA h0 (jA (jA (by decide) h0) (jA (jA ?_ h0) (jA (jA ?_ h0) (jA (jA ?_ h0) (jA (W3 t) h0)))))
 · rw [List.length_append,show wUint.length=4 from rfl]; omega
 · rw [List.length_append,show wInt.length=3 from rfl]; omega
 · rw [List.length_append,List.length_append,List.length_append,show wText.length=4 from rfl]; simp only [List.length_singleton]; omega
theorem QP:Meets Tryz.prog 16 txFn.sp:=by
 refine aG Tryz.func16 aOH 1 (by rw [Tryz.ntmps16]; decide) (aI FF (aI N7 (aB _))) kK ?_
 rintro av H K ⟨⟨h,rfl⟩,hK⟩
 obtain ⟨_,rfl,t,rfl,hs⟩:=fT h
 have hK:K (tS (mk (dX 6 t))) []:=by
  have:txFn.val [.va (.gs (aP t))]=tA (mk (dX 6 t)):=by simp -dsimp only [go_sem]
  rw [this] at hK; exact hK
 clear h
 have fin:∀ (x:List UInt8) (R:Hp),dX 6 t=x->W.Fin 0 K (tS (mk x)) R:=fun x R h1=>by
  rw [h1] at hK
  exact .z (hK)
 simp (maxSteps:=9^6) -dsimp only [go_sem,aFE,aAN,bM t]
 refine cI (α:=Nat × List UInt8 × Ty) (fun x=>[(1,.va (.c1 (.pt 0 0))),(2,tS (mk [])),(3,tS (mk x.2.1)),(4,iS .i64 (6 - x.1:Int))])
  (fun x=>[.cells (aP x.2.2) 37])
  (fun x=>x.1<=6/\x.2.1.length + 31 * x.1<=186/\TyOk x.2.2/\dX 6 t=bif dX x.1 x.2.2 == [] then [] else x.2.1 ++ dX x.1 x.2.2)
  (fun x=>x.1) (hY (6,[],t) 1 ⟨by simp,by simp,hs,?_⟩ ?_ ?_) ?_
 · show _=bif dX 6 t == [] then [] else [] ++ dX 6 t
   cases h:dX 6 t == []
   · rfl
   · exact eq_of_beq h
 · simp -dsimp only [go_sem]<;>simp
 · simp -dsimp only [go_sem]<;>simp [bM t]
 rintro ⟨f,out,u⟩ ⟨h1,h2,h3,h4⟩
 simp only at h1 h2 h3 h4
 have hsn:=h3.s
 have hd:(bU u.s).length<=21:=kG hsn.1 hsn.2
 simp (maxSteps:=9^6) -dsimp only [go_sem,bM u]
 have hplen:=CR hsn
 refine ⟨fun hk=>⟨fun hc=>?_,fun hc=>⟨⟨hsn.1,hsn.2⟩,by omega,by omega,by omega,⟨⟨by omega,?_⟩,fun x hx=>dF x⟩,fun x hx=>⟨by rw [dF]; decide,⟨fun c hc=>(vH _ c hc).2,dF _⟩,by rw [dF]; decide,?_⟩⟩⟩,fun hk=>?_⟩
 · refine fin _ _ ?_
   match f,h1,h2,h4,hc with
   | 0,_,_,h4,_=>rw [h4,zO hk]; rfl
   | f + 1,h1,_,h4,hc=>
    rw [show ((6 - ((f + 1:Nat):Int)) == 6)=false from beq_eq_false_iff_ne.2 (by omega),Bool.or_false] at hc
    rw [h4,lN hk,hc]; rfl
 · simp only [Bool.or_eq_false_iff] at hc
   have:=hc.1.2
   rw [bne_eq_false_iff_eq] at this
   omega
 · match f,h1,h2,h4,hc with
   | 0,_,_,_,hc=>simp at hc
   | f + 1,h1,h2,h4,hc=>
    rw [show ((6 - ((f + 1:Nat):Int)) == 6)=false from beq_eq_false_iff_ne.2 (by omega),Bool.or_false] at hc
    rw [lN hk,hc,aF] at h4
    have he:u.e.headD default=x:=by
     cases hu:u.e with
     | nil=>rw [hu] at hx; cases hx
     | cons a r=>rw [hu] at hx; exact bK hx
    rw [he] at h4
    refine ⟨by omega,?_⟩
    refine aC (f,out ++ tZ u.s,x) 1 ⟨by omega,?_,h3.e x (bW hx),?_⟩ (by simp) ?_ ?_
    · simp only [tZ,List.length_append,show wOfs.length=5 from rfl,List.length_cons,List.length_nil] at h2 ⊢
      omega
    · rw [h4]
      cases hq:dX f x == []
      · rw [aF,aF,List.append_assoc]
        rw [show (tZ u.s ++ dX f x == [])=false by simp [tZ]]
        rfl
      · rw [aK,aK]; rfl
    · simp -dsimp only [go_sem,tZ,wOfs]<;>simp [tZ,wOfs]
      omega
    · simp -dsimp only [go_sem]<;>simp [bM x]
 · rw [kT hk] at h4
   rw [show C.ty [C.vl (Value.int IntKind.i64 u.k),C.vl (Value.int IntKind.i64 u.s),C.vl (Value.string u.n),C.fz (List.map aP u.e)]=u by rw [<-bM u]; exact jS u]
   refine ⟨⟨u,(bM u).symm,h3⟩,fun hc=>fin _ _ ?_,fun hc=>⟨by omega,fin _ _ ?_⟩⟩
   · rw [h4,hc]; rfl
   · rw [h4,hc]; rfl
structure EnG (e:En):Prop where
 n:fN (bl e.nm)=true
 p:0 < e.ns.length
 l:e.ns.length=e.vs.length
 m:e.ns.length<=16
 a:∀ n ∈ e.ns,bX (bl n)=true
 b:∀ v ∈ e.vs,0<=v/\v<=127
structure StG (ss:List St) (es:List En) (t:St):Prop where
 n:fN (bl t.nm)=true
 m:t.fs.length<=16
 f:∀ f ∈ t.fs,(1<=f.num/\f.num<=127)/\bX (bl f.nm)=true/\valF ss es f.ty=true
structure ScG (s:Sc):Prop where
 v:1<=s.ver/\s.ver<=999
 l:s.es.length<=16/\s.ss.length<=16
 a:∀ e ∈ s.es,EnG e
 b:∀ t ∈ s.ss,StG s.ss s.es t
theorem WT {e:En} {k:Nat} {n:ByteArray} {v:Int} (h1:e.ns[k]? = some n) (h2:e.vs[k]? = some v) (h:gU e k=0):bX (bl n)=true/\0<=v/\v<=127:=by
 unfold gU at h
 rw [h1,h2] at h
 simp only at h
 cases c1:bX (bl n) with
 | false=>rw [c1] at h; simp at h
 | true=>
 rw [c1] at h
 simp only [Bool.not_true,aF] at h
 cases c2:cO (e.ns.take k) n with
 | true=>rw [c2] at h; simp at h
 | false=>
 rw [c2,aF] at h
 cases c3:decide (v < 0) || decide (127 < v) with
 | true=>rw [c3] at h; simp at h
 | false=>
 simp only [Bool.or_eq_false_iff,decide_eq_false_iff_not] at c3
 exact ⟨rfl,by omega,by omega⟩
theorem XP {e:En} (h:nJ e=0):0 < e.ns.length/\e.ns.length=e.vs.length/\∀ i < e.ns.length,gU e i=0:=by
 unfold nJ at h
 cases c:decide (e.ns.length=0) || decide (e.ns.length ≠ e.vs.length) with
 | true=>rw [c] at h; simp at h
 | false=>
 rw [c,aF] at h
 simp only [Bool.or_eq_false_iff,decide_eq_false_iff_not,Decidable.not_not] at c
 exact ⟨by omega,c.2,oU (m:=e.ns.length) h⟩
theorem KP {s:Sc} (hf:s.fit) (h:cG s=0):ScG s:=by
 obtain ⟨_,_,h2,h3,h4,h5,h6,_⟩:=zJ hf h
 obtain ⟨l1,l2,l3,l4⟩:=xP h4
 refine ⟨⟨h5,h6⟩,⟨l1,by omega⟩,fun e he=>?_,fun t ht=>?_⟩
 · obtain ⟨i,hi⟩:=List.mem_iff_getElem?.1 he
   obtain ⟨n1,_,n3⟩:=YN hi (oU h2 i (bC.1 hi).1)
   obtain ⟨g1,g2,g3⟩:=XP n3
   refine ⟨n1,g1,g2,l3 e he,fun n hn=>?_,fun v hv=>?_⟩
   · obtain ⟨k,hk⟩:=List.mem_iff_getElem?.1 hn
     have hl:=(bC.1 hk).1
     exact (WT hk (bB (l:=e.vs) (i:=k) (by omega)) (g3 k hl)).1
   · obtain ⟨k,hk⟩:=List.mem_iff_getElem?.1 hv
     have hl:=(bC.1 hk).1
     exact (WT (bB (l:=e.ns) (i:=k) (by omega)) hk (g3 k (by omega))).2
 · obtain ⟨i,hi⟩:=List.mem_iff_getElem?.1 ht
   obtain ⟨n1,n2⟩:=BV hi (oU h3 i (bC.1 hi).1)
   exact ⟨(CK n1).1,l4 t ht,fun f hf=>KY n2 f hf⟩
theorem uP {x:List UInt8} (h:fN x=true):bX x=true:=by unfold fN at h; rw [Bool.and_eq_true] at h; exact h.1
def tR:Nat->List ByteArray->List Int->List UInt8
 | k,n :: ns,v :: vs=>(bif decide (0 < (k:Int)) then [44,32] else []) ++ (bl n ++ ([32,61,32] ++ bU v)) ++ tR (k + 1) ns vs
 | _,_,_=>[]
def wEnumB:List UInt8:=[101,110,117,109,32]
def wStB:List UInt8:=[115,116,114,117,99,116,32]
def wVerB:List UInt8:=[118,101,114,115,105,111,110,32]
def zS (e:En):List UInt8:=wEnumB ++ (bl e.nm ++ [32,123,32]) ++ (tR 0 e.ns e.vs ++ [32,125,10])
def rQ (f:Fl):List UInt8:=[32,32] ++ (bU f.num ++ ([32] ++ (bl f.nm ++ ([58,32] ++ dX 6 f.ty)))) ++ ((bif f.opt then [63] else []) ++ [59,10])
def rY (t:St):List UInt8:=wStB ++ (bl t.nm ++ [32,123,10]) ++ (t.fs.flatMap rQ ++ [125,10])
def j8 (s:Sc):List UInt8:=bif cG s != 0 then [] else wVerB ++ (bU s.ver ++ [59,10]) ++ (s.es.flatMap zS ++ s.ss.flatMap rY)
noncomputable def fmFn:Fun:=p7 k9 C.sc fun s=>.string (mk (j8 s))
attribute [go_sem] fmFn
theorem W7:∀ (f:Nat) (t:Ty),TyOk t->(dX f t).length<=30 + 31 * f:=fun f=>by
 induction f with
 | zero=>
  intro t ht
  cases h:t.k == 5
  · rw [kT h]; exact CR ht.s
  · rw [zO h]; exact Nat.zero_le _
 | succ f ih=>
  intro t ht
  cases h:t.k == 5
  · rw [kT h]; have:=CR ht.s; omega
  · rw [lN h]
    cases c:decide (t.s < 0) || !(bl t.n == []) || (t.e.length:Int) != 1
    · rw [aF]
      refine jA (Nat.zero_le _) ?_
      have hd:(bU t.s).length<=21:=kG ht.s.1 ht.s.2
      have hu:TyOk (t.e.headD default):=by
       simp only [Bool.or_eq_false_iff,bne_eq_false_iff_eq] at c
       match he:t.e with
       | []=>rw [he] at c; simp at c
       | a :: r=>exact ht.e a (by rw [he]; exact List.mem_cons_self ..)
      have:=ih _ hu
      simp only [tZ,List.length_append,show wOfs.length=5 from rfl,List.length_cons,List.length_nil]
      omega
    · exact Nat.zero_le _
theorem yG (k:Nat) (n:ByteArray) (ns:List ByteArray) (v:Int) (vs:List Int):tR k (n :: ns) (v :: vs)=(bif decide (0 < (k:Int)) then [44,32] else []) ++ (bl n ++ ([32,61,32] ++ bU v)) ++ tR (k + 1) ns vs:=rfl
theorem LP:Meets Tryz.prog 10 fmFn.sp:=by
 refine aG Tryz.func10 aKO 1 (by rw [Tryz.ntmps10]; decide) (aI FF (aI QP (aI P9 (aB _)))) kK ?_
 rintro av H K ⟨⟨h,rfl⟩,hK⟩
 obtain ⟨_,rfl,s,rfl,hs⟩:=fT h
 have hK:K (tS (mk (j8 s))) []:=by
  have:fmFn.val [.va (.gs (aD s))]=tA (mk (j8 s)):=by simp -dsimp only [go_sem]
  rw [this] at hK; exact hK
 clear h
 have fin:∀ (x:List UInt8) (R:Hp),j8 s=x->W.Fin 0 K (tS (mk x)) R:=fun x R h1=>by
  rw [h1] at hK
  exact .z (hK)
 simp (maxSteps:=9^6) -dsimp only [go_sem,aD,Z5,aE3]
 rw [show C.sc [C.vl (Value.int IntKind.i64 s.ver),C.fz (List.map aO s.es),C.fz (List.map aL s.ss)]=s from f6 s]
 refine ⟨⟨_,rfl,hs⟩,fun hc=>fin _ _ (by unfold j8; rw [hc]; rfl),fun hc=>?_⟩
 have g:=KP hs (bne_eq_false_iff_eq.1 hc)
 have hfm:j8 s=wVerB ++ (bU s.ver ++ [59,10]) ++ (s.es.flatMap zS ++ s.ss.flatMap rY):=by unfold j8; rw [hc]; rfl
 have hvi:=hs.ok.ver
 have hdv:(bU s.ver).length<=21:=kG hvi.1 hvi.2
 have hl16:=g.l
 refine ⟨⟨hvi.1,hvi.2⟩,by omega,by omega,?_⟩
 refine cI (α:=Nat × List UInt8) (fun z=>[(1,.va (.c1 (.pt 0 0))),(2,tS (mk [])),(3,tS (mk z.2)),(21,.va (.c1 (.fz (s.es.map aO)))),(22,iS .i64 s.es.length),(23,iS .i64 z.1)]) (fun z=>[.cells (aD s) 25])
  (fun z=>z.1<=s.es.length/\j8 s=z.2 ++ ((s.es.drop z.1).flatMap zS ++ s.ss.flatMap rY)/\z.2.length<=40 + 1000 * z.1) (fun z=>s.es.length - z.1) (hY (0,wVerB ++ (bU s.ver ++ [59,10])) 1 ⟨Nat.zero_le _,hfm,?_⟩ ?_ ?_) ?_
 · simp only [List.length_append,show wVerB.length=8 from rfl,List.length_cons,List.length_nil]; omega
 · simp -dsimp only [go_sem,wVerB]<;>simp
 · simp -dsimp only [go_sem,aD]<;>simp
 rintro ⟨i,out⟩ ⟨hi,ho,hol⟩
 simp only at hi ho hol
 rcases bL i s.es.length with hlt | hge
 · have hg:decide ((i:Int) < (s.es.length:Int))=true:=by simp; omega
   obtain ⟨e,he⟩:∃ a,s.es[i]? = some a:=⟨_,bB hlt⟩
   have ge:=g.a e (bW he)
   have q1:=aQ (row:=aO) he
   have hnl:=lG (uP ge.n)
   have hnl':=ge.m
   have hvl:=ge.l
   rw [List.drop_eq_getElem_cons hlt,show s.es[i]=e from (bC.1 he).2,List.flatMap_cons] at ho
   simp (maxSteps:=9^6) -dsimp only [go_sem,aD,hg,↓q1,aO]
   refine ⟨by omega,by omega,by omega,by omega,?_⟩
   have hg0:=hg
   refine cI (α:=Nat × List UInt8) (fun z=>[(1,.va (.c1 (.pt 0 0))),(2,tS (mk [])),(3,tS (mk z.2)),(21,.va (.c1 (.fz (s.es.map aO)))),(22,iS .i64 s.es.length),(23,iS .i64 i),(5,.va (.c1 (.pt 1 0))),(34,.va (.c1 (.fz (e.ns.map bQ)))),(35,iS .i64 e.ns.length),(36,iS .i64 z.1)]) (fun z=>[.cells (aD s) 25,.cells (aO e) 62])
    (fun z=>z.1<=e.ns.length/\j8 s=z.2 ++ (tR z.1 (e.ns.drop z.1) (e.vs.drop z.1) ++ ([32,125,10] ++ ((s.es.drop (i + 1)).flatMap zS ++ s.ss.flatMap rY)))/\z.2.length<=100 + 1000 * i + 50 * z.1) (fun z=>e.ns.length - z.1) (hY (0,out ++ (wEnumB ++ (bl e.nm ++ [32,123,32]))) 2 ⟨Nat.zero_le _,?_,?_⟩ ?_ ?_) ?_
   · rw [ho]; simp [zS]
   · simp only [List.length_append,show wEnumB.length=5 from rfl,List.length_cons,List.length_nil]; omega
   · simp -dsimp only [go_sem,wEnumB]<;>simp
   · simp -dsimp only [go_sem,aD,aO]<;>simp
   clear ho hol
   rintro ⟨k,out⟩ ⟨hk,ho,hol⟩
   simp only at hk ho hol
   rcases bL k e.ns.length with hkt | hkg
   · have hg:decide ((k:Int) < (e.ns.length:Int))=true:=by simp; omega
     obtain ⟨n,hn⟩:∃ a,e.ns[k]? = some a:=⟨_,bB hkt⟩
     obtain ⟨v,hv⟩:∃ a,e.vs[k]? = some a:=⟨_,bB (by omega)⟩
     have q1:=aQ (row:=bQ) hn
     have q2:=aQ (row:=eD) hv
     have hnn:=lG (ge.a n (bW hn))
     have hvv:=ge.b v (bW hv)
     have hdl:(bU v).length<=21:=kG (by omega) (by omega)
     rw [List.drop_eq_getElem_cons hkt,show e.ns[k]=n from (bC.1 hn).2,List.drop_eq_getElem_cons (show k < e.vs.length by omega),show e.vs[k]=v from (bC.1 hv).2,yG] at ho
     simp (maxSteps:=9^6) -dsimp only [go_sem,aD,hg,↓q1,↓q2,aO]
     have hE:∀ (o:List UInt8),(k=0->o=out)->(0 < k->o=out ++ [44,32])->j8 s=o ++ (bl n ++ ([32,61,32] ++ bU v)) ++ (tR (k + 1) (e.ns.drop (k + 1)) (e.vs.drop (k + 1)) ++ ([32,125,10] ++ ((s.es.drop (i + 1)).flatMap zS ++ s.ss.flatMap rY))):=fun o h0 h1=>by
      rw [ho]
      rcases Nat.eq_zero_or_pos k with hz | hz
      · rw [h0 hz,decide_eq_false (show ¬ 0 < (k:Int) by omega)]; simp
      · rw [h1 hz,decide_eq_true (show 0 < (k:Int) by omega)]; simp
     refine ⟨by omega,fun hc=>⟨by omega,by omega,by omega,by omega,by omega,by omega,by omega,?_⟩,fun hc=>⟨by omega,by omega,by omega,by omega,by omega,by omega,?_⟩⟩
     · have hk0:0 < k:=by have:=of_decide_eq_true hc; omega
       refine aC (k + 1,(out ++ [44,32]) ++ (bl n ++ ([32,61,32] ++ bU v))) 2 ⟨hkt,hE _ (fun h=>by omega) fun _=>rfl,?_⟩ (by simp only; omega) ?_ ?_
       · simp only [List.length_append,List.length_cons,List.length_nil]; omega
       · simp -dsimp only [go_sem]<;>simp
       · simp -dsimp only [go_sem,aD,aO]<;>simp
     · have hk0:k=0:=by have:=of_decide_eq_false hc; omega
       refine aC (k + 1,out ++ (bl n ++ ([32,61,32] ++ bU v))) 2 ⟨hkt,hE _ (fun _=>rfl) fun h=>by omega,?_⟩ (by simp only; omega) ?_ ?_
       · simp only [List.length_append,List.length_cons,List.length_nil]; omega
       · simp -dsimp only [go_sem]<;>simp
       · simp -dsimp only [go_sem,aD,aO]<;>simp
   · obtain rfl:k=e.ns.length:=by omega
     have hg:decide ((e.ns.length:Int) < (e.ns.length:Int))=false:=by simp
     simp (maxSteps:=9^6) -dsimp only [go_sem,aD,hg,aO]
     rw [List.drop_length,show tR e.ns.length [] (e.vs.drop e.ns.length)=[] by unfold tR; rfl] at ho
     refine ⟨by omega,by omega,?_⟩
     refine aC (i + 1,out ++ [32,125,10]) 1 ⟨hlt,by rw [ho]; simp,?_⟩ (by simp only; omega) ?_ ?_
     · simp only [List.length_append,List.length_cons,List.length_nil]; omega
     · simp -dsimp only [go_sem]<;>simp
     · simp -dsimp only [go_sem,aD,aO]<;>simp
 · obtain rfl:i=s.es.length:=by omega
   have hg:decide ((s.es.length:Int) < (s.es.length:Int))=false:=by simp
   simp (maxSteps:=9^6) -dsimp only [go_sem,aD,hg]
   rw [List.drop_length,List.flatMap_nil,List.nil_append] at ho
   refine cI (α:=Nat × List UInt8) (fun z=>[(1,.va (.c1 (.pt 0 0))),(2,tS (mk [])),(3,tS (mk z.2)),(61,.va (.c1 (.fz (s.ss.map aL)))),(62,iS .i64 s.ss.length),(63,iS .i64 z.1)]) (fun z=>[.cells (aD s) 25])
    (fun z=>z.1<=s.ss.length/\j8 s=z.2 ++ (s.ss.drop z.1).flatMap rY/\z.2.length<=20000 + 10000 * z.1) (fun z=>s.ss.length - z.1) (hY (0,out) 1 ⟨Nat.zero_le _,ho,?_⟩ ?_ ?_) ?_
   · simp only; omega
   · simp -dsimp only [go_sem]<;>simp
   · simp -dsimp only [go_sem,aD]<;>simp
   clear ho hol
   rintro ⟨i,out⟩ ⟨hi,ho,hol⟩
   simp only at hi ho hol
   rcases bL i s.ss.length with hlt | hge
   · have hg:decide ((i:Int) < (s.ss.length:Int))=true:=by simp; omega
     obtain ⟨t,ht⟩:∃ a,s.ss[i]? = some a:=⟨_,bB hlt⟩
     have gt:=g.b t (bW ht)
     have hok:=hs.ok.ss t (bW ht)
     have q1:=aQ (row:=aL) ht
     have hnl:=lG (uP gt.n)
     have hml:=gt.m
     rw [List.drop_eq_getElem_cons hlt,show s.ss[i]=t from (bC.1 ht).2,List.flatMap_cons] at ho
     simp (maxSteps:=9^6) -dsimp only [go_sem,aD,hg,↓q1,aL]
     refine ⟨by omega,by omega,by omega,by omega,?_⟩
     refine cI (α:=Nat × List UInt8) (fun z=>[(1,.va (.c1 (.pt 0 0))),(2,tS (mk [])),(3,tS (mk z.2)),(61,.va (.c1 (.fz (s.ss.map aL)))),(62,iS .i64 s.ss.length),(63,iS .i64 i),(9,.va (.c1 (.pt 1 0))),(74,.va (.c1 (.fz (t.fs.map bH)))),(75,iS .i64 t.fs.length),(76,iS .i64 z.1)]) (fun z=>[.cells (aD s) 25,.cells (aL t) 56])
      (fun z=>z.1<=t.fs.length/\j8 s=z.2 ++ ((t.fs.drop z.1).flatMap rQ ++ ([125,10] ++ (s.ss.drop (i + 1)).flatMap rY))/\z.2.length<=20100 + 10000 * i + 500 * z.1) (fun z=>t.fs.length - z.1) (hY (0,out ++ (wStB ++ (bl t.nm ++ [32,123,10]))) 2 ⟨Nat.zero_le _,?_,?_⟩ ?_ ?_) ?_
     · rw [ho]; simp [rY]
     · simp only [List.length_append,show wStB.length=7 from rfl,List.length_cons,List.length_nil]; omega
     · simp -dsimp only [go_sem,wStB]<;>simp
     · simp -dsimp only [go_sem,aD,aL]<;>simp
     clear ho hol
     rintro ⟨k,out⟩ ⟨hk,ho,hol⟩
     simp only at hk ho hol
     rcases bL k t.fs.length with hkt | hkg
     · have hg:decide ((k:Int) < (t.fs.length:Int))=true:=by simp; omega
       obtain ⟨f,hf⟩:∃ a,t.fs[k]? = some a:=⟨_,bB hkt⟩
       have q1:=aQ (row:=bH) hf
       obtain ⟨gf1,gf2,gf3⟩:=gt.f f (bW hf)
       have hfo:=hok.fs f (bW hf)
       have hnn:=lG gf2
       have hdl:(bU f.num).length<=21:=kG (by omega) (by omega)
       have htl:=W7 6 f.ty hfo.ty
       rw [List.drop_eq_getElem_cons hkt,show t.fs[k]=f from (bC.1 hf).2,List.flatMap_cons] at ho
       simp (maxSteps:=9^6) -dsimp only [go_sem,aD,hg,↓q1,aL,bH,kM]
       refine ⟨by omega,by omega,by omega,by omega,by omega,by omega,⟨_,rfl,hfo.ty⟩,by omega,by omega,fun hc=>⟨by omega,by omega,by omega,?_⟩,fun hc=>⟨by omega,by omega,?_⟩⟩
       · refine aC (k + 1,out ++ rQ f) 2 ⟨hkt,by rw [ho]; simp,?_⟩ (by simp only; omega) ?_ ?_
         · unfold rQ; rw [hc]; simp only [aK,List.length_append,List.length_cons,List.length_nil]; omega
         · simp -dsimp only [go_sem,rQ,hc]<;>simp [rQ,hc]
         · simp -dsimp only [go_sem,aD,aL]<;>simp
       · refine aC (k + 1,out ++ rQ f) 2 ⟨hkt,by rw [ho]; simp,?_⟩ (by simp only; omega) ?_ ?_
         · unfold rQ; rw [hc]; simp only [aF,List.length_append,List.length_cons,List.length_nil]; omega
         · simp -dsimp only [go_sem,rQ,hc]<;>simp [rQ,hc]
         · simp -dsimp only [go_sem,aD,aL]<;>simp
     · obtain rfl:k=t.fs.length:=by omega
       have hg:decide ((t.fs.length:Int) < (t.fs.length:Int))=false:=by simp
       simp (maxSteps:=9^6) -dsimp only [go_sem,aD,hg,aL]
       rw [List.drop_length,List.flatMap_nil,List.nil_append] at ho
       refine ⟨by omega,by omega,?_⟩
       refine aC (i + 1,out ++ [125,10]) 1 ⟨hlt,by rw [ho]; simp,?_⟩ (by simp only; omega) ?_ ?_
       · simp only [List.length_append,List.length_cons,List.length_nil]; omega
       · simp -dsimp only [go_sem]<;>simp
       · simp -dsimp only [go_sem,aD,aL]<;>simp
   · obtain rfl:i=s.ss.length:=by omega
     have hg:decide ((s.ss.length:Int) < (s.ss.length:Int))=false:=by simp
     simp (maxSteps:=9^6) -dsimp only [go_sem,aD,hg]
     refine fin _ _ ?_
     rw [ho,List.drop_length,List.flatMap_nil,List.append_nil]
theorem AN (l:List UInt8):fN l=(bX l && jY l):=by
 unfold fN
 cases l with
 | nil=>rfl
 | cons c r=>
  have e1:decide (65<=(c.toNat:Int))=decide (65<=c):=decide_eq_decide.2 (by rw [UInt8.le_iff_toNat_le]; exact Int.ofNat_le (m:=65))
  have e2:decide ((c.toNat:Int)<=90)=decide (c<=90):=decide_eq_decide.2 (show ((c.toNat:Int)<=((90:Nat):Int)) ↔ c<=90 from Int.ofNat_le.trans (UInt8.le_iff_toNat_le (b:=90)).symm)
  simp only [e1,e2,jY]
theorem XF:Meets Tryz.prog 96 (sA fun l=>.bool (fN l)).sp:=by
 refine aG Tryz.func96 aKF 1 (by rw [Tryz.ntmps96]; decide) (aB _) nW ?_
 rintro xs H K ⟨⟨h,rfl⟩,hK⟩
 obtain ⟨s,rfl⟩:=iO h
 have hK':K (bS (fN (bl s))) []:=hK
 clear hK h
 have fin:∀ (x:Bool) (R:Hp),fN (bl s)=x->W.Fin 0 K (bS x) R:=fun x R h=>by
  rw [h] at hK'
  exact .z (hK')
 simp (maxSteps:=9^6) -dsimp only [go_sem,aDU,aCT]
 generalize hg:(decide (((bl s).length:Int) < 1) || decide (16 < ((bl s).length:Int)))=g
 cases g with
 | true=>
  have hf:fN (bl s)=false:=by
   rw [AN]
   rw [Bool.or_eq_true] at hg
   rcases hg with h | h
   · have:=of_decide_eq_true h
     have:bl s=[]:=List.eq_nil_of_length_eq_zero (by omega)
     rw [this]; rfl
   · have:=of_decide_eq_true h
     rw [qG (by omega)]; rfl
  exact ⟨fun h=>(by cases h),fun c _=>⟨fun h=>(by simp at h),fun c1 _=>⟨fun _=>fin _ _ hf,fun h=>(by simp at h)⟩⟩⟩
 | false=>
 simp only [Bool.or_eq_false_iff,decide_eq_false_iff_not] at hg
 refine ⟨fun _=>by omega,fun c hc=>?_⟩
 have hc:=hc rfl
 have hcap:jY (bl s)=(decide (65<=c) && decide (c<=90)):=by
  cases hl:bl s with
  | nil=>rw [hl] at hc; cases hc
  | cons d r=>rw [hl] at hc; obtain rfl:=bK hc; rfl
 have e1:decide ((c.toNat:Int) < 65)=!decide (65<=c):=by
  have:(65<=c) ↔ 65<=c.toNat:=UInt8.le_iff_toNat_le
  rw [Bool.eq_iff_iff]; simp [this]; omega
 have e2:decide (90 < (c.toNat:Int))=!decide (c<=90):=by
  have:(c<=90) ↔ c.toNat<=90:=UInt8.le_iff_toNat_le
  rw [Bool.eq_iff_iff]; simp [this]; omega
 refine ⟨fun _=>by omega,fun c1 hc1=>⟨fun h=>fin _ _ ?_,fun h=>?_⟩⟩
 · rw [AN,hcap]
   rw [e1,Bool.false_or] at h hc1
   cases h65:decide (65<=c)
   · simp
   · rw [h65] at h hc1
     obtain rfl:c=c1:=by rw [hc] at hc1; exact bK (hc1 rfl)
     rw [e2] at h
     simp at h
     simp [h]
 have hcc:jY (bl s)=true:=by
  rw [hcap]
  rw [e1,Bool.false_or] at h hc1
  cases h65:decide (65<=c)
  · rw [h65] at h; simp at h
  · rw [h65] at h hc1
    obtain rfl:c=c1:=by rw [hc] at hc1; exact bK (hc1 rfl)
    rw [e2] at h
    simp at h
    simp [h]
 have hlet:bR c.toNat=true:=by
  rw [hcap,Bool.and_eq_true] at hcc
  have h1:65<=c.toNat:=UInt8.le_iff_toNat_le.1 (of_decide_eq_true hcc.1)
  have h2:c.toNat<=90:=UInt8.le_iff_toNat_le.1 (of_decide_eq_true hcc.2)
  unfold bR
  simp; omega
 have htn:fN (bl s)=bX (bl s):=by rw [AN,hcc,Bool.and_true]
 clear h hc1
 refine aR (α:=Nat) (fun i=>[(0,tS s),(3,iS .i64 i)]) (fun i=>[]) (fun i=>i<=(bl s).length/\∀ (j:Nat) (x:UInt8),j < i->(bl s)[j]? = some x->a8 x=true) (fun i=>(bl s).length - i) 0 0 ⟨by omega,by omega⟩ ?_ ?_ ?_
 · simp -dsimp only [go_sem]; simp
 · simp [go_sem]
 rintro i ⟨hi,ha⟩
 rcases bL i (bl s).length with hlt | hge
 · have hgd:decide ((i:Int) < ((bl s).length:Int))=true:=by simp; omega
   obtain ⟨d,hd⟩:∃ d,(bl s)[i]? = some d:=⟨_,bB hlt⟩
   simp (maxSteps:=9^6) -dsimp only [go_sem,hgd]
   refine ⟨by omega,fun x hx=>⟨fun h1 h2=>by rw [h1,h2]; rfl,fun h1 h2=>by rw [h1,h2]; rfl,fun h=>fin _ _ (by rw [htn]; exact C5 hx h),fun h=>⟨by omega,?_⟩⟩⟩
   refine aC (i + 1) 0 ⟨by omega,fun j y hj hy=>?_⟩ (by omega) ?_ rfl
   · rcases bL j i with h4 | h4
     · exact ha j y h4 hy
     · obtain rfl:j=i:=by omega
       rw [hx] at hy; obtain rfl:=bK hy
       rw [Bool.not_eq_false'] at h
       exact h
   · simp -dsimp only [go_sem]<;>simp
 · have hgd:decide ((i:Int) < ((bl s).length:Int))=false:=by simp; omega
   simp (maxSteps:=9^6) -dsimp only [go_sem,hgd]
   refine fin _ _ ?_
   rw [htn]
   exact wF hc (by omega) hlet fun j x hx=>ha j x (by have:=(bC.1 hx).1; omega) hx
theorem SC {ts:List Tk} {z:Fs} (h:Tks ts) (hn:z.n < ts.length):fO true ts z=(!z.bad && ((aT ts z.n).k == 1 && fN (aT ts z.n).x)):=by
 unfold fO
 cases hb:z.bad
 · cases hk:(aT ts z.n).k == 1
   · rfl
   · have g:=h.g _ (sW hn)
     have hk:=eq_of_beq hk
     have hnm:bX (aT ts z.n).x=true:=by
      have:=g.o (by rw [hk]; decide)
      rw [hk] at this
      unfold I3 at this
      simp at this
      exact this.2
     rw [AN,hnm]
     rfl
 · rfl
theorem OM:Meets Tryz.prog 94 CF:=by
 refine aG Tryz.func94 aK4 1 (by rw [Tryz.ntmps94]; decide) (aA uC (aI XF (aB _))) (fun av H K h=>by obtain ⟨_,_,rfl,_⟩:=h; rfl) ?_
 rintro av H K ⟨ts,⟨b,a,n⟩,rfl,rfl,ht,hn,hK⟩
 have hB:=SC (z:=⟨b,a,n⟩) ht hn
 simp only at hn hB
 have hle:=ht.e.le
 have q1:=aQ (row:=cQ) (eJ hn)
 have hK:K (tS (cB true ts ⟨b,a,n⟩)) (eE ts (bJ true ts ⟨b,a,n⟩)):=hK
 unfold cB bJ at hK
 cases b with
 | true=>
  have hb:=m0 a.toNat
  rw [hB] at hK
  simp (maxSteps:=9^6) -dsimp only [go_sem,JI,GZ,qT,hb]
  refine jG (z:=⟨true,a,n⟩) ht hn ?_
  simp (maxSteps:=9^6) -dsimp only [go_sem]
  exact .done hK
 | false=>
  cases hk:(aT ts n).k == 1 with
  | false=>
   rw [hB,hk] at hK
   simp (maxSteps:=9^6) -dsimp only [go_sem,JI,GZ,kR,mF,↓q1,cQ,hk]
   refine ⟨by omega,jG (z:=⟨false,a,n⟩) ht hn ?_⟩
   simp (maxSteps:=9^6) -dsimp only [go_sem]
   exact .done hK
  | true=>
   cases hc:fN (aT ts n).x with
   | false=>
    rw [hB,hk,hc] at hK
    simp (maxSteps:=9^6) -dsimp only [go_sem,JI,GZ,kR,mF,↓q1,cQ,hk,hc]
    refine ⟨by omega,by omega,jG (z:=⟨false,a,n⟩) ht hn ?_⟩
    simp (maxSteps:=9^6) -dsimp only [go_sem]
    exact .done hK
   | true=>
    rw [hB,hk,hc] at hK
    have hx:=NN ht hn (eq_of_beq hk) (by decide)
    simp (maxSteps:=9^6) -dsimp only [go_sem,JI,GZ,kR,mF,↓q1,cQ,hk,hc]
    refine ⟨by omega,by omega,by omega,by omega,by omega,fun x hx'=>.done ?_⟩
    rw [show ((n:Int) + 1 - 1).toNat=n by omega,eJ hn] at hx'
    obtain rfl:=bK hx'
    rw [hx.1] at hK
    exact hK
def WI:PC:=.seq (.gh (.reg [.q 2 (.mv (.k (.bool false)))])) .ret
@[go_sem ↓] theorem aPP:bT WI:=bY _
def N3:PC:=.seq (.gh (.reg [.a 41 (.cq 11 []),.v 2 41])) .ret
@[go_sem ↓] theorem aP8:bT N3:=bY _
def J0:PC:=.seq (.gh (.reg [.v 54 9,.q 55 (.bin .neq true (.t 54) (.k (.string (mk [])))),.v 56 55,⟨some 57,(some (56,true)),.q (.mv (.t 11))⟩,⟨some 58,(some (56,true)),.q (.bin .eql true (.t 57) (.i 0))⟩,.a 59 (.pick (.t 56) (.t 58) (.k (.bool false))),.v 60 59,⟨some 61,(some (60,true)),.l (.ldn 3 (.t 10))⟩,⟨some 62,(some (60,true)),.l (.ldn 3 (.t 3))⟩,⟨some 63,(some (60,true)),.cq 13 [(.t 61),(.t 62)]⟩,.a 64 (.pick (.t 60) (.t 63) (.k (.bool false))),.v 65 64,⟨some 66,(some (65,true)),.cq 11 []⟩,.a 67 (.pick (.t 65) (.t 66) (.k (.bool false))),.v 2 67])) .ret
@[go_sem ↓] theorem aNU:bT J0:=bY _
def HZ:PC:=.seq (.gh (.reg [.v 49 9,.a 50 (.cl 12 [(.t 49)] []),.v 48 50,.q 51 (.ex (.t 48) 0),.q 52 (.ex (.t 48) 1),.q 53 (.ex (.t 48) 2),.e 10 (.al (.agg #[(.int .i64 0),(.slice none 0 0),(.slice none 0 0)]) 25),.s (.st 3 (.t 10) (.t 51)),.v 11 52,.v 12 53])) (J0)
@[go_sem ↓] theorem aNT:bT HZ:=bY _
def FA:PC:=.seq (.seq (.gh (.reg [.v 44 9,.q 45 (.lnS (.t 44)),.q 46 (.bin .gtr true (.t 45) (.i 4000))])) (.cond (.t 46) (.seq (.reg [.a 47 (.cq 11 []),.v 2 47]) .ret) .skip)) (HZ)
@[go_sem ↓] theorem aOS:bT FA:=bY _
def E8:PC:=.seq (.seq (.gh (.reg [.v 25 4,.v 26 7,.q 27 (.bin .neq true (.t 25) (.t 26)),.v 28 27,⟨some 29,(some (28,false)),.q (.mv (.t 5))⟩,⟨some 30,(some (28,false)),.q (.mv (.t 8))⟩,⟨some 31,(some (28,false)),.q (.bin .neq true (.t 29) (.t 30))⟩,.a 32 (.pick (.t 28) (.k (.bool true)) (.t 31)),.v 33 32,⟨some 34,(some (33,false)),.l (.ldn 3 (.t 3))⟩,⟨some 35,(some (33,false)),.l (.ldn 3 (.t 6))⟩,⟨some 36,(some (33,false)),.cq 13 [(.t 34),(.t 35)]⟩,⟨some 37,(some (33,false)),.q (.not (.t 36))⟩,.a 38 (.pick (.t 33) (.k (.bool true)) (.t 37))])) (.cond (.t 38) (WI) .skip)) (.seq (.seq (.reg [.v 39 4,.q 40 (.bin .neq true (.t 39) (.i 0))]) (.cond (.t 40) (N3) .skip)) (.seq (.reg [.l 42 (.ldn 3 (.t 3)),.a 43 (.cq 10 [(.t 42)]),.v 9 43]) (FA)))
@[go_sem ↓] theorem aPL:bT E8:=bY _
def ML:PC:=.seq (.gh (.reg [.v 20 0,.a 21 (.cl 15 [(.t 20)] []),.v 19 21,.q 22 (.ex (.t 19) 0),.q 23 (.ex (.t 19) 1),.q 24 (.ex (.t 19) 2),.e 6 (.al (.agg #[(.int .i64 0),(.slice none 0 0),(.slice none 0 0)]) 25),.s (.st 3 (.t 6) (.t 22)),.v 7 23,.v 8 24])) (E8)
@[go_sem ↓] theorem aPO:bT ML:=bY _
def pc5:PC:=.seq (.reg [.q 2 (.mv (.k (.bool false)))]) (.seq (.reg [.v 14 0,.a 15 (.cl 12 [(.t 14)] []),.v 13 15,.q 16 (.ex (.t 13) 0),.q 17 (.ex (.t 13) 1),.q 18 (.ex (.t 13) 2),.e 3 (.al (.agg #[(.int .i64 0),(.slice none 0 0),(.slice none 0 0)]) 25),.s (.st 3 (.t 3) (.t 16)),.v 4 17,.v 5 18]) (ML))
def rs5:List RV:=[.mv (.t 2)]
theorem ok5:aY Tryz.prog true ⟨fun r k=>if r=3/\k=11 then .q else if r=6/\k=0 then .q else if r=7/\k=1 then .q else if r=9/\k=0 then .q else if r=11/\k=9 then .q else if r=11/\k=12 then .q else .own [],fun r=>[2,3,4,6,8,10,11,12,13].contains r⟩ Tryz.f5=some (pc5,rs5):=by kernel_rfl
def IT:PC:=.seq (.gh (.reg [.q 52 (.fa 2 (.t 1)),.l 53 (.ld1 (.t 52)),.l 54 (.ia 2 (.t 53) (.i 0)),.q 55 (.fa 1 (.t 54)),.l 56 (.ld1 (.t 55)),.l 57 (.ia 7 (.t 56) (.i 0)),.q 58 (.fa 2 (.t 57)),.q 59 (.fa 0 (.t 58)),.l 60 (.ld1 (.t 59)),.q 61 (.bin .eql true (.t 60) (.i 7)),.v 62 61,⟨some 63,(some (62,true)),.l (.ldn 4 (.t 7))⟩,⟨some 64,(some (62,true)),.cq 16 [(.t 63)]⟩,⟨some 65,(some (62,true)),.q (.bin .eql true (.t 64) (.k (.string (mk [108,105,115,116,91,52,93,32,111,102,32,116,101,120,116,91,49,54,93]))))⟩,.a 66 (.pick (.t 62) (.t 65) (.k (.bool false))),.v 67 66,⟨some 68,(some (67,true)),.l (.ldn 3 (.t 1))⟩,⟨some 69,(some (67,true)),.cq 10 [(.t 68)]⟩,⟨some 70,(some (67,true)),.q (.bin .eql true (.t 69) (.k (.string (mk [118,101,114,115,105,111,110,32,50,59,10,101,110,117,109,32,66,32,123,32,99,32,61,32,48,32,125,10,115,116,114,117,99,116,32,65,32,123,10,32,32,49,32,98,58,32,66,59,10,125,10]))))⟩,.a 71 (.pick (.t 67) (.t 70) (.k (.bool false))),.v 0 71])) .ret
@[go_sem ↓] theorem aMD:bT IT:=bY _
def IJ:PC:=.seq (.gh (.reg [.q 49 (.bd [(.int .i64 0),(.int .i64 0),(.string (mk [])),(.slice none 0 0)] [(0,1,(.i 4)),(1,1,(.i 16))]),.e 50 (.bsl 37 4 [(.t 49)]),.q 51 (.bd [(.int .i64 0),(.int .i64 0),(.string (mk [])),(.slice none 0 0)] [(0,1,(.i 5)),(1,1,(.i 4)),(3,1,(.t 50))]),.e 7 (.al (.agg #[(.int .i64 0),(.int .i64 0),(.string (mk [])),(.slice none 0 0)]) 37),.s (.st 4 (.t 7) (.t 51))])) (IT)
@[go_sem ↓] theorem aOE:bT IJ:=bY _
def IZ:PC:=.seq (.seq (.gh (.reg [.v 18 2,.q 19 (.bin .neq true (.t 18) (.i 0)),.v 20 19,⟨some 21,(some (20,false)),.q (.mv (.t 5))⟩,⟨some 22,(some (20,false)),.q (.bin .neq true (.t 21) (.i 2))⟩,.a 23 (.pick (.t 20) (.k (.bool true)) (.t 22)),.v 24 23,⟨some 25,(some (24,false)),.q (.mv (.t 6))⟩,⟨some 26,(some (24,false)),.q (.bin .neq true (.t 25) (.i 9))⟩,.a 27 (.pick (.t 24) (.k (.bool true)) (.t 26)),.v 28 27,⟨some 29,(some (28,false)),.q (.fa 2 (.t 1))⟩,⟨some 30,(some (28,false)),.l (.ld1 (.t 29))⟩,⟨some 31,(some (28,false)),.q (.lnL (.t 30))⟩,⟨some 32,(some (28,false)),.q (.bin .neq true (.t 31) (.i 1))⟩,.a 33 (.pick (.t 28) (.k (.bool true)) (.t 32)),.v 34 33,⟨some 35,(some (34,false)),.q (.fa 2 (.t 1))⟩,⟨some 36,(some (34,false)),.l (.ld1 (.t 35))⟩,⟨some 37,(some (34,false)),.l (.ia 2 (.t 36) (.i 0))⟩,⟨some 38,(some (34,false)),.q (.fa 1 (.t 37))⟩,⟨some 39,(some (34,false)),.l (.ld1 (.t 38))⟩,⟨some 40,(some (34,false)),.q (.lnL (.t 39))⟩,⟨some 41,(some (34,false)),.q (.bin .neq true (.t 40) (.i 1))⟩,.a 42 (.pick (.t 34) (.k (.bool true)) (.t 41)),.v 43 42,⟨some 44,(some (43,false)),.q (.fa 1 (.t 1))⟩,⟨some 45,(some (43,false)),.l (.ld1 (.t 44))⟩,⟨some 46,(some (43,false)),.q (.lnL (.t 45))⟩,⟨some 47,(some (43,false)),.q (.bin .neq true (.t 46) (.i 1))⟩,.a 48 (.pick (.t 43) (.k (.bool true)) (.t 47))])) (.cond (.t 48) (.seq (.reg [.q 0 (.mv (.k (.bool false)))]) .ret) .skip)) (IJ)
@[go_sem ↓] theorem aMK:bT IZ:=bY _
def FZ:PC:=.seq (.gh (.reg [.a 14 (.cl 12 [(.k (.string (mk [118,101,114,115,105,111,110,32,49])))] []),.v 13 14,.q 15 (.ex (.t 13) 0),.q 16 (.ex (.t 13) 1),.q 17 (.ex (.t 13) 2),.e 4 (.al (.agg #[(.int .i64 0),(.slice none 0 0),(.slice none 0 0)]) 25),.s (.st 3 (.t 4) (.t 15)),.v 5 16,.v 6 17])) (IZ)
@[go_sem ↓] theorem aMB:bT FZ:=bY _
def aDN:PC:=.seq (.reg [.q 0 (.mv (.k (.bool false)))]) (.seq (.reg [.a 9 (.cl 12 [(.k (.string (mk [118,101,114,115,105,111,110,32,50,59,32,115,116,114,117,99,116,32,65,32,123,32,49,32,98,58,32,66,59,32,125,32,101,110,117,109,32,66,32,123,32,99,32,61,32,48,32,125])))] []),.v 8 9,.q 10 (.ex (.t 8) 0),.q 11 (.ex (.t 8) 1),.q 12 (.ex (.t 8) 2),.e 1 (.al (.agg #[(.int .i64 0),(.slice none 0 0),(.slice none 0 0)]) 25),.s (.st 3 (.t 1) (.t 10)),.v 2 11,.v 3 12]) (FZ))
def aAG:List RV:=[.mv (.t 0)]
theorem aNJ:aY Tryz.prog true ⟨fun r k=>if r=6/\k=12 then .q else if r=6/\k=17 then .q else .own [],fun r=>[2,3,5,6].contains r⟩ Tryz.f11=some (aDN,aAG):=by kernel_rfl
mutual
def uQ:Ty->Ty
 | .mk k s n e=>.mk (bif k == 7 then 6 else k) s n (aA4 e)
def aA4:List Ty->List Ty
 | []=>[]
 | u :: r=>uQ u :: aA4 r
end
def j0 (rest:List UInt8):Prop:=∀ c,rest[0]? = some c->a8 c=false/\(c == 45)=false
theorem R6 {p:UInt8->Bool} (hp:∀ c,a8 c=false->p c=false) {x rest:List UInt8} (hx:∀ c ∈ x,p c=true) (hr:j0 rest):(x ++ rest).takeWhile p=x:=by
 induction x with
 | nil=>
  cases rest with
  | nil=>rfl
  | cons c r=>rw [List.nil_append,List.takeWhile_cons,hp c (hr c rfl).1]; rfl
 | cons c x ih=>rw [List.cons_append,List.takeWhile_cons,if_pos (hx c (by simp)),ih fun d hd=>hx d (by simp [hd])]
theorem JA {p:UInt8->Bool} (hp:∀ c,a8 c=false->p c=false) {l x rest:List UInt8} {a:Nat} (h:l.drop a=x ++ rest) (hx:∀ c ∈ x,p c=true) (hr:j0 rest):b5 p l a=a + x.length:=by
 rw [b5,h,R6 hp hx hr]
theorem S8 (c:UInt8) (h:a8 c=false):bO c=false:=by
 have:=dL (p:=fun c=>a8 c || !bO c) (by decide +kernel) c
 rw [h] at this
 simpa using this
theorem GV {l x rest:List UInt8} {a:Nat} (h:l.drop a=x ++ rest) (hr:j0 rest) (hx:bX x=true):dH l a=.ok 1 x 0 (a + x.length)/\∃ c,l[a]? = some c/\(c == 32 || c == 9 || c == 10)=false/\(c == 35)=false:=by
 obtain ⟨c,h0,h1,h2,h3⟩:=(IK x).1 hx
 have hc:l[a]? = some c:=by
  cases x with
  | nil=>cases h0
  | cons d x=>simp at h0; subst h0; exact vQ h
 have hz:b5 a8 l a=a + x.length:=JA (fun _ h=>h) h h3 hr
 have hsk:=dL (p:=fun c=>!(bR c.toNat) || (!(c == 32 || c == 9 || c == 10) && !(c == 35))) (by decide +kernel) c
 simp only [h2,Bool.not_true,Bool.false_or,Bool.and_eq_true,Bool.not_eq_true'] at hsk
 refine ⟨?_,c,hc,hsk⟩
 have hn:(l[a + x.length]? == some 45)=false:=by
  have:=GD h 0
  rw [Nat.add_zero] at this
  rw [this]
  cases hq:rest[0]? with
  | none=>rfl
  | some d=>exact (hr d hq).2
 have h16:decide (16 < a + x.length - a)=false:=by simp; omega
 simp only [dH,hc,h2,aK,hJ,hz,h16,hn,aF,IC h]
theorem KI {l rest:List UInt8} {a:Nat} {n:Int} (h:l.drop a=bU n ++ rest) (hr:j0 rest) (h1:-9223372036854775808<=n) (h2:n<=9223372036854775807) :
 dH l a=.ok 2 [] n (a + (bU n).length)/\∃ c,l[a]? = some c/\(c == 32 || c == 9 || c == 10)=false/\(c == 35)=false:=by
 have hm:n.natAbs < 10 ^ (19 + 1):=by omega
 have hd:=x7 19 n.natAbs hm
 obtain ⟨c0,ds,hds⟩:∃ c ds,digs n.natAbs=c :: ds:=by
  cases hq:digs n.natAbs with
  | nil=>exact absurd hq (C3 _)
  | cons c ds=>exact ⟨c,ds,rfl⟩
 have hc0:=kD.1 (hd c0 (by rw [hds]; simp))
 have hlim:∀ neg,neg=decide (n < 0)->valL (cY neg) 0 (digs n.natAbs)=some n.natAbs/\signed neg n.natAbs=n:=fun neg hn=>by
  rw [yC (by cases neg<;>decide) _ _ (Nat.zero_le _) hd,uH 19 _ hm]
  have:n.natAbs<=cY neg:=by subst hn; unfold cY; cases hh:decide (n < 0)<;>simp at hh ⊢<;>omega
  refine ⟨by simp [this],?_⟩
  subst hn; unfold signed; cases hh:decide (n < 0)<;>simp at hh ⊢<;>omega
 have fin:∀ (f:Nat) (neg:Bool),neg=decide (n < 0)->l.drop f=digs n.natAbs ++ rest->(l[a]? == some 45)=neg->(bif neg then a + 1 else a)=f->gY l a=.ok 2 [] n (f + (digs n.natAbs).length):=fun f neg hn hf hng hff=>by
  have hz:b5 bO l f=f + (digs n.natAbs).length:=JA S8 hf hd hr
  have hw:mT l (f + (digs n.natAbs).length)=false:=by
   have:=GD hf 0
   rw [Nat.add_zero] at this
   unfold mT
   rw [this]
   cases hq:rest[0]? with
   | none=>rfl
   | some d=>show (a8 d && !bO d || d == 45)=false; rw [(hr d hq).1,(hr d hq).2]; rfl
  have hs:((digs n.natAbs == []) || ((digs n.natAbs)[0]? == some 48 && (decide (1 < (digs n.natAbs).length) || neg)))=false:=by
   rcases bL 0 n.natAbs with h0 | h0
   · have h3:=v6 19 n.natAbs hm h0
     have e1:((digs n.natAbs)[0]? == some 48)=false:=by rw [beq_eq_false_iff_ne]; exact h3
     have e2:(digs n.natAbs == [])=false:=by rw [beq_eq_false_iff_ne]; exact C3 _
     rw [e1,e2]; rfl
   · obtain rfl:n=0:=by omega
     subst hn
     rw [show (0:Int).natAbs=0 from rfl,oM (by omega)]; decide
  simp only [gY,hng,hff,hz,IC hf,hs,aF,(hlim neg hn).1,hw,(hlim neg hn).2]
 cases hn:decide (n < 0) with
 | true=>
  have e:bU n=45 :: digs n.natAbs:=by simp only [bU,hn,aK]
  rw [e] at h ⊢
  have hc:=vQ h
  refine ⟨?_,45,hc,by decide,by decide⟩
  have e1:bR ((45:UInt8).toNat:Int)=false:=by decide
  have e2:(bO 45 || (45:UInt8) == 45)=true:=by decide
  simp only [dH,hc,e1,e2,aF,aK]
  rw [fin (a + 1) true hn.symm (LB h) (by rw [hc]; decide) rfl]
  simp; omega
 | false=>
  have e:bU n=digs n.natAbs:=by simp only [bU,hn,aF]
  rw [e] at h ⊢
  have hc:l[a]? = some c0:=by rw [hds] at h; exact vQ h
  have hsk:=dL (p:=fun c=>!(bO c) || ((!(c == 32 || c == 9 || c == 10) && !(c == 35)) && (!(bR c.toNat) && !(c == 45)))) (by decide +kernel) c0
  have hd0:=hd c0 (by rw [hds]; simp)
  simp only [hd0,Bool.not_true,Bool.false_or,Bool.and_eq_true,Bool.not_eq_true'] at hsk
  obtain ⟨h3,h4,h5⟩:=hsk
  refine ⟨?_,c0,hc,h3⟩
  simp only [dH,hc,h4,hd0,Bool.true_or,aF,aK]
  exact fin a false hn.symm h (by rw [hc]; simpa using h5) rfl
theorem LN {l rest:List UInt8} {a:Nat} {t:Tx} (hf:TkFit t) (ho:I3 t.k t.x t.n=true) (h:l.drop a=jQ t.k t.x t.n ++ rest) (hr:t.k=1\/t.k=2->j0 rest) :
 dH l a=.ok t.k t.x t.n (a + (jQ t.k t.x t.n).length)/\t.k ≠ 0/\∃ c,l[a]? = some c/\(c == 32 || c == 9 || c == 10)=false/\(c == 35)=false:=by
 obtain ⟨k,x,n,b⟩:=t
 have hlo:=hf.lo; have hhi:=hf.hi
 simp only at ho h hlo hhi ⊢
 unfold I3 at ho
 cases h1:k == 1 with
 | true=>
  obtain rfl:k=1:=by simpa using h1
  simp only [h1,aK,Bool.and_eq_true,beq_iff_eq] at ho
  obtain ⟨rfl,ho⟩:=ho
  have e:jQ 1 x 0=x:=rfl
  rw [e] at h ⊢
  exact ⟨(GV h (hr (.inl rfl)) ho).1,by decide,(GV h (hr (.inl rfl)) ho).2⟩
 | false=>
 cases h2:k == 2 with
 | true=>
  obtain rfl:k=2:=by simpa using h2
  simp only [h1,h2,aK,aF,beq_iff_eq] at ho
  subst ho
  have e:jQ 2 [] n=bU n:=rfl
  rw [e] at h ⊢
  exact ⟨(KI h (hr (.inr rfl)) hlo hhi).1,by decide,(KI h (hr (.inr rfl)) hlo hhi).2⟩
 | false=>
 cases h3:k == 3 with
 | true=>
  obtain rfl:k=3:=by simpa using h3
  simp only [h1,h2,h3,aK,aF,Bool.and_eq_true,beq_iff_eq,decide_eq_true_eq] at ho
  obtain ⟨rfl,hl,hx⟩:=ho
  have e:jQ 3 x 0=BW x:=rfl
  rw [e] at h ⊢
  exact ⟨(DF h hl hx).1,by decide,(DF h hl hx).2⟩
 | false=>
 cases h4:k == 4 with
 | false=>simp only [h1,h2,h3,h4,aF] at ho; cases ho
 | true=>
  obtain rfl:k=4:=by simpa using h4
  simp only [h1,h2,h3,h4,aK,aF,Bool.and_eq_true,beq_iff_eq] at ho
  obtain ⟨rfl,ho⟩:=ho
  have e:jQ 4 x 0=x:=rfl
  rw [e] at h ⊢
  match x,ho with
  | [c],ho=>exact ⟨(D8 h ho).1,by decide,(D8 h ho).2⟩
  | [],ho=>cases ho
  | _ :: _ :: _,ho=>cases ho
def tL (g:List UInt8):Prop:=∀ rest,dB false (g ++ rest)=g.length + dB false rest
theorem iF:tL []:=fun rest=>by simp
abbrev gZ:Type:=List (List UInt8 × Tx)
def b6:gZ->List UInt8
 | []=>[]
 | (g,t) :: r=>g ++ (kB t ++ b6 r)
def cX:gZ->Prop
 | []=>True
 | (g,t) :: r=>tL g/\TkFit t/\okT t=true/\(t.k=1\/t.k=2->j0 (b6 r))/\cX r
theorem kC:∀ (a b:gZ),b6 (a ++ b)=b6 a ++ b6 b
 | [],b=>rfl
 | (g,t) :: r,b=>by rw [List.cons_append,b6,b6,kC r b]; simp [List.append_assoc]
def dV (c:UInt8):Tx:=⟨4,[c],0,0⟩
def fD (x:List UInt8):Tx:=⟨1,x,0,0⟩
theorem i6:tL [32]:=fun rest=>by
 rw [List.cons_append,List.nil_append]
 show dB false (32 :: rest)=1 + dB false rest
 rw [Nat.add_comm]
 simp [dB]
theorem mZ {c:UInt8} {r:List UInt8} (h1:a8 c=false) (h2:(c == 45)=false):j0 (c :: r):=fun d hd=>by
 simp at hd; subst hd; exact ⟨h1,h2⟩
theorem fA {c:UInt8} {g:List UInt8} {r:gZ} (hg:tL g) (hc:eK c.toNat=true) (hr:cX r):cX ((g,dV c) :: r):=by
 refine ⟨hg,⟨by show (-9223372036854775808:Int)<=0; decide,by show (0:Int)<=9223372036854775807; decide,by show 1<=100000; decide⟩,?_,fun h=>(by rcases h with h | h<;>cases h),hr⟩
 show ((0:Int) == 0 && eK c.toNat)=true
 rw [hc]; rfl
theorem eW {x g:List UInt8} {r:gZ} (hg:tL g) (hx:bX x=true) (hr:cX r) (hs:j0 (b6 r)):cX ((g,fD x) :: r):=by
 refine ⟨hg,⟨by show (-9223372036854775808:Int)<=0; decide,by show (0:Int)<=9223372036854775807; decide,by show x.length<=100000; have:=lG hx; omega⟩,?_,fun _=>hs,hr⟩
 show ((0:Int) == 0 && bX x)=true
 rw [hx]; rfl
abbrev mK:Type:=Int × List UInt8 × Int
def cW (l:gZ):List mK:=l.map fun u=>GC u.2
theorem CQ (a b:gZ):cW (a ++ b)=cW a ++ cW b:=List.map_append
theorem bN {ts:List Tk} {n:Nat} {k m:Int} {x:List UInt8} {R:List mK} (h:(ts.map cK).drop n=(k,x,m) :: R):n < ts.length/\(aT ts n).k=k/\(aT ts n).x=x/\(aT ts n).n=m/\(ts.map cK).drop (n + 1)=R:=by
 have h1:n < (ts.map cK).length:=by
  rcases bL n (ts.map cK).length with h1 | h1
  · exact h1
  · rw [List.drop_eq_nil_iff.2 h1] at h; cases h
 rw [List.drop_eq_getElem_cons h1] at h
 obtain ⟨h2,h3⟩:=List.cons.inj h
 have hn:n < ts.length:=by simpa using h1
 have e:aT ts n=ts[n]:=by unfold aT; simp [List.getD_eq_getElem?_getD,bB hn]
 rw [List.getElem_map] at h2
 simp only [cK,Prod.mk.injEq] at h2
 exact ⟨hn,by rw [e]; exact h2.1,by rw [e]; exact h2.2.1,by rw [e]; exact h2.2.2,h3⟩
theorem mS {ts:List Tk} {n:Nat} {y:mK} {R:List mK} (h:(ts.map cK).drop n=y :: R) (hR:R ≠ []):n + 1 < ts.length/\dG ts n=n + 1:=by
 have h1:n + 1 < ts.length:=by
  have:=congrArg List.length h
  rw [List.length_drop,List.length_map,List.length_cons] at this
  have:0 < R.length:=List.length_pos_iff.2 hR
  omega
 exact ⟨h1,if_pos h1⟩
theorem pF {ts:List Tk} {n:Nat} {xs R:List mK} (h:(ts.map cK).drop n=xs ++ R):(ts.map cK).drop (n + xs.length)=R:=by
 rw [<-List.drop_drop,h,List.drop_left]
abbrev dE (c:UInt8):mK:=(4,[c],0)
def JZ:PC:=.gh (.ord  [.q (.v 53 8),.q (.v 54 8),.q (.q 55 (.nc (.t 54))),.q (.q 56 (.fa 3 (.t 55))),.q (.q 57 (.fa 1 (.t 56))),.q (.l 58 (.ld1 (.t 57))),.q (.v 59 8),.m (.a 60 (.cl 39 [(.t 59)] [2,1,3,4])),.rc (.v 53 8),.rc (.v 54 8),.rc (.q 55 (.nc (.t 54))),.rc (.q 56 (.fa 3 (.t 55))),.rc (.q 57 (.fa 1 (.t 56))),.rc (.l 58 (.ld1 (.t 57))),.m (.e 61 (.bsl 62 3 [(.t 60)])),.rc (.v 53 8),.rc (.v 54 8),.rc (.q 55 (.nc (.t 54))),.rc (.q 56 (.fa 3 (.t 55))),.rc (.q 57 (.fa 1 (.t 56))),.rc (.l 58 (.ld1 (.t 57))),.m (.e 62 (.ap 62 3 64 (.t 58) (.t 61))),.rc (.v 53 8),.q (.q 63 (.nc (.t 53))),.q (.q 64 (.fa 3 (.t 63))),.q (.q 65 (.fa 1 (.t 64))),.m (.s (.st 1 (.t 65) (.t 62)))])
@[go_sem ↓] theorem aI3:bT JZ:=bY _
def H5:PC:=.gh (.ord  [.q (.v 69 8),.q (.v 70 8),.q (.q 71 (.nc (.t 70))),.q (.q 72 (.fa 3 (.t 71))),.q (.q 73 (.fa 2 (.t 72))),.q (.l 74 (.ld1 (.t 73))),.q (.v 75 8),.m (.a 76 (.cl 40 [(.t 75)] [2,1,3,4])),.rc (.v 69 8),.rc (.v 70 8),.rc (.q 71 (.nc (.t 70))),.rc (.q 72 (.fa 3 (.t 71))),.rc (.q 73 (.fa 2 (.t 72))),.rc (.l 74 (.ld1 (.t 73))),.m (.e 77 (.bsl 56 2 [(.t 76)])),.rc (.v 69 8),.rc (.v 70 8),.rc (.q 71 (.nc (.t 70))),.rc (.q 72 (.fa 3 (.t 71))),.rc (.q 73 (.fa 2 (.t 72))),.rc (.l 74 (.ld1 (.t 73))),.m (.e 78 (.ap 56 2 40 (.t 74) (.t 77))),.rc (.v 69 8),.q (.q 79 (.nc (.t 69))),.q (.q 80 (.fa 3 (.t 79))),.q (.q 81 (.fa 2 (.t 80))),.m (.s (.st 1 (.t 81) (.t 78)))])
@[go_sem ↓] theorem aIW:bT H5:=bY _
def HY:PC:=.gh (.reg [.v 48 8,.a 49 (.cl 35 [(.t 48)] [2,1,3,4])])
@[go_sem ↓] theorem aGO:bT HY:=bY _
def pR:PC:=.seq (.seq (.gh (.reg [.v 93 8,.q 94 (.nc (.t 93)),.q 95 (.fa 3 (.t 94)),.l 96 (.ldn 3 (.t 95)),.a 97 (.cq 31 [(.t 96)]),.v 9 97])) (.seq (.reg [.v 98 9,.q 99 (.bin .neq true (.t 98) (.i 0))]) (.cond (.t 99) (.seq (.reg [.q 100 (.bd [(.int .i64 0),(.slice none 0 0),(.slice none 0 0)] []),.v 101 9,.s (.st 3 (.t 2) (.t 100)),.v 3 101,.q 4 (.mv (.i 0))]) .ret) .skip))) (.seq (.reg [.v 102 8,.q 103 (.nc (.t 102)),.q 104 (.fa 3 (.t 103)),.l 105 (.ldn 3 (.t 104)),.s (.st 3 (.t 2) (.t 105)),.q 3 (.mv (.i 0)),.q 4 (.mv (.i 0))]) .ret)
@[go_sem ↓] theorem aHC:bT pR:=bY _
def G5:PC:=.seq (.seq (.gh (.reg [.v 82 8,.q 83 (.nc (.t 82)),.q 84 (.fa 1 (.t 83)),.l 85 (.ld1 (.t 84))])) (.cond (.t 85) (.seq (.ord  [.q (.q 86 (.bd [(.int .i64 0),(.slice none 0 0),(.slice none 0 0)] [])),.q (.v 87 8),.q (.q 88 (.nc (.t 87))),.q (.q 89 (.fa 2 (.t 88))),.q (.l 90 (.ld1 (.t 89))),.m (.s (.st 3 (.t 2) (.t 86))),.rc (.v 87 8),.rc (.q 88 (.nc (.t 87))),.rc (.q 89 (.fa 2 (.t 88))),.rc (.l 90 (.ld1 (.t 89))),.m (.q 3 (.mv (.i 2))),.rc (.v 87 8),.rc (.q 88 (.nc (.t 87))),.rc (.q 89 (.fa 2 (.t 88))),.rc (.l 90 (.ld1 (.t 89))),.m (.v 4 90)]) .ret) .skip)) (.seq (.reg [.v 91 8,.a 92 (.cl 41 [(.t 91)] [0])]) (pR))
@[go_sem ↓] theorem aIR:bT G5:=bY _
def L4:PC:=.seq (.gh (.reg [.v 35 8,.a 36 (.cl 37 [(.t 35),(.k (.string (mk [59])))] [2,1,3,4])])) (.seq (.block 0 (.loop (.seq (.seq (.reg [.v 37 8,.q 38 (.nc (.t 37)),.q 39 (.fa 1 (.t 38)),.l 40 (.ld1 (.t 39)),.q 41 (.not (.t 40)),.v 42 41,⟨some 43,(some (42,true)),.q (.mv (.t 5))⟩,⟨some 44,(some (42,true)),.cl 38 [(.t 43)] [1]⟩,⟨some 45,(some (42,true)),.q (.fld1 0 (.t 44))⟩,⟨some 46,(some (42,true)),.q (.bin .neq true (.t 45) (.i 0))⟩,.a 47 (.pick (.t 42) (.t 46) (.k (.bool false)))]) (.cond (.t 47) .skip (.exit 0))) (.block 1 (.block 2 (.seq (.reg [.v 51 8,.a 52 (.cl 34 [(.t 51),(.k (.string (mk [101,110,117,109])))] [2,1,3,4]),.v 50 52]) (.cond (.t 50) (JZ) (.seq (.reg [.v 67 8,.a 68 (.cl 34 [(.t 67),(.k (.string (mk [115,116,114,117,99,116])))] [2,1,3,4]),.v 66 68]) (.cond (.t 66) (H5) (HY)))))))))) (G5))
@[go_sem ↓] theorem aJ6:bT L4:=bY _
def KZ:PC:=.seq (.gh (.reg [.v 29 8,.v 30 8,.a 31 (.cl 36 [(.t 30),(.k (.bool false))] [2,1,3,4]),.q 32 (.nc (.t 29)),.q 33 (.fa 3 (.t 32)),.q 34 (.fa 0 (.t 33)),.s (.st 1 (.t 34) (.t 31))])) (L4)
@[go_sem ↓] theorem aJX:bT KZ:=bY _
def L1:PC:=.seq (.seq (.gh (.reg [.v 24 8,.a 25 (.cl 34 [(.t 24),(.k (.string (mk [118,101,114,115,105,111,110])))] [2,1,3,4]),.q 26 (.not (.t 25))])) (.cond (.t 26) (.reg [.v 27 8,.a 28 (.cl 35 [(.t 27)] [2,1,3,4])]) .skip)) (KZ)
@[go_sem ↓] theorem aJO:bT L1:=bY _
def V2:PC:=.seq (.reg [.e 2 (.al (.agg #[(.int .i64 0),(.slice none 0 0),(.slice none 0 0)]) 25),.q 3 (.mv (.i 0)),.q 4 (.mv (.i 0))]) (.seq (.reg [.v 11 0,.a 12 (.cl 33 [(.t 11)] []),.v 10 12,.q 13 (.ex (.t 10) 0),.q 14 (.ex (.t 10) 1),.q 15 (.ex (.t 10) 2),.v 5 13,.v 6 14,.v 7 15]) (.seq (.seq (.reg [.v 16 6,.q 17 (.bin .neq true (.t 16) (.i 0))]) (.cond (.t 17) (.seq (.reg [.q 18 (.bd [(.int .i64 0),(.slice none 0 0),(.slice none 0 0)] []),.v 19 6,.v 20 7,.s (.st 3 (.t 2) (.t 18)),.v 3 19,.v 4 20]) .ret) .skip)) (.seq (.reg [.v 21 5,.q 22 (.bd [(.pointer none),(.bool false),(.int .i64 0),(.int .i64 0),(.slice none 0 0),(.slice none 0 0)] [(0,1,(.t 21))]),.e 23 (.bx 70 (.t 22)),.v 8 23]) (L1))))
def nF:List RV:=[.ld (.ldn 3 (.t 2)),.mv (.t 3),.mv (.t 4)]
theorem aGP:aY Tryz.prog true ⟨fun r k=>if r=5/\k=1 then .own [2,1,3,4] else if r=6/\k=1 then .own [2,1,3,4] else if r=7/\k=2 then .own [2,1,3,4] else if r=8/\k=1 then .own [2,1,3,4] else if r=9/\k=7 then .own [1] else if r=11/\k=1 then .own [2,1,3,4] else if r=12/\k=7 then .own [2,1,3,4] else if r=13/\k=1 then .own [2,1,3,4] else if r=14/\k=7 then .own [2,1,3,4] else if r=10/\k=1 then .own [2,1,3,4] else if r=17/\k=1 then .own [0] else if r=18/\k=4 then .q else .own [],fun r=>[5,7,8,15,18,10,12,14].contains r⟩ Tryz.f12=some (V2,nF):=by kernel_rfl
def uU:PC:=.gh (.ord  [.q (.v 53 8),.q (.v 54 8),.q (.q 55 (.nc (.t 54))),.q (.q 56 (.fa 3 (.t 55))),.q (.q 57 (.fa 1 (.t 56))),.q (.l 58 (.ld1 (.t 57))),.q (.v 59 8),.m (.a 60 (.cl 39 [(.t 59)] [2,1,3,4])),.rc (.v 53 8),.rc (.v 54 8),.rc (.q 55 (.nc (.t 54))),.rc (.q 56 (.fa 3 (.t 55))),.rc (.q 57 (.fa 1 (.t 56))),.rc (.l 58 (.ld1 (.t 57))),.m (.e 61 (.bsl 62 3 [(.t 60)])),.rc (.v 53 8),.rc (.v 54 8),.rc (.q 55 (.nc (.t 54))),.rc (.q 56 (.fa 3 (.t 55))),.rc (.q 57 (.fa 1 (.t 56))),.rc (.l 58 (.ld1 (.t 57))),.m (.e 62 (.ap 62 3 64 (.t 58) (.t 61))),.rc (.v 53 8),.q (.q 63 (.nc (.t 53))),.q (.q 64 (.fa 3 (.t 63))),.q (.q 65 (.fa 1 (.t 64))),.m (.s (.st 1 (.t 65) (.t 62)))])
@[go_sem ↓] theorem aGF:bT uU:=bY _
def uS:PC:=.gh (.ord  [.q (.v 69 8),.q (.v 70 8),.q (.q 71 (.nc (.t 70))),.q (.q 72 (.fa 3 (.t 71))),.q (.q 73 (.fa 2 (.t 72))),.q (.l 74 (.ld1 (.t 73))),.q (.v 75 8),.m (.a 76 (.cl 40 [(.t 75)] [2,1,3,4])),.rc (.v 69 8),.rc (.v 70 8),.rc (.q 71 (.nc (.t 70))),.rc (.q 72 (.fa 3 (.t 71))),.rc (.q 73 (.fa 2 (.t 72))),.rc (.l 74 (.ld1 (.t 73))),.m (.e 77 (.bsl 56 2 [(.t 76)])),.rc (.v 69 8),.rc (.v 70 8),.rc (.q 71 (.nc (.t 70))),.rc (.q 72 (.fa 3 (.t 71))),.rc (.q 73 (.fa 2 (.t 72))),.rc (.l 74 (.ld1 (.t 73))),.m (.e 78 (.ap 56 2 40 (.t 74) (.t 77))),.rc (.v 69 8),.q (.q 79 (.nc (.t 69))),.q (.q 80 (.fa 3 (.t 79))),.q (.q 81 (.fa 2 (.t 80))),.m (.s (.st 1 (.t 81) (.t 78)))])
@[go_sem ↓] theorem aGB:bT uS:=bY _
def v7:PC:=.gh (.reg [.v 48 8,.a 49 (.cl 35 [(.t 48)] [2,1,3,4])])
@[go_sem ↓] theorem aGD:bT v7:=bY _
def pcG12m_15:PC:=.seq (.seq (.gh (.reg [.v 82 8,.q 83 (.nc (.t 82)),.q 84 (.fa 1 (.t 83)),.l 85 (.ld1 (.t 84))])) (.cond (.t 85) (.seq (.ord  [.q (.q 86 (.bd [(.int .i64 0),(.slice none 0 0),(.slice none 0 0)] [])),.q (.v 87 8),.q (.q 88 (.nc (.t 87))),.q (.q 89 (.fa 2 (.t 88))),.q (.l 90 (.ld1 (.t 89))),.m (.s (.st 3 (.t 2) (.t 86))),.rc (.v 87 8),.rc (.q 88 (.nc (.t 87))),.rc (.q 89 (.fa 2 (.t 88))),.rc (.l 90 (.ld1 (.t 89))),.m (.q 3 (.mv (.i 2))),.rc (.v 87 8),.rc (.q 88 (.nc (.t 87))),.rc (.q 89 (.fa 2 (.t 88))),.rc (.l 90 (.ld1 (.t 89))),.m (.v 4 90)]) .ret) .skip)) .skip
@[go_sem ↓] theorem aGC:bT pcG12m_15:=bY _
def yH:PC:=.seq (.gh (.reg [.v 35 8,.a 36 (.cl 37 [(.t 35),(.k (.string (mk [59])))] [2,1,3,4])])) (.seq (.block 0 (.loop (.seq (.seq (.reg [.v 37 8,.q 38 (.nc (.t 37)),.q 39 (.fa 1 (.t 38)),.l 40 (.ld1 (.t 39)),.q 41 (.not (.t 40)),.v 42 41,⟨some 43,(some (42,true)),.q (.mv (.t 5))⟩,⟨some 44,(some (42,true)),.cl 38 [(.t 43)] [1]⟩,⟨some 45,(some (42,true)),.q (.fld1 0 (.t 44))⟩,⟨some 46,(some (42,true)),.q (.bin .neq true (.t 45) (.i 0))⟩,.a 47 (.pick (.t 42) (.t 46) (.k (.bool false)))]) (.cond (.t 47) .skip (.exit 0))) (.block 1 (.block 2 (.seq (.reg [.v 51 8,.a 52 (.cl 34 [(.t 51),(.k (.string (mk [101,110,117,109])))] [2,1,3,4]),.v 50 52]) (.cond (.t 50) (uU) (.seq (.reg [.v 67 8,.a 68 (.cl 34 [(.t 67),(.k (.string (mk [115,116,114,117,99,116])))] [2,1,3,4]),.v 66 68]) (.cond (.t 66) (uS) (v7)))))))))) (pcG12m_15))
@[go_sem ↓] theorem aIH:bT yH:=bY _
def pcG12m_7:PC:=.seq (.gh (.reg [.v 29 8,.v 30 8,.a 31 (.cl 36 [(.t 30),(.k (.bool false))] [2,1,3,4]),.q 32 (.nc (.t 29)),.q 33 (.fa 3 (.t 32)),.q 34 (.fa 0 (.t 33)),.s (.st 1 (.t 34) (.t 31))])) (yH)
@[go_sem ↓] theorem aJD:bT pcG12m_7:=bY _
def yI:PC:=.seq (.seq (.gh (.reg [.v 24 8,.a 25 (.cl 34 [(.t 24),(.k (.string (mk [118,101,114,115,105,111,110])))] [2,1,3,4]),.q 26 (.not (.t 25))])) (.cond (.t 26) (.reg [.v 27 8,.a 28 (.cl 35 [(.t 27)] [2,1,3,4])]) .skip)) (pcG12m_7)
@[go_sem ↓] theorem aHE:bT yI:=bY _
def AG:PC:=.seq (.reg [.e 2 (.al (.agg #[(.int .i64 0),(.slice none 0 0),(.slice none 0 0)]) 25),.q 3 (.mv (.i 0)),.q 4 (.mv (.i 0))]) (.seq (.reg [.v 11 0,.a 12 (.cl 33 [(.t 11)] []),.v 10 12,.q 13 (.ex (.t 10) 0),.q 14 (.ex (.t 10) 1),.q 15 (.ex (.t 10) 2),.v 5 13,.v 6 14,.v 7 15]) (.seq (.seq (.reg [.v 16 6,.q 17 (.bin .neq true (.t 16) (.i 0))]) (.cond (.t 17) (.seq (.reg [.q 18 (.bd [(.int .i64 0),(.slice none 0 0),(.slice none 0 0)] []),.v 19 6,.v 20 7,.s (.st 3 (.t 2) (.t 18)),.v 3 19,.v 4 20]) .ret) .skip)) (.seq (.reg [.v 21 5,.q 22 (.bd [(.pointer none),(.bool false),(.int .i64 0),(.int .i64 0),(.slice none 0 0),(.slice none 0 0)] [(0,1,(.t 21))]),.e 23 (.bx 70 (.t 22)),.v 8 23]) (yI))))
theorem aBE:wV 9 V2=some (AG,pR):=by kernel_rfl
attribute [-go_sem] gT jR f7 lI iI lY
def tF:List UInt8:=[118,101,114,115,105,111,110]
def dA:List UInt8:=[101,110,117,109]
def dM:List UInt8:=[115,116,114,117,99,116]
def fH (w:List UInt8) (ts:List Tk) (z:Fs):Fs:=bif aN 1 w ts z then ⟨false,z.off,dG ts z.n⟩ else bP ts z
theorem C8 {w:List UInt8} {ts:List Tk} {z:Fs} (h:z.n < ts.length):z.n<=(fH w ts z).n/\(fH w ts z).n < ts.length:=by
 unfold fH
 cases aN 1 w ts z
 · rw [aF,jC]; exact ⟨Nat.le_refl _,h⟩
 · exact pV h
def j4 (ts:List Tk):Nat->List En->List St->Fs->(List En × List St) × Fs
 | 0,a,b,z=>((a,b),z)
 | f + 1,a,b,z=>bif z.bad || (aT ts z.n).k == 0 then ((a,b),z) else
  bif aN 1 dA ts z then j4 ts f (a ++ [(gJ ts (aX 1 dA ts z)).1]) b (gJ ts (aX 1 dA ts z)).2
  else bif aN 1 dM ts z then j4 ts f a (b ++ [(iB ts (aX 1 dM ts z)).1]) (iB ts (aX 1 dM ts z)).2
  else ((a,b),bP ts z)
theorem kF (ts:List Tk) (f:Nat) (a:List En) (b:List St) (z:Fs):j4 ts (f + 1) a b z=bif z.bad || (aT ts z.n).k == 0 then ((a,b),z) else
 bif aN 1 dA ts z then j4 ts f (a ++ [(gJ ts (aX 1 dA ts z)).1]) b (gJ ts (aX 1 dA ts z)).2
 else bif aN 1 dM ts z then j4 ts f a (b ++ [(iB ts (aX 1 dM ts z)).1]) (iB ts (aX 1 dM ts z)).2
 else ((a,b),bP ts z):=rfl
def rN (ts:List Tk):Fs:=fH tF ts ⟨false,0,0⟩
def V3 (ts:List Tk):Int:=eQ false ts (rN ts)
def pL (ts:List Tk):Fs:=bG [59] ts (dU false ts (rN ts))
def lU (ts:List Tk):(List En × List St) × Fs:=j4 ts (ts.length + 1) [] [] (pL ts)
def mN (ts:List Tk):Sc:=⟨V3 ts,(lU ts).1.1,(lU ts).1.2.map (jM ((lU ts).1.1.map En.nm))⟩
def sc0:Sc:=⟨0,[],[]⟩
def mM (x:List UInt8):Sc × Int × Int:=
 bif (bD x).err != 0 then (sc0,(bD x).err,(bD x).off) else
 bif (lU (bD x).toks).2.bad then (sc0,2,(lU (bD x).toks).2.off) else
 bif cG (mN (bD x).toks) != 0 then (sc0,cG (mN (bD x).toks),0) else (mN (bD x).toks,0,0)
theorem BI {ts:List Tk} (h:Tks ts):∀ (f:Nat) (a:List En) (b:List St) (z:Fs),z.n < ts.length->(∀ x ∈ a,EnP x)->(∀ x ∈ b,StP x)->
 ((∀ x ∈ (j4 ts f a b z).1.1,EnP x)/\∀ x ∈ (j4 ts f a b z).1.2,StP x)/\(j4 ts f a b z).1.1.length<=a.length + f/\(j4 ts f a b z).1.2.length<=b.length + f
 | 0,a,b,z,_,ha,hb=>⟨⟨ha,hb⟩,Nat.le_refl _,Nat.le_refl _⟩
 | f + 1,a,b,z,hn,ha,hb=>by
  rw [kF]
  cases z.bad || (aT ts z.n).k == 0
  · cases aN 1 dA ts z
    · cases aN 1 dM ts z
      · refine ⟨⟨ha,hb⟩,?_,?_⟩<;>(simp only [aF]; omega)
      · have h1:=fJ (k:=1) (w:=dM) hn
        have ih:=BI h f a (b ++ [(iB ts (aX 1 dM ts z)).1]) _ (FH h1.2).2 ha fun x hx=>by
         rcases List.mem_append.1 hx with hx | hx
         · exact hb x hx
         · rw [List.mem_singleton.1 hx]; exact aIU h h1.2
        rw [aF,aF,aK]
        refine ⟨ih.1,?_,?_⟩
        · have:=ih.2.1; omega
        · have:=ih.2.2; rw [List.length_append,List.length_singleton] at this; omega
    · have h1:=fJ (k:=1) (w:=dA) hn
      have ih:=BI h f (a ++ [(gJ ts (aX 1 dA ts z)).1]) b _ (FS h1.2).2 (fun x hx=>by
       rcases List.mem_append.1 hx with hx | hx
       · exact ha x hx
       · rw [List.mem_singleton.1 hx]; exact aIV h h1.2) hb
      rw [aF,aK]
      refine ⟨ih.1,?_,?_⟩
      · have:=ih.2.1; rw [List.length_append,List.length_singleton] at this; omega
      · have:=ih.2.2; omega
  · refine ⟨⟨ha,hb⟩,?_,?_⟩<;>(simp only [aK]; omega)
theorem AE {ts:List Tk} (h:Tks ts):(rN ts).n < ts.length:=(C8 (z:=⟨false,0,0⟩) h.e.pos).2
theorem FT {ts:List Tk} (h:Tks ts):(pL ts).n < ts.length:=(cF (j3 (AE h)).2).2
theorem WC {ts:List Tk} (h:Tks ts):ScP (mN ts):=by
 have h1:=BI h (ts.length + 1) [] [] (pL ts) (FT h) (fun x hx=>by cases hx) fun x hx=>by cases hx
 have h2:=h.e.le
 have h3:=h1.2
 simp only [List.length_nil] at h3
 refine ⟨vP h (AE h),by unfold mN lU; simp only; omega,?_,h1.1.1,fun t ht=>?_⟩
 · unfold mN lU; simp only [List.length_map]; omega
 · obtain ⟨s,hs,rfl⟩:=List.mem_map.1 ht
   exact (h1.1.2 s hs).rs _
def kZ:W.Spec:=fun av H K=>∃ x,av=[tS x]/\H=[]/\K (.tu [.gs (aD (mM (bl x)).1),iA .i64 (mM (bl x)).2.1,iA .i64 (mM (bl x)).2.2]) []
noncomputable def lJ:dP:=[(33,.s lY),(34,.s wG),(35,.s rS),(36,.s pG),(37,.s oR),(38,.s (gT 123)),(39,.s MO),(40,.s N0),(31,.f ckFn)]
theorem M6:gP Tryz.prog lJ:=aA aLF (aA JD (aA rL (aA A0 (aA zF (aA tE (aA aEH (aA R8 (aI P9 (aB _)))))))))
theorem XL:sp lJ 33=lY:=rfl
theorem W2:sp lJ 34=wG:=rfl
theorem YX:sp lJ 35=rS:=rfl
theorem YS:sp lJ 36=pG:=rfl
theorem X7:sp lJ 37=oR:=rfl
theorem Y3:sp lJ 38=gT 123:=rfl
theorem Y2:sp lJ 39=MO:=rfl
theorem ZM:sp lJ 40=N0:=rfl
theorem XA:mH lJ 31=some ckFn:=rfl
theorem aEZ {x:ByteArray} {K:S->Hp->Prop} (h:(bD (bl x)).err=0) (hK:K (.tu [.c1 (.pt 0 0),iA .i64 0,iA .i64 0]) [gQ 123 (bD (bl x)).toks 0]):lY [tS x] [] K:=⟨fun _=>hK,fun h'=>absurd h h'⟩
theorem YV {x:ByteArray} {K:S->Hp->Prop} (h:(bD (bl x)).err ≠ 0) (hK:K (.tu [.c1 (.vl (.pointer none)),iA .i64 (bD (bl x)).err,iA .i64 (bD (bl x)).off]) []):lY [tS x] [] K:=⟨fun h'=>absurd h' h,fun _=>hK⟩
abbrev zSc:B:=.cells [.vl (.int .i64 0),.vl (.slice none 0 0),.vl (.slice none 0 0)] 25
abbrev IS (b1:B) (ver:Int) (z:Fs) (es:List En) (ss:List St):Hp:=[zSc,b1,.cells (psC ver z.bad z.off es.length ss.length) 70,.row (es.map aO) 62 3,.row (ss.map aL) 56 2]
abbrev NF:Fr:=cJ [(2,.va (.c1 (.pt 0 0))),(8,.va (.c1 (.pt 2 0)))]
def vW (K:S->Hp->Prop) (fr:Fr) (H:Hp):Prop:=∃ b1 ver z es ss,fr 2=.va (.c1 (.pt 0 0))/\fr 8=.va (.c1 (.pt 2 0))/\H=IS b1 ver z es ss/\(es.length<=1000000/\ss.length<=1000000/\∀ s ∈ ss,s.fs.length<=1000000/\∀ f ∈ s.fs,∃ d t0,EK d t0 f.ty)/\
 vc lJ 0 pR NF (IS .dead ver z es (ss.map (jM (es.map En.nm)))) (eO 0 nF K)
theorem B3:nP Tryz.prog 41=true:=by kernel_rfl
theorem YK (hs:∀ av K,kZ av [] K->vc lJ 0 AG (xD av) [] (uW (vW K) (eO 0 nF K))):Meets Tryz.prog 12 kZ:=by
 have hb:Tryz.f12.body=some _:=rfl
 refine Q5 (n:=9) Tryz.func12 hb aGP rfl aBE M6 (fun av H K h=>?_) (fun av H K h=>?_) (Mid:=vW) hs ?_
 · obtain ⟨x,rfl,_⟩:=h
   rw [Tryz.ntmps12]
   show 1<=_
   decide
 · obtain ⟨x,rfl,rfl,_⟩:=h
   exact ⟨rfl,fun y hy=>⟨_,List.mem_singleton.1 hy⟩⟩
 intro K w0 ro0 fr E ro a w h0 hM hf hR hG Q hQ
 obtain ⟨b1,ver,z,es,ss,h2,h8,hH,⟨l1,l2,l3⟩,hv⟩:=hM
 match E,hH with
 | [(g0,k0),(g1,k1),(g2,k2),(g3,k3),(g4,k4)],hH=>
 simp only [hp,List.map_cons,List.map_nil,List.cons.injEq,and_true] at hH
 obtain ⟨rfl,rfl,rfl,rfl,rfl⟩:=hH
 have hRs:=aHM hR h0 fun s hs f hf=>(l3 s hs).2 f hf
 obtain ⟨bp,hbp,c3,c4,c5⟩:=S5 hR
 have s8:=hf.slot 8
 rw [h8] at s8
 obtain ⟨gg,bb,e1,e2,e3,e4⟩:=s8
 obtain rfl:g2=gg:=bK e1
 rw [hbp] at e3
 obtain rfl:=bK e3
 refine XZ (v:=.pointer (some ⟨bp,0,none⟩)) rfl rfl rfl rfl rfl e4 (by rw [hf.size,Tryz.ntmps12]; decide) B3
  (HQ w bp ver g3.ob g4.ob g3.cap g4.cap es ss (es.map En.nm) ro hRs l1 l2 (fun s hs=>(l3 s hs).1) c3 c4 c5) ?_
 rintro e w' ⟨rfl,L,hL,hC,hD⟩
 refine ⟨_,rfl,?_⟩
 have hT:=aLC hR h0 rfl hL hC hD
 refine hQ NF _ (qE L ro) _ w' ?hv ⟨by simp only [Act.put]; simpa using hf.size,fun i=>?_,hf.defers⟩ hT
 case hv=>exact hv
 have s2:=hf.slot 2
 rw [h2] at s2
 unfold NF
 by_cases i2:i=2
 · subst i2
   rw [show cJ [(2,S.va (.c1 (.pt 0 0))),(8,.va (.c1 (.pt 2 0)))] 2=.va (.c1 (.pt 0 0)) from rfl]
   simp only [Act.put]
   rw [Array.getD_eq_getD_getElem?,Array.getElem?_setIfInBounds_ne (by decide),Array.getElem?_setIfInBounds_ne (by decide),<-Array.getD_eq_getD_getElem?]
   exact s2
 · by_cases i8:i=8
   · subst i8
     rw [show cJ [(2,S.va (.c1 (.pt 0 0))),(8,.va (.c1 (.pt 2 0)))] 8=.va (.c1 (.pt 2 0)) from rfl]
     simp only [Act.put]
     rw [Array.getD_eq_getD_getElem?,Array.getElem?_setIfInBounds_ne (by decide),Array.getElem?_setIfInBounds_ne (by decide),<-Array.getD_eq_getD_getElem?]
     have s8:=hf.slot 8
     rw [h8] at s8
     exact s8
   · have:cJ [(2,S.va (.c1 (.pt 0 0))),(8,.va (.c1 (.pt 2 0)))] i=.un:=by
      simp [cJ,put,i2,i8]
     rw [this]; trivial
end Go.Proofs.YtgogpogophflhaaGreatDoor
namespace Go.Proofs.YtgogpogophflhaaGreatDoor
open Go.W
attribute [-go_sem] gT jR f7 lI iI lY
attribute [local go_sem] XL W2 YX YS X7 Y3 Y2 ZM XA
@[local go_sem] theorem aQH (Mid:Fr->Hp->Prop) (K:Ex->Fr->Hp->Prop) (fr:Fr) (H:Hp):uW Mid K .r fr H=K .r fr H:=rfl
@[local go_sem] theorem aR2 (Mid:Fr->Hp->Prop) (K:Ex->Fr->Hp->Prop) (fr:Fr) (H:Hp):uW Mid K .n fr H=Mid fr H:=rfl
theorem xB {ts:List Tk}:∀ (f:Nat) (a:List En) (b:List St) (z:Fs),z.bad=true->j4 ts f a b z=((a,b),z)
 | 0,_,_,_,_=>rfl
 | f + 1,a,b,z,h=>by rw [kF,h,Bool.true_or,aK]
abbrev pM (ver:Int) (es:List En) (ss:List St) (ts:List Tk) (z:Fs):Hp:=[.cells [.pt 1 0,.vl (.bool z.bad),.vl (.int .i64 z.off),.vl (.int .i64 ver),.sl 2 es.length,.sl 3 ss.length] 70,gQ 123 ts z.n,.row (es.map aO) 62 3,.row (ss.map aL) 56 2]
theorem GG {s:W.Spec} {ver:Int} {es:List En} {ss:List St} {ts:List Tk} {z:Fs} {av:List S} {K:S->Hp->Prop} (h:s av (pH ⟨ver,es.map aO,ss.map aL⟩ ts z) K):s av (pM ver es ss ts z) K:=by
 have e:pH ⟨ver,es.map aO,ss.map aL⟩ ts z=pM ver es ss ts z:=by simp [pH,pM]
 rw [<-e]; exact h
theorem XK:∀ av K,kZ av [] K->vc lJ 0 AG (xD av) [] (uW (vW K) (eO 0 nF K)):=by
 rintro av K ⟨x,rfl,-,hK⟩
 unfold mM at hK
 simp (maxSteps:=9^6) -dsimp only [go_sem,AG,nF]
 by_cases hx:(bD (bl x)).err=0
 case neg=>
  refine YV hx ?_
  have hx':((bD (bl x)).err != 0)=true:=bne_iff_ne.2 hx
  rw [hx',aK] at hK
  simp (maxSteps:=9^6) -dsimp only [go_sem,hx']
  refine .sel [] (by simp) (by simp [cC]) rfl (.done ?_)
  simp (maxSteps:=9^6) -dsimp only [go_sem,cC]
  exact hK
 case pos=>
  refine aEZ hx ?_
  have hx':((bD (bl x)).err != 0)=false:=by rw [hx]; rfl
  rw [hx',aF] at hK
  have ht:=AT hx
  generalize (bD (bl x)).toks=ts at *
  simp (maxSteps:=9^6) -dsimp only [go_sem]
  refine ⟨fun h=>(by cases h),fun _=>aU rfl ?_⟩
  refine .nilc 2 4 62 3 _ _ rfl rfl ?_
  refine .nilc 2 5 56 2 _ _ rfl rfl (.done ?_)
  simp (maxSteps:=9^6) -dsimp only [go_sem,yI]
  have t7:vc lJ 0 pcG12m_7.ungh (cJ [(2,.va (.c1 (.pt 0 0))),(5,.va (.c1 (.pt 1 0))),(8,.va (.c1 (.pt 2 0)))]) (IS (gQ 123 ts (rN ts).n) 0 (rN ts) [] []) (uW (vW K) (eO 0 nF K)):=by
   have hn1:=AE ht
   have hle:=ht.e.le
   unfold mN lU pL V3 at hK
   generalize rN ts=z1 at *
   simp (maxSteps:=9^6) -dsimp only [go_sem,pcG12m_7,nF]
   refine xA (o:=⟨0,[],[]⟩) (z:=z1) ht hn1 ?_
   simp (maxSteps:=9^6) -dsimp only [go_sem]
   have hn2:=(j3 (c:=false) hn1).2
   have hvi:=vP (c:=false) ht hn1
   generalize eQ false ts z1=ver at *
   generalize dU false ts z1=z2 at *
   refine aU rfl (.done ?_)
   simp (maxSteps:=9^6) -dsimp only [go_sem,yH]
   refine jJ (o:=⟨ver,[],[]⟩) (z:=z2) ht hn2 ?_
   rw [show bl (mk [59])=[59] from rfl]
   have hn3:=(cF (w:=[59]) hn2).2
   generalize bG [59] ts z2=z3 at *
   simp (maxSteps:=9^6) -dsimp only [go_sem]
   refine cI (α:=Nat × List En × List St × Fs) (fun x=>[(2,.va (.c1 (.pt 0 0))),(5,.va (.c1 (.pt 1 0))),(8,.va (.c1 (.pt 2 0)))])
    (fun x=>IS (gQ 123 ts x.2.2.2.n) ver x.2.2.2 x.2.1 x.2.2.1)
    (fun x=>x.2.2.2.n < ts.length/\x.2.1.length + x.1<=ts.length + 1/\x.2.2.1.length + x.1<=ts.length + 1/\(x.2.2.2.bad=true\/ts.length < x.2.2.2.n + x.1)/\j4 ts x.1 x.2.1 x.2.2.1 x.2.2.2=j4 ts (ts.length + 1) [] [] z3)
    (fun x=>x.1) (hY (ts.length + 1,[],[],z3) 5 ⟨hn3,by simp,by simp,Or.inr (by simp only; omega),rfl⟩ ?_ ?_) ?_
   · simp -dsimp only [go_sem]<;>simp
   · simp -dsimp only [go_sem]<;>simp
   rintro ⟨f,es,ss,z⟩ ⟨h1,h2,h2',h3,h4⟩
   simp only at h1 h2 h2' h3 h4
   have fin:∀ z',j4 ts (ts.length + 1) [] [] z3=((es,ss),z')->vc lJ 0 pcG12m_15.ungh (cJ [(2,.va (.c1 (.pt 0 0))),(8,.va (.c1 (.pt 2 0)))]) (IS (gQ 123 ts z'.n) ver z' es ss) (uW (vW K) (eO 0 nF K)):=fun z' e=>by
    have hP:=BI ht (ts.length + 1) [] [] z3 hn3 (fun x hx=>by cases hx) fun x hx=>by cases hx
    rw [e] at hK hP
    obtain ⟨⟨p1,p2⟩,p3,p4⟩:=hP
    simp only [List.length_nil,Nat.zero_add] at p1 p2 p3 p4 hK
    simp (maxSteps:=9^6) -dsimp only [go_sem,pcG12m_15,nF]
    refine ⟨fun hb=>?_,fun hb=>?_⟩
    · rw [hb,aK] at hK
      refine .sel [] (by simp) (by simp [cC]) rfl (.done ?_)
      simp (maxSteps:=9^6) -dsimp only [go_sem,cC]
      exact hK
    rw [hb,aF] at hK
    refine ⟨_,ver,z',es,ss,rfl,rfl,rfl,⟨by omega,by omega,fun s hs=>⟨by have:=(p2 s hs).l; omega,fun f hf=>((p2 s hs).f f hf).t.wrp⟩⟩,?_⟩
    have hP:ScP ⟨ver,es,ss.map (jM (es.map En.nm))⟩:=⟨hvi,by simp only; omega,by simp only [List.length_map]; omega,p1,fun t ht=>by
     obtain ⟨s,hs,rfl⟩:=List.mem_map.1 ht
     exact (p2 s hs).rs _⟩
    generalize ss.map (jM (es.map En.nm))=rr at *
    refine aU rfl (.pub 3 _ _ _ rfl (.pub 4 _ _ _ rfl (.done ?_)))
    simp (maxSteps:=9^6) -dsimp only [go_sem,pR,nF,cC]
    refine ⟨⟨_,rfl,hP.fit⟩,?_⟩
    rw [show C.sc [C.vl (Value.int IntKind.i64 ver),C.fz (List.map aO es),C.fz (List.map aL rr)]=⟨ver,es,rr⟩ from f6 ⟨ver,es,rr⟩]
    refine ⟨fun hc=>?_,fun hc=>?_⟩
    · rw [hc,aK] at hK
      refine .sel [] (by simp) (by simp [cC]) rfl (.done ?_)
      simp (maxSteps:=9^6) -dsimp only [go_sem,cC]
      exact hK
    · rw [hc,aF] at hK
      refine .sel [] (by simp) (by simp [cC]) rfl (.done ?_)
      simp (maxSteps:=9^6) -dsimp only [go_sem,cC]
      exact hK
   obtain ⟨bb,oo,n⟩:=z
   cases bb with
   | true=>
    rw [xB _ _ _ _ rfl] at h4
    simp (maxSteps:=9^6) -dsimp only [go_sem]
    refine cA 5 (fin _ h4.symm) ?_ ?_
    · simp -dsimp only [go_sem]<;>simp
    · simp -dsimp only [go_sem]<;>simp
   | false=>
   have h3:ts.length < n + f:=by
    rcases h3 with h3 | h3
    · cases h3
    · exact h3
   simp only at h1
   obtain ⟨f,rfl⟩:∃ g,f=g + 1:=⟨f - 1,by omega⟩
   rw [kF,Bool.false_or] at h4
   simp (maxSteps:=9^6) -dsimp only [go_sem]
   refine oX ht.e h1 ?_
   simp only at h4
   cases hk:(aT ts n).k == 0 with
   | true=>
    rw [hk,aK] at h4
    have hk':((aT ts n).k != 0)=false:=by rw [bne,hk]; rfl
    simp (maxSteps:=9^6) -dsimp only [go_sem,cQ,hk']
    refine cA 5 (fin _ h4.symm) ?_ ?_
    · simp -dsimp only [go_sem]<;>simp
    · simp -dsimp only [go_sem]<;>simp
   | false=>
   rw [hk,aF] at h4
   have hk':((aT ts n).k != 0)=true:=by rw [bne,hk]; rfl
   clear fin
   simp (maxSteps:=9^6) -dsimp only [go_sem,cQ,hk']
   refine GG (z:=⟨false,oo,n⟩) (jP ht h1 ?_)
   rw [show bl (mk [101,110,117,109])=dA from rfl]
   cases he:aN 1 dA ts ⟨false,oo,n⟩ with
   | true=>
    rw [he,aK] at h4
    obtain ⟨q1,q2,q3⟩:=jV (by decide) ht.e h1 he
    have e1:aX 1 dA ts ⟨false,oo,n⟩=⟨false,oo,n + 1⟩:=by unfold aX; rw [he,q1]; rfl
    rw [e1] at h4 ⊢
    simp (maxSteps:=9^6) -dsimp only [go_sem]
    refine aU rfl (.done ?_)
    simp (maxSteps:=9^6) -dsimp only [go_sem,uU]
    refine GG (z:=⟨false,oo,n + 1⟩) (aCE ht q2 ?_)
    have g1:=FS (z:=⟨false,oo,n + 1⟩) q2
    generalize gJ ts ⟨false,oo,n + 1⟩=r at *
    obtain ⟨en,z4⟩:=r
    simp only at h4 g1 ⊢
    simp (maxSteps:=9^6) -dsimp only [go_sem,aO]
    refine ⟨by omega,?_⟩
    refine aC (f,es ++ [en],ss,z4) 5 ⟨g1.2,?_,?_,.inr ?_,h4⟩ (by simp) ?_ ?_
    · simp only [List.length_append,List.length_singleton]; omega
    · simp only; omega
    · simp only at g1 ⊢; omega
    · simp -dsimp only [go_sem]<;>simp
    · simp -dsimp only [go_sem,aO]<;>simp [aO]
   | false=>
   rw [he,aF] at h4
   rw [fM he]
   simp (maxSteps:=9^6) -dsimp only [go_sem]
   refine GG (z:=⟨false,oo,n⟩) (jP ht h1 ?_)
   rw [show bl (mk [115,116,114,117,99,116])=dM from rfl]
   cases hs:aN 1 dM ts ⟨false,oo,n⟩ with
   | true=>
    rw [hs,aK] at h4
    obtain ⟨q1,q2,q3⟩:=jV (by decide) ht.e h1 hs
    have e1:aX 1 dM ts ⟨false,oo,n⟩=⟨false,oo,n + 1⟩:=by unfold aX; rw [hs,q1]; rfl
    rw [e1] at h4 ⊢
    simp (maxSteps:=9^6) -dsimp only [go_sem]
    refine aU rfl (.done ?_)
    simp (maxSteps:=9^6) -dsimp only [go_sem,uS]
    refine GG (z:=⟨false,oo,n + 1⟩) (aBP ht q2 ?_)
    have g1:=FH (z:=⟨false,oo,n + 1⟩) q2
    generalize iB ts ⟨false,oo,n + 1⟩=r at *
    obtain ⟨st,z4⟩:=r
    simp only at h4 g1 ⊢
    simp (maxSteps:=9^6) -dsimp only [go_sem,aL]
    refine ⟨by omega,?_⟩
    refine aC (f,es,ss ++ [st],z4) 5 ⟨g1.2,?_,?_,.inr ?_,h4⟩ (by simp) ?_ ?_
    · simp only; omega
    · simp only [List.length_append,List.length_singleton]; omega
    · simp only at g1 ⊢; omega
    · simp -dsimp only [go_sem]<;>simp
    · simp -dsimp only [go_sem,aL]<;>simp [aL]
   | false=>
   rw [hs,aF] at h4
   rw [fM hs]
   simp (maxSteps:=9^6) -dsimp only [go_sem]
   refine aU rfl (.done ?_)
   simp (maxSteps:=9^6) -dsimp only [go_sem,v7]
   refine GG (z:=⟨false,oo,n⟩) (lD ht h1 ?_)
   simp (maxSteps:=9^6) -dsimp only [go_sem]
   refine aC (f,es,ss,bP ts ⟨false,oo,n⟩) 5 ⟨h1,?_,?_,.inl rfl,?_⟩ (by simp) ?_ ?_
   · simp only; omega
   · simp only; omega
   · rw [<-h4]; exact xB _ _ _ _ rfl
   · simp -dsimp only [go_sem]<;>simp
   · simp -dsimp only [go_sem]<;>simp
  refine jP (o:=⟨0,[],[]⟩) (z:=⟨false,0,0⟩) ht ht.e.pos ?_
  rw [show bl (mk [118,101,114,115,105,111,110])=tF from rfl]
  unfold rN fH at t7
  cases hk:aN 1 tF ts ⟨false,0,0⟩ with
  | true=>
   rw [hk,aK] at t7
   have hF:aX 1 tF ts ⟨false,0,0⟩=⟨false,0,dG ts 0⟩:=by unfold aX; rw [hk]; rfl
   rw [hF]
   simp (maxSteps:=9^6) -dsimp only [go_sem]
   refine cA 5 t7 ?_ ?_
   · simp -dsimp only [go_sem]<;>simp
   · simp -dsimp only [go_sem]<;>simp
  | false=>
   rw [hk,aF] at t7
   rw [fM hk]
   simp (maxSteps:=9^6) -dsimp only [go_sem]
   refine lD (o:=⟨0,[],[]⟩) (z:=⟨false,0,0⟩) ht ht.e.pos ?_
   simp (maxSteps:=9^6) -dsimp only [go_sem]
   refine cA 5 t7 ?_ ?_
   · simp -dsimp only [go_sem]<;>simp
   · simp -dsimp only [go_sem]<;>simp
theorem Q8:Meets Tryz.prog 12 kZ:=YK XK
end Go.Proofs.YtgogpogophflhaaGreatDoor
namespace Go.Proofs.YtgogpogophflhaaGreatDoor
open Go.W
attribute [-go_sem] gT jR f7 lI iI lY
def RE:Ty:=.mk 0 0 (mk []) []
end Go.Proofs.YtgogpogophflhaaGreatDoor
namespace Go.Proofs.YtgogpogophflhaaGreatDoor
open Go.W
def nH (n:Int):Tx:=⟨2,[],n,0⟩
def m6 (t:Ty) (g:List UInt8):gZ:=
 bif t.k == 1 then [(g,fD gD)] else bif t.k == 3 then [(g,fD (wUint ++ bU t.s))] else bif t.k == 2 then [(g,fD (wInt ++ bU t.s))]
 else bif t.k == 4 then [(g,fD wText),([],dV 91),([],nH t.s),([],dV 93)] else [(g,fD (bl t.n))]
def eH:Nat->Ty->List UInt8->gZ
 | 0,t,g=>m6 t g
 | f + 1,t,g=>bif t.k == 5 then (g,fD cL) :: ([],dV 91) :: ([],nH t.s) :: ([],dV 93) :: ([32],fD rI) :: eH f (t.e.headD default) [32] else m6 t g
inductive PlK (t:Ty):Prop
 | b (k:t.k=1) (s:t.s=0) (n:bl t.n=[])
 | u (k:t.k=3) (s:t.s=8\/t.s=16\/t.s=32) (n:bl t.n=[])
 | i (k:t.k=2) (s:t.s=8\/t.s=16\/t.s=32\/t.s=64) (n:bl t.n=[])
 | x (k:t.k=4) (s:0<=t.s) (n:bl t.n=[])
 | n (k:t.k=6\/t.k=7) (s:t.s=0) (m:bX (bl t.n)=true) (c:jY (bl t.n)=true)
theorem sG {t:Ty} (h:kO t ≠ []):t.e=[]/\PlK t:=by
 unfold kO LJ HG at h
 cases c0:decide (0 < (t.e.length:Int)) with
 | true=>rw [c0] at h; exact absurd rfl h
 | false=>
 rw [c0,aF] at h
 have he:t.e=[]:=List.eq_nil_of_length_eq_zero (by have:=of_decide_eq_false c0; omega)
 refine ⟨he,?_⟩
 cases c1:t.k == 1 with
 | true=>
  rw [c1,aK] at h
  cases c:t.s == 0 && bl t.n == []
  · rw [c] at h; exact absurd rfl h
  · rw [Bool.and_eq_true] at c
    exact .b (eq_of_beq c1) (eq_of_beq c.1) (eq_of_beq c.2)
 | false=>
 rw [c1,aF] at h
 cases c3:t.k == 3 with
 | true=>
  rw [c3,aK] at h
  have hk:=eq_of_beq c3
  cases c:bl t.n == [] && (t.s == 8 || t.s == 16 || t.s == 32 || (t.s == 64 && t.k == 2))
  · rw [c] at h; exact absurd rfl h
  · rw [hk] at c
    simp at c
    refine .u hk ?_ c.1
    rcases c.2 with (h | h) | h
    · exact .inl h
    · exact .inr (.inl h)
    · exact .inr (.inr h)
 | false=>
 rw [c3,aF] at h
 cases c2:t.k == 2 with
 | true=>
  rw [c2,aK] at h
  have hk:=eq_of_beq c2
  cases c:bl t.n == [] && (t.s == 8 || t.s == 16 || t.s == 32 || (t.s == 64 && true))
  · rw [c] at h; exact absurd rfl h
  · simp at c
    refine .i hk ?_ c.1
    rcases c.2 with ((h | h) | h) | h
    · exact .inl h
    · exact .inr (.inl h)
    · exact .inr (.inr (.inl h))
    · exact .inr (.inr (.inr h))
 | false=>
 rw [c2,aF] at h
 cases c4:t.k == 4 with
 | true=>
  rw [c4,aK] at h
  cases c:decide (0<=t.s) && bl t.n == []
  · rw [c] at h; exact absurd rfl h
  · rw [Bool.and_eq_true] at c
    exact .x (eq_of_beq c4) (of_decide_eq_true c.1) (eq_of_beq c.2)
 | false=>
 rw [c4,aF] at h
 cases c6:t.k == 6 || t.k == 7 with
 | false=>rw [c6] at h; exact absurd rfl h
 | true=>
  rw [c6,aK] at h
  cases c:t.s == 0 && bX (bl t.n) && jY (bl t.n)
  · rw [c] at h; exact absurd rfl h
  · rw [Bool.and_eq_true,Bool.and_eq_true] at c
    rw [Bool.or_eq_true] at c6
    exact .n (c6.imp eq_of_beq eq_of_beq) (eq_of_beq c.1.1) c.1.2 c.2
theorem QG {t:Ty} (h:kO t ≠ []) (g:List UInt8):b6 (m6 t g)=g ++ kO t:=by
 obtain ⟨he,hp⟩:=sG h
 have h0:decide (0 < (t.e.length:Int))=false:=by rw [he]; rfl
 unfold m6 kO LJ HG
 rw [h0]
 cases hp with
 | b k s n=>rw [k,s,n]; simp [b6,fD,kB,jQ]
 | u k s n=>rw [k,n]; rcases s with s | s | s<;>rw [s]<;>simp [b6,fD,kB,jQ]
 | i k s n=>rw [k,n]; rcases s with s | s | s | s<;>rw [s]<;>simp [b6,fD,kB,jQ]
 | x k s n=>rw [k,n,decide_eq_true s]; simp [b6,fD,dV,nH,kB,jQ]
 | n k s m c=>rw [s,m,c]; rcases k with k | k<;>rw [k]<;>simp [b6,fD,kB,jQ]
theorem JT:∀ (f:Nat) (t:Ty) (g:List UInt8),dX f t ≠ []->b6 (eH f t g)=g ++ dX f t
 | 0,t,g,h=>by
  cases hk:t.k == 5
  · rw [kT hk] at h ⊢; exact QG h g
  · rw [zO hk] at h; exact absurd rfl h
 | f + 1,t,g,h=>by
  cases hk:t.k == 5
  · rw [kT hk] at h ⊢; rw [eH,hk,aF]; exact QG h g
  · rw [lN hk] at h ⊢
    cases c:decide (t.s < 0) || !(bl t.n == []) || (t.e.length:Int) != 1 with
    | true=>rw [c] at h; exact absurd rfl h
    | false=>
     rw [c,aF] at h
     rw [aF]
     cases q:dX f (t.e.headD default) == [] with
     | true=>rw [q] at h; exact absurd rfl h
     | false=>
      have ih:=JT f (t.e.headD default) [32] fun e=>by rw [e] at q; cases q
      rw [eH,hk,aK,aF]
      generalize t.e.headD default=u at *
      simp [b6,ih,fD,dV,nH,kB,jQ,tZ,wOfs,cL,rI]
theorem RA (n:Int):n=8\/n=16\/n=32\/n=64->bX (wInt ++ bU n)=true/\bX (wUint ++ bU n)=true:=fun h=>by
 rcases h with h | h | h | h<;>rw [h]<;>exact ⟨by kernel_rfl,by kernel_rfl⟩
theorem rH {n:Int} {g:List UInt8} {r:gZ} (hg:tL g) (h:dS n) (hr:cX r) (hs:j0 (b6 r)):cX ((g,nH n) :: r):=by
 refine ⟨hg,⟨h.1,h.2,by show 0<=100000; decide⟩,?_,fun _=>hs,hr⟩
 rfl
theorem K3 {t:Ty} (h:kO t ≠ []) (ht:dS t.s) {g:List UInt8} {r:gZ} (hg:tL g) (hr:cX r) (hs:j0 (b6 r)):cX (m6 t g ++ r):=by
 obtain ⟨_,hp⟩:=sG h
 have sm:∀ {c:UInt8} {r:gZ},a8 c=false->(c == 45)=false->j0 (b6 (([],dV c) :: r)):=fun h1 h2=>mZ h1 h2
 unfold m6
 cases hp with
 | b k s n=>rw [k]; exact eW hg (by kernel_rfl) hr hs
 | u k s n=>rw [k]; exact eW hg (RA t.s (by omega)).2 hr hs
 | i k s n=>rw [k]; exact eW hg (RA t.s s).1 hr hs
 | x k s n=>rw [k]; exact eW hg (by kernel_rfl) (fA iF (by decide) (rH iF ht (fA iF (by decide) hr) (sm (by decide) (by decide)))) (sm (by decide) (by decide))
 | n k s m c=>rcases k with k | k<;>rw [k]<;>exact eW hg m hr hs
theorem LZ:∀ (f:Nat) (t:Ty) (g:List UInt8) (r:gZ),dX f t ≠ []->TyOk t->tL g->cX r->j0 (b6 r)->cX (eH f t g ++ r)
 | 0,t,g,r,h,ht,hg,hr,hs=>by
  cases hk:t.k == 5
  · rw [kT hk] at h; exact K3 h ht.s hg hr hs
  · rw [zO hk] at h; exact absurd rfl h
 | f + 1,t,g,r,h,ht,hg,hr,hs=>by
  cases hk:t.k == 5
  · rw [kT hk] at h; rw [eH,hk,aF]; exact K3 h ht.s hg hr hs
  · rw [lN hk] at h
    cases c:decide (t.s < 0) || !(bl t.n == []) || (t.e.length:Int) != 1 with
    | true=>rw [c] at h; exact absurd rfl h
    | false=>
     rw [c,aF] at h
     cases q:dX f (t.e.headD default) == [] with
     | true=>rw [q] at h; exact absurd rfl h
     | false=>
      have hu:TyOk (t.e.headD default):=by
       simp only [Bool.or_eq_false_iff,bne_eq_false_iff_eq] at c
       match he:t.e with
       | []=>rw [he] at c; simp at c
       | a :: r=>exact ht.e a (by rw [he]; exact List.mem_cons_self ..)
      have ih:=LZ f (t.e.headD default) [32] r (fun e=>by rw [e] at q; cases q) hu i6 hr hs
      rw [eH,hk,aK]
      have sm:∀ {c:UInt8} {r:gZ},a8 c=false->(c == 45)=false->j0 (b6 (([],dV c) :: r)):=fun h1 h2=>mZ h1 h2
      have sp:j0 (b6 (eH f (t.e.headD default) [32] ++ r)):=by
       rw [kC,JT _ _ _ fun e=>by rw [e] at q; cases q]
       exact mZ (by decide) (by decide)
      exact eW hg (by kernel_rfl) (fA iF (by decide) (rH iF ht.s (fA iF (by decide) (eW i6 (by kernel_rfl) ih sp)) (sm (by decide) (by decide)))) (sm (by decide) (by decide))
section
variable {ts:List Tk} {n:Nat} {o:Int} {R:List mK}
theorem aM {k k' m:Int} {x w:List UInt8} (h:(ts.map cK).drop n=(k,x,m) :: R):aN k' w ts ⟨false,o,n⟩=(k == k' && x == w):=by
 obtain ⟨_,h1,h2,_⟩:=bN h
 unfold aN gC
 simp only [h1,h2,Bool.not_false,Bool.true_and]
theorem fL {k m:Int} {x:List UInt8} (h:(ts.map cK).drop n=(k,x,m) :: R) (hR:R ≠ []):aX k x ts ⟨false,o,n⟩=⟨false,o,n + 1⟩:=by
 unfold aX
 rw [aM h,beq_self_eq_true,beq_self_eq_true,(mS h hR).2]; rfl
theorem jU {c:UInt8} (h:(ts.map cK).drop n=dE c :: R) (hR:R ≠ []):bG [c] ts ⟨false,o,n⟩=⟨false,o,n + 1⟩:=by
 unfold bG
 rw [aM h,beq_self_eq_true,beq_self_eq_true,(mS h hR).2]; rfl
theorem A6 {c:Bool} {m:Int} (h:(ts.map cK).drop n=(2,[],m) :: R) (hR:R ≠ []) (hc:c=true->0<=m):eQ c ts ⟨false,o,n⟩=m/\dU c ts ⟨false,o,n⟩=⟨false,o,n + 1⟩:=by
 obtain ⟨_,h1,_,h3,_⟩:=bN h
 have e:gI c ts ⟨false,o,n⟩=true:=by
  unfold gI
  simp only [h1,h3]
  cases c
  · rfl
  · simp [hc rfl]
 unfold eQ dU
 rw [e]
 exact ⟨h3,by simp only [aK,(mS h hR).2]⟩
theorem AA {m:Int} (h:(ts.map cK).drop n=dE 91 :: (2,[],m) :: dE 93 :: R) (hR:R ≠ []) (hm:0<=m):g9 ts ⟨false,o,n⟩=m/\fG ts ⟨false,o,n⟩=⟨false,o,n + 3⟩:=by
 have h1:=(bN h).2.2.2.2
 have h2:=(bN h1).2.2.2.2
 unfold g9 fG
 rw [jU h (by simp),(A6 h1 (by simp) fun _=>hm).1,(A6 h1 (by simp) fun _=>hm).2,jU h2 hR]
 exact ⟨rfl,rfl⟩
theorem wP {x:List UInt8} (h:(ts.map cK).drop n=(1,x,0) :: R) (hR:R ≠ []) (hc:jY x=true):cB true ts ⟨false,o,n⟩=mk x/\bJ true ts ⟨false,o,n⟩=⟨false,o,n + 1⟩:=by
 obtain ⟨_,h1,h2,_,_⟩:=bN h
 have e:fO true ts ⟨false,o,n⟩=true:=by
  unfold fO
  unfold jY at hc
  simp only [h1,h2,beq_self_eq_true,Bool.not_false,Bool.not_true,Bool.false_or,Bool.true_and]
  exact hc
 unfold cB bJ
 rw [e]
 exact ⟨by simp only [aK,h2],by simp only [aK,(mS h hR).2]⟩
end
theorem PV {x w:List UInt8} {b:UInt8} {r:List UInt8} (hc:jY x=true) (hw:w=b :: r) (hb:97<=b):(x == w)=false:=by
 subst hw
 cases x with
 | nil=>rfl
 | cons a l=>
  rw [beq_eq_false_iff_ne]
  intro h
  obtain ⟨rfl,_⟩:=List.cons.inj h
  unfold jY at hc
  rw [Bool.and_eq_true] at hc
  have:=UInt8.le_iff_toNat_le.1 (of_decide_eq_true hc.2)
  have h2:=UInt8.le_iff_toNat_le.1 hb
  have e1:(90:UInt8).toNat=90:=rfl
  have e2:(97:UInt8).toNat=97:=rfl
  omega
theorem zK {t:Ty} (h:bl t.n=[]):t.n=mk []:=by
 have:t.n.data.toList=[]:=h
 cases hn:t.n with
 | mk d=>
  rw [hn] at this
  rw [mk]
  congr 1
  exact Array.toList_inj.1 (by rw [this])
theorem lB (ts:List Tk) (z:Fs):gV ts z=bif aN 1 gD ts z then (.mk 1 0 (mk []) [],aX 1 gD ts z) else bif aN 1 wText ts z then (.mk 4 (g9 ts (aX 1 wText ts z)) (mk []) [],fG ts (aX 1 wText ts z)) else
 bif aN 1 [105,110,116,56] ts z then (.mk 2 8 (mk []) [],aX 1 [105,110,116,56] ts z) else bif aN 1 [117,105,110,116,56] ts z then (.mk 3 8 (mk []) [],aX 1 [117,105,110,116,56] ts z) else
 bif aN 1 [105,110,116,49,54] ts z then (.mk 2 16 (mk []) [],aX 1 [105,110,116,49,54] ts z) else bif aN 1 [117,105,110,116,49,54] ts z then (.mk 3 16 (mk []) [],aX 1 [117,105,110,116,49,54] ts z) else
 bif aN 1 [105,110,116,51,50] ts z then (.mk 2 32 (mk []) [],aX 1 [105,110,116,51,50] ts z) else bif aN 1 [117,105,110,116,51,50] ts z then (.mk 3 32 (mk []) [],aX 1 [117,105,110,116,51,50] ts z) else
 bif aN 1 [105,110,116,54,52] ts z then (.mk 2 64 (mk []) [],aX 1 [105,110,116,54,52] ts z) else (.mk 6 0 (cB true ts z) [],bJ true ts z):=by
 unfold gV
 simp only [szs,lZ,qV,m7,Z4,RW,TP,aDS]
 rfl
theorem aFD {ts:List Tk} {n:Nat} {o:Int} {R:List mK} {t:Ty} {g:List UInt8} (hp:kO t ≠ []) (h:(ts.map cK).drop n=cW (m6 t g) ++ R) (hR:R ≠ []):gV ts ⟨false,o,n⟩=(uQ t,⟨false,o,n + (m6 t g).length⟩):=by
 obtain ⟨he,hk⟩:=sG hp
 obtain ⟨k,s,nm,e⟩:=t
 have he:e=[]:=he
 subst he
 unfold m6 at h ⊢
 rw [lB]
 cases hk with
 | b h1 h2 h3=>
  obtain rfl:k=1:=h1
  obtain rfl:s=0:=h2
  obtain rfl:nm=mk []:=zK h3
  have h:(ts.map cK).drop n=(1,gD,0) :: R:=h
  rw [aM h,fL h hR]
  rfl
 | u h1 h2 h3=>
  obtain rfl:k=3:=h1
  obtain rfl:nm=mk []:=zK h3
  have h2:s=8\/s=16\/s=32:=h2
  rcases h2 with rfl | rfl | rfl
  · have h:(ts.map cK).drop n=(1,wUint ++ bU 8,0) :: R:=h
    rw [Z4] at h
    have h:(ts.map cK).drop n=(1,[117,105,110,116,56],0) :: R:=h
    rw [aM h,aM h,aM h,aM h,aM h,aM h,aM h,aM h,aM h,fL h hR]
    rfl
  · have h:(ts.map cK).drop n=(1,wUint ++ bU 16,0) :: R:=h
    rw [RW] at h
    have h:(ts.map cK).drop n=(1,[117,105,110,116,49,54],0) :: R:=h
    rw [aM h,aM h,aM h,aM h,aM h,aM h,aM h,aM h,aM h,fL h hR]
    rfl
  · have h:(ts.map cK).drop n=(1,wUint ++ bU 32,0) :: R:=h
    rw [TP] at h
    have h:(ts.map cK).drop n=(1,[117,105,110,116,51,50],0) :: R:=h
    rw [aM h,aM h,aM h,aM h,aM h,aM h,aM h,aM h,aM h,fL h hR]
    rfl
 | i h1 h2 h3=>
  obtain rfl:k=2:=h1
  obtain rfl:nm=mk []:=zK h3
  have h2:s=8\/s=16\/s=32\/s=64:=h2
  rcases h2 with rfl | rfl | rfl | rfl
  · have h:(ts.map cK).drop n=(1,wInt ++ bU 8,0) :: R:=h
    rw [Z4] at h
    have h:(ts.map cK).drop n=(1,[105,110,116,56],0) :: R:=h
    rw [aM h,aM h,aM h,aM h,aM h,aM h,aM h,aM h,aM h,fL h hR]
    rfl
  · have h:(ts.map cK).drop n=(1,wInt ++ bU 16,0) :: R:=h
    rw [RW] at h
    have h:(ts.map cK).drop n=(1,[105,110,116,49,54],0) :: R:=h
    rw [aM h,aM h,aM h,aM h,aM h,aM h,aM h,aM h,aM h,fL h hR]
    rfl
  · have h:(ts.map cK).drop n=(1,wInt ++ bU 32,0) :: R:=h
    rw [TP] at h
    have h:(ts.map cK).drop n=(1,[105,110,116,51,50],0) :: R:=h
    rw [aM h,aM h,aM h,aM h,aM h,aM h,aM h,aM h,aM h,fL h hR]
    rfl
  · have h:(ts.map cK).drop n=(1,wInt ++ bU 64,0) :: R:=h
    rw [aDS] at h
    have h:(ts.map cK).drop n=(1,[105,110,116,54,52],0) :: R:=h
    rw [aM h,aM h,aM h,aM h,aM h,aM h,aM h,aM h,aM h,fL h hR]
    rfl
 | x h1 h2 h3=>
  obtain rfl:k=4:=h1
  obtain rfl:nm=mk []:=zK h3
  have h:(ts.map cK).drop n=(1,wText,0) :: dE 91 :: (2,[],s) :: dE 93 :: R:=h
  rw [aM h,aM h,fL h (by simp),(AA (bN h).2.2.2.2 hR h2).1,(AA (bN h).2.2.2.2 hR h2).2]
  rfl
 | n h1 h2 h3 h4=>
  obtain rfl:s=0:=h2
  have h1:k=6\/k=7:=h1
  have h4:jY (bl nm)=true:=h4
  have hb:mk (bl nm)=nm:=rfl
  have c:∀ {w:List UInt8} {b:UInt8} {r:List UInt8},w=b :: r->97<=b->(bl nm == w)=false:=fun h1 h2=>PV h4 h1 h2
  have h:(ts.map cK).drop n=(1,bl nm,0) :: R:=by rcases h1 with rfl | rfl<;>exact h
  rw [aM h,aM h,aM h,aM h,aM h,aM h,aM h,aM h,aM h,(wP h hR h4).1,(wP h hR h4).2]
  rw [c (w:=gD) rfl (by decide),c (w:=wText) rfl (by decide),c (w:=[105,110,116,56]) rfl (by decide),c (w:=[117,105,110,116,56]) rfl (by decide),c (w:=[105,110,116,49,54]) rfl (by decide),c (w:=[117,105,110,116,49,54]) rfl (by decide),c (w:=[105,110,116,51,50]) rfl (by decide),c (w:=[117,105,110,116,51,50]) rfl (by decide),c (w:=[105,110,116,54,52]) rfl (by decide)]
  rcases h1 with rfl | rfl<;>rfl
def eS:Nat->List Tk->Fs->Ty × Fs
 | f,ts,z=>bif z.bad || (aT ts z.n).k != 1 then (RE,bP ts z) else
  bif aN 1 cL ts z then (match f with
   | 0=>(RE,z)
   | f + 1=>(.mk 5 (g9 ts (aX 1 cL ts z)) (mk []) [(eS f ts (kE ts (fG ts (aX 1 cL ts z)))).1],(eS f ts (kE ts (fG ts (aX 1 cL ts z)))).2))
  else gV ts z
theorem SZ (f:Nat) (ts:List Tk) (z:Fs):eS (f + 1) ts z=bif z.bad || (aT ts z.n).k != 1 then (RE,bP ts z) else
 bif aN 1 cL ts z then (.mk 5 (g9 ts (aX 1 cL ts z)) (mk []) [(eS f ts (kE ts (fG ts (aX 1 cL ts z)))).1],(eS f ts (kE ts (fG ts (aX 1 cL ts z)))).2)
 else gV ts z:=rfl
def VQ (N:Nat):W.Spec:=fun av H K=>∃ ts z,av=[.va (.c1 (.pt 0 0))]/\H=eE ts z/\Tks ts/\z.n < ts.length/\ts.length<=z.n + N/\K (.va (.gs (aP (eS N ts z).1))) (eE ts (eS N ts z).2)
theorem QR {N:Nat} {ts:List Tk} {z:Fs} {K:S->Hp->Prop} (h1:Tks ts) (h2:z.n < ts.length) (h3:ts.length<=z.n + N) (hK:K (.va (.gs (aP (eS N ts z).1))) (eE ts (eS N ts z).2)):VQ N [.va (.c1 (.pt 0 0))] (eE ts z) K:=⟨ts,z,rfl,rfl,h1,h2,h3,hK⟩
theorem Q9 {ts:List Tk} {z:Fs} (h:z.bad=true):bP ts z=z:=by unfold bP; rw [h]; rfl
theorem aDZ {ts:List Tk} {z:Fs} (h:Tks ts) (hn:z.n < ts.length):xS 1 rI ts z=kE ts z:=AX (by decide) h hn
theorem LE:∀ N,Meets Tryz.prog 56 (VQ N)
 | 0=>⟨by kernel_rfl,by rintro xs vs E ro w K _ _ _ ⟨ts,z,_,_,_,h1,h2,_⟩; omega⟩
 | N + 1=>by
  refine aG Tryz.func56 aNI 1 (by rw [Tryz.ntmps56]; decide) (aA O0 (aA uC (aA aFY (aA uY (aA (LE N) (aA OM (aB _))))))) (fun av H K h=>by obtain ⟨_,_,rfl,_⟩:=h; rfl) ?_
  rintro av H K ⟨ts,⟨b,a,n⟩,rfl,rfl,ht,hn,hN,hK⟩
  have hle:=ht.e.le
  unfold eS at hK
  simp only at hn hN
  cases b with
  | true=>
   have hb:decide ((0:Int)<=(a.toNat:Int))=true:=decide_eq_true (by omega)
   simp (maxSteps:=9^6) -dsimp only [go_sem,S9,M3,qT,hb]
   rw [Q9 rfl] at hK
   refine .sel [0] (by simp) (by simp) rfl (.done ?_)
   simp only [Bool.true_or,aK,RE,bM] at hK
   simp -dsimp only [go_sem]
   exact hK
  | false=>
   simp (maxSteps:=9^6) -dsimp only [go_sem,S9,M3,kR,WV]
   refine vK (z:=⟨false,a,n⟩) ht hn ?_
   cases hk:(aT ts n).k != 1 with
   | true=>
    simp (maxSteps:=9^6) -dsimp only [go_sem,cQ,hk]
    rw [hk,Bool.false_or,aK] at hK
    refine jG (z:=⟨false,a,n⟩) ht hn ?_
    simp (maxSteps:=9^6) -dsimp only [go_sem]
    refine .sel [0] (by simp) (by simp) rfl (.done ?_)
    simp only [RE,bM] at hK
    simp -dsimp only [go_sem]
    exact hK
   | false=>
    simp (maxSteps:=9^6) -dsimp only [go_sem,cQ,hk]
    refine cA (up:=[(0,.va (.c1 (.pt 0 0))),(2,.va (.c1 (.pt 1 0)))]) (Hs:=eE ts ⟨false,a,n⟩ ++ [.cells [.vl (.int .i64 0),.vl (.int .i64 0),.vl (.string (mk [])),.vl (.slice none 0 0)] 37]) 2 ?_ ?_ ?_
    · have hk1:(aT ts n).k=1:=bne_eq_false_iff_eq.1 hk
      have hx:∀ w,aN 1 w ts ⟨false,a,n⟩=((aT ts n).x == w):=fun w=>by unfold aN gC; simp [hk1]
      have hnx:=NN ht hn hk1 (by decide)
      have fin:∀ (t:Ty) (z':Fs) (R:Hp),eS (N + 1) ts ⟨false,a,n⟩=(t,z')->W.Fin 1 K (.va (.gs [.vl (.int .i64 t.k),.vl (.int .i64 t.s),.vl (.string t.n),.fz (t.e.map aP)])) (eE ts z' ++ R):=fun t z' R h=>by
       have hK:K (.va (.gs (aP (eS (N + 1) ts ⟨false,a,n⟩).1))) (eE ts (eS (N + 1) ts ⟨false,a,n⟩).2):=by unfold eS; exact hK
       rw [h,bM] at hK
       refine .sel [0] (by simp) (by simp) rfl (.done ?_)
       simpa [go_sem] using hK
      have hK2:∀ t z',eS (N + 1) ts ⟨false,a,n⟩=(t,z')->K (.va (.gs (aP t))) (eE ts z'):=fun t z' h=>by
       have hK:K (.va (.gs (aP (eS (N + 1) ts ⟨false,a,n⟩).1))) (eE ts (eS (N + 1) ts ⟨false,a,n⟩).2):=by unfold eS; exact hK
       rw [h] at hK; exact hK
      have hpl:∀ w t,((aT ts n).x == w)=true->(w == cL)=false->gV ts ⟨false,a,n⟩=(t,aX 1 w ts ⟨false,a,n⟩)->eS (N + 1) ts ⟨false,a,n⟩=(t,⟨false,a,n + 1⟩):=fun w t h1 h2 h3=>by
       have e:=eq_of_beq h1
       unfold eS
       simp only [hk,hx,e,h2,Bool.false_or,aF]
       rw [h3]
       unfold aX
       rw [hx,e,beq_self_eq_true,hnx.1]; rfl
      clear hK
      simp (maxSteps:=9^6) -dsimp only [go_sem,GU,M3]
      refine vK (z:=⟨false,a,n⟩) ht hn ?_
      simp (maxSteps:=9^6) -dsimp only [go_sem,cQ,kR]
      refine ⟨fun c=>⟨by omega,fin (.mk 1 0 (mk []) []) ⟨false,a,n + 1⟩ _ (hpl _ _ c rfl ?_)⟩,fun _=>?_⟩
      · rw [lB,hx,hx,eq_of_beq c]; rfl
      refine ⟨fun c=>⟨by omega,fin (.mk 2 8 (mk []) []) ⟨false,a,n + 1⟩ _ (hpl _ _ c rfl ?_)⟩,fun _=>?_⟩
      · rw [lB]; simp only [hx,eq_of_beq c]; rfl
      refine ⟨fun c=>⟨by omega,fin (.mk 2 16 (mk []) []) ⟨false,a,n + 1⟩ _ (hpl _ _ c rfl ?_)⟩,fun _=>?_⟩
      · rw [lB]; simp only [hx,eq_of_beq c]; rfl
      refine ⟨fun c=>⟨by omega,fin (.mk 2 32 (mk []) []) ⟨false,a,n + 1⟩ _ (hpl _ _ c rfl ?_)⟩,fun _=>?_⟩
      · rw [lB]; simp only [hx,eq_of_beq c]; rfl
      refine ⟨fun c=>⟨by omega,fin (.mk 2 64 (mk []) []) ⟨false,a,n + 1⟩ _ (hpl _ _ c rfl ?_)⟩,fun _=>?_⟩
      · rw [lB]; simp only [hx,eq_of_beq c]; rfl
      refine ⟨fun c=>⟨by omega,fin (.mk 3 8 (mk []) []) ⟨false,a,n + 1⟩ _ (hpl _ _ c rfl ?_)⟩,fun _=>?_⟩
      · rw [lB]; simp only [hx,eq_of_beq c]; rfl
      refine ⟨fun c=>⟨by omega,fin (.mk 3 16 (mk []) []) ⟨false,a,n + 1⟩ _ (hpl _ _ c rfl ?_)⟩,fun _=>?_⟩
      · rw [lB]; simp only [hx,eq_of_beq c]; rfl
      refine ⟨fun c=>⟨by omega,fin (.mk 3 32 (mk []) []) ⟨false,a,n + 1⟩ _ (hpl _ _ c rfl ?_)⟩,fun _=>?_⟩
      · rw [lB]; simp only [hx,eq_of_beq c]; rfl
      refine ⟨fun c=>⟨by omega,?_⟩,fun _=>⟨fun c=>⟨by omega,?_⟩,fun cl=>?_⟩⟩
      · have ex:=eq_of_beq c
        refine DN (z:=⟨false,a,n + 1⟩) ht hnx.2 ?_
        simp (maxSteps:=9^6) -dsimp only [go_sem]
        refine fin (.mk 4 (g9 ts ⟨false,a,n + 1⟩) (mk []) []) (fG ts ⟨false,a,n + 1⟩) _ ?_
        have hF:aX 1 wText ts ⟨false,a,n⟩=⟨false,a,n + 1⟩:=by unfold aX; rw [hx,ex,hnx.1]; rfl
        have hP:gV ts ⟨false,a,n⟩=(.mk 4 (g9 ts ⟨false,a,n + 1⟩) (mk []) [],fG ts ⟨false,a,n + 1⟩):=by rw [lB,hF,hx,hx,ex]; rfl
        unfold eS
        simp only [hk,hx,ex,Bool.false_or,aF]
        rw [hP]; rfl
      · have ex:=eq_of_beq c
        have hF:aX 1 cL ts ⟨false,a,n⟩=⟨false,a,n + 1⟩:=by unfold aX; rw [hx,ex,hnx.1]; rfl
        have hkd:eS (N + 1) ts ⟨false,a,n⟩=(.mk 5 (g9 ts ⟨false,a,n + 1⟩) (mk []) [(eS N ts (kE ts (fG ts ⟨false,a,n + 1⟩))).1],(eS N ts (kE ts (fG ts ⟨false,a,n + 1⟩))).2):=by
         rw [SZ]
         simp only [hk,hx,ex,Bool.false_or,aF]
         rw [hF]; rfl
        refine DN (z:=⟨false,a,n + 1⟩) ht hnx.2 ?_
        have n1:=pN (z:=⟨false,a,n + 1⟩) hnx.2
        have hvi:=C7 (z:=⟨false,a,n + 1⟩) ht hnx.2
        generalize g9 ts ⟨false,a,n + 1⟩=v at *
        generalize fG ts ⟨false,a,n + 1⟩=z1 at *
        simp only at n1
        simp (maxSteps:=9^6) -dsimp only [go_sem]
        refine aU rfl (.done ?_)
        simp (maxSteps:=9^6) -dsimp only [go_sem,DA]
        refine eC ht n1.2 ?_
        rw [show bl (mk [111,102])=rI from rfl,aDZ ht n1.2]
        have n2:=zN n1.2
        generalize kE ts z1=z2 at *
        simp (maxSteps:=9^6) -dsimp only [go_sem]
        refine aU rfl (.done ?_)
        simp (maxSteps:=9^6) -dsimp only [go_sem,CY]
        refine QR ht n2.2 (by omega) ?_
        generalize eS N ts z2=r at *
        obtain ⟨t,z3⟩:=r
        simp (maxSteps:=9^6) -dsimp only [go_sem]
        refine ⟨⟨dF t,fun c hc=>vH t c hc⟩,?_⟩
        refine .pub 2 _ _ _ rfl (.sel [0] (by simp) (by simp [cC]) rfl (.done ?_))
        have hK3:=hK2 _ _ hkd
        rw [bM] at hK3
        simp -dsimp only [go_sem,cC]
        exact hK3
      · refine aU rfl (.done ?_)
        simp (maxSteps:=9^6) -dsimp only [go_sem,CA]
        refine yM (z:=⟨false,a,n⟩) ht hn ?_
        simp (maxSteps:=9^6) -dsimp only [go_sem]
        refine fin (.mk 6 0 (cB true ts ⟨false,a,n⟩) []) (bJ true ts ⟨false,a,n⟩) _ ?_
        unfold eS
        simp only [hk,hx,Bool.false_or,aF]
        rw [show ((aT ts n).x == cL)=false from cl,lB]
        simp only [hx,gD,wText, *,aF]
    · simp -dsimp only [go_sem]<;>simp
    · simp -dsimp only [go_sem]<;>simp
theorem lK {k:Int} {w:List UInt8} {ts:List Tk} {z:Fs} (h:z.bad=true):aN k w ts z=false:=by unfold aN; rw [h]; rfl
theorem sI {ts:List Tk} {z:Fs} (h:z.bad=true):bP ts z=z:=by unfold bP; rw [h]; rfl
theorem iV (ts:List Tk) (z:Fs):(bP ts z).bad=true:=by
 unfold bP
 cases h:z.bad
 · rfl
 · exact h
theorem nX {c:Bool} {ts:List Tk} {z:Fs} (h:z.bad=true):bJ c ts z=z:=by unfold bJ fO; rw [h]; exact sI h
theorem yV {ts:List Tk} {z:Fs} (h:∀ w,aN 1 w ts z=false):gV ts z=(.mk 6 0 (cB true ts z) [],bJ true ts z):=by
 rw [lB]
 simp only [h,aF]
theorem UU {ts:List Tk} (ht:Tks ts):∀ (N:Nat) (z:Fs) (d:List Int) (F:Nat),z.n < ts.length->ts.length<=z.n + N->ts.length < z.n + F->
 (gV ts (lQ ts F d z).2).2=(eS N ts z).2/\((eS N ts z).2.bad=false->b8 (lQ ts F d z).1 (gV ts (lQ ts F d z).2).1=b8 d (eS N ts z).1)
 | 0,z,d,F,h1,h2,_=>by omega
 | N + 1,z,d,F,h1,h2,h3=>by
  obtain ⟨F,rfl⟩:∃ G,F=G + 1:=⟨F - 1,by omega⟩
  rw [j6]
  unfold eS
  cases hb:z.bad with
  | true=>
   rw [lK hb,aF,Bool.true_or,aK,yV fun w=>lK hb,nX hb,sI hb]
   exact ⟨rfl,fun q=>by rw [show z.bad=false from q] at hb; cases hb⟩
  | false=>
  cases hk:(aT ts z.n).k != 1 with
  | true=>
   have hno:∀ w,aN 1 w ts z=false:=fun w=>by
    unfold aN gC
    rw [bne,Bool.not_eq_true'] at hk
    rw [hk]; simp
   rw [hno,aF,Bool.false_or,aK,yV hno]
   have:bJ true ts z=bP ts z:=by
    rw [bne,Bool.not_eq_true'] at hk
    unfold bJ fO; rw [hk]; simp
   rw [this]
   refine ⟨rfl,fun q=>?_⟩
   have q:(bP ts z).bad=false:=q
   have q2:=iV ts z
   rw [q] at q2; cases q2
  | false=>
  rw [Bool.false_or,aF]
  cases hl:aN 1 cL ts z with
  | false=>
   rw [aF,aF]
   exact ⟨rfl,fun _=>rfl⟩
  | true=>
   rw [aK,aK]
   obtain ⟨g1,g2,g3⟩:=jV (by decide) ht.e h1 hl
   have e1:aX 1 cL ts z=⟨false,z.off,z.n + 1⟩:=by unfold aX; rw [hl,g1]; rfl
   rw [e1]
   have n1:=pN (z:=⟨false,z.off,z.n + 1⟩) g2
   have n2:=zN n1.2
   simp only at n1
   have ih:=UU ht N (kE ts (fG ts ⟨false,z.off,z.n + 1⟩)) (d ++ [g9 ts ⟨false,z.off,z.n + 1⟩]) F n2.2 (by omega) (by omega)
   refine ⟨ih.1,fun q=>(ih.2 q).trans ?_⟩
   exact zH ..
def Of (z:Fs):Prop:=0<=z.off
theorem lH {ts:List Tk} {z:Fs} (h:Of z):Of (bP ts z):=by
 unfold bP
 cases z.bad
 · show (0:Int)<=((aT ts z.n).a:Int); omega
 · exact h
section
variable {ts:List Tk} {z:Fs} (h:Of z)
include h
theorem lP {k:Int} {w:List UInt8}:Of (aX k w ts z):=by unfold aX; cases aN k w ts z<;>exact h
theorem iP {w:List UInt8}:Of (bG w ts z):=by
 unfold bG
 cases aN 4 w ts z
 · exact lH h
 · exact h
theorem pP {c:Bool}:Of (bJ c ts z):=by
 unfold bJ
 cases fO c ts z
 · exact lH h
 · exact h
theorem AS {c:Bool}:Of (dU c ts z):=by
 unfold dU
 cases gI c ts z
 · exact lH h
 · exact h
theorem K7:Of (fG ts z):=iP (AS (iP h))
theorem aAL:Of (kE ts z):=by
 unfold kE
 cases aN 1 rI ts z
 · exact lH h
 · exact h
theorem RP:∀ l:List Int,Of (lZ ts z l).2
 | []=>pP h
 | s :: r=>by
  rw [lZ]
  cases aN 1 (qV s) ts z
  · cases decide (s < 64) && aN 1 (m7 s) ts z
    · exact RP r
    · exact lP h
  · exact lP h
theorem P6:Of (gV ts z).2:=by
 unfold gV
 cases aN 1 gD ts z
 · cases aN 1 wText ts z
   · exact RP h szs
   · exact K7 (lP h)
 · exact lP h
end
theorem PM {ts:List Tk}:∀ (N:Nat) (z:Fs),Of z->Of (eS N ts z).2
 | 0,z,h=>by
  unfold eS
  cases z.bad || (aT ts z.n).k != 1
  · cases aN 1 cL ts z
    · exact P6 h
    · exact h
  · exact lH h
 | N + 1,z,h=>by
  unfold eS
  cases z.bad || (aT ts z.n).k != 1
  · cases aN 1 cL ts z
    · exact P6 h
    · exact PM N _ (aAL (K7 (lP h)))
  · exact lH h
theorem WU {ts:List Tk}:∀ (N:Nat) (z:Fs),z.n < ts.length->z.n<=(eS N ts z).2.n/\(eS N ts z).2.n < ts.length
 | 0,z,h=>by
  unfold eS
  cases z.bad || (aT ts z.n).k != 1
  · cases aN 1 cL ts z
    · exact NZ h
    · exact ⟨Nat.le_refl _,h⟩
  · rw [aK,jC]; exact ⟨Nat.le_refl _,h⟩
 | N + 1,z,h=>by
  unfold eS
  cases z.bad || (aT ts z.n).k != 1
  · cases aN 1 cL ts z
    · exact NZ h
    · have h1:=fJ (k:=1) (w:=cL) h
      have h2:=pN h1.2
      have h3:=zN h2.2
      have h4:=WU N _ h3.2
      rw [aF,aK]
      exact ⟨by show z.n<=(eS N ts (kE ts (fG ts (aX 1 cL ts z)))).2.n; omega,h4.2⟩
  · rw [aK,jC]; exact ⟨Nat.le_refl _,h⟩
def nT (ts:List Tk) (z:Fs):Ty × Fs:=eS ts.length ts z
theorem Q2 {ts:List Tk} {z:Fs} (ht:Tks ts) (hn:z.n < ts.length):(mO ts z).2=(nT ts z).2/\((nT ts z).2.bad=false->(mO ts z).1=(nT ts z).1):=
 UU ht ts.length z [] (ts.length + 1) hn (by omega) (by omega)
section
variable {ts:List Tk} {z:Fs} (h:z.bad=true)
include h
theorem IX {k:Int} {w:List UInt8}:aX k w ts z=z:=fM (lK h)
theorem iH {w:List UInt8}:bG w ts z=z:=by unfold bG; rw [lK h]; exact sI h
theorem YI {c:Bool}:dU c ts z=z:=by unfold dU gI; rw [h]; exact sI h
theorem ZB:(mO ts z).2=z:=by
 unfold mO
 rw [j6,lK h,aF,yV fun w=>lK h]
 exact nX h
end
theorem GQ {z y:Fs} (h:z.bad=true->y=z) (hy:y.bad=false):z.bad=false:=by
 cases hb:z.bad with
 | false=>rfl
 | true=>rw [h hb,hb] at hy; cases hy
def tV (ts:List Tk):Nat->List ByteArray->List Int->Fs->(List ByteArray × List Int) × Fs
 | 0,a,b,z=>((a,b),z)
 | f + 1,a,b,z=>
  bif aN 4 [44] ts (iY ts z) then tV ts f (a ++ [cB false ts z]) (b ++ [eQ false ts (bG [61] ts (bJ false ts z))]) (aX 4 [44] ts (iY ts z))
  else ((a ++ [cB false ts z],b ++ [eQ false ts (bG [61] ts (bJ false ts z))]),iY ts z)
theorem sD (ts:List Tk) (f:Nat) (a:List ByteArray) (b:List Int) (z:Fs):tV ts (f + 1) a b z=bif aN 4 [44] ts (iY ts z) then tV ts f (a ++ [cB false ts z]) (b ++ [eQ false ts (bG [61] ts (bJ false ts z))]) (aX 4 [44] ts (iY ts z))
 else ((a ++ [cB false ts z],b ++ [eQ false ts (bG [61] ts (bJ false ts z))]),iY ts z):=rfl
def mG (ts:List Tk) (z:Fs):En × Fs:=
 (⟨cB true ts z,(tV ts (ts.length + 1) [] [] (bG [123] ts (bJ true ts z))).1.1,(tV ts (ts.length + 1) [] [] (bG [123] ts (bJ true ts z))).1.2⟩,bG [125] ts (tV ts (ts.length + 1) [] [] (bG [123] ts (bJ true ts z))).2)
theorem KB {ts:List Tk} {z:Fs} (h:z.bad=true):iY ts z=z:=by unfold iY; rw [nX h,iH h,YI h]
theorem J2 {ts:List Tk}:∀ (f:Nat) (a:List ByteArray) (b:List Int) (z:Fs),z.bad=false->tV ts f a b z=mL ts f a b z
 | 0,_,_,_,_=>rfl
 | f + 1,a,b,z,h=>by
  rw [sD,mU,h,aF]
  cases hc:aN 4 [44] ts (iY ts z) with
  | false=>rfl
  | true=>
   rw [aK,aK]
   exact J2 f _ _ _ (by unfold aX; rw [hc]; rfl)
theorem YO {ts:List Tk} {f:Nat} {a:List ByteArray} {b:List Int} {z:Fs} (h:z.bad=true):(tV ts (f + 1) a b z).2=z:=by
 rw [sD,KB h,lK h]; rfl
theorem LT {ts:List Tk} {f:Nat} {a:List ByteArray} {b:List Int} {z:Fs} (h:z.bad=true):(mL ts (f + 1) a b z).2=z:=by
 rw [mU,h]; rfl
theorem PW (ts:List Tk) (z:Fs):(mG ts z).2=(gJ ts z).2:=by
 unfold mG gJ
 simp only
 cases hb:(bG [123] ts (bJ true ts z)).bad with
 | true=>rw [YO hb,LT hb]
 | false=>rw [J2 _ _ _ _ hb]
theorem aEF {ts:List Tk} {z:Fs} (h:(gJ ts z).2.bad=false):mG ts z=gJ ts z:=by
 have hb:(bG [123] ts (bJ true ts z)).bad=false:=by
  refine GQ (y:=(gJ ts z).2) (fun hb=>?_) h
  unfold gJ
  simp only
  rw [LT hb,iH hb]
 unfold mG gJ
 rw [J2 _ _ _ _ hb]
def qK (ts:List Tk) (z:Fs):Fl × Fs:=(⟨eQ false ts z,cB false ts (dU false ts z),(nT ts (n6 ts z)).1,aN 4 [63] ts (nT ts (n6 ts z)).2⟩,bG [59] ts (aX 4 [63] ts (nT ts (n6 ts z)).2))
def t6 (ts:List Tk):Nat->List Fl->Fs->List Fl × Fs
 | 0,l,z=>(l,z)
 | f + 1,l,z=>bif z.bad || aN 4 [125] ts z then (l,z) else t6 ts f (l ++ [(qK ts z).1]) (qK ts z).2
theorem tH (ts:List Tk) (f:Nat) (l:List Fl) (z:Fs):t6 ts (f + 1) l z=bif z.bad || aN 4 [125] ts z then (l,z) else t6 ts f (l ++ [(qK ts z).1]) (qK ts z).2:=rfl
def lX (ts:List Tk) (z:Fs):St × Fs:=(⟨cB true ts z,(t6 ts (ts.length + 1) [] (bG [123] ts (bJ true ts z))).1⟩,bG [125] ts (t6 ts (ts.length + 1) [] (bG [123] ts (bJ true ts z))).2)
theorem wX {ts:List Tk}:∀ {f:Nat} {l:List Fl} {z:Fs},z.bad=true->t6 ts f l z=(l,z)
 | 0,_,_,_=>rfl
 | f + 1,l,z,h=>by rw [tH,h]; rfl
theorem CU {ts:List Tk}:∀ {f:Nat} {l:List Fl} {z:Fs},z.bad=true->lW ts f l z=(l,z)
 | 0,_,_,_=>rfl
 | f + 1,l,z,h=>by rw [j9,h]; rfl
theorem UL {ts:List Tk} {z:Fs} (hn:z.n < ts.length):z.n<=(n6 ts z).n/\(n6 ts z).n < ts.length:=by
 have h1:=j3 (c:=false) hn
 have h2:=dY (c:=false) h1.2
 have h3:=cF (w:=[58]) h2.2
 unfold n6
 omega
theorem IU {ts:List Tk} {z:Fs} (ht:Tks ts) (hn:z.n < ts.length):(qK ts z).2=(jD ts z).2:=by
 unfold qK jD vG
 rw [(Q2 ht (UL hn).2).1]
theorem aCV {ts:List Tk} {z:Fs} (ht:Tks ts) (hn:z.n < ts.length) (h:(jD ts z).2.bad=false):qK ts z=jD ts z:=by
 have hk:=Q2 ht (UL hn).2
 have hb:(nT ts (n6 ts z)).2.bad=false:=by
  refine GQ (y:=(jD ts z).2) (fun hb=>?_) h
  unfold jD vG
  simp only
  rw [hk.1,IX hb,iH hb]
 unfold qK jD vG
 rw [hk.1,hk.2 hb]
theorem PS {ts:List Tk} {z:Fs} (hk:((aT ts z.n).k != 2)=true) (hb:z.bad=false):(jD ts z).2=bP ts z:=by
 have h0:dU false ts z=bP ts z:=by
  unfold dU gI
  rw [bne,Bool.not_eq_true'] at hk
  rw [hk,hb]; rfl
 have h1:=iV ts z
 have hA:n6 ts z=bP ts z:=by unfold n6; rw [h0,nX h1,iH h1]
 have hB:vG ts z=bP ts z:=by unfold vG; rw [hA,ZB h1]
 unfold jD
 simp only
 rw [hB,IX h1,iH h1]
theorem GW {ts:List Tk} (ht:Tks ts):∀ (f:Nat) (l:List Fl) (z:Fs),z.n < ts.length->ts.length < z.n + f->
 bG [125] ts (t6 ts f l z).2=(lW ts f l z).2/\((lW ts f l z).2.bad=false->(t6 ts f l z).1=(lW ts f l z).1)
 | 0,l,z,h1,h2=>by omega
 | f + 1,l,z,h1,h2=>by
  cases hb:z.bad with
  | true=>rw [wX hb,CU hb,iH hb]; exact ⟨rfl,fun _=>rfl⟩
  | false=>
  rw [tH,j9,hb]
  cases hh:aN 4 [125] ts z with
  | true=>
   simp only [Bool.or_true,aK,aF]
   refine ⟨?_,fun _=>?_⟩
   · unfold bG aX; rw [hh]; rfl
   · first | rfl | trivial
  | false=>
  cases hk:(aT ts z.n).k != 2 with
  | true=>
   simp only [Bool.or_false,aK,aF]
   have e:=PS hk hb
   rw [IU ht h1,e,wX (iV ts z),iH (iV ts z)]
   refine ⟨rfl,fun q=>?_⟩
   have q:(bP ts z).bad=false:=q
   rw [iV] at q; cases q
  | false=>
   simp only [Bool.or_false,aF]
   have hnu:gI false ts z=true:=by unfold gI; rw [hb]; rw [bne_eq_false_iff_eq] at hk; simp [hk]
   obtain ⟨q1,q2,_⟩:=HE ht.e h1 hnu
   have hz1:(dU false ts z).n=z.n + 1:=by unfold dU; rw [hnu]; exact q1
   have hgo:=BN h1
   have ih:=GW ht f (l ++ [(jD ts z).1]) (jD ts z).2 hgo.2 (by omega)
   have ih2:=GW ht f (l ++ [(qK ts z).1]) (jD ts z).2 hgo.2 (by omega)
   rw [IU ht h1]
   cases hf:(jD ts z).2.bad with
   | true=>
    rw [wX hf,CU hf,iH hf]
    refine ⟨rfl,fun q=>?_⟩
    have q:(jD ts z).2.bad=false:=q
    rw [hf] at q; cases q
   | false=>rw [aCV ht h1 hf]; exact ih
theorem IE {ts:List Tk} {z:Fs} (ht:Tks ts) (hn:z.n < ts.length):(lX ts z).2=(iB ts z).2/\((iB ts z).2.bad=false->lX ts z=iB ts z):=by
 have h1:=dY (c:=true) hn
 have h2:=cF (w:=[123]) h1.2
 have h3:=GW ht (ts.length + 1) [] _ h2.2 (by omega)
 refine ⟨h3.1,fun h=>?_⟩
 have h4:=h3.2 h
 unfold lX iB
 rw [h3.1,h4]
theorem LK {ts:List Tk} {z:Fs} (h:z.bad=true):(iB ts z).2=z:=by
 unfold iB
 simp only
 have h1:bG [123] ts (bJ true ts z)=z:=by rw [nX h,iH h]
 rw [h1,CU h]
def tQ (ts:List Tk):Nat->List En->List St->Fs->(List En × List St) × Fs
 | 0,a,b,z=>((a,b),z)
 | f + 1,a,b,z=>bif z.bad || (aT ts z.n).k == 0 then ((a,b),z) else
  bif aN 1 dA ts z then tQ ts f (a ++ [(mG ts (aX 1 dA ts z)).1]) b (mG ts (aX 1 dA ts z)).2
  else tQ ts f a (b ++ [(lX ts (fH dM ts z)).1]) (lX ts (fH dM ts z)).2
theorem sZ (ts:List Tk) (f:Nat) (a:List En) (b:List St) (z:Fs):tQ ts (f + 1) a b z=bif z.bad || (aT ts z.n).k == 0 then ((a,b),z) else
 bif aN 1 dA ts z then tQ ts f (a ++ [(mG ts (aX 1 dA ts z)).1]) b (mG ts (aX 1 dA ts z)).2
 else tQ ts f a (b ++ [(lX ts (fH dM ts z)).1]) (lX ts (fH dM ts z)).2:=rfl
theorem wK {ts:List Tk}:∀ (f:Nat) (a:List En) (b:List St) (z:Fs),z.bad=true->tQ ts f a b z=((a,b),z)
 | 0,_,_,_,_=>rfl
 | f + 1,a,b,z,h=>by rw [sZ,h,Bool.true_or,aK]
theorem GM {ts:List Tk} (ht:Tks ts):∀ (f:Nat) (a:List En) (b:List St) (z:Fs),z.n < ts.length->
 (tQ ts f a b z).2=(j4 ts f a b z).2/\((j4 ts f a b z).2.bad=false->(tQ ts f a b z).1=(j4 ts f a b z).1)
 | 0,a,b,z,h1=>⟨rfl,fun _=>rfl⟩
 | f + 1,a,b,z,h1=>by
  rw [sZ,kF]
  cases hb:z.bad || (aT ts z.n).k == 0 with
  | true=>exact ⟨rfl,fun _=>rfl⟩
  | false=>
  rw [aF,aF]
  cases he:aN 1 dA ts z with
  | true=>
   rw [aK,aK,PW]
   have hn1:=fJ (k:=1) (w:=dA) h1
   cases hf:(gJ ts (aX 1 dA ts z)).2.bad with
   | true=>
    rw [wK _ _ _ _ hf,xB _ _ _ _ hf]
    refine ⟨rfl,fun q=>?_⟩
    have q:(gJ ts (aX 1 dA ts z)).2.bad=false:=q
    rw [hf] at q; cases q
   | false=>rw [aEF hf]; exact GM ht f _ _ _ (FS hn1.2).2
  | false=>
  rw [aF,aF]
  have hnw:=C8 (w:=dM) h1
  have hS:=IE ht hnw.2
  rw [hS.1]
  cases hs:aN 1 dM ts z with
  | true=>
   have e:fH dM ts z=aX 1 dM ts z:=by unfold fH aX; rw [hs]; rfl
   rw [aK]
   rw [e] at hS ⊢
   have hn1:=fJ (k:=1) (w:=dM) h1
   cases hf:(iB ts (aX 1 dM ts z)).2.bad with
   | true=>
    rw [wK _ _ _ _ hf,xB _ _ _ _ hf]
    refine ⟨rfl,fun q=>?_⟩
    have q:(iB ts (aX 1 dM ts z)).2.bad=false:=q
    rw [hf] at q; cases q
   | false=>rw [hS.2 hf]; exact GM ht f _ _ _ (FH hn1.2).2
  | false=>
   have e:fH dM ts z=bP ts z:=by unfold fH; rw [hs]; rfl
   rw [e,LK (iV ts z),wK _ _ _ _ (iV ts z)]
   refine ⟨rfl,fun q=>?_⟩
   have q:(bP ts z).bad=false:=q
   rw [iV] at q; cases q
section
variable {ts:List Tk} {z:Fs} (h:Of z)
include h
theorem F6 {w:List UInt8}:Of (fH w ts z):=by
 unfold fH
 cases aN 1 w ts z
 · exact lH h
 · exact h
theorem aAD:Of (nT ts z).2:=PM _ _ h
theorem aFH:Of (qK ts z).2:=iP (lP (aAD (iP (pP (AS h)))))
theorem PF:Of (iY ts z):=AS (iP (pP h))
end
theorem Q3 {ts:List Tk}:∀ (f:Nat) (l:List Fl) (z:Fs),Of z->Of (t6 ts f l z).2
 | 0,_,_,h=>h
 | f + 1,l,z,h=>by
  rw [tH]
  cases z.bad || aN 4 [125] ts z
  · exact Q3 f _ _ (aFH h)
  · exact h
theorem aCN {ts:List Tk} {z:Fs} (h:Of z):Of (lX ts z).2:=iP (Q3 _ _ _ (iP (pP h)))
theorem RM {ts:List Tk}:∀ (f:Nat) (a:List ByteArray) (b:List Int) (z:Fs),Of z->Of (tV ts f a b z).2
 | 0,_,_,_,h=>h
 | f + 1,a,b,z,h=>by
  rw [sD]
  cases aN 4 [44] ts (iY ts z)
  · exact PF h
  · exact RM f _ _ _ (lP (PF h))
theorem aCQ {ts:List Tk} {z:Fs} (h:Of z):Of (mG ts z).2:=iP (RM _ _ _ _ (iP (pP h)))
theorem JQ {ts:List Tk}:∀ (f:Nat) (a:List En) (b:List St) (z:Fs),Of z->Of (tQ ts f a b z).2
 | 0,_,_,_,h=>h
 | f + 1,a,b,z,h=>by
  rw [sZ]
  cases z.bad || (aT ts z.n).k == 0
  · cases aN 1 dA ts z
    · exact JQ f _ _ _ (aCN (F6 h))
    · exact JQ f _ _ _ (aCQ (lP h))
  · exact h
def tX (t:Ty):Prop:=∃ d t0,t=b8 d t0/\t0.k ≠ 5/\t0.e=[]/\(t0.k=6->t0.s=0)
theorem aI2 (ts:List Tk) (z:Fs):(gV ts z).1.k=6->(gV ts z).1.s=0:=by
 have hS:∀ l:List Int,(lZ ts z l).1.k=6->(lZ ts z l).1.s=0:=fun l=>by
  induction l with
  | nil=>exact fun _=>rfl
  | cons s r ih=>
   rw [lZ]
   cases aN 1 (qV s) ts z
   · cases decide (s < 64) && aN 1 (m7 s) ts z
     · exact ih
     · exact fun h=>by have h:(3:Int)=6:=h; cases h
   · exact fun h=>by have h:(2:Int)=6:=h; cases h
 unfold gV
 cases aN 1 gD ts z
 · cases aN 1 wText ts z
   · exact hS szs
   · exact fun h=>by have h:(4:Int)=6:=h; cases h
 · exact fun h=>by have h:(1:Int)=6:=h; cases h
theorem aGQ (ts:List Tk) (z:Fs):tX (mO ts z).1:=⟨_,_,rfl,zA.1,zA.2,aI2 ts _⟩
theorem VU {ts:List Tk}:∀ (f:Nat) (l:List Fl) (z:Fs),(∀ x ∈ l,tX x.ty)->∀ x ∈ (lW ts f l z).1,tX x.ty
 | 0,_,_,h=>h
 | f + 1,l,z,h=>by
  rw [j9]
  cases z.bad
  · cases aN 4 [125] ts z
    · cases (aT ts z.n).k != 2
      · exact VU f _ _ fun x hx=>by
         rcases List.mem_append.1 hx with hx | hx
         · exact h x hx
         · rw [List.mem_singleton.1 hx]; exact aGQ ts _
      · exact h
    · exact h
  · exact h
theorem NY {ts:List Tk}:∀ (f:Nat) (a:List En) (b:List St) (z:Fs),(∀ t ∈ b,∀ x ∈ t.fs,tX x.ty)->∀ t ∈ (j4 ts f a b z).1.2,∀ x ∈ t.fs,tX x.ty
 | 0,_,_,_,h=>h
 | f + 1,a,b,z,h=>by
  rw [kF]
  cases z.bad || (aT ts z.n).k == 0
  · cases aN 1 dA ts z
    · cases aN 1 dM ts z
      · exact h
      · exact NY f _ _ _ fun t ht=>by
         rcases List.mem_append.1 ht with ht | ht
         · exact h t ht
         · rw [List.mem_singleton.1 ht]
           exact VU _ _ _ fun x hx=>by cases hx
    · exact NY f _ _ _ h
  · exact h
end Go.Proofs.YtgogpogophflhaaGreatDoor
