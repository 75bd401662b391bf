/- Lemmas and walks for the proof. -/
import Derived.Test.YthpbnmebjocbeaaGreatKe
import Derived.ProofKit
import Derived.OpenShut
import Derived.ChangeStays
import Derived.Deep.Slices
import Derived.JoinedCond
import Derived.KernelRfl
import Derived.Test.YthpbnmebjocbeaaGreatRows
set_option maxRecDepth 100000
set_option maxHeartbeats 8000000
namespace Go.Proofs.YthpbnmebjocbeaaGreat
open Go.W
abbrev MP (s:Sc) (nm:ByteArray) (v:Vl) (k:Int) (x:List UInt8):List C:=[.vl (.int .i64 s.ver),.fz (s.es.map a6),.fz (s.ss.map aI),.vl (.string nm),.vl (.int .i64 v.k),.vl (.int .i64 v.n),.vl (.string v.s),.fz (v.l.map aQ),.fz (v.f.map bD),.vl (.int .i64 k),.vl (.string (mk x))]
def aG2:List S->Prop:=fun av=>∃ (s:Sc) (nm:ByteArray) (v:Vl) (k:Int) (x:List UInt8),av=[.va (.gs (MP s nm v k x))]/\s.fit/\nm.size<=9223372036854775807/\VlOk v
theorem DA {Γ:b8} {k0:Nat} {x:PC} {fr:Fr} {H:Hp} {K:Ex->Fr->Hp->Prop} {up:List (Nat × S)} {Hs:Hp} (ns:List Nat) (h:vc Γ k0 x.ungh (dZ up) Hs K) (h3:ns.Nodup) (h4:∀ n ∈ ns,n < H.length) (h5:ns.take k0=List.range k0)
 (h1:wJ ns fr up) (h2:(oA H ns).map (B.ren (cX ns))=Hs):Gh k0 (fun fr' H'=>vc Γ k0 x.ungh fr' H' K) fr H:=
 .sel ns h3 h4 h5 (.wk _ (EM h1) (.done (by rw [h2]; exact h)))
theorem N7 {s:Sc} (hs:s.fit) (t:Ty):∀ f ∈ (stOf s t).fs,TySm f.ty:=by
 unfold stOf
 cases h:fS s.ss t.n with
 | none=>exact fun f hf=>by cases hf
 | some u=>exact (hs.sm u (List.mem_of_find?_eq_some h)).2
theorem K8:∀ (g:Nat) (last:Int) (b:List UInt8),∀ y ∈ (bY g last b).1,y.2.length<=b.length
 | 0,_,_,y,h=>by cases h
 | g + 1,last,b,y,h=>by
  rw [AK] at h
  have h1:=mR b last
  cases c0:b == [] with
  | true=>rw [c0] at h; cases h
  | false=>
  rw [c0,cond_false] at h
  cases c1:(aT b last).2.2 != 0 with
  | true=>rw [c1] at h; cases h
  | false=>
  rw [c1,cond_false] at h
  cases c2:(bY g (aT b last).1.1 (aT b last).2.1).2 != 0 with
  | true=>rw [c2] at h; cases h
  | false=>
  rw [c2,cond_false] at h
  rcases List.mem_cons.1 h with rfl | h
  · exact h1.1
  · have:=K8 g _ _ y h; omega
theorem aEX {s:Sc} {nm:ByteArray} {v:Vl} (h:(g7 s nm v).2=0):cA s.ss nm=true:=by
 unfold g7 at h
 cases c1:bN s != 0 with
 | true=>rw [c1] at h; exact absurd h (nG c1)
 | false=>
 rw [c1,cond_false] at h
 cases c2:cA s.ss nm with
 | true=>rfl
 | false=>rw [c2] at h; cases h
def lkFn:Fun:=⟨aG2,fun _=>bA true,fun _ _=>trivial⟩
attribute [go_sem] lkFn
noncomputable def qK:b8:=[(9,.s t8),(17,.s u0),(18,.s oN),(19,.s JK),(12,.s t7),(21,.s KG),(20,.f joFn),(14,.f eqFn2),(11,.f qTrue)]
theorem aCL:sp qK 9=t8:=rfl
theorem aC9:sp qK 17=u0:=rfl
theorem aDW:sp qK 18=oN:=rfl
theorem ZB:sp qK 19=JK:=rfl
theorem YQ:sp qK 12=t7:=rfl
theorem aC0:sp qK 21=KG:=rfl
theorem aCI:jB qK 20=some joFn:=rfl
theorem aCC:jB qK 14=some eqFn2:=rfl
theorem lH:jB qK 11=some qTrue:=rfl
theorem KU:Meets Tryz.prog 7 lkFn.sp:=by
 refine aD (Γ:=qK) Tryz.func7 aMN 1 (by rw [Tryz.ntmps7]; decide) (aC IL (aC NY (aC M6 (aC aDG (aC IB (aC aH3 (aH aHF (aH HZ (aH P3 (aB _)))))))))) (fun av H K h=>by obtain ⟨_,_,_,_,_,rfl,_⟩:=h.1.1; rfl) ?_
 rintro av H K ⟨⟨h,rfl⟩,hK⟩
 obtain ⟨s,nm,v,k,x,rfl,hs,hnm,hv⟩:=h
 have hK:K (bS true) []:=hK
 have fin:∀ R:Hp,W.Fin 0 K (bS true) R:=fun R=>.sel [] (by simp) (by simp) rfl (.done (by simpa [go_sem] using hK))
 clear hK
 simp (maxSteps:=1000000) -dsimp only [go_sem,aCZ,aDX,aCL]
 refine MK hs hnm hv ?_
 simp (maxSteps:=1000000) -dsimp only [go_sem]
 refine aA rfl (.done ?_)
 simp (maxSteps:=1000000) -dsimp only [go_sem,C5,aC9]
 refine i7 hs ?_
 have hst:stOf s (.mk 6 0 nm [])=(fS s.ss nm).getD default:=rfl
 have huo:=eZ hs (.mk 6 0 nm [])
 have hum:=N7 hs (.mk 6 0 nm [])
 have hsk:=fun h=>QQ hs hv (nm:=nm) (k:=k) (x:=x) h
 have hha:=aEX (s:=s) (nm:=nm) (v:=v)
 have hle:=fun h=>(RW hs hv (nm:=nm) h).2
 rw [hst] at huo hum hsk
 generalize (fS s.ss nm).getD default=u at *
 simp (maxSteps:=1000000) -dsimp only [go_sem,aI]
 refine aA rfl (.done ?_)
 cases c1:(g7 s nm v).2 != 0 with
 | true=>
  simp (maxSteps:=1000000) -dsimp only [go_sem,xA,c1,lH]
  exact fin _
 | false=>
 have h0:=fT c1
 have hha:=hha h0
 have hle:=hle h0
 have hsk:=hsk h0
 simp (maxSteps:=1000000) -dsimp only [go_sem,xA,c1]
 refine aA rfl (.done ?_)
 simp (maxSteps:=1000000) -dsimp only [go_sem,F6,hha,Bool.not_true]
 refine aA rfl (.done ?_)
 simp (maxSteps:=1000000) -dsimp only [go_sem,F5,aDW]
 refine rM huo hum ?_
 simp (maxSteps:=1000000) -dsimp only [go_sem,aR]
 refine aA rfl (.done ?_)
 cases c2:(fF u.fs k).isSome with
 | true=>
  simp (maxSteps:=1000000) -dsimp only [go_sem,lX,c2,lH]
  exact fin _
 | false=>
 cases c3:decide (k < 1) with
 | true=>
  simp (maxSteps:=1000000) -dsimp only [go_sem,lX,c2,c3,lH]
  exact fin _
 | false=>
 cases c4:decide (2147483647 < k) with
 | true=>
  simp (maxSteps:=1000000) -dsimp only [go_sem,lX,c2,c3,c4,lH]
  exact fin _
 | false=>
 cases c5:decide ((2000:Int) < (x.length:Int)) with
 | true=>
  simp (maxSteps:=1000000) -dsimp only [go_sem,lX,c2,c3,c4,c5,lH]
  exact fin _
 | false=>
 have g3:=of_decide_eq_false c3
 have g4:=of_decide_eq_false c4
 have g5:=of_decide_eq_false c5
 obtain ⟨_,L,hpL,hJ,hins⟩:=hsk ⟨by omega,by omega⟩ (by omega) (by simpa using c2)
 simp (maxSteps:=1000000) -dsimp only [go_sem,lX,c2,c3,c4,c5]
 refine aA rfl (.done ?_)
 simp (maxSteps:=1000000) -dsimp only [go_sem,xO,ZB]
 refine aDQ (by omega) ?_
 have e00:((0:Int) != 0)=false:=rfl
 rw [hpL]
 simp (maxSteps:=1000000) -dsimp only [go_sem]
 refine aA rfl (.done ?_)
 simp (maxSteps:=1000000) -dsimp only [go_sem,zY,e00]
 have hLl:L.length<=2000:=by
  have:=aBC (g7 s nm v).1
  rw [hpL] at this
  have h:=this; simp only at h; omega
 have hLs:∀ y ∈ L,y.2.length<=10000:=fun y hy=>by
  have h:=K8 (g7 s nm v).1.length 0 (g7 s nm v).1 y
  rw [<-CC hle,hpL] at h
  have:=h hy
  omega
 have T:∀ i,i<=L.length->(∀ y ∈ L.take i,y.1 < k)->(∀ y,L[i]? = some y->k<=y.1)->vc qK 0 pcY7_18.ungh (dZ [(1,.va (.c1 (.pt 0 0))),(9,.va (.c1 (.fz (L.map cD)))),(11,.va (.c1 (.sl 1 i)))]) [.cells (MP s nm v k x) 45,.row ((L.take i).map cD) 59 2] (mJ 0 [RV.mv (O.t 2)] K):=by
  intro i hi h1 h2
  have hins:=hins i hi h1 h2
  have hti:(L.take i).length=i:=by rw [List.length_take]; omega
  simp (maxSteps:=1000000) -dsimp only [go_sem,pcY7_18,PC.ungh]
  refine ⟨hti,by omega,?_⟩
  refine aA rfl (.done ?_)
  simp (maxSteps:=1000000) -dsimp only [go_sem,zS]
  refine ⟨hti,⟨by omega,by omega⟩,?_⟩
  refine aU (α:=Nat) (fun j=>[(1,.va (.c1 (.pt 0 0))),(9,.va (.c1 (.fz (L.map cD)))),(11,.va (.c1 (.sl 1 (j + 1)))),(13,iS .i64 j)])
   (fun j=>[.cells (MP s nm v k x) 45,.row ((L.take i ++ (k,x) :: (L.drop i).take (j - i)).map cD) 59 2])
   (fun j=>i<=j/\j<=L.length) (fun j=>L.length - j) i 2 ⟨Nat.le_refl _,hi⟩ ?_ ?_ ?_
  · simp -dsimp only [go_sem]<;>simp
  · simp -dsimp only [go_sem]<;>simp [cD]
  rintro j ⟨hij,hj⟩
  have htl:(L.take i ++ (k,x) :: (L.drop i).take (j - i)).length=j + 1:=by
   rw [List.length_append,List.length_cons,List.length_take,List.length_take,List.length_drop]; omega
  rcases a8 j L.length with hlt | hge
  · have hg:decide ((j:Int) < (L.length:Int))=true:=by simp; omega
    have hyi:L[j]? = some L[j]:=aV hlt
    have q2:=aY (row:=cD) hyi
    have ht:(L.drop i).take (j + 1 - i)=(L.drop i).take (j - i) ++ [L[j]]:=by
     have h3:(L.drop i)[j - i]? = some L[j]:=by rw [List.getElem?_drop,show i + (j - i)=j by omega]; exact hyi
     obtain ⟨h4,h5⟩:=bB.1 h3
     rw [show j + 1 - i=(j - i) + 1 by omega,List.take_succ_eq_append_getElem h4,h5]
    have ht2:L.take i ++ (k,x) :: (L.drop i).take (j + 1 - i)=(L.take i ++ (k,x) :: (L.drop i).take (j - i)) ++ [L[j]]:=by rw [ht,List.append_assoc,List.cons_append]
    generalize L[j]=y at *
    simp (maxSteps:=1000000) -dsimp only [go_sem,hg,↓q2,cD]
    rw [List.length_append,List.length_cons] at htl
    refine ⟨⟨by omega,by omega⟩,htl,by omega,⟨by omega,by omega⟩,aE (j + 1) 2 ⟨by omega,by omega⟩ (by omega) ?_ ?_⟩
    · simp -dsimp only [go_sem]<;>simp
    · simp -dsimp only [go_sem,ht2]<;>simp [cD]
  · have hg:decide ((j:Int) < (L.length:Int))=false:=by simp; omega
    obtain rfl:j=L.length:=by omega
    rw [List.take_of_length_le (l:=L.drop i) (i:=L.length - i) (by rw [List.length_drop]; omega)] at htl ⊢
    have hMs:∀ y ∈ L.take i ++ (k,x) :: L.drop i,y.2.length<=10000:=fun y hy=>by
     rcases List.mem_append.1 hy with hy | hy
     · exact hLs y (List.mem_of_mem_take hy)
     · rcases List.mem_cons.1 hy with rfl | hy
       · show x.length<=10000; omega
       · exact hLs y (List.mem_of_mem_drop hy)
    generalize L.take i ++ (k,x) :: L.drop i=M at *
    have hM1:(L.length + 1=M.length)=True:=eq_true htl.symm
    have hM2:QB (M.map cD)=True:=XN (by omega) hMs
    simp (maxSteps:=1000000) -dsimp only [go_sem,hg]
    refine aA rfl (.done ?_)
    simp (maxSteps:=1000000) -dsimp only [go_sem,xM,aCI,hM1,hM2,if_true,CX]
    refine aA rfl (.done ?_)
    cases c6:decide ((2000:Int) < ((jn M).length:Int)) with
    | true=>
     simp (maxSteps:=1000000) -dsimp only [go_sem,sF,c6,lH]
     exact fin _
    | false=>
    have g6:=of_decide_eq_false c6
    obtain ⟨hd1,hd2⟩:=hins (by omega)
    simp (maxSteps:=1000000) -dsimp only [go_sem,sF,c6]
    refine aA rfl (.done ?_)
    simp (maxSteps:=1000000) -dsimp only [go_sem,xI,YQ]
    refine LO hs (by omega) ?_
    rw [hd1]
    simp (maxSteps:=1000000) -dsimp only [go_sem,aK v,aC0]
    refine aAK (by omega) ?_
    rw [hd2]
    simp (maxSteps:=1000000) -dsimp only [go_sem,Option.map_some,Option.getD_some,Option.isSome_some]
    refine aA rfl (.done ?_)
    have k1:=dE hv
    have k2:=gH v
    have g1:((0:Int) == 0)=true:=rfl
    have em:(mk x == mk x)=true:=aBU _
    simp (maxSteps:=1000000) -dsimp only [go_sem,yF,aCC,lH,k1,k2,g1,em,DC,Bool.true_and]
    exact fin _
 refine cM (α:=Nat) (fun i=>[(1,.va (.c1 (.pt 0 0))),(9,.va (.c1 (.fz (L.map cD)))),(11,.va (.c1 (.sl 3 i))),(12,iS .i64 i)])
  (fun i=>[.cells (MP s nm v k x) 45,.cells [.vl (.string u.nm),.fz (u.fs.map aR)] 48,.cells [.vl (.int .i64 ((fF u.fs k).getD default).num),.vl (.string ((fF u.fs k).getD default).nm),.vl (.int .i64 ((fF u.fs k).getD default).ty.k),.vl (.int .i64 ((fF u.fs k).getD default).ty.s),.vl (.string ((fF u.fs k).getD default).ty.n),.fz (((fF u.fs k).getD default).ty.e.map aW),.vl (.bool ((fF u.fs k).getD default).opt)] 52,.row ((L.take i).map cD) 59 2])
  (fun i=>i<=L.length/\∀ y ∈ L.take i,y.1 < k) (fun i=>L.length - i) (.nil 11 59 2 rfl (jJ 0 4 ⟨Nat.zero_le _,fun y h=>by cases h⟩ ?_ ?_)) ?_
 · simp -dsimp only [go_sem]<;>simp
 · simp -dsimp only [go_sem]<;>simp
 rintro i ⟨hi,hik⟩
 have hti:(L.take i).length=i:=by rw [List.length_take]; omega
 rcases a8 i L.length with hlt | hge
 · have hg:decide ((i:Int) < (L.length:Int))=true:=by simp; omega
   have hyi:L[i]? = some L[i]:=aV hlt
   have q2:=aY (row:=cD) hyi
   have ht:L.take (i + 1)=L.take i ++ [L[i]]:=List.take_succ_eq_append_getElem hlt
   generalize L[i]=y at *
   cases c6:decide (y.1 < k) with
   | true=>
    have g6:=of_decide_eq_true c6
    simp (maxSteps:=1000000) -dsimp only [go_sem,hg,↓q2,cD,c6]
    refine ⟨⟨by omega,by omega⟩,⟨by omega,by omega⟩,hti,by omega,⟨by omega,by omega⟩,aE (i + 1) 4 ⟨by omega,fun z hz=>?_⟩ (by omega) ?_ ?_⟩
    · rw [ht] at hz
      rcases List.mem_append.1 hz with hz | hz
      · exact hik z hz
      · rw [List.mem_singleton.1 hz]; exact g6
    · simp -dsimp only [go_sem]<;>simp
    · simp -dsimp only [go_sem,ht]<;>simp [cD]
   | false=>
    have g6:=of_decide_eq_false c6
    simp (maxSteps:=1000000) -dsimp only [go_sem,hg,↓q2,cD,c6]
    refine ⟨⟨by omega,by omega⟩,?_⟩
    refine aA rfl (DA [0,3] (T i hi hik fun z hz=>?_) (by decide) (by simp) rfl ?_ ?_)
    · rw [hyi] at hz
      obtain rfl:=bT hz
      omega
    · simp -dsimp only [go_sem]<;>simp
    · simp -dsimp only [go_sem]<;>simp
 · have hg:decide ((i:Int) < (L.length:Int))=false:=by simp; omega
   simp (maxSteps:=1000000) -dsimp only [go_sem,hg]
   refine aA rfl (DA [0,3] (T i hi hik fun y hy=>?_) (by decide) (by simp) rfl ?_ ?_)
   · have:=(bB.1 hy).1; omega
   · simp -dsimp only [go_sem]<;>simp
   · simp -dsimp only [go_sem]<;>simp
end Go.Proofs.YthpbnmebjocbeaaGreat
namespace Go.W
open Go.RowKit
structure Stay (w w':World):Prop where
 os:w'.os=w.os
 out:w'.output=w.output
 size:w.heap.size<=w'.heap.size
 keep:∀ b:Nat,b < w.heap.size->w'.heap[b]? = w.heap[b]?
theorem Stay.kept {w w':World} (h:Stay w w') (may:MemPlace->Prop):w.keptBut w' may:=by
 refine ⟨h.os,h.out,fun i hi=>?_⟩
 rw [h.keep i hi]
 split
 · rename_i h1 h2; rw [h1] at h2; cases h2; exact ⟨rfl,rfl,rfl,fun _ _=>rfl⟩
 · rename_i h1 h2; rw [h1] at h2; cases h2; exact Or.inr ⟨rfl,rfl⟩
 · rfl
theorem Stay.frozen {w w':World} (h:Stay w w') {a:Addr} (ha:a.block < w.heap.size):w'.frozen? a=w.frozen? a:=by
 unfold World.frozen?; rw [h.keep _ ha]
theorem Stay.cell {w w':World} (h:Stay w w') {a:Addr} (ha:a.block < w.heap.size):w'.cell? a=w.cell? a:=by
 unfold World.cell?; rw [h.keep _ ha]
theorem XW {w:World} {ro:RO} (h:∀ (b off:Nat) (v:Value),ro b off=some v->w.cell? ⟨b,off,none⟩=some v):Rel ⟨w,cK [],ro,gm []⟩ [] ro w where
 own:=fun n g blk h=>by simp at h
 inj:=fun n m gn gm bn bm b h=>by simp at h
 apart:=fun b off v _ n g blk h=>by simp at h
 rd:=h
 ro0:=fun _ _ _ h=>h
 rob:=fun b off v h=>.inl h
 par:=fun n b g blk h=>by simp at h
 gx:=.refl _
 sz:=Nat.le_refl _
 keep:=fun b _ _=>rfl
 os:=rfl
 tape:=rfl
 output:=rfl
theorem Meets.run {P:Program} {f:FuncId} {s:Fun} (hm:Meets P f s.sp) {av:List S} {vs:List Value} {ro:RO} {w:World} {x:A} (hpre:s.pre av) (hval:s.val av=x) (hl:av.length=vs.length)
 (hrel:∀ (i:Nat) (x:S) (v:Value),av[i]? = some x->vs[i]? = some v->x.rel (gm []) ro v) (hro:∀ (b off:Nat) (v:Value),ro b off=some v->w.cell? ⟨b,off,none⟩=some v) (hG:GR P ro w) :
 Calls P f vs.toArray w fun e w'=>∃ v γ ro',e=.returned v/\S.rel γ ro' (.va x) v/\Stay w w':=by
 subst hval
 refine (hm.2 av vs [] ro w (fun r H=>r=.va (s.val av)/\H=[]) hl hrel (XW hro) ⟨⟨hpre,rfl⟩,rfl,rfl⟩ hG).mono ?_
 rintro e w' ⟨r,v,E',ro',rfl,h1,⟨rfl,h2⟩,h3⟩
 exact ⟨v,_,ro',rfl,h1,h3.os,h3.output,h3.sz,fun b hb=>h3.keep b hb (by simp [cK])⟩
theorem Meets.yes {P:Program} {f:FuncId} {s:Fun} (hm:Meets P f s.sp) {av:List S} {vs:List Value} {ro:RO} {w:World} (hpre:s.pre av) (hval:s.val av=.c1 (.vl (.bool true))) (hl:av.length=vs.length)
 (hrel:∀ (i:Nat) (x:S) (v:Value),av[i]? = some x->vs[i]? = some v->x.rel (gm []) ro v) (hro:∀ (b off:Nat) (v:Value),ro b off=some v->w.cell? ⟨b,off,none⟩=some v) (hG:GR P ro w) :
 Calls P f vs.toArray w fun e w'=>e=.returned (.bool true)/\Stay w w':=by
 refine (hm.run hpre hval hl hrel hro hG).mono ?_
 rintro e w' ⟨v,γ,ro',rfl,h1,h2⟩
 have:v=.bool true:=h1
 exact ⟨by rw [this],h2⟩
section
variable {H:Type} {enc:TypeId × Value->H} {P:Program}
theorem DX {f:Func} {s:ChangeSpec} {apart fresh handsOn again:Bool} {W W':World} {args:Array Value} {v:Value} {ds gs:List (DataW H)} {before pa pv:List MemPlace}
 (hW:DataW.Whole enc P f.params.toList s.vars apart W args.toList ds gs before)
 (hres:∀ (b:Nat) (sp:Nat->Bool) (hd:Bool),DataW.TrodAll enc P W' b sp hd f.resultTypes.toList (v.resultList f.resultTypes.size) (s.fn H (ds ++ gs)).results [])
 (hargs:∀ sp:Nat->Bool,(∀ p ∈ before,sp p.block=true)->DataW.TrodAll enc P W' 0 sp true f.params.toList args.toList (s.fn H (ds ++ gs)).args pa)
 (hvars:∀ sp:Nat->Bool,(∀ p ∈ before,sp p.block=true)->DataW.TrodVars enc P W' sp s.vars (s.fn H (ds ++ gs)).vars pv)
 (hps:before=pa ++ pv) (hs:Stay W W')
 (hok:∀ (j:Nat) (t:TypeId) (r:Value),f.resultTypes[j]? = some t->(v.resultList f.resultTypes.size)[j]? = some r->Value.okWide P W' .any 0 t r) :
 s.post enc P f apart fresh handsOn again W args v W':=by
 have hlt:∀ p ∈ before,p.block < W.heap.size:=fun p hp=>hW.lt p hp
 have hsp:∀ p ∈ before,(fun b=>decide (b < W.heap.size)) p.block=true:=fun p hp=>by simpa using hlt p hp
 have hall:∀ p ∈ before,(fun _:Nat=>true) p.block=true:=fun _ _=>rfl
 obtain ⟨_,_,_,_,_,hz,hn⟩:=id hW
 refine ⟨ds,gs,before,[],pa,pv,hW,hres _ _ _,hargs _ hsp,hvars _ hsp,World.keptBut_mono (fun p hp=>⟨hp,.inr ?_⟩) (hs.kept (· ∈ before)),fun _=>⟨hok,_,_,([] ++ pa) ++ pv,
  ⟨[] ++ pa,pv,ChangeShapes.trodAll_append (hargs _ hall) (hres _ _ _),hvars _ hall,rfl,fun b off hp=>?_,fun ha=>?_⟩,fun p hp _=>?_⟩⟩
 · rw [hps,List.mem_append] at hp; exact hp
 · have hb:MemPlace.cell b off ∈ before:=by rw [hps]; simpa using hp
   rw [hs.frozen (hlt _ hb)]
   exact hz b off hb
 · have:=hn ha
   rw [hps] at this
   simpa using this
 · rw [hps]
   simpa using hp
end
open Go.RowKit
def kZ (W:World):RO:=fun b off=>W.cell? ⟨b,off,none⟩
theorem aAB (W:World):∀ (b off:Nat) (v:Value),kZ W b off=some v->W.cell? ⟨b,off,none⟩=some v:=fun _ _ _ h=>h
theorem Z1 (ro:RO):FzR ro [] (.slice none 0 0):=
 FzR.mk [] 1 none none (fun h=>absurd rfl h) 0 (fun _=>.bool true) (by simp) (by simp) (by simp) (by simp) (by simp) (by simp) (by simp)
def oG (P:Program):Bool:=(List.range P.types.size).all fun t=>match P.underlying t with | some (.slice e)=>decide (0 < P.cellsOf e) | _=>true
section
variable {H:Type} {enc:TypeId × Value->H} {P:Program}
theorem NB {W W':World} (h:Stay W W') {p:MemPlace} (hp:p.block < W.heap.size):W.sameAt W' p:=by
 cases p with
 | cell b off=>exact h.cell (a:=⟨b,off,none⟩) hp
 | map b=>exact h.keep b hp
theorem qI {W W':World} {sp:Nat->Bool} (hl:laidOutB P=true) (hm:mapsRowed P=true) (hs:oG P=true) (hst:Stay W W') :
 ∀ {ts:List TypeId} {vs:List Value} {ds:List (DataW H)} {ps:List MemPlace},(∀ t ∈ ts,t < P.types.size)->DataW.TrodAll enc P W 0 (fun _=>true) true ts vs ds ps->(∀ p ∈ ps,p.block < W.heap.size)->(∀ p ∈ ps,sp p.block=true)->
  DataW.TrodAll enc P W' 0 sp true ts vs ds ps
 | [],[],[],ps,_,h,_,_=>h
 | t :: ts,v :: vs,d :: ds,ps,ht,h,hb,hp=>by
  obtain ⟨p,q,⟨n,h1⟩,h2,rfl⟩:=h
  have hsz:∀ {t e:TypeId},t < P.types.size->P.underlying t=some (.slice e)->0 < P.cellsOf e:=fun {t e} ht hu=>by
   have:=List.all_eq_true.1 hs t (List.mem_range.2 ht)
   rw [hu] at this
   simpa using this
  exact ⟨p,q,⟨n,DataW.trod_stays (T:=(· < P.types.size)) (kids_rows hl hm) hsz (fun h=>by cases h) (ht t (by simp)) h1 (fun x hx=>NB hst (hb x (by simp [hx]))) (fun x hx=>hp x (by simp [hx]))⟩,
   qI hl hm hs hst (fun u hu=>ht u (by simp [hu])) h2 (fun x hx=>hb x (by simp [hx])) (fun x hx=>hp x (by simp [hx])),rfl⟩
 | [],_ :: _,_,_,_,h,_,_=>h.elim
 | [],[],_ :: _,_,_,h,_,_=>h.elim
 | _ :: _,[],_,_,_,h,_,_=>h.elim
 | _ :: _,_ :: _,[],_,_,h,_,_=>h.elim
theorem P0 {f:Func} {s:ChangeSpec} {apart fresh handsOn again:Bool} {W W':World} {args:Array Value} {ds gs:List (DataW H)} {before:List MemPlace} {tb:TypeId}
 (hl:laidOutB P=true) (hm:mapsRowed P=true) (hsr:oG P=true) (hps:∀ t ∈ f.params.toList,t < P.types.size) (hrt:f.resultTypes=#[tb]) (htb:P.underlying tb=some .bool)
 (hvars:s.vars=[]) (hW:DataW.Whole enc P f.params.toList s.vars apart W args.toList ds gs before) (hfn:s.fn H (ds ++ gs)={ results:=[.lit (.bool true)],args:=ds,vars:=[] }) (hst:Stay W W') :
 s.post enc P f apart fresh handsOn again W args (.bool true) W':=by
 have hlt:∀ p ∈ before,p.block < W.heap.size:=fun p hp=>hW.lt p hp
 obtain ⟨p,q,hA,hV,hb,_,_⟩:=id hW
 have hq:q=[]:=by
  rw [hvars] at hV
  cases gs with
  | nil=>exact hV
  | cons g gs=>exact hV.elim
 subst hq
 have hbp:before=p:=by rw [hb]; simp
 refine DX (pa:=p) (pv:=[]) hW (fun b sp hd=>?_) (fun sp hsp=>?_) (fun sp hsp=>?_) hb hst ?_
 · rw [hrt,hfn]
   exact ⟨[],[],⟨1,by simp [DataW.trod,Value.cells,htb]⟩,rfl,rfl⟩
 · rw [hfn]
   rw [hbp] at hlt hsp
   exact qI hl hm hsr hst hps hA hlt hsp
 · rw [hfn,hvars]; rfl
 · intro j t r h1 h2
   rw [hrt] at h1 h2
   match j with
   | 0=>
    cases h1
    cases h2
    simp [Value.okWide,Cell.okWide,Cell.ok,htb]
   | j + 1=>cases h1
end
open Go.RowKit
inductive Fit (P:Program):TypeId->List C->Prop
 | int {t:TypeId} {k:IntKind} {n:Int}:P.underlying t=some (.int k)->(Lit.int k n).wf=true->Fit P t [.vl (.int k n)]
 | bool {t:TypeId} {b:Bool}:P.underlying t=some .bool->Fit P t [.vl (.bool b)]
 | str {t:TypeId} {s:ByteArray}:P.underlying t=some .string->s.size<=maxLen->Fit P t [.vl (.string s)]
 | sl {t e:TypeId} {xs:List (List C)}:P.underlying t=some (.slice e)->xs.length<=maxLen->(∀ r ∈ xs,Fit P e r)->Fit P t [.fz xs]
 | st {t:TypeId} {fs:Array Field} {parts:List (List C)}:P.underlying t=some (.struct fs)->parts.length=fs.size->(∀ (i:Nat) (f:Field) (p:List C),fs[i]? = some f->parts[i]? = some p->Fit P f.type p)->Fit P t parts.flatten
section
variable {P:Program} {t e:TypeId} {xs:List C}
theorem Fit.inv_int {k:IntKind} (ht:P.underlying t=some (.int k)) (h:Fit P t xs):∃ n:Int,xs=[.vl (.int k n)]/\(Lit.int k n).wf=true:=by
 cases h with
 | int h1 h2=>rw [ht] at h1; cases h1; exact ⟨_,rfl,h2⟩
 | bool h1=>rw [ht] at h1; cases h1
 | str h1=>rw [ht] at h1; cases h1
 | sl h1=>rw [ht] at h1; cases h1
 | st h1=>rw [ht] at h1; cases h1
theorem Fit.inv_bool (ht:P.underlying t=some .bool) (h:Fit P t xs):∃ b:Bool,xs=[.vl (.bool b)]:=by
 cases h with
 | int h1 h2=>rw [ht] at h1; cases h1
 | bool h1=>exact ⟨_,rfl⟩
 | str h1=>rw [ht] at h1; cases h1
 | sl h1=>rw [ht] at h1; cases h1
 | st h1=>rw [ht] at h1; cases h1
theorem Fit.inv_str (ht:P.underlying t=some .string) (h:Fit P t xs):∃ s:ByteArray,xs=[.vl (.string s)]/\s.size<=maxLen:=by
 cases h with
 | int h1 h2=>rw [ht] at h1; cases h1
 | bool h1=>rw [ht] at h1; cases h1
 | str h1 h2=>exact ⟨_,rfl,h2⟩
 | sl h1=>rw [ht] at h1; cases h1
 | st h1=>rw [ht] at h1; cases h1
theorem Fit.inv_sl (ht:P.underlying t=some (.slice e)) (h:Fit P t xs):∃ ys:List (List C),xs=[.fz ys]/\ys.length<=maxLen/\∀ r ∈ ys,Fit P e r:=by
 cases h with
 | int h1 h2=>rw [ht] at h1; cases h1
 | bool h1=>rw [ht] at h1; cases h1
 | str h1=>rw [ht] at h1; cases h1
 | sl h1 h2 h3=>rw [ht] at h1; cases h1; exact ⟨_,rfl,h2,h3⟩
 | st h1=>rw [ht] at h1; cases h1
theorem Fit.inv_st {fs:Array Field} (ht:P.underlying t=some (.struct fs)) (h:Fit P t xs):∃ parts:List (List C),xs=parts.flatten/\parts.length=fs.size/\∀ (i:Nat) (f:Field) (p:List C),fs[i]? = some f->parts[i]? = some p->Fit P f.type p:=by
 cases h with
 | int h1 h2=>rw [ht] at h1; cases h1
 | bool h1=>rw [ht] at h1; cases h1
 | str h1=>rw [ht] at h1; cases h1
 | sl h1=>rw [ht] at h1; cases h1
 | st h1 h2 h3=>rw [ht] at h1; cases h1; exact ⟨_,rfl,h2,h3⟩
end
theorem Fit.rows {P:Program} {e:TypeId} {α:Type} {row:α->List C} {Q:α->Prop} {ys:List (List C)} (hi:∀ r,Fit P e r->∃ a,r=row a/\Q a) (h:∀ r ∈ ys,Fit P e r):∃ l:List α,ys=l.map row/\∀ a ∈ l,Q a:=by
 induction ys with
 | nil=>exact ⟨[],rfl,fun a h=>by cases h⟩
 | cons r ys ih=>
  obtain ⟨l,h1,h2⟩:=ih fun r hr=>h r (List.mem_cons_of_mem _ hr)
  obtain ⟨a,h3,h4⟩:=hi r (h r (by simp))
  refine ⟨a :: l,by rw [h1,h3]; rfl,fun x hx=>?_⟩
  rcases List.mem_cons.1 hx with rfl | hx
  · exact h4
  · exact h2 x hx
def GA (P:Program):Nat->List Field->Option Nat
 | o,[]=>some o
 | o,f :: r=>if f.offset=o then GA P (o + P.cellsOf f.type) r else none
def J4 (P:Program) (ts:List TypeId):Bool:=ts.all fun t=>match P.underlying t with
 | some (.int _) | some .bool | some .string=>true
 | some (.slice e)=>ts.contains e && decide (0 < P.cellsOf e)
 | some (.struct fs)=>fs.toList.all (fun f=>ts.contains f.type) && GA P 0 fs.toList == some (P.cellsOf t)
 | _=>false
theorem aA1 {P:Program} {R:C->Value->Prop} {Q:Field->List C->Prop} {cs:List Value}:∀ (fs:List Field) (o:Nat),GA P o fs=some cs.length->
 (∀ (i:Nat) (f:Field),fs[i]? = some f->∃ p,Q f p/\All2 R p ((cs.drop f.offset).take (P.cellsOf f.type)))->
 ∃ parts:List (List C),parts.length=fs.length/\(∀ (i:Nat) (f:Field) (p:List C),fs[i]? = some f->parts[i]? = some p->Q f p)/\All2 R parts.flatten (cs.drop o)
 | [],o,ho,_=>by
  simp only [GA,aF] at ho
  subst ho
  exact ⟨[],rfl,fun i f p h=>by simp at h,by simpa using All2.nil⟩
 | f :: fs,o,ho,h=>by
  simp only [GA] at ho
  split at ho
  · rename_i hf
    obtain ⟨parts,h1,h2,h3⟩:=aA1 fs _ ho fun i f hf=>h (i + 1) f (by simpa using hf)
    obtain ⟨p,h4,h5⟩:=h 0 f rfl
    refine ⟨p :: parts,by simp [h1],fun i g q hg hq=>?_,?_⟩
    · cases i with
      | zero=>simp at hg hq; subst hg hq; exact h4
      | succ i=>exact h2 i g q (by simpa using hg) (by simpa using hq)
    · have:cs.drop o=(cs.drop f.offset).take (P.cellsOf f.type) ++ cs.drop (o + P.cellsOf f.type):=by
       rw [hf,<-List.drop_drop,List.take_append_drop]
      rw [List.flatten_cons,this]
      exact h5.app h3
  · cases ho
section
variable {H:Type} {enc:TypeId × Value->H} {P:Program} {W:World} {ts:List TypeId}
theorem KY {b off len cap sz:Nat} {oa:Option Addr} (hoa:len ≠ 0->oa=some ⟨b,off,none⟩) (hsz:0 < sz) (X:Nat->List C) (hl:∀ i,i < len->(X i).length=sz) (hc:len<=cap)
 (h:∀ i,i < len->∀ j c,(X i)[j]? = some c->∃ v,W.cell? ⟨b,off + (i * sz + j),none⟩=some v/\c.fv (kZ W) v/\c.shut=true) :
 FzR (kZ W) ((List.range len).map X) (.slice oa len cap):=by
 have hz:∀ x ∈ (List.range len).map X,x.length=sz:=fun x hx=>by
  obtain ⟨i,hi,rfl⟩:=List.mem_map.1 hx
  exact hl i (List.mem_range.1 hi)
 have hfl:∀ k c,((List.range len).map X).flatten[k]? = some c->∃ v,W.cell? ⟨b,off + k,none⟩=some v/\c.fv (kZ W) v/\c.shut=true:=fun k c hk=>by
  have hkl:k < len * sz:=by
   have h1:=(bB.1 hk).1
   rw [tG _ hz] at h1
   simpa using h1
  have hi:k / sz < len:=(Nat.div_lt_iff_lt_mul hsz).2 hkl
  have hj:=Nat.mod_lt k hsz
  have hg:=lU hz (i:=k / sz) (j:=k % sz) (by simpa using hi) hj
  rw [Nat.mul_comm,Nat.div_add_mod,hk] at hg
  have hxi:((List.range len).map X)[k / sz]? = some (X (k / sz)):=by simp [hi]
  rw [hxi,Option.bind_some] at hg
  have:=h (k / sz) hi (k % sz) c hg.symm
  rwa [Nat.mul_comm,Nat.div_add_mod] at this
 have hr:=FzR.mk (ro:=kZ W) ((List.range len).map X) sz (some (b,off)) oa (fun hne=>hoa (fun e=>by subst e; simp at hne)) cap (fun k=>(W.cell? ⟨b,off + k,none⟩).getD undef) hz (by simpa using hc) (fun _=>rfl)
  (fun k c hk=>by
    obtain ⟨v,h2,_⟩:=hfl k c hk
    simp [kZ,h2])
  (fun k v hk=>by
    obtain ⟨u,h1,h2,_⟩:=hfl k _ hk
    have:u=v:=h2
    simp [h1,this])
  (fun k ys hk=>by
    obtain ⟨u,h1,h2,_⟩:=hfl k _ hk
    have:FzR (kZ W) ys u:=h2
    simpa [h1] using this)
  (fun c hc=>by
    obtain ⟨k,hk⟩:=List.mem_iff_getElem?.1 hc
    obtain ⟨u,_,_,h3⟩:=hfl k c hk
    exact h3)
 simpa using hr
theorem aDB {cs:List C} {vs:Array Value} (h:All2 (C.fv (kZ W)) cs (Value.agg vs).cells.toList) (hs:∀ c ∈ cs,c.shut=true):(S.va (.gs cs)).rel (gm []) (kZ W) (.agg vs):=
 ⟨vs.toList,by simp,⟨by simpa [Value.cells] using h.1,fun i c v hc hv=>(C.rel_shut (hs c (b5 hc))).2 (h.2 i c v hc (by simpa [Value.cells] using hv))⟩⟩
end
end Go.W
namespace Go.Proofs.YthpbnmebjocbeaaGreat
open Go.W
theorem v3:Tryz.prog.underlying 3=some (.int .i64):=by kernel_rfl
theorem v4:Tryz.prog.underlying 4=some .bool:=by kernel_rfl
theorem v9:Tryz.prog.underlying 9=some .string:=by kernel_rfl
theorem v22:Tryz.prog.underlying 22=some (.slice 118):=by kernel_rfl
theorem v23:Tryz.prog.underlying 23=some (.slice 48):=by kernel_rfl
theorem v30:Tryz.prog.underlying 46=some (.slice 52):=by kernel_rfl
theorem v35:Tryz.prog.underlying 116=some (.slice 9):=by kernel_rfl
theorem MS:Tryz.prog.underlying 40=some (.slice 42):=by kernel_rfl
theorem v45:Tryz.prog.underlying 64=some (.slice 3):=by kernel_rfl
theorem NI:Tryz.prog.underlying 42=some (.struct #[⟨"Kind",3,0,false,"","",0⟩,⟨"Size",3,1,false,"","",8⟩,⟨"Name",9,2,false,"","",16⟩,⟨"Elem",40,3,false,"","",32⟩]):=by kernel_rfl
theorem v53:Tryz.prog.underlying 52=some (.struct #[⟨"Number",3,0,false,"","",0⟩,⟨"Name",9,1,false,"","",8⟩,⟨"Type",42,2,false,"","",24⟩,⟨"Optional",4,6,false,"","",80⟩]):=by kernel_rfl
theorem v32:Tryz.prog.underlying 48=some (.struct #[⟨"Name",9,0,false,"","",0⟩,⟨"Fields",46,1,false,"","",16⟩]):=by kernel_rfl
theorem v47:Tryz.prog.underlying 118=some (.struct #[⟨"Name",9,0,false,"","",0⟩,⟨"Names",116,1,false,"","",16⟩,⟨"Numbers",64,2,false,"","",40⟩]):=by kernel_rfl
theorem v25:Tryz.prog.underlying 25=some (.struct #[⟨"Version",3,0,false,"","",0⟩,⟨"Enums",22,1,false,"","",8⟩,⟨"Structs",23,2,false,"","",32⟩]):=by kernel_rfl
theorem hZ {α:Type} {row:α->List C} {Q:α->Prop} {ys:List (List C)} (h:∀ r ∈ ys,∃ a,r=row a/\Q a):∃ l:List α,ys=l.map row/\∀ a ∈ l,Q a:=by
 induction ys with
 | nil=>exact ⟨[],rfl,fun a h=>by cases h⟩
 | cons r ys ih=>
  obtain ⟨l,h1,h2⟩:=ih fun r hr=>h r (List.mem_cons_of_mem _ hr)
  obtain ⟨a,h3,h4⟩:=h r List.mem_cons_self
  refine ⟨a :: l,by rw [h1,h3]; rfl,fun x hx=>?_⟩
  rcases List.mem_cons.1 hx with rfl | hx
  · exact h4
  · exact h2 x hx
theorem pR {n:Int} (h:(Lit.int .i64 n).wf=true):bM n:=by simpa [bM,Lit.wf,IntKind.min,IntKind.max,IntKind.signed,IntKind.bits] using h
theorem tY {n:Nat} (h:n<=maxLen):n<=9223372036854775807:=by unfold maxLen at h; exact h
theorem tU {H:Type} {d:DataW H}:∀ {l:List (DataW H)},d ∈ l->Rows.uptoBulk d<=Rows.uptoBulkAll l
 | x :: r,h=>by
  simp only [Rows.uptoBulkAll]
  rcases List.mem_cons.1 h with rfl | e
  · omega
  · have:=tU e; omega
theorem EY {H:Type} (d:DataW H):0 < Rows.uptoBulk d:=by
 cases d with
 | lit l=>cases l<;>simp [Rows.uptoBulk]
 | _=>simp [Rows.uptoBulk]
theorem A9 {H:Type}:∀ l:List (DataW H),l.length<=Rows.uptoBulkAll l
 | []=>Nat.zero_le _
 | d :: l=>by have:=A9 l; have:=EY d; simp only [Rows.uptoBulkAll,List.length_cons]; omega
inductive FitB (P:Program):TypeId->List C->Nat->Prop
 | int {t:TypeId} {k:IntKind} {n:Int} {m:Nat}:P.underlying t=some (.int k)->(Lit.int k n).wf=true->FitB P t [.vl (.int k n)] m
 | bool {t:TypeId} {b:Bool} {m:Nat}:P.underlying t=some .bool->FitB P t [.vl (.bool b)] m
 | str {t:TypeId} {s:ByteArray} {m:Nat}:P.underlying t=some .string->s.size<=maxLen->FitB P t [.vl (.string s)] m
 | sl {t e:TypeId} {xs:List (List C)} {m:Nat}:P.underlying t=some (.slice e)->xs.length<=maxLen->xs.length<=m->(∀ r ∈ xs,FitB P e r m)->FitB P t [.fz xs] (m + 1)
 | st {t:TypeId} {fs:Array Field} {parts:List (List C)} {m:Nat}:P.underlying t=some (.struct fs)->parts.length=fs.size->(∀ (i:Nat) (f:Field) (p:List C),fs[i]? = some f->parts[i]? = some p->FitB P f.type p m)->FitB P t parts.flatten (m + 1)
theorem FitB.fit {P:Program} {t:TypeId} {xs:List C} {m:Nat} (h:FitB P t xs m):Fit P t xs:=by
 induction h with
 | int h1 h2=>exact .int h1 h2
 | bool h1=>exact .bool h1
 | str h1 h2=>exact .str h1 h2
 | sl h1 h2 _ _ ih=>exact .sl h1 h2 ih
 | st h1 h2 _ ih=>exact .st h1 h2 ih
theorem FitB.mono {P:Program} {t:TypeId} {xs:List C} {m:Nat} (h:FitB P t xs m):∀ {n:Nat},m<=n->FitB P t xs n:=by
 induction h with
 | int h1 h2=>exact fun _=>.int h1 h2
 | bool h1=>exact fun _=>.bool h1
 | str h1 h2=>exact fun _=>.str h1 h2
 | @sl t e xs m h1 h2 h3 _ ih=>
  intro n hn
  obtain ⟨n,rfl⟩:∃ k,n=k + 1:=⟨n - 1,by omega⟩
  exact .sl h1 h2 (by omega) fun r hr=>ih r hr (by omega)
 | @st t fs parts m h1 h2 _ ih=>
  intro n hn
  obtain ⟨n,rfl⟩:∃ k,n=k + 1:=⟨n - 1,by omega⟩
  exact .st h1 h2 fun i f p hf hp=>ih i f p hf hp (by omega)
section
variable {P:Program} {t e:TypeId} {xs:List C} {m:Nat}
theorem FitB.inv_sl (ht:P.underlying t=some (.slice e)) (h:FitB P t xs (m + 1)):∃ ys:List (List C),xs=[.fz ys]/\ys.length<=m/\∀ r ∈ ys,FitB P e r m:=by
 generalize hm:m + 1=k at h
 cases h with
 | int h1 h2=>rw [ht] at h1; cases h1
 | bool h1=>rw [ht] at h1; cases h1
 | str h1=>rw [ht] at h1; cases h1
 | sl h1 h2 h3 h4=>rw [ht] at h1; cases h1; cases hm; exact ⟨_,rfl,h3,h4⟩
 | st h1 h2 h3=>rw [ht] at h1; cases h1
theorem FitB.inv_st {fs:Array Field} (ht:P.underlying t=some (.struct fs)) (h:FitB P t xs (m + 1)):∃ parts:List (List C),xs=parts.flatten/\parts.length=fs.size/\∀ (i:Nat) (f:Field) (p:List C),fs[i]? = some f->parts[i]? = some p->FitB P f.type p m:=by
 generalize hm:m + 1=k at h
 cases h with
 | int h1 h2=>rw [ht] at h1; cases h1
 | bool h1=>rw [ht] at h1; cases h1
 | str h1=>rw [ht] at h1; cases h1
 | sl h1=>rw [ht] at h1; cases h1
 | st h1 h2 h3=>rw [ht] at h1; cases h1; cases hm; exact ⟨_,rfl,h2,h3⟩
theorem FitB.inv_sl' (ht:P.underlying t=some (.slice e)) (h:FitB P t xs m):∃ ys:List (List C),xs=[.fz ys]/\ys.length<=m/\∀ r ∈ ys,FitB P e r m:=by
 obtain ⟨ys,h1,h2,h3⟩:=FitB.inv_sl ht (h.mono (Nat.le_succ m))
 exact ⟨ys,h1,h2,h3⟩
theorem FitB.inv_st' {fs:Array Field} (ht:P.underlying t=some (.struct fs)) (h:FitB P t xs m):∃ parts:List (List C),xs=parts.flatten/\parts.length=fs.size/\∀ (i:Nat) (f:Field) (p:List C),fs[i]? = some f->parts[i]? = some p->FitB P f.type p m:=
 FitB.inv_st ht (h.mono (Nat.le_succ m))
end
section
variable {H:Type} {enc:TypeId × Value->H} {P:Program} {W:World} {ts:List TypeId}
theorem kX (hok:J4 P ts=true):∀ (n:Nat) (t:TypeId) (cs:List Value) (y:DataW H × List MemPlace),t ∈ ts->DataW.trod enc P W 0 (fun _=>true) true n t cs=some y->
 ∃ xs,FitB P t xs (Rows.uptoBulk y.1)/\All2 (C.fv (kZ W)) xs cs/\∀ c ∈ xs,c.shut=true
 | 0,t,cs,y,_,h=>by simp [DataW.trod] at h
 | n + 1,t,cs,y,ht,h=>by
  have h1:=List.all_eq_true.1 hok t ht
  split at h1
  · rename_i k hu
    obtain ⟨m,rfl,_,hw⟩:=DataW.trod_int hu h
    exact ⟨_,.int hu hw,.cons rfl .nil,fun c hc=>by simp at hc; subst hc; rfl⟩
  · rename_i hu
    obtain ⟨b,rfl,_⟩:=DataW.trod_bool hu h
    exact ⟨_,.bool hu,.cons rfl .nil,fun c hc=>by simp at hc; subst hc; rfl⟩
  · rename_i hu
    obtain ⟨s,rfl,_,hs⟩:=DataW.trod_string hu h
    exact ⟨_,.str hu hs,.cons rfl .nil,fun c hc=>by simp at hc; subst hc; rfl⟩
  · rename_i e hu
    simp only [Bool.and_eq_true,List.contains_iff_mem,decide_eq_true_eq] at h1
    obtain ⟨he,hpos⟩:=h1
    rcases DataW.trod_slice hu h with ⟨rfl,hy⟩ | ⟨a,len,cap,elems,rest,n',hn',rfl,hy,_,hl,hm,hel,hi,_⟩
    · refine ⟨_,(FitB.sl (m:=0) hu (Nat.zero_le _) (Nat.zero_le _) (fun r hr=>by cases hr)).mono (EY _),.cons (Z1 _) .nil,fun c hc=>by simp at hc; subst hc; rfl⟩
    · obtain rfl:n=n':=by omega
      subst hy
      have hbk:Rows.uptoBulk (DataW.slice (elems.map (·.1)) (rest.map (·.1)))=Rows.uptoBulkAll (elems.map (·.1)) + Rows.uptoBulkAll (rest.map (·.1)) + 1:=by simp only [Rows.uptoBulk]
      generalize hM:Rows.uptoBulkAll (elems.map (·.1)) + Rows.uptoBulkAll (rest.map (·.1))=M at hbk
      show ∃ xs,FitB P t xs (Rows.uptoBulk (DataW.slice (elems.map (·.1)) (rest.map (·.1))))/\_
      rw [hbk]
      have hlM:len<=M:=by
       have:=A9 (elems.map (·.1))
       rw [List.length_map,hel] at this
       omega
      have hall:∀ i,i < len->∃ x:List C,FitB P e x M/\x.length=P.cellsOf e/\(∀ j c,x[j]? = some c->∃ v,W.cell? ((a.add (i * P.cellsOf e)).add j)=some v/\c.fv (kZ W) v/\c.shut=true):=fun i hil=>by
       have h1:=hi i hil
       rw [aV (by omega)] at h1
       obtain ⟨cs',h2,h3⟩:=Option.bind_eq_some_iff.1 h1
       obtain ⟨x,h4,h5,h6⟩:=kX hok n e cs' _ he h3
       obtain ⟨_,h7,h8⟩:=World.cells?_some h2
       refine ⟨x,h4.mono ?_,h5.1.trans h7,fun j c hj=>?_⟩
       · have:=tU (List.mem_map_of_mem (f:=(·.1)) (List.getElem_mem (show i < elems.length by omega)))
         omega
       obtain ⟨v,h9,h10⟩:=h5.get hj
       have hjl:j < P.cellsOf e:=by rw [<-h7,<-h5.1]; exact (bB.1 hj).1
       refine ⟨v,?_,h10,h6 c (b5 hj)⟩
       have:=h8 j hjl
       rwa [h9] at this
      by_cases h0:len=0
      · subst h0
        refine ⟨[.fz []],.sl hu (Nat.zero_le _) (Nat.zero_le _) (fun r hr=>by cases hr),.cons ?_ .nil,fun c hc=>by simp at hc; subst hc; rfl⟩
        exact KY (b:=0) (off:=0) (fun h=>absurd rfl h) hpos (fun _=>[]) (fun i hi=>by omega) (Nat.zero_le _) (fun i hi=>by omega)
      · obtain ⟨x0,_,hx0l,hx0⟩:=hall 0 (by omega)
        have hsp:a.spot=none:=by
         have hx:∃ c,x0[0]? = some c:=⟨_,aV (by omega)⟩
         obtain ⟨c,hc⟩:=hx
         obtain ⟨v,hv,_⟩:=hx0 0 c hc
         unfold World.cell? at hv
         split at hv
         · split at hv
           · cases hv
           · rename_i hs; simpa [Addr.add] using hs
         · cases hv
        obtain ⟨b,off,spot⟩:=a
        obtain rfl:spot=none:=hsp
        haveI:Inhabited (List C):=⟨[]⟩
        obtain ⟨X,hX⟩:=Go.Deep.choose_lt hall
        refine ⟨[.fz ((List.range len).map X)],.sl hu (by simp; omega) (by simpa using hlM) (fun r hr=>?_),.cons ?_ .nil,fun c hc=>by simp at hc; subst hc; rfl⟩
        · obtain ⟨i,hi,rfl⟩:=List.mem_map.1 hr
          exact (hX i (List.mem_range.1 hi)).1
        · exact KY (fun _=>rfl) hpos X (fun i hi=>(hX i hi).2.1) hl (fun i hi j c hj=>by
           obtain ⟨v,h2,h3⟩:=(hX i hi).2.2 j c hj
           exact ⟨v,by simpa [Go.WideShapes.add_plain,Nat.add_assoc] using h2,h3⟩)
  · rename_i fs hu
    simp only [Bool.and_eq_true,List.all_eq_true,List.contains_iff_mem,beq_iff_eq] at h1
    obtain ⟨hft,hof⟩:=h1
    obtain ⟨ys,n',hn,hy,hcl,hyl,hf⟩:=DataW.trod_struct hu h
    obtain rfl:n=n':=by omega
    subst hy
    show ∃ xs,FitB P t xs (Rows.uptoBulk (DataW.agg (ys.map (·.1))))/\_
    rw [show Rows.uptoBulk (DataW.agg (ys.map (·.1)))=Rows.uptoBulkAll (ys.map (·.1)) + 1 by simp only [Rows.uptoBulk]]
    obtain ⟨parts,k1,k2,k3⟩:=aA1 (P:=P) (R:=fun c v=>C.fv (kZ W) c v/\c.shut=true) (Q:=fun f p=>FitB P f.type p (Rows.uptoBulkAll (ys.map (·.1)))) (cs:=cs) fs.toList 0 (by rw [hcl]; exact hof) (fun i f hfi=>by
     have hfi':fs[i]? = some f:=by simpa using hfi
     have h2:=hf i f hfi'
     have hil:i < fs.size:=(Array.getElem?_eq_some_iff.1 hfi').1
     rw [aV (by omega)] at h2
     obtain ⟨x,h4,h5,h6⟩:=kX hok n f.type _ _ (hft f (b5 hfi)) h2
     exact ⟨x,h4.mono (tU (List.mem_map_of_mem (f:=(·.1)) (List.getElem_mem (show i < ys.length by omega)))),⟨h5.1,fun j c v hc hv=>⟨h5.2 j c v hc hv,h6 c (b5 hc)⟩⟩⟩)
    refine ⟨parts.flatten,.st hu (by simpa using k1) (fun i f p hfi hp=>k2 i f p (by simpa using hfi) hp),?_,fun c hc=>?_⟩
    · simpa using k3.imp (fun _ _ h=>h.1)
    · obtain ⟨j,hj⟩:=List.mem_iff_getElem?.1 hc
      obtain ⟨v,_,_,h3⟩:=k3.get hj
      exact h3
  · cases h1
theorem GJ (hok:J4 P ts=true) {t:TypeId} {v:Value} {d:DataW H} {ps:List MemPlace} (ht:t ∈ ts) (h:DataW.Trod enc P W 0 (fun _=>true) true t v d ps):∃ xs,FitB P t xs (Rows.uptoBulk d)/\All2 (C.fv (kZ W)) xs v.cells.toList/\∀ c ∈ xs,c.shut=true:=by
 obtain ⟨n,h⟩:=h
 exact kX hok n t _ _ ht h
end
theorem aHS:∀ {t:TypeId} {cs:List C} {m:Nat},FitB Tryz.prog t cs m->m<=1048576->(t=42->∃ a,cs=aW a/\TyOk a/\TySm a/\(bL a).1<=m)/\(t=40->∃ l:List Ty,cs=[.fz (l.map aW)]/\l.length<=m/\∀ a ∈ l,TyOk a/\TySm a/\(bL a).1 + 1<=m):=by
 intro t cs m h
 induction h with
 | int h1 _=>exact fun _=>⟨fun e=>(by rw [e,NI] at h1; cases h1),fun e=>(by rw [e,MS] at h1; cases h1)⟩
 | bool h1=>exact fun _=>⟨fun e=>(by rw [e,NI] at h1; cases h1),fun e=>(by rw [e,MS] at h1; cases h1)⟩
 | str h1 _=>exact fun _=>⟨fun e=>(by rw [e,NI] at h1; cases h1),fun e=>(by rw [e,MS] at h1; cases h1)⟩
 | @sl t e xs m h1 h2 h3 h4 ih=>
  intro hm
  refine ⟨fun e=>(by rw [e,NI] at h1; cases h1),fun e=>?_⟩
  subst e
  rw [MS] at h1
  cases h1
  obtain ⟨l,rfl,hl⟩:=hZ (row:=aW) (Q:=fun a=>TyOk a/\TySm a/\(bL a).1<=m) fun r hr=>(ih r hr (by omega)).1 rfl
  exact ⟨l,rfl,by simp at h3; omega,fun a ha=>⟨(hl a ha).1,(hl a ha).2.1,Nat.succ_le_succ (hl a ha).2.2⟩⟩
 | @st t fs parts m h1 h2 h3 ih=>
  intro hm
  refine ⟨fun e=>?_,fun e=>(by rw [e,MS] at h1; cases h1)⟩
  subst e
  rw [NI] at h1
  cases h1
  match parts,h2 with
  | [p0,p1,p2,p3],_=>
   obtain ⟨k,rfl,hk⟩:=Fit.inv_int v3 (h3 0 _ p0 rfl rfl).fit
   obtain ⟨s,rfl,hs⟩:=Fit.inv_int v3 (h3 1 _ p1 rfl rfl).fit
   obtain ⟨n,rfl,hn⟩:=Fit.inv_str v9 (h3 2 _ p2 rfl rfl).fit
   obtain ⟨l,rfl,hl,ho⟩:=(ih 3 _ p3 rfl rfl (by omega)).2 rfl
   refine ⟨.mk k s n l,by rw [aW,bH]; rfl,.mk (pR hk) (pR hs) (tY hn) (by omega) fun a ha=>(ho a ha).1,.mk (by omega) fun a ha=>(ho a ha).2.1,?_⟩
   rw [bL]
   cases k == 5 with
   | false=>exact Nat.zero_le _
   | true=>
    show (A2 l _).1<=m + 1
    cases l with
    | nil=>rw [A2]; exact Nat.zero_le _
    | cons u r=>rw [A2]; have:=(ho u List.mem_cons_self).2.2; show (bL u).1 + 1<=m + 1; omega
theorem ZS (m:Nat) (hm:m<=1048576) (cs:List C) (h:FitB Tryz.prog 42 cs m):∃ a,cs=aW a/\TyOk a/\TySm a/\(bL a).1<=m:=(aHS h hm).1 rfl
theorem Y2 {m:Nat} (hm:m<=1048576) {cs:List C} (h:FitB Tryz.prog 52 cs m):∃ a:Fl,cs=aR a/\a.ok/\TySm a.ty/\(bL a.ty).1<=1000000000:=by
 obtain ⟨parts,rfl,h2,h3⟩:=FitB.inv_st' v53 h
 match parts,h2 with
 | [p0,p1,p2,p3],_=>
  obtain ⟨k,rfl,hk⟩:=Fit.inv_int v3 (h3 0 _ p0 rfl rfl).fit
  obtain ⟨n,rfl,hn⟩:=Fit.inv_str v9 (h3 1 _ p1 rfl rfl).fit
  obtain ⟨t,rfl,ht,hs,hl⟩:=ZS _ hm _ (h3 2 _ p2 rfl rfl)
  obtain ⟨b,rfl⟩:=Fit.inv_bool v4 (h3 3 _ p3 rfl rfl).fit
  exact ⟨⟨k,n,t,b⟩,by rw [aS]; rfl,⟨pR hk,tY hn,ht⟩,hs,by show (bL t).1<=_; omega⟩
theorem aC1 {m:Nat} (hm:m<=1048576) {cs:List C} (h:FitB Tryz.prog 48 cs m):∃ a:St,cs=aI a/\a.ok/\a.fs.length<=1000000000/\(∀ f ∈ a.fs,TySm f.ty)/\∀ f ∈ a.fs,(bL f.ty).1<=1000000000:=by
 obtain ⟨parts,rfl,h2,h3⟩:=FitB.inv_st' v32 h
 match parts,h2 with
 | [p0,p1],_=>
  obtain ⟨n,rfl,hn⟩:=Fit.inv_str v9 (h3 0 _ p0 rfl rfl).fit
  obtain ⟨ys,rfl,hl,hy⟩:=FitB.inv_sl' v30 (h3 1 _ p1 rfl rfl)
  obtain ⟨l,rfl,ho⟩:=hZ (row:=aR) (Q:=fun f=>f.ok/\TySm f.ty/\(bL f.ty).1<=1000000000) fun r hr=>Y2 hm (hy r hr)
  rw [List.length_map] at hl
  exact ⟨⟨n,l⟩,rfl,⟨tY hn,by show l.length<=_; omega,fun f hf=>(ho f hf).1⟩,by show l.length<=_; omega,fun f hf=>(ho f hf).2.1,fun f hf=>(ho f hf).2.2⟩
theorem aBZ {m:Nat} (hm:m<=1048576) {cs:List C} (h:FitB Tryz.prog 118 cs m):∃ a:En,cs=a6 a/\a.ok/\a.ns.length<=1000000000/\a.vs.length<=1000000000:=by
 obtain ⟨parts,rfl,h2,h3⟩:=FitB.inv_st' v47 h
 match parts,h2 with
 | [p0,p1,p2],_=>
  obtain ⟨n,rfl,hn⟩:=Fit.inv_str v9 (h3 0 _ p0 rfl rfl).fit
  obtain ⟨ys,rfl,hl,hy⟩:=FitB.inv_sl' v35 (h3 1 _ p1 rfl rfl)
  obtain ⟨zs,rfl,hl2,hz⟩:=FitB.inv_sl' v45 (h3 2 _ p2 rfl rfl)
  obtain ⟨l,rfl,ho⟩:=hZ (row:=bZ) (Q:=fun b=>b.size<=9223372036854775807) fun r hr=>by
   obtain ⟨s,rfl,hs⟩:=Fit.inv_str v9 (hy r hr).fit; exact ⟨s,rfl,tY hs⟩
  obtain ⟨k,rfl,hk⟩:=hZ (row:=eH) (Q:=bM) fun r hr=>by
   obtain ⟨s,rfl,hs⟩:=Fit.inv_int v3 (hz r hr).fit; exact ⟨s,rfl,pR hs⟩
  rw [List.length_map] at hl hl2
  exact ⟨⟨n,l,k⟩,rfl,⟨tY hn,by show l.length<=_; omega,by show k.length<=_; omega,ho,hk⟩,by show l.length<=_; omega,by show k.length<=_; omega⟩
theorem aB7 (m:Nat) (hm:m<=1048576) (cs:List C) (h:FitB Tryz.prog 25 cs m):∃ a:Sc,cs=aJ a/\a.fit:=by
 obtain ⟨parts,rfl,h2,h3⟩:=FitB.inv_st' v25 h
 match parts,h2 with
 | [p0,p1,p2],_=>
  obtain ⟨n,rfl,hn⟩:=Fit.inv_int v3 (h3 0 _ p0 rfl rfl).fit
  obtain ⟨ys,rfl,hl,hy⟩:=FitB.inv_sl' v22 (h3 1 _ p1 rfl rfl)
  obtain ⟨zs,rfl,hl2,hz⟩:=FitB.inv_sl' v23 (h3 2 _ p2 rfl rfl)
  obtain ⟨l,rfl,ho⟩:=hZ (row:=a6) (Q:=fun e:En=>e.ok/\e.ns.length<=1000000000/\e.vs.length<=1000000000) fun r hr=>aBZ hm (hy r hr)
  obtain ⟨k,rfl,hk⟩:=hZ (row:=aI) (Q:=fun a:St=>a.ok/\a.fs.length<=1000000000/\(∀ f ∈ a.fs,TySm f.ty)/\∀ f ∈ a.fs,(bL f.ty).1<=1000000000) fun r hr=>aC1 hm (hz r hr)
  rw [List.length_map] at hl hl2
  exact ⟨⟨n,l,k⟩,rfl,⟨⟨pR hn,by show l.length<=_; omega,by show k.length<=_; omega,fun e he=>(ho e he).1,fun t ht=>(hk t ht).1⟩,fun t ht=>(hk t ht).2.2.2,fun t ht=>⟨(hk t ht).2.1,(hk t ht).2.2.1⟩,fun e he=>(ho e he).2⟩⟩
theorem KN:Tryz.prog.underlying 29=some (.struct #[⟨"Kind",3,0,false,"","",0⟩,⟨"N",2,1,false,"","",8⟩,⟨"S",9,2,false,"","",16⟩,⟨"L",26,3,false,"","",32⟩,⟨"F",27,4,false,"","",56⟩]):=by kernel_rfl
theorem KP:Tryz.prog.underlying 76=some (.struct #[⟨"Number",3,0,false,"","",0⟩,⟨"Value",29,1,false,"","",8⟩]):=by kernel_rfl
theorem EJ:Tryz.prog.underlying 26=some (.slice 29):=by kernel_rfl
theorem FK:Tryz.prog.underlying 27=some (.slice 76):=by kernel_rfl
theorem yIn:Tryz.prog.underlying 2=some (.int .i64):=by kernel_rfl
theorem MD {m:Nat}:∀ {l:List Vl},(∀ v ∈ l,v.h<=m)->Vl.hl l<=m
 | [],_=>by rw [Vl.hl]; exact Nat.zero_le _
 | v :: l,h=>by rw [Vl.hl]; have:=h v List.mem_cons_self; have:=MD fun x hx=>h x (List.mem_cons_of_mem _ hx); omega
theorem MF {m:Nat}:∀ {l:List (Int × Vl)},(∀ x ∈ l,x.2.h<=m)->Vl.hf l<=m
 | [],_=>by rw [Vl.hf]; exact Nat.zero_le _
 | (i,v) :: l,h=>by rw [Vl.hf]; have:=h (i,v) List.mem_cons_self; have:=MF fun x hx=>h x (List.mem_cons_of_mem _ hx); dsimp only at *; omega
theorem aH1:∀ {t:TypeId} {cs:List C} {m:Nat},FitB Tryz.prog t cs m->m<=1048576->(t=29->∃ a,cs=aQ a/\VlOk a/\a.h<=m)/\(t=26->∃ l:List Vl,cs=[.fz (l.map aQ)]/\l.length<=m/\∀ a ∈ l,VlOk a/\a.h + 1<=m)/\
 (t=76->∃ x:Int × Vl,cs=bD x/\(bM x.1/\VlOk x.2/\x.2.h + 1<=m))/\(t=27->∃ l:List (Int × Vl),cs=[.fz (l.map bD)]/\l.length<=m/\∀ x ∈ l,bM x.1/\VlOk x.2/\x.2.h + 1<=m):=by
 intro t cs m h
 induction h with
 | int h1 _=>exact fun _=>⟨fun e=>(by rw [e,KN] at h1; cases h1),fun e=>(by rw [e,EJ] at h1; cases h1),fun e=>(by rw [e,KP] at h1; cases h1),fun e=>(by rw [e,FK] at h1; cases h1)⟩
 | bool h1=>exact fun _=>⟨fun e=>(by rw [e,KN] at h1; cases h1),fun e=>(by rw [e,EJ] at h1; cases h1),fun e=>(by rw [e,KP] at h1; cases h1),fun e=>(by rw [e,FK] at h1; cases h1)⟩
 | str h1 _=>exact fun _=>⟨fun e=>(by rw [e,KN] at h1; cases h1),fun e=>(by rw [e,EJ] at h1; cases h1),fun e=>(by rw [e,KP] at h1; cases h1),fun e=>(by rw [e,FK] at h1; cases h1)⟩
 | @sl t e xs m h1 h2 h3 h4 ih=>
  intro hm
  refine ⟨fun e=>(by rw [e,KN] at h1; cases h1),fun e=>?_,fun e=>(by rw [e,KP] at h1; cases h1),fun e=>?_⟩
  · subst e
    rw [EJ] at h1
    cases h1
    obtain ⟨l,rfl,hl⟩:=hZ (row:=aQ) (Q:=fun a=>VlOk a/\a.h<=m) fun r hr=>(ih r hr (by omega)).1 rfl
    rw [List.length_map] at h3
    exact ⟨l,rfl,by omega,fun a ha=>⟨(hl a ha).1,Nat.succ_le_succ (hl a ha).2⟩⟩
  · subst e
    rw [FK] at h1
    cases h1
    obtain ⟨l,rfl,hl⟩:=hZ (row:=bD) (Q:=fun x:Int × Vl=>bM x.1/\VlOk x.2/\x.2.h + 1<=m) fun r hr=>(ih r hr (by omega)).2.2.1 rfl
    rw [List.length_map] at h3
    exact ⟨l,rfl,by omega,fun a ha=>⟨(hl a ha).1,(hl a ha).2.1,Nat.le_succ_of_le (hl a ha).2.2⟩⟩
 | @st t fs parts m h1 h2 h3 ih=>
  intro hm
  refine ⟨fun e=>?_,fun e=>(by rw [e,EJ] at h1; cases h1),fun e=>?_,fun e=>(by rw [e,FK] at h1; cases h1)⟩
  · subst e
    rw [KN] at h1
    cases h1
    match parts,h2 with
    | [p0,p1,p2,p3,p4],_=>
     obtain ⟨k,rfl,hk⟩:=Fit.inv_int v3 (h3 0 _ p0 rfl rfl).fit
     obtain ⟨n,rfl,hn⟩:=Fit.inv_int yIn (h3 1 _ p1 rfl rfl).fit
     obtain ⟨s,rfl,hs⟩:=Fit.inv_str v9 (h3 2 _ p2 rfl rfl).fit
     obtain ⟨l,rfl,hl,ho⟩:=(ih 3 _ p3 rfl rfl (by omega)).2.1 rfl
     obtain ⟨f,rfl,hf,hp⟩:=(ih 4 _ p4 rfl rfl (by omega)).2.2.2 rfl
     refine ⟨.mk k n s l f,by rw [aQ,tV,tL]; rfl,.mk (pR hk) (pR hn) (tY hs) (by omega) (by omega) (fun x hx=>(ho x hx).1) (fun x hx=>(hp x hx).1) (fun x hx=>(hp x hx).2.1),?_⟩
     rw [Vl.h]
     have a1:Vl.hl l<=m:=MD fun x hx=>by have:=(ho x hx).2; omega
     have a2:Vl.hf f<=m:=MF fun x hx=>by have:=(hp x hx).2.2; omega
     omega
  · subst e
    rw [KP] at h1
    cases h1
    match parts,h2 with
    | [p0,p1],_=>
     obtain ⟨k,rfl,hk⟩:=Fit.inv_int v3 (h3 0 _ p0 rfl rfl).fit
     obtain ⟨v,rfl,hv,hh⟩:=(ih 1 _ p1 rfl rfl (by omega)).1 rfl
     exact ⟨(k,v),by simp [bD],pR hk,hv,Nat.succ_le_succ hh⟩
theorem YW (m:Nat) (hm:m<=1048576) (cs:List C) (h:FitB Tryz.prog 29 cs m):∃ a,cs=aQ a/\VlOk a/\a.h<=m:=(aH1 h hm).1 rfl
structure Uk where
 s:Sc
 nm:ByteArray
 v:Vl
 k:Int
 x:List UInt8
def ukC (a:Uk):List C:=MP a.s a.nm a.v a.k a.x
theorem yUk:Tryz.prog.underlying 45=some (.struct #[⟨"Schema",25,0,false,"","",0⟩,⟨"Name",9,3,false,"","",56⟩,⟨"Value",29,4,false,"","",72⟩,⟨"Number",3,9,false,"","",152⟩,⟨"Content",9,10,false,"","",160⟩]):=by kernel_rfl
theorem aB5 (m:Nat) (hm:m<=1048576) (cs:List C) (h:FitB Tryz.prog 45 cs m):∃ a:Uk,cs=ukC a/\a.s.fit/\a.nm.size<=9223372036854775807/\VlOk a.v:=by
 obtain ⟨parts,rfl,h2,h3⟩:=FitB.inv_st' yUk h
 match parts,h2 with
 | [p0,p1,p2,p3,p4],_=>
  obtain ⟨s,rfl,hs⟩:=aB7 _ hm _ (h3 0 _ p0 rfl rfl)
  obtain ⟨n,rfl,hn⟩:=Fit.inv_str v9 (h3 1 _ p1 rfl rfl).fit
  obtain ⟨v,rfl,hv,_⟩:=YW _ hm _ (h3 2 _ p2 rfl rfl)
  obtain ⟨k,rfl,_⟩:=Fit.inv_int v3 (h3 3 _ p3 rfl rfl).fit
  obtain ⟨x,rfl,_⟩:=Fit.inv_str v9 (h3 4 _ p4 rfl rfl).fit
  exact ⟨⟨s,n,v,k,bl x⟩,by rw [aK]; simp [ukC,aJ,fJ],hs,tY hn,hv⟩
end Go.Proofs.YthpbnmebjocbeaaGreat
