/- Lemmas and walks for the proof. -/
import Derived.Test.YtgogpogophflhaaGreatDoorTc
import Derived.Test.YtgogpogophflhaaGreatDoorProg
import Derived.Shelf.Strconv.Itoa3
import Derived.ProofKit
import Derived.OpenShut
import Derived.WalkKit
import Derived.Deep.LoopGhost
import Derived.Deep.QuietTactic
import Derived.BigQuiet
set_option maxRecDepth 100000
set_option maxHeartbeats 8000000
namespace Go.Proofs.YtgogpogophflhaaGreatDoor
open Go.W
def oG (s:Sc) (i:Nat):Int:=match s.es[i]? with
 | some e=>bif !(gM (bl e.nm)) then 5 else bif eV (s.es.take i) e.nm then 7 else m6 e
 | none=>0
def n6 (s:Sc) (i:Nat):Int:=match s.ss[i]? with
 | some t=>bif iN s i t.nm != 0 then iN s i t.nm else rS s.ss s.es t
 | none=>0
def zA (s:Sc):Int:=fE (oG s) (s.es.length - 0) 0
def wD (s:Sc):Int:=fE (n6 s) (s.ss.length - 0) 0
def eH (s:Sc):Int:=bif decide (s.ver < 1) || decide (999 < s.ver) then 4 else bif d5 s then 3 else bif zA s != 0 then zA s else bif wD s != 0 then wD s else kN s.ss
inductive TySm:Ty->Prop
 | mk {k s:Int} {n:ByteArray} {e:List Ty}:e.length<=1000000000->(∀ t ∈ e,TySm t)->TySm (.mk k s n e)
structure Sc.fit (s:Sc):Prop where
 ok:s.ok
 lv:∀ t ∈ s.ss,∀ f ∈ t.fs,(bP f.ty).1<=1000000000
 sm:∀ t ∈ s.ss,t.fs.length<=1000000000/\∀ f ∈ t.fs,TySm f.ty
 en:∀ e ∈ s.es,e.ns.length<=1000000000/\e.vs.length<=1000000000
theorem HW {f:Nat->Int} {m:Nat}:∀ (k i:Nat),i + k=m->fE f (m - i) i=0->∀ j,i<=j->j < m->f j=0
 | 0,i,h,_=>fun j h1 h2=>by omega
 | k + 1,i,h,h0=>fun j h1 h2=>by
  have hi:i < m:=by omega
  by_cases e:f i=0
  · rw [tQ hi e] at h0
    rcases b5 i j with h3 | h3
    · exact HW k (i + 1) (by omega) h0 j h3 h2
    · obtain rfl:i=j:=by omega
      exact e
  · rw [p5 hi e] at h0; exact absurd h0 e
theorem nL {f:Nat->Int} {m:Nat} (h:fE f (m - 0) 0=0):∀ j,j < m->f j=0:=fun j hj=>HW m 0 (by omega) h j (Nat.zero_le _) hj
theorem KJ {ss:List St} {i:Nat} {t:St} (hx:ss[i]? = some t) (h:gQ (ss.take i) t.nm=false):fS ss t.nm=some t:=by
 obtain ⟨hl,ht⟩:=aV.1 hx
 have h1:(ss.take i).find? (fun s=>decide (s.nm=t.nm))=none:=by
  rw [List.find?_eq_none]
  intro x hx
  have:=iQ h x hx
  simpa using this
 have h2:ss=ss.take i ++ (t :: ss.drop (i + 1)):=by rw [<-ht,<-List.drop_eq_getElem_cons hl,List.take_append_drop]
 unfold fS
 rw [h2,List.find?_append,h1]
 simp
theorem D5 {ss:List St} {es:List En} {t:St} (h:rS ss es t=0):∀ f ∈ t.fs,(1<=f.num/\f.num<=127)/\bL (bl f.nm)=true/\valF ss es f.ty=true:=fun f hf=>by
 obtain ⟨i,hi⟩:=List.mem_iff_getElem?.1 hf
 have:=nL h i (aV.1 hi).1
 unfold pP at this
 rw [hi] at this
 simp only at this
 cases c1:decide (f.num < 1) || decide (127 < f.num) with
 | true=>rw [c1] at this; simp at this
 | false=>
 rw [c1] at this
 simp only [aF] at this
 revert this
 generalize (decide (0 < (i:Int)) && (match t.fs[i - 1]? with | some g=>decide (f.num<=g.num) | none=>false))=b
 intro this
 cases b with
 | true=>simp at this
 | false=>
 simp only [aF] at this
 simp only [Bool.or_eq_false_iff,decide_eq_false_iff_not] at c1
 refine ⟨by omega,?_⟩
 cases c2:bL (bl f.nm) with
 | false=>rw [c2] at this; simp at this
 | true=>
 rw [c2] at this
 cases c3:(t.fs.take i).any (fun g=>decide (g.nm=f.nm)) with
 | true=>rw [c3] at this; simp at this
 | false=>
 rw [c3] at this
 cases c4:valF ss es f.ty with
 | false=>rw [c4] at this; simp at this
 | true=>exact ⟨rfl,rfl⟩
theorem EE {s:Sc} {i:Nat} {n:ByteArray} (h:iN s i n=0):gM (bl n)=true/\eV s.es n=false/\gQ (s.ss.take i) n=false:=by
 unfold iN at h
 cases c1:gM (bl n) with
 | false=>rw [c1] at h; simp at h
 | true=>
 rw [c1] at h
 cases c2:eV s.es n with
 | true=>rw [c2] at h; simp at h
 | false=>
 rw [c2] at h
 cases c3:gQ (s.ss.take i) n with
 | true=>rw [c3] at h; simp at h
 | false=>exact ⟨rfl,rfl,rfl⟩
theorem DK {s:Sc} {i:Nat} {t:St} (hx:s.ss[i]? = some t) (h:n6 s i=0):iN s i t.nm=0/\rS s.ss s.es t=0:=by
 unfold n6 at h
 rw [hx] at h
 simp only at h
 by_cases e:iN s i t.nm=0
 · rw [e] at h; exact ⟨e,by simpa using h⟩
 · rw [show (iN s i t.nm != 0)=true by simpa using e] at h
   exact absurd h e
theorem O3 {s:Sc} {i:Nat} {t:En} (hx:s.es[i]? = some t) (h:oG s i=0):gM (bl t.nm)=true/\eV (s.es.take i) t.nm=false/\m6 t=0:=by
 unfold oG at h
 rw [hx] at h
 simp only at h
 cases c1:gM (bl t.nm) with
 | false=>rw [c1] at h; simp at h
 | true=>
 rw [c1] at h
 cases c2:eV (s.es.take i) t.nm with
 | true=>rw [c2] at h; simp at h
 | false=>
 rw [c2] at h
 exact ⟨rfl,rfl,by simpa using h⟩
theorem sA {s:Sc} (h:d5 s=false):s.es.length<=16/\s.es.length + s.ss.length<=16/\(∀ e ∈ s.es,e.ns.length<=16)/\∀ t ∈ s.ss,t.fs.length<=16:=by
 unfold d5 at h
 simp only [Bool.or_eq_false_iff,decide_eq_false_iff_not] at h
 obtain ⟨⟨⟨h1,h2⟩,h3⟩,h4⟩:=h
 refine ⟨by omega,by omega,fun e he=>?_,fun t ht=>?_⟩
 · have:=iQ h3 e he; simp at this; exact this
 · have:=iQ h4 t ht; simp at this; exact this
theorem ED {s:Sc} (hf:s.fit) (h1:d5 s=false) (h2:wD s=0):Gd s.ss s.es:=by
 obtain ⟨l1,l2,l3,l4⟩:=sA h1
 have key:∀ t ∈ s.ss,∃ i,s.ss[i]? = some t/\iN s i t.nm=0/\rS s.ss s.es t=0:=fun t ht=>by
  obtain ⟨i,hi⟩:=List.mem_iff_getElem?.1 ht
  exact ⟨i,hi,DK hi (nL h2 i (aV.1 hi).1)⟩
 refine ⟨hf.ok.ss,by omega,by omega,fun t ht f hm=>?_,hf.lv,fun t ht=>?_⟩
 · obtain ⟨i,hi,c1,c2⟩:=key t ht
   exact (D5 c2 f hm).2.2
 · obtain ⟨i,hi,c1,c2⟩:=key t ht
   exact KJ hi (EE c1).2.2
def zT (r:List C):Prop:=∃ s:Sc,r=aO s/\s.fit
theorem K4 {s:Sc} (h:s.fit):zT (aO s):=⟨s,rfl,h⟩
noncomputable def ckFn:Fun:=o8 zT C.sc fun s=>.int .i64 (eH s)
attribute [go_sem] ckFn
theorem lX {a b:Int} (h:a ≠ 0):(bif a != 0 then a else b)=a:=by rw [bne,beq_eq_false_iff_ne.2 h]; rfl
theorem nD {a b:Int} (h:a=0):(bif a != 0 then a else b)=b:=by rw [h]; rfl
theorem H9:Meets Tryz.prog 31 ckFn.sp:=by
 refine aI Tryz.func31 YJ 1 (by rw [Tryz.ntmps31]; decide) (aN RF (aN yL (aN F7 (aA JR (aN FW (aA AN (aA KW (aB _)))))))) iI ?_
 rintro av H K ⟨⟨h,rfl⟩,hK⟩
 obtain ⟨_,rfl,s,rfl,hs⟩:=eC h
 have hK:K (iS .i64 (eH s)) []:=by
  have:ckFn.val [.va (.gs (aO s))]=iA .i64 (eH s):=by simp -dsimp only [go_sem]
  rw [this] at hK; exact hK
 clear h
 have hfit:=hs
 have hsc:BJ (aO s):=OV hs.ok
 obtain ⟨⟨hv,hle,hls,hes,hss⟩,hlv,_,_⟩:=hs
 have fin:∀ (x:Int) (R:Hp),eH s=x->W.Fin 0 K (iS .i64 x) R:=fun x R h1=>by
  rw [h1] at hK
  exact .z ((by simpa [go_sem] using hK))
 have hsc':=hsc
 simp only [aO] at hsc'
 have hdec:C.sc [.vl (.int .i64 s.ver),.fz (s.es.map bB),.fz (s.ss.map aR)]=s:=p7 s
 simp (maxSteps:=9^6) -dsimp only [go_sem,aO,QR,RB,hsc',hdec]
 refine ⟨fun h1=>fin 4 _ (by unfold eH; rw [h1]; rfl),fun c1=>⟨fun h1=>fin 3 _ (by unfold eH; rw [c1,h1]; rfl),fun c2=>?_⟩⟩
 have hF:eH s=bif zA s != 0 then zA s else bif wD s != 0 then wD s else kN s.ss:=by unfold eH; rw [c1,c2]; rfl
 refine bK (α:=Nat) (fun i=>[(1,.va (.c1 (.pt 0 0))),(24,.va (.c1 (.fz (s.es.map bB)))),(25,iS .i64 s.es.length),(26,iS .i64 i)]) (fun _=>[.cells (aO s) 25])
  (fun i=>i<=s.es.length/\fE (oG s) (s.es.length - i) i=zA s) (fun i=>s.es.length - i) 0 1 ⟨Nat.zero_le _,rfl⟩ ?_ ?_ ?_
 · simp -dsimp only [go_sem]<;>simp
 · simp -dsimp only [go_sem,aO]<;>simp
 rintro i ⟨hi,ho⟩
 rcases b5 i s.es.length with hlt | hge
 · have hg:decide ((i:Int) < (s.es.length:Int))=true:=by simp; omega
   obtain ⟨e,hx⟩:∃ e,s.es[i]? = some e:=⟨_,aZ hlt⟩
   have q1:=bN (row:=bB) hx
   have he:e.ok:=hes e (bO hx)
   have hie:GQ (bB e):=O4 he
   have hie':=hie
   simp only [bB] at hie'
   have hed:C.en [.vl (.string e.nm),.fz (e.ns.map cP),.fz (e.vs.map iL)]=e:=R4 e
   have hA:oG s i=bif !(gM (bl e.nm)) then 5 else bif eV (s.es.take i) e.nm then 7 else m6 e:=by unfold oG; rw [hx]
   have fin':∀ (x:Int) (R:Hp),oG s i=x->x ≠ 0->W.Fin 0 K (iS .i64 x) R:=fun x R h1 h2=>fin x R (by
    rw [hF,<-ho,p5 hlt (by rw [h1]; exact h2),h1]; exact lX h2)
   have dP:oG s i=0->fE (oG s) (s.es.length - (i + 1)) (i + 1)=zA s:=fun h1=>by rw [<-ho,tQ hlt h1]
   simp (maxSteps:=9^6) -dsimp only [go_sem,hg,↓q1,bB,aO]
   refine ⟨by omega,fun h1=>fin' 5 _ (by rw [hA,h1]; rfl) (by decide),fun c3=>?_⟩
   rw [c3] at hA
   simp only [aF] at hA
   have hlj:=lO s.es i
   simp -dsimp only [fH PG]
   refine ⟨by simp; omega,?_⟩
   generalize hm:s.es.take i=m at *
   refine bK (α:=Nat) (fun j=>[(1,.va (.c1 (.pt 0 0))),(4,.va (.c1 (.pt 1 0))),(24,.va (.c1 (.fz (s.es.map bB)))),(25,iS .i64 s.es.length),(26,iS .i64 i),(38,.va (.c1 (.fz (m.map bB)))),(39,iS .i64 m.length),(40,iS .i64 j)]) (fun _=>[.cells (aO s) 25,.cells (bB e) 62])
    (fun j=>j<=m.length/\eV (m.drop j) e.nm=eV m e.nm) (fun j=>m.length - j) 0 2 ⟨Nat.zero_le _,rfl⟩ ?_ ?_ ?_
   · simp -dsimp only [go_sem]<;>simp
     rw [<-hm]; exact ⟨List.map_take.symm,by simp⟩
   · simp -dsimp only [go_sem,aO,bB]<;>simp
   rintro j ⟨hj,ho2⟩
   rcases b5 j m.length with hjt | hjg
   · have hgj:decide ((j:Int) < (m.length:Int))=true:=by simp; omega
     obtain ⟨d,hd⟩:∃ e,m[j]? = some e:=⟨_,aZ hjt⟩
     have q5:=bN (row:=bB) hd
     rw [eV,fJ hd] at ho2
     simp (maxSteps:=9^6) -dsimp only [go_sem,hgj,↓q5,bB,aO,j4]
     and_intros
     all_goals first
      | omega
      | skip
     · intro hc
       rw [hc,Bool.true_or] at ho2
       exact fin' 7 _ (by rw [hA,<-ho2]; rfl) (by decide)
     · intro hc
       rw [hc,Bool.false_or] at ho2
       refine ⟨by omega,aG (j + 1) 2 ⟨by omega,ho2⟩ (by omega) ?_ ?_⟩
       · simp -dsimp only [go_sem]<;>simp
       · simp -dsimp only [go_sem,aO,bB]<;>simp
   · have hgj:decide ((j:Int) < (m.length:Int))=false:=by simp; omega
     obtain rfl:j=m.length:=by omega
     rw [eV,gH] at ho2
     rw [<-ho2] at hA
     simp only [aF] at hA
     simp (maxSteps:=9^6) -dsimp only [go_sem,hgj,bB,aO,hie',hed]
     refine ⟨fun h1=>fin' _ _ hA (by simpa using h1),fun h1=>?_⟩
     refine ⟨by omega,aG (i + 1) 1 ⟨by omega,dP (by rw [hA]; simpa using h1)⟩ (by omega) ?_ ?_⟩
     · simp -dsimp only [go_sem]<;>simp
     · simp -dsimp only [go_sem,aO]<;>simp
 · have hg:decide ((i:Int) < (s.es.length:Int))=false:=by simp; omega
   obtain rfl:i=s.es.length:=by omega
   rw [uT] at ho
   rw [nD ho.symm] at hF
   simp (maxSteps:=9^6) -dsimp only [go_sem,hg,aO]
   refine UJ hfit.ok fun ks vs ks' vs' x1 x2=>?_
   simp (maxSteps:=9^6) -dsimp only [go_sem]
   clear hi hge hg
   refine bK (α:=Nat) (fun i=>[(1,.va (.c1 (.pt 0 0))),(8,.va (.c1 (.pt 3 0))),(59,.va (.c1 (.fz (s.ss.map aR)))),(60,iS .i64 s.ss.length),(61,iS .i64 i)]) (fun _=>[.cells (aO s) 25,.map .string ks (vs.map f9),.map .string ks' (vs'.map gD),.cells [.mp 1,.mp 2] 117])
    (fun i=>i<=s.ss.length/\fE (n6 s) (s.ss.length - i) i=wD s) (fun i=>s.ss.length - i) 0 4 ⟨Nat.zero_le _,rfl⟩ ?_ ?_ ?_
   · simp -dsimp only [go_sem]<;>simp
   · simp -dsimp only [go_sem,aO]<;>simp
   clear ho
   rintro i ⟨hi,ho⟩
   rcases b5 i s.ss.length with hlt | hge
   · have hg:decide ((i:Int) < (s.ss.length:Int))=true:=by simp; omega
     obtain ⟨t,hx⟩:∃ e,s.ss[i]? = some e:=⟨_,aZ hlt⟩
     have q1:=bN (row:=aR) hx
     have ht:t.ok:=hss t (bO hx)
     have hA:n6 s i=bif iN s i t.nm != 0 then iN s i t.nm else rS s.ss s.es t:=by unfold n6; rw [hx]
     have fin':∀ (x:Int) (R:Hp),n6 s i=x->x ≠ 0->W.Fin 0 K (iS .i64 x) R:=fun x R h1 h2=>fin x R (by
      rw [hF,<-ho,p5 hlt (by rw [h1]; exact h2),h1]; exact lX h2)
     have dP:n6 s i=0->fE (n6 s) (s.ss.length - (i + 1)) (i + 1)=wD s:=fun h1=>by rw [<-ho,tQ hlt h1]
     have q0:decide (0<=(i:Int))=true:=by simp
     simp (maxSteps:=9^6) -dsimp only [go_sem,hg,↓q1,aR,aO,hsc',hdec,Int.toNat_natCast]
     refine ⟨by omega,⟨by omega,by omega⟩,fun h1=>fin' _ _ (by rw [hA]; exact lX (by simpa using h1)) (by simpa using h1),fun h1=>?_⟩
     have h1:iN s i t.nm=0:=by simpa using h1
     rw [nD h1] at hA
     refine Q5 x1 x2 ht ?_
     simp (maxSteps:=9^6) -dsimp only [go_sem]
     refine ⟨fun h1=>fin' _ _ hA (by simpa using h1),fun h1=>?_⟩
     refine ⟨by omega,aG (i + 1) 4 ⟨by omega,dP (by rw [hA]; simpa using h1)⟩ (by omega) ?_ ?_⟩
     · simp -dsimp only [go_sem]<;>simp
     · simp -dsimp only [go_sem,aO]<;>simp
   · have hg:decide ((i:Int) < (s.ss.length:Int))=false:=by simp; omega
     obtain rfl:i=s.ss.length:=by omega
     rw [uT] at ho
     rw [nD ho.symm] at hF
     simp (maxSteps:=9^6) -dsimp only [go_sem,hg,aO]
     refine PY x1 (ED hfit c2 ho.symm) hfit.ok ?_
     simp (maxSteps:=9^6) -dsimp only [go_sem]
     exact fin _ _ hF
def ST (s:Sc) (n:ByteArray):Bool:=eH s == 0 && gQ s.ss n
theorem FS {s:Sc} (hf:s.fit) (h:eH s=0):Gd s.ss s.es/\yJ s.ss/\zA s=0/\wD s=0/\d5 s=false/\1<=s.ver/\s.ver<=999/\∀ t ∈ s.ss,dD s.ss t.nm<=6:=by
 unfold eH at h
 cases c1:decide (s.ver < 1) || decide (999 < s.ver) with
 | true=>rw [c1] at h; simp at h
 | false=>
 rw [c1] at h
 cases c2:d5 s with
 | true=>rw [c2] at h; simp at h
 | false=>
 rw [c2] at h
 simp only [aF] at h
 by_cases e1:zA s=0
 · rw [nD e1] at h
   by_cases e2:wD s=0
   · rw [nD e2] at h
     have g:=ED hf c2 e2
     unfold kN at h
     cases c3:s.ss.any (fun t=>cD (d8 s.ss t.nm) t.nm) with
     | true=>rw [c3] at h; simp at h
     | false=>
     rw [c3] at h
     cases c4:s.ss.any (fun t=>decide (6 < dD s.ss t.nm)) with
     | true=>rw [c4] at h; simp at h
     | false=>
     simp only [Bool.or_eq_false_iff,decide_eq_false_iff_not] at c1
     refine ⟨g,iQ c3,e1,e2,rfl,by omega,by omega,fun t ht=>?_⟩
     have:=iQ c4 t ht
     simpa using this
   · rw [lX e2] at h; exact absurd h e2
 · rw [lX e1] at h; exact absurd h e1
theorem xY {α:Type} {l:List α} {i:Nat} {x:α} (h:l[i]? = some x):l.take (i + 1)=l.take i ++ [x]:=by rw [List.take_add_one,h]; rfl
theorem iW (t:Ty):∀ c ∈ aM t,c.shut=true/\c.one:=by rw [aQ]; simp [go_sem,C.shut]
@[go_sem] theorem aCA (t:Ty) (H:Hp):(aM t).map (C.bor H)=aM t:=by rw [aQ]; rfl
noncomputable def pE (a b:Ty):Bool:=@decide (a=b) (Classical.propDecidable _)
theorem AS {a b:Ty} (h:a=b):pE a b=true:=by unfold pE; simp [h]
theorem HY {a b:Ty} (h:a ≠ b):pE a b=false:=by unfold pE; simp [h]
theorem PM {a b:Ty}:pE a b=true ↔ a=b:=by unfold pE; simp
def zQ (N:Nat):List S->Prop:=fun av=>match av with
 | [.va (.gs r),.va (.gs q)]=>iT r/\iT q/\(C.ty r).h<=N
 | _=>False
theorem kR {N:Nat} {av:List S} (h:zQ N av):∃ a b,av=[.va (.gs (aM a)),.va (.gs (aM b))]/\TyOk a/\TyOk b/\a.h<=N:=by
 unfold zQ at h
 split at h
 · obtain ⟨⟨a,rfl,ha⟩,⟨b,rfl,hb⟩,hh⟩:=h
   rw [jZ] at hh
   exact ⟨a,b,rfl,ha,hb,hh⟩
 · exact h.elim
noncomputable def GF:List S->A:=fun av=>match av with
 | [.va (.gs r),.va (.gs q)]=>bA (pE (C.ty r) (C.ty q))
 | _=>.gs []
noncomputable def GT (N:Nat):Fun:=⟨zQ N,GF,fun av h=>by obtain ⟨a,b,rfl,_⟩:=kR h; trivial⟩
theorem J5 {N:Nat}:∀ av H K,(GT N).sp av H K->av.length=2:=fun av H K h=>by obtain ⟨a,b,rfl,_⟩:=kR h.1.1; rfl
attribute [go_sem] GT zQ GF
theorem FK {k s k' s':Int} {n n':ByteArray} {e e':List Ty}:(Ty.mk k s n e=Ty.mk k' s' n' e') ↔ (k=k'/\s=s'/\n=n'/\e=e'):=by simp
def FN:List S->Prop:=fun av=>match av with
 | [.va (.gs r),.va (.gs q)]=>iT r/\iT q
 | _=>False
theorem yF {av:List S} (h:FN av):∃ a b,av=[.va (.gs (aM a)),.va (.gs (aM b))]/\TyOk a/\TyOk b:=by
 unfold FN at h
 split at h
 · obtain ⟨⟨a,rfl,ha⟩,⟨b,rfl,hb⟩⟩:=h
   exact ⟨a,b,rfl,ha,hb⟩
 · exact h.elim
noncomputable def sFn:Fun:=⟨FN,GF,fun av h=>by obtain ⟨a,b,rfl,_⟩:=yF h; trivial⟩
attribute [go_sem] sFn FN
theorem N0:∀ (m:Nat) (r:List UInt8) (i:Nat) (out:List UInt8),r.length=m->(quoL i r out).1<=i + r.length:=by
 intro m
 induction m using Nat.strongRecOn with
 | ind m ih=>
  intro r i out hm
  cases r with
  | nil=>rw [n7]; exact Nat.le_add_right _ _
  | cons c r=>
   rw [fD]
   simp only [List.length_cons] at hm ⊢
   cases (decide (c < 32) || decide (126 < c)) with
   | true=>simp
   | false=>
    cases (c == 34) with
    | true=>simp
    | false=>
     cases (c == 92) with
     | true=>
      simp only [aF,aL]
      cases r with
      | nil=>simp
      | cons d r'=>
       simp only [List.length_cons] at hm ⊢
       cases (d == 34 || d == 92) with
       | true=>simp only [aL]; have:=ih r'.length (by omega) r' (i + 2) (out ++ [d]) rfl; omega
       | false=>simp
     | false=>
      simp only [aF]
      have:=ih r.length (by omega) r (i + 1) (out ++ [c]) rfl; omega
structure Told (l:List UInt8) (p:Nat) (k:Int) (x:List UInt8) (n:Int) (z:Nat):Prop where
 zero:k=0->p=l.length/\x=[]/\n=0
 one:k ≠ 0->∃ c,l[p]? = some c/\p < z/\z<=l.length/\0 < k/\k<=4/\32 < c.toNat/\c.toNat ≠ 35/\(c == 34)=(k == 3)/\(k == 1)=cM c.toNat
theorem u6 {l:List UInt8} {a:Nat} (ha:a<=l.length):(∀ {e t},g6 l a=.bad e t->0<=t/\t<=l.length)/\∀ {k x n z},g6 l a=.ok k x n z->k=1:=by
 have:=rN (p:=bG) ha
 unfold g6
 simp only
 cases decide (16 < bV bG l a - a)<;>cases (l[bV bG l a]? == some 45)<;>simp [R.bad.injEq,R.ok.injEq]
 all_goals (intros; omega)
theorem xT {l:List UInt8} {a:Nat} {c:UInt8} (hc:l[a]? = some c):(∀ {e t},iZ l a=.bad e t->0<=t/\t<=l.length)/\∀ {k x n z},iZ l a=.ok k x n z->k=2:=by
 have hlt:a < l.length:=(aV.1 hc).1
 have hge:(bif l[a]? == some 45 then a + 1 else a)<=l.length:=by cases (l[a]? == some 45)<;>simp<;>omega
 have hz2:=rN (p:=bH) hge
 unfold iZ
 simp only
 generalize (List.drop (bif l[a]? == some 45 then a + 1 else a) (List.take (bV bH l (bif l[a]? == some 45 then a + 1 else a)) l))=q
 cases (q == [] || (q[0]? == some 48 && (decide (1 < q.length) || l[a]? == some 45))) with
 | true=>simp only [aL,R.bad.injEq,reduceCtorEq,false_implies,implies_true,and_true]; rintro e t ⟨rfl,rfl⟩; omega
 | false=>
  simp only [aF]
  split
  · simp only [R.bad.injEq,reduceCtorEq,false_implies,implies_true,and_true]; rintro e t ⟨rfl,rfl⟩; omega
  · cases nM l (bV bH l (bif l[a]? == some 45 then a + 1 else a))<;>simp only [aL,aF,R.bad.injEq,R.ok.injEq,reduceCtorEq,false_implies,implies_true,and_true,true_and]
    · rintro k x n z ⟨rfl,_⟩; rfl
    · rintro e t ⟨rfl,rfl⟩; omega
theorem tZ {l:List UInt8} {a:Nat} (ha:a < l.length):(∀ {e t},gL l a=.bad e t->0<=t/\t<=l.length)/\∀ {k x n z},gL l a=.ok k x n z->k=3:=by
 have:=N0 _ (l.drop (a + 1)) (a + 1) [] rfl
 simp only [List.length_drop] at this
 unfold gL
 split
 · rename_i i hq
   rw [hq] at this
   simp only at this
   constructor
   · intro e t h; simp only [R.bad.injEq] at h; omega
   · intro k x n z h; cases h
 · rename_i z o hq
   cases decide (200 < o.length)<;>simp [R.bad.injEq,R.ok.injEq]
   all_goals (intros; omega)
def FH (c:UInt8):Bool:=
 (!(cM c.toNat || bH c || c == 45 || c == 34 || dR c.toNat) || (decide (32 < c.toNat) && c.toNat != 35)) && (!cM c.toNat || !(c == 34)) && (!(bH c || c == 45) || !(c == 34)) && (!dR c.toNat || !(c == 34))
theorem IZ (c:UInt8):FH c=true:=cC (by decide +kernel) c
theorem pZ {l:List UInt8} {p:Nat} (hp:p<=l.length):(∀ {e t},dS l p=.bad e t->e ≠ 0/\0<=t/\t<=l.length)/\∀ {k x n z},dS l p=.ok k x n z->Told l p k x n z:=by
 obtain ⟨hb,ho⟩:=uA hp
 refine ⟨fun {e t} h=>⟨hb h,?_⟩,fun {k x n z} h=>?_⟩
 · unfold dS at h
   split at h
   · cases h
   · rename_i c hc
     have hlt:p < l.length:=(aV.1 hc).1
     revert h
     cases cM c.toNat with
     | true=>exact fun h=>(u6 hp).1 h
     | false=>
      cases (bH c || c == 45) with
      | true=>exact fun h=>(xT hc).1 h
      | false=>
       cases (c == 34) with
       | true=>exact fun h=>(tZ hlt).1 h
       | false=>
        cases dR c.toNat with
        | true=>intro h; cases h
        | false=>intro h; simp only [aF,R.bad.injEq] at h; omega
 · obtain ⟨o1,o2⟩:=ho h
   unfold dS at h
   split at h
   · simp only [R.ok.injEq] at h
     exact ⟨fun h0=>⟨o1 h0,h.2.1.symm,h.2.2.1.symm⟩,fun h0=>absurd h.1.symm h0⟩
   · rename_i c hc
     have hlt:p < l.length:=(aV.1 hc).1
     have hs:=IZ c
     unfold FH at hs
     have key:∀ {q:Int},k=q->0 < q->q<=4->(32 < c.toNat/\c.toNat ≠ 35)->(c == 34)=(q == 3)->(q == 1)=cM c.toNat->Told l p k x n z:=by
      rintro q rfl h1 h2 h3 h4 h5
      obtain ⟨h6,h7⟩:=o2 (by omega)
      exact ⟨fun h=>by omega,fun _=>⟨c,hc,h6,h7,h1,h2,h3.1,h3.2,h4,h5⟩⟩
     revert h hs
     cases hL:cM c.toNat with
     | true=>
      intro h hs
      simp at hs
      exact key ((u6 hp).2 h) (by omega) (by omega) hs.1.1.1 (by simpa using hs.1.1.2) (by rw [hL]; rfl)
     | false=>
      cases hd:(bH c || c == 45) with
      | true=>
       intro h hs
       have hd':bH c=true\/c=45:=by simpa using hd
       simp only [Bool.false_or,hd,Bool.true_or,Bool.not_true,Bool.not_false,Bool.and_true,Bool.true_and,Bool.and_eq_true] at hs
       simp at hs
       exact key ((xT hc).2 h) (by omega) (by omega) hs.1.1 (by simpa using hs.1.2) (by rw [hL]; rfl)
      | false=>
       cases h4:(c == 34) with
       | true=>
        intro h hs
        have:c=34:=by simpa using h4
        subst this
        exact key ((tZ hlt).2 h) (by omega) (by omega) (by decide) (by rfl) (by rw [hL]; rfl)
       | false=>
        cases hm:dR c.toNat with
        | true=>
         intro h hs
         simp only [Bool.false_or,hd,Bool.or_true,Bool.not_true,Bool.not_false,Bool.and_true,Bool.true_and,Bool.and_eq_true] at hs
         simp at hs
         simp only [aF,aL,R.ok.injEq] at h
         exact key h.1.symm (by omega) (by omega) hs (by rw [h4]; rfl) (by rw [hL]; rfl)
        | false=>intro h hs; cases h
def pK (l:List UInt8):Nat->List Tk->Prop
 | _,[]=>False
 | a,t :: ts=>a<=t.a/\t.a<=l.length/\∃ z,Told l t.a t.k t.x t.n z/\(t.k=0->ts=[])/\(t.k ≠ 0->pK l z ts)
theorem yW {l:List UInt8}:∀ (f a:Nat) (ts:List Tk),a<=l.length->l.length < f + a->eA f l a=.ok ts->pK l a ts
 | 0,a,ts,ha,hf,h=>by omega
 | f + 1,a,ts,ha,hf,h=>by
  have hpl:bY l a<=l.length:=n8 ha
  have hpa:a<=bY l a:=A2
  rw [eA] at h
  split at h
  · cases h
  · rename_i k x n z hR
    have ht:=(pZ hpl).2 hR
    cases hk:k == 0 with
    | true=>
     rw [hk] at h
     simp only [aL,SR.ok.injEq] at h
     subst h
     exact ⟨hpa,hpl,z,ht,fun _=>rfl,fun h=>absurd (by simpa using hk) h⟩
    | false=>
     rw [hk] at h
     have hk':k ≠ 0:=by simpa using hk
     obtain ⟨c,_,h1,h2,_⟩:=ht.one hk'
     cases hr:eA f l z with
     | bad e t=>rw [hr] at h; cases h
     | ok us=>
      rw [hr] at h
      simp only [aF,SR.cons,SR.ok.injEq] at h
      subst h
      exact ⟨hpa,hpl,z,ht,fun h=>absurd h hk',fun _=>yW f z us h2 (by omega) hr⟩
theorem AW {l:List UInt8}:∀ (f a:Nat) (e t:Int),a<=l.length->eA f l a=.bad e t->e ≠ 0/\0<=t/\t<=l.length
 | 0,a,e,t,ha,h=>by cases h
 | f + 1,a,e,t,ha,h=>by
  have hpl:bY l a<=l.length:=n8 ha
  rw [eA] at h
  split at h
  · rename_i e' t' hR
    have:=(pZ hpl).1 hR
    simp only [SR.bad.injEq] at h
    obtain ⟨rfl,rfl⟩:=h; exact this
  · rename_i k x n z hR
    have ht:=(pZ hpl).2 hR
    cases hk:k == 0 with
    | true=>rw [hk] at h; cases h
    | false=>
     rw [hk] at h
     have hk':k ≠ 0:=by simpa using hk
     obtain ⟨c,_,h1,h2,_⟩:=ht.one hk'
     cases hr:eA f l z with
     | bad e' t'=>rw [hr] at h; simp only [aF,SR.cons,SR.bad.injEq] at h; obtain ⟨rfl,rfl⟩:=h; exact AW f z _ _ h2 hr
     | ok us=>rw [hr] at h; cases h
theorem F5 (l:List UInt8):(aP l).err ≠ 0/\(aP l).toks=[]/\0<=(aP l).off/\(aP l).off<=l.length\/(aP l).err=0/\(aP l).off=0/\l.length<=4000/\pK l 0 (aP l).toks:=by
 unfold aP
 cases h:decide (4000 < l.length) with
 | true=>left; exact ⟨by simp [SR.err],rfl,by simp [SR.off],by simp [SR.off]⟩
 | false=>
  have h4:l.length<=4000:=by simpa using h
  simp only [aF]
  cases hr:eA (l.length + 1) l 0 with
  | bad e t=>left; obtain ⟨h1,h2,h3⟩:=AW _ _ _ _ (by omega) hr; exact ⟨h1,rfl,h2,h3⟩
  | ok ts=>right; exact ⟨rfl,rfl,h4,yW _ _ _ (by omega) (by omega) hr⟩
theorem FC {l:List UInt8} {a:Nat} {ts:List Tk} (h:pK l a ts):0 < ts.length:=by
 cases ts with
 | nil=>exact h.elim
 | cons t ts=>simp
theorem BS {l:List UInt8}:∀ {a:Nat} {ts:List Tk},pK l a ts->ts.length + a<=l.length + 1
 | a,[],h=>h.elim
 | a,t :: ts,⟨h1,h2,z,h3,h4,h5⟩=>by
  rcases Decidable.em (t.k=0) with h0 | h0
  · rw [h4 h0]; simp only [List.length_cons,List.length_nil]; omega
  · obtain ⟨c,_,g1,_⟩:=h3.one h0
    have:=BS (h5 h0)
    simp only [List.length_cons]; omega
theorem EW {l:List UInt8}:∀ {a:Nat} {ts:List Tk} {i:Nat} {t:Tk},pK l a ts->ts[i]? = some t->
 a<=t.a/\t.a<=l.length/\(∃ z,Told l t.a t.k t.x t.n z)/\(t.k=0 ↔ i + 1=ts.length)/\∀ u,0 < i->ts[i - 1]? = some u->u.a < t.a
 | a,[],i,t,h,_=>h.elim
 | a,s :: ts,0,t,⟨h1,h2,z,h3,h4,h5⟩,hi=>by
  simp at hi; subst hi
  refine ⟨h1,h2,⟨z,h3⟩,⟨fun h=>by rw [h4 h]; rfl,fun h=>?_⟩,fun u h=>by omega⟩
  rcases Decidable.em (s.k=0) with h0 | h0
  · exact h0
  · have:=FC (h5 h0); simp only [List.length_cons] at h; omega
 | a,s :: ts,i + 1,t,⟨h1,h2,z,h3,h4,h5⟩,hi=>by
  simp at hi
  have h0:s.k ≠ 0:=fun h=>by rw [h4 h] at hi; simp at hi
  obtain ⟨c,_,g1,g2,_⟩:=h3.one h0
  obtain ⟨q1,q2,q3,q4,q5⟩:=EW (h5 h0) hi
  refine ⟨by omega,q2,q3,by rw [q4]; simp,fun u _ hu=>?_⟩
  simp only [Nat.add_sub_cancel] at hu
  cases i with
  | zero=>simp at hu; subst hu; omega
  | succ i=>simp at hu; exact q5 u (by omega) (by simpa using hu)
def Got:R->ByteArray->Int->Int->Int->Int->Prop
 | .ok _ x n z,x',n',z',e',t'=>x'=mk x/\n'=n/\z'=z/\e'=0/\t'=0
 | .bad e t,_,_,_,e',t'=>e'=e/\t'=t
def decV:Nat->List UInt8->Nat
 | n,[]=>n
 | n,c :: l=>decV (10 * n + (c.toNat - 48)) l
theorem lD (n:Nat):decV n []=n:=by rw [decV.eq_def]
theorem iK (n:Nat) (c:UInt8) (l:List UInt8):decV n (c :: l)=decV (10 * n + (c.toNat - 48)) l:=by rw [decV.eq_def]
theorem D7:∀ (l:List UInt8) (n:Nat),n<=decV n l
 | [],n=>by rw [lD]; exact Nat.le_refl n
 | c :: l,n=>by have:=D7 l (10 * n + (c.toNat - 48)); rw [iK]; omega
theorem HO (lim n:Nat) (c:UInt8) (l:List UInt8):valL lim n (c :: l)=if (lim - (c.toNat - 48)) / 10 < n then none else valL lim (10 * n + (c.toNat - 48)) l:=by rw [valL.eq_def]
theorem A8 {lim:Nat} (h9:9<=lim):∀ (l:List UInt8) (n:Nat),n<=lim->(∀ c ∈ l,bH c=true)->valL lim n l=bif decide (decV n l<=lim) then some (decV n l) else none
 | [],n,hn,_=>by rw [lD,valL.eq_def]; simp [hn]
 | c :: l,n,hn,hd=>by
  have hc:=jP.1 (hd c (by simp))
  rw [HO,iK]
  generalize c.toNat=d at hc ⊢
  by_cases h:(lim - (d - 48)) / 10 < n
  · have:=D7 l (10 * n + (d - 48))
    have h2:decide (decV (10 * n + (d - 48)) l<=lim)=false:=by simp only [decide_eq_false_iff_not]; omega
    rw [if_pos h,h2]; rfl
  · rw [if_neg h]
    exact A8 h9 l _ (by omega) (fun x hx=>hd x (by simp [hx]))
theorem Got.bad {r:R} {e t:Int} (h:r=.bad e t) {x:ByteArray} {n z:Int}:Got r x n z e t:=by subst h; exact ⟨rfl,rfl⟩
theorem Got.ok {r:R} {k:Int} {x:List UInt8} {n:Int} {z:Nat} (h:r=.ok k x n z):Got r (mk x) n z 0 0:=by subst h; exact ⟨rfl,rfl,rfl,rfl,rfl⟩
theorem CA (l:List UInt8):bL l=true ↔ ∃ c,l[0]? = some c/\l.length<=16/\cM c.toNat=true/\∀ x ∈ l,bG x=true:=by
 cases l with
 | nil=>simp [bL]
 | cons c l=>simp [bL,and_assoc]
structure Ends (ts:List Tk):Prop where
 pos:0 < ts.length
 le:ts.length<=4001
 last:∀ (i:Nat) (t:Tk),ts[i]? = some t->(t.k=0 ↔ i + 1=ts.length)
abbrev dT (T:TypeId) (ts:List Tk) (n:Nat):B:=.cells [.fz (ts.map iP),.vl (.int .i64 n)] T
theorem JN (T:TypeId) (ts:List Tk) (n:Nat):dT T ts (n + 1)=.cells [.fz (ts.map iP),.vl (.int .i64 ((n:Int) + 1))] T:=rfl
def iD (T:TypeId) (post:List Tk->Nat->(S->Hp->Prop)->Prop):W.Spec:=fun xs H K=>
 match xs,H with
 | [.va (.c1 (.pt 0 0))],[.cells [.fz r,.vl (.int .i64 a)] T']=>T'=T/\∃ (ts:List Tk) (n:Nat),r=ts.map iP/\a=n/\Ends ts/\n < ts.length/\post ts n K
 | _,_=>False
theorem pW {T:TypeId} {post:List Tk->Nat->(S->Hp->Prop)->Prop} {xs:List S} {H:Hp} {K:S->Hp->Prop} (h:iD T post xs H K) :
 ∃ ts n,xs=[.va (.c1 (.pt 0 0))]/\H=[dT T ts n]/\Ends ts/\n < ts.length/\post ts n K:=by
 unfold iD at h
 split at h
 · obtain ⟨rfl,ts,n,rfl,rfl,h1,h2,h3⟩:=h; exact ⟨ts,n,rfl,rfl,h1,h2,h3⟩
 · exact h.elim
theorem AY {T:TypeId} {post:List Tk->Nat->(S->Hp->Prop)->Prop}:∀ xs H K,iD T post xs H K->xs.length=1:=fun xs H K h=>by obtain ⟨ts,n,rfl,_⟩:=pW h; rfl
attribute [go_sem ↓] iD
def dP (ts:List Tk) (n:Nat):Nat:=if n + 1 < ts.length then n + 1 else n
def d4 (T:TypeId):W.Spec:=iD T fun ts n K=>∀ t,ts[n]? = some t->K (.va (.gs (iP t))) [dT T ts n]
def fR (T:TypeId):W.Spec:=iD T fun ts n K=>∀ t,ts[n]? = some t->K (.va (.gs (iP t))) [dT T ts (dP ts n)]
attribute [go_sem ↓] d4 fR
theorem mK:Meets Tryz.prog 38 (d4 123):=by
 refine aI Tryz.func38 Y2 1 (by rw [Tryz.ntmps38]; decide) (aB _) AY ?_
 intro xs H K h
 obtain ⟨ts,n,rfl,rfl,hE,hn,hK⟩:=pW h
 simp -dsimp only [go_sem,QT,QL]
 refine ⟨fun h=>?_,fun _=>⟨by omega,fun t ht=>.sel [0] (by simp) (by simp) rfl (.done (hK t ht))⟩⟩
 have:=hE.pos; simp at h; simp [h] at this
theorem FO:Meets Tryz.prog 81 (fR 123):=by
 refine aI Tryz.func81 Y1 1 (by rw [Tryz.ntmps81]; decide) (aA mK (aB _)) AY ?_
 intro xs H K h
 obtain ⟨ts,n,rfl,rfl,hE,hn,hK⟩:=pW h
 simp -dsimp only [go_sem,TU,S8]
 refine ⟨ts,n,rfl,rfl,hE,hn,fun t ht=>?_⟩
 have hK:=hK t ht
 have hle:=hE.le
 refine ⟨by omega,fun h=>⟨by omega,?_⟩,fun h=>?_⟩
 · have e:dP ts n=n + 1:=if_pos (by simp at h; omega)
   rw [e,JN] at hK
   exact .sel [0] (by simp) (by simp) rfl (.done hK)
 · have e:dP ts n=n:=if_neg (by simp at h; omega)
   rw [e] at hK
   exact .sel [0] (by simp) (by simp) rfl (.done hK)
def eU (k:Int) (w:List UInt8) (t:Tk):Bool:=t.k == k && t.x == w
def oX (k:Int) (w:List UInt8) (ts:List Tk) (n:Nat) (t:Tk):Nat:=bif eU k w t then dP ts n else n
def d6 (k:Int) (T:TypeId):W.Spec:=fun xs H K=>
 match xs,H with
 | [.va (.c1 (.pt 0 0)),.va (.c1 (.vl (.string w)))],[.cells [.fz r,.vl (.int .i64 a)] T']=>T'=T/\∃ (ts:List Tk) (n:Nat),r=ts.map iP/\a=n/\Ends ts/\n < ts.length/\
  ∀ t,ts[n]? = some t->K (bS (eU k (bl w) t)) [dT T ts (oX k (bl w) ts n t)]
 | _,_=>False
theorem mO {k:Int} {T:TypeId} {xs:List S} {H:Hp} {K:S->Hp->Prop} (h:d6 k T xs H K) :
 ∃ w ts n,xs=[.va (.c1 (.pt 0 0)),tS w]/\H=[dT T ts n]/\Ends ts/\n < ts.length/\∀ t,ts[n]? = some t->K (bS (eU k (bl w) t)) [dT T ts (oX k (bl w) ts n t)]:=by
 unfold d6 at h
 split at h
 · obtain ⟨rfl,ts,n,rfl,rfl,h1,h2,h3⟩:=h; exact ⟨_,ts,n,rfl,rfl,h1,h2,h3⟩
 · exact h.elim
theorem t6 {k:Int} {T:TypeId}:∀ xs H K,d6 k T xs H K->xs.length=2:=fun xs H K h=>by obtain ⟨w,ts,n,rfl,_⟩:=mO h; rfl
def eN (T:TypeId):W.Spec:=fun xs H K=>
 match xs,H with
 | [.va (.c1 (.pt 0 0)),.va (.c1 (.vl (.int .i64 k))),.va (.c1 (.vl (.string w)))],[.cells [.fz r,.vl (.int .i64 a)] T']=>T'=T/\∃ (ts:List Tk) (n:Nat),r=ts.map iP/\a=n/\Ends ts/\n < ts.length/\
  ∀ t,ts[n]? = some t->K (bS (eU k (bl w) t)) [dT T ts (oX k (bl w) ts n t)]
 | _,_=>False
theorem sD {T:TypeId} {xs:List S} {H:Hp} {K:S->Hp->Prop} (h:eN T xs H K) :
 ∃ k w ts n,xs=[.va (.c1 (.pt 0 0)),iS .i64 k,tS w]/\H=[dT T ts n]/\Ends ts/\n < ts.length/\∀ t,ts[n]? = some t->K (bS (eU k (bl w) t)) [dT T ts (oX k (bl w) ts n t)]:=by
 unfold eN at h
 split at h
 · obtain ⟨rfl,ts,n,rfl,rfl,h1,h2,h3⟩:=h; exact ⟨_,_,ts,n,rfl,rfl,h1,h2,h3⟩
 · exact h.elim
theorem F1 {T:TypeId}:∀ xs H K,eN T xs H K->xs.length=3:=fun xs H K h=>by obtain ⟨k,w,ts,n,rfl,_⟩:=sD h; rfl
attribute [go_sem ↓] d6 eN
theorem NM:Meets Tryz.prog 116 (eN 123):=by
 refine aI Tryz.func116 VJ 3 (by rw [Tryz.ntmps116]; decide) (aA mK (aA FO (aB _))) F1 ?_
 intro xs H K h
 obtain ⟨k,w,ts,n,rfl,rfl,hE,hn,hK⟩:=sD h
 simp -dsimp only [go_sem,MD,MR]
 refine ⟨ts,n,rfl,rfl,hE,hn,fun t ht=>?_⟩
 have hK:=hK t ht
 have hg:(t.k != k || !t.x == bl w)=!(eU k (bl w) t):=by simp [eU,bne,Bool.not_and]
 rw [hg]
 refine ⟨fun h=>?_,fun h=>⟨ts,n,rfl,rfl,hE,hn,fun u hu=>?_⟩⟩
 · have h:eU k (bl w) t=false:=by simpa using h
   simp only [oX,h,aF] at hK
   exact .sel [0] (by simp) (by simp) rfl (.done hK)
 · have h:eU k (bl w) t=true:=by simpa using h
   simp only [oX,h,aL] at hK
   exact .sel [0] (by simp) (by simp) rfl (.done hK)
theorem HB:Meets Tryz.prog 82 (d6 4 123):=by
 refine aI Tryz.func82 YC 2 (by rw [Tryz.ntmps82]; decide) (aA NM (aB _)) t6 ?_
 intro xs H K h
 obtain ⟨w,ts,n,rfl,rfl,hE,hn,hK⟩:=mO h
 simp -dsimp only [go_sem,UR,SH]
 refine ⟨ts,n,rfl,rfl,hE,hn,fun t ht=>.done ?_⟩
 exact hK t ht
theorem UG:Meets Tryz.prog 80 (d6 1 123):=by
 refine aI Tryz.func80 ZD 2 (by rw [Tryz.ntmps80]; decide) (aA NM (aB _)) t6 ?_
 intro xs H K h
 obtain ⟨w,ts,n,rfl,rfl,hE,hn,hK⟩:=mO h
 simp -dsimp only [go_sem,SL,RT]
 refine ⟨ts,n,rfl,rfl,hE,hn,fun t ht=>.done ?_⟩
 exact hK t ht
def gX:W.Spec:=fun xs H K=>
 match xs,H with
 | [.va (.c1 (.vl (.string s)))],[]=>((aP (bl s)).err=0->K (.tu [.c1 (.pt 0 0),iA .i64 0,iA .i64 0]) [dT 123 (aP (bl s)).toks 0])/\
  ((aP (bl s)).err ≠ 0->K (.tu [.c1 (.vl (.pointer none)),iA .i64 (aP (bl s)).err,iA .i64 (aP (bl s)).off]) [])
 | _,_=>False
theorem uD {xs:List S} {H:Hp} {K:S->Hp->Prop} (h:gX xs H K):∃ s,xs=[tS s]/\H=[]/\((aP (bl s)).err=0->K (.tu [.c1 (.pt 0 0),iA .i64 0,iA .i64 0]) [dT 123 (aP (bl s)).toks 0])/\
 ((aP (bl s)).err ≠ 0->K (.tu [.c1 (.vl (.pointer none)),iA .i64 (aP (bl s)).err,iA .i64 (aP (bl s)).off]) []):=by
 unfold gX at h
 split at h
 · exact ⟨_,rfl,rfl,h.1,h.2⟩
 · exact h.elim
attribute [go_sem ↓] gX
theorem RA:Meets Tryz.prog 33 gX:=by
 refine aI Tryz.func33 aAT 1 (by rw [Tryz.ntmps33]; decide) (aA W0 (aB _)) (fun xs H K h=>by obtain ⟨s,rfl,_⟩:=uD h; rfl) ?_
 intro xs H K h
 obtain ⟨s,rfl,rfl,hK1,hK2⟩:=uD h
 simp -dsimp only [go_sem,P1,Q4]
 refine ⟨fun h=>.done (hK2 (by simpa using h)),fun h=>?_⟩
 have hK:=hK1 (by simpa using h)
 exact .sel [0] (by simp) (by simp) rfl (.done hK)
def digs (n:Nat):List UInt8:=(if h:n < 10 then [] else digs (n / 10)) ++ [(48 + n % 10).toUInt8]
 termination_by n
 decreasing_by omega
theorem jI {n:Nat} (h:n < 10):digs n=[(48 + n).toUInt8]:=by
 rw [digs.eq_1,dif_pos h,Nat.mod_eq_of_lt h]; rfl
theorem m8 {n:Nat} (h:10<=n):digs n=digs (n / 10) ++ [(48 + n % 10).toUInt8]:=by
 rw [digs.eq_1,dif_neg (by omega)]
theorem oJ:∀ (k n:Nat),n < 10 ^ (k + 1)->(digs n).length<=k + 1
 | 0,n,h=>by rw [jI (by omega)]; simp
 | k + 1,n,h=>by
  rcases b5 n 10 with h1 | h1
  · rw [jI h1]; simp
  · rw [m8 h1,List.length_append]
    have:=oJ k (n / 10) (by rw [Nat.pow_succ] at h; omega)
    simp; omega
def aX (n:Int):List UInt8:=bif decide (n < 0) then 45 :: digs n.natAbs else digs n.natAbs
def rC (f:Bool) (u:Nat):List UInt8:=bif f || decide (0 < u) then digs u else []
theorem wB {f:Bool} {u:Nat} (h:(f || decide (0 < u))=true):rC f u=rC false (u / 10) ++ [(48 + u % 10).toUInt8]:=by
 unfold rC
 rw [h,aL,Bool.false_or]
 rcases b5 u 10 with h1 | h1
 · rw [jI h1,Nat.mod_eq_of_lt h1,show decide (0 < u / 10)=false by simp; omega]; rfl
 · rw [m8 h1,show decide (0 < u / 10)=true by simp; omega]; rfl
def BD (c:UInt8):List UInt8:=bif c == 34 || c == 92 then [92,c] else [c]
def wF (l:List UInt8):List UInt8:=34 :: l.flatMap BD ++ [34]
def oW (c:UInt8):Bool:=decide (32<=c) && decide (c<=126)
def jR (k:Int) (x:List UInt8) (n:Int):List UInt8:=bif k == 1 then x else bif k == 2 then aX n else bif k == 3 then wF x else bif k == 4 then x else []
def EY (k:Int) (x:List UInt8) (n:Int):Bool:=
 bif k == 1 then n == 0 && bL x else bif k == 2 then x == [] else bif k == 3 then n == 0 && (decide (x.length<=200) && x.all oW) else bif k == 4 then n == 0 && (match x with | [c]=>dR c.toNat | _=>false) else false
structure Tx where
 k:Int
 x:List UInt8
 n:Int
 a:Int
structure TkFit (t:Tx):Prop where
 lo:-9223372036854775808<=t.n
 hi:t.n<=9223372036854775807
 len:t.x.length<=100000
theorem eW {n:Int} (h1:-9223372036854775808<=n) (h2:n<=9223372036854775807):(aX n).length<=21:=by
 have:=oJ 19 n.natAbs (by omega)
 unfold aX
 cases decide (n < 0)<;>simp<;>omega
theorem B0 {l x rest:List UInt8} {a:Nat} (h:l.drop a=x ++ rest):(l.take (a + x.length)).drop a=x:=by
 rw [List.drop_take,h,Nat.add_sub_cancel_left,List.take_left]
theorem AH {l x rest:List UInt8} {a:Nat} (h:l.drop a=x ++ rest) (j:Nat):l[a + x.length + j]? = rest[j]?:=by
 have:(l.drop a)[x.length + j]? = rest[j]?:=by rw [h,List.getElem?_append_right (by omega)]; congr 1; omega
 rw [<-this,List.getElem?_drop]; congr 1; omega
theorem qB {l x:List UInt8} {a:Nat} {c:UInt8} (h:l.drop a=c :: x):l[a]? = some c:=by
 have:(l.drop a)[0]? = some c:=by rw [h]; rfl
 rwa [List.getElem?_drop,Nat.add_zero] at this
theorem EJ {l x:List UInt8} {a:Nat} {c:UInt8} (h:l.drop a=c :: x):l.drop (a + 1)=x:=by
 rw [<-List.drop_drop,h]; rfl
theorem yO {l rest:List UInt8} {a:Nat} {c:UInt8} (h:l.drop a=c :: rest) (hx:dR c.toNat=true):dS l a=.ok 4 [c] 0 (a + 1)/\∃ c,l[a]? = some c/\(c == 32 || c == 9 || c == 10)=false/\(c == 35)=false:=by
 have hc:=qB h
 have hsk:=cC (p:=fun c=>!(dR c.toNat) || ((!(c == 32 || c == 9 || c == 10) && !(c == 35)) && (!(cM c.toNat) && !(bH c || c == 45) && !(c == 34)))) (by decide +kernel) c
 simp only [hx,Bool.not_true,Bool.false_or,Bool.and_eq_true,Bool.not_eq_true'] at hsk
 obtain ⟨h1,⟨h2,h3⟩,h4⟩:=hsk
 exact ⟨by simp only [dS,hc,h2,h3,h4,hx,aL,aF],c,hc,h1⟩
theorem DW:∀ (x rest out:List UInt8) (i:Nat),x.all oW=true->quoL i (x.flatMap BD ++ 34 :: rest) out=(i + (x.flatMap BD).length + 1,some (out ++ x))
 | [],rest,out,i,_=>by
  rw [List.flatMap_nil,List.nil_append,fD]
  simp
 | c :: x,rest,out,i,h=>by
  rw [List.all_cons,Bool.and_eq_true] at h
  obtain ⟨h1,h2⟩:=h
  have ih:=fun i out=>DW x rest out i h2
  rw [List.flatMap_cons,List.append_assoc]
  unfold oW at h1
  have hlo:(decide (c < 32) || decide (126 < c))=false:=by
   simp only [Bool.and_eq_true,decide_eq_true_eq,UInt8.le_iff_toNat_le] at h1
   simp only [Bool.or_eq_false_iff,decide_eq_false_iff_not,UInt8.lt_iff_toNat_lt]
   exact ⟨by omega,by omega⟩
  rw [show BD c=bif c == 34 || c == 92 then [92,c] else [c] from rfl]
  cases hq:(c == 34 || c == 92) with
  | true=>
   rw [aL,List.cons_append,fD]
   have e1:(decide ((92:UInt8) < 32) || decide ((126:UInt8) < 92))=false:=by decide
   have e2:((92:UInt8) == 34)=false:=by decide
   have e3:((92:UInt8) == 92)=true:=by decide
   rw [e1,e2,e3]
   simp only [aL,aF,List.cons_append,List.nil_append,hq]
   rw [ih]
   simp; omega
  | false=>
   simp only [Bool.or_eq_false_iff] at hq
   rw [aF,List.cons_append,List.nil_append,fD,hlo,hq.1,hq.2]
   simp only [aF]
   rw [ih]
   simp; omega
theorem xQ {l x rest:List UInt8} {a:Nat} (h:l.drop a=wF x ++ rest) (hl:x.length<=200) (hx:x.all oW=true):dS l a=.ok 3 x 0 (a + (wF x).length)/\∃ c,l[a]? = some c/\(c == 32 || c == 9 || c == 10)=false/\(c == 35)=false:=by
 have h':l.drop a=34 :: (x.flatMap BD ++ 34 :: rest):=by rw [h]; simp [wF]
 have hc:=qB h'
 refine ⟨?_,34,hc,by decide,by decide⟩
 have e1:cM ((34:UInt8).toNat:Int)=false:=by decide
 have e2:(bH 34 || (34:UInt8) == 45)=false:=by decide
 have h200:decide (200 < x.length)=false:=by simp; omega
 simp only [dS,hc,e1,e2,aF,gL,EJ h',DW x rest [] (a + 1) hx,List.nil_append,h200]
 simp [wF]
 omega
theorem sN:∀ (k m:Nat),m < 10 ^ (k + 1)->∀ c ∈ digs m,bH c=true
 | 0,m,h=>fun c hc=>by
  rw [jI (by omega)] at hc
  simp only [List.mem_cons,List.not_mem_nil,or_false] at hc
  subst hc
  rw [jP,UInt8.toNat_ofNat']
  omega
 | k + 1,m,h=>fun c hc=>by
  rcases b5 m 10 with h1 | h1
  · exact sN 0 m (by omega) c hc
  · rw [m8 h1,List.mem_append] at hc
    rcases hc with hc | hc
    · exact sN k (m / 10) (by rw [Nat.pow_succ] at h; omega) c hc
    · simp only [List.mem_cons,List.not_mem_nil,or_false] at hc
      subst hc
      rw [jP,UInt8.toNat_ofNat']
      omega
theorem xG (m:Nat):digs m ≠ []:=by rw [digs.eq_1]; simp
theorem qI:∀ (k m:Nat),m < 10 ^ (k + 1)->0 < m->(digs m)[0]? ≠ some 48
 | 0,m,h,h0=>by
  rw [jI (by omega)]
  simp only [List.getElem?_cons_zero,ne_eq,aC]
  intro e
  have:=congrArg UInt8.toNat e
  rw [UInt8.toNat_ofNat'] at this
  have:(48 + m) % 256=48:=this
  omega
 | k + 1,m,h,h0=>by
  rcases b5 m 10 with h1 | h1
  · exact qI 0 m (by omega) h0
  · rw [m8 h1,List.getElem?_append_left (List.length_pos_iff.2 (xG _))]
    exact qI k (m / 10) (by rw [Nat.pow_succ] at h; omega) (by omega)
theorem CS (c:UInt8):∀ (l:List UInt8) (n:Nat),decV n (l ++ [c])=10 * decV n l + (c.toNat - 48)
 | [],n=>by rw [List.nil_append,iK,lD,lD]
 | d :: l,n=>by rw [List.cons_append,iK,iK,CS c l]
theorem pD:∀ (k m:Nat),m < 10 ^ (k + 1)->decV 0 (digs m)=m
 | 0,m,h=>by
  rw [jI (by omega),iK,lD,UInt8.toNat_ofNat']
  omega
 | k + 1,m,h=>by
  rcases b5 m 10 with h1 | h1
  · exact pD 0 m (by omega)
  · rw [m8 h1,CS,pD k (m / 10) (by rw [Nat.pow_succ] at h; omega),UInt8.toNat_ofNat']
    omega
abbrev okT (t:Tx):Bool:=EY t.k t.x t.n
abbrev kJ (t:Tx):List UInt8:=jR t.k t.x t.n
abbrev QD (t:Tx):Int × List UInt8 × Int:=(t.k,t.x,t.n)
abbrev cO (t:Tk):Int × List UInt8 × Int:=(t.k,t.x,t.n)
def P6:PC:=.seq (.reg [.e 1 (.bx 25 (.t 0)),.q 2 (.mv (.k (.string (mk []))))]) (.seq (.seq (.reg [.l 12 (.ldn 3 (.t 1)),.a 13 (.cq 31 [(.t 12)]),.q 14 (.bin .neq true (.t 13) (.i 0))]) (.cond (.t 14) (.seq (.reg [.q 2 (.mv (.k (.string (mk []))))]) .ret) .skip)) (.seq (.reg [.q 15 (.fa 0 (.t 1)),.l 16 (.ld1 (.t 15)),.a 17 (.cq 32 [(.t 16)]),.q 18 (.bin .add true (.k (.string (mk [118,101,114,115,105,111,110,32]))) (.t 17)),.q 19 (.bin .add true (.t 18) (.k (.string (mk [59,10])))),.v 3 19]) (.seq (.seq (.reg [.q 20 (.fa 1 (.t 1)),.l 21 (.ld1 (.t 20)),.q 22 (.lnL (.t 21)),.q 23 (.mv (.i 0))]) (.block 0 (.loop (.seq (.reg [.q 24 (.bin .lss true (.t 23) (.t 22))]) (.seq (.cond (.t 24) .skip (.exit 0)) (.seq (.block 1 (.seq (.reg [.l 25 (.ia 3 (.t 21) (.t 23)),.l 26 (.ldn 3 (.t 25)),.e 5 (.al (.agg #[(.string (mk [])),(.slice none 0 0),(.slice none 0 0)]) 62),.s (.st 3 (.t 5) (.t 26))]) (.seq (.reg [.v 27 3,.q 28 (.fa 0 (.t 5)),.l 29 (.ld1 (.t 28)),.q 30 (.bin .add true (.k (.string (mk [101,110,117,109,32]))) (.t 29)),.q 31 (.bin .add true (.t 30) (.k (.string (mk [32,123,32])))),.q 32 (.bin .add true (.t 27) (.t 31)),.v 3 32]) (.seq (.seq (.reg [.q 33 (.fa 1 (.t 5)),.l 34 (.ld1 (.t 33)),.q 35 (.lnL (.t 34)),.q 36 (.mv (.i 0))]) (.block 2 (.loop (.seq (.reg [.q 37 (.bin .lss true (.t 36) (.t 35))]) (.seq (.cond (.t 37) .skip (.exit 2)) (.seq (.block 3 (.seq (.reg [.v 38 36,.l 39 (.ia 1 (.t 34) (.t 36)),.l 40 (.ld1 (.t 39)),.v 6 38,.v 7 40]) (.seq (.seq (.reg [.v 41 6,.q 42 (.bin .gtr true (.t 41) (.i 0))]) (.cond (.t 42) (.reg [.v 43 3,.q 44 (.bin .add true (.t 43) (.k (.string (mk [44,32])))),.v 3 44]) .skip)) (.reg [.v 45 3,.v 46 7,.q 47 (.bin .add true (.t 46) (.k (.string (mk [32,61,32])))),.q 48 (.fa 2 (.t 5)),.l 49 (.ld1 (.t 48)),.v 50 6,.l 51 (.ia 1 (.t 49) (.t 50)),.l 52 (.ld1 (.t 51)),.a 53 (.cq 32 [(.t 52)]),.q 54 (.bin .add true (.t 47) (.t 53)),.q 55 (.bin .add true (.t 45) (.t 54)),.v 3 55])))) (.reg [.q 56 (.bin .add true (.t 36) (.i 1)),.v 36 56]))))))) (.reg [.v 57 3,.q 58 (.bin .add true (.t 57) (.k (.string (mk [32,125,10])))),.v 3 58]))))) (.reg [.q 59 (.bin .add true (.t 23) (.i 1)),.v 23 59]))))))) (.seq (.seq (.reg [.q 60 (.fa 2 (.t 1)),.l 61 (.ld1 (.t 60)),.q 62 (.lnL (.t 61)),.q 63 (.mv (.i 0))]) (.block 4 (.loop (.seq (.reg [.q 64 (.bin .lss true (.t 63) (.t 62))]) (.seq (.cond (.t 64) .skip (.exit 4)) (.seq (.block 5 (.seq (.reg [.l 65 (.ia 2 (.t 61) (.t 63)),.l 66 (.ldn 2 (.t 65)),.e 9 (.al (.agg #[(.string (mk [])),(.slice none 0 0)]) 56),.s (.st 2 (.t 9) (.t 66))]) (.seq (.reg [.v 67 3,.q 68 (.fa 0 (.t 9)),.l 69 (.ld1 (.t 68)),.q 70 (.bin .add true (.k (.string (mk [115,116,114,117,99,116,32]))) (.t 69)),.q 71 (.bin .add true (.t 70) (.k (.string (mk [32,123,10])))),.q 72 (.bin .add true (.t 67) (.t 71)),.v 3 72]) (.seq (.seq (.reg [.q 73 (.fa 1 (.t 9)),.l 74 (.ld1 (.t 73)),.q 75 (.lnL (.t 74)),.q 76 (.mv (.i 0))]) (.block 6 (.loop (.seq (.reg [.q 77 (.bin .lss true (.t 76) (.t 75))]) (.seq (.cond (.t 77) .skip (.exit 6)) (.seq (.block 7 (.seq (.reg [.l 78 (.ia 7 (.t 74) (.t 76)),.l 79 (.ldn 7 (.t 78)),.e 11 (.al (.agg #[(.int .i64 0),(.string (mk [])),(.int .i64 0),(.int .i64 0),(.string (mk [])),(.slice none 0 0),(.bool false)]) 64),.s (.st 7 (.t 11) (.t 79))]) (.seq (.reg [.v 80 3,.q 81 (.fa 0 (.t 11)),.l 82 (.ld1 (.t 81)),.a 83 (.cq 32 [(.t 82)]),.q 84 (.bin .add true (.k (.string (mk [32,32]))) (.t 83)),.q 85 (.bin .add true (.t 84) (.k (.string (mk [32])))),.q 86 (.fa 1 (.t 11)),.l 87 (.ld1 (.t 86)),.q 88 (.bin .add true (.t 85) (.t 87)),.q 89 (.bin .add true (.t 88) (.k (.string (mk [58,32])))),.q 90 (.fa 2 (.t 11)),.l 91 (.ldn 4 (.t 90)),.a 92 (.cq 16 [(.t 91)]),.q 93 (.bin .add true (.t 89) (.t 92)),.q 94 (.bin .add true (.t 80) (.t 93)),.v 3 94]) (.seq (.seq (.reg [.q 95 (.fa 6 (.t 11)),.l 96 (.ld1 (.t 95))]) (.cond (.t 96) (.reg [.v 97 3,.q 98 (.bin .add true (.t 97) (.k (.string (mk [63])))),.v 3 98]) .skip)) (.reg [.v 99 3,.q 100 (.bin .add true (.t 99) (.k (.string (mk [59,10])))),.v 3 100]))))) (.reg [.q 101 (.bin .add true (.t 76) (.i 1)),.v 76 101]))))))) (.reg [.v 102 3,.q 103 (.bin .add true (.t 102) (.k (.string (mk [125,10])))),.v 3 103]))))) (.reg [.q 104 (.bin .add true (.t 63) (.i 1)),.v 63 104]))))))) (.seq (.reg [.v 105 3,.v 2 105]) .ret)))))
def TV:List RV:=[.mv (.t 2)]
theorem YL:aY Tryz.prog true ⟨fun r k=>if r=1/\k=1 then .q else if r=3/\k=2 then .q else if r=13/\k=8 then .q else if r=24/\k=3 then .q else if r=24/\k=12 then .q else .own [],fun _=>false⟩ Tryz.f10=some (P6,TV):=by kernel_rfl
def UA:PC:=.seq (.reg [.e 1 (.bx 37 (.t 0)),.q 2 (.mv (.k (.string (mk []))))]) (.seq (.reg [.q 3 (.mv (.k (.string (mk []))))]) (.seq (.seq (.reg [.q 4 (.mv (.i 0))]) (.block 0 (.loop (.seq (.seq (.reg [.q 6 (.fa 0 (.t 1)),.l 7 (.ld1 (.t 6)),.q 8 (.bin .eql true (.t 7) (.i 5))]) (.cond (.t 8) .skip (.exit 0))) (.seq (.block 1 (.seq (.seq (.reg [.q 11 (.fa 1 (.t 1)),.l 12 (.ld1 (.t 11)),.q 13 (.bin .lss true (.t 12) (.i 0)),.v 14 13,⟨some 15,(some (14,false)),.q (.fa 2 (.t 1))⟩,⟨some 16,(some (14,false)),.l (.ld1 (.t 15))⟩,⟨some 17,(some (14,false)),.q (.bin .neq true (.t 16) (.k (.string (mk []))))⟩,.a 18 (.pick (.t 14) (.k (.bool true)) (.t 17)),.v 19 18,⟨some 20,(some (19,false)),.q (.fa 3 (.t 1))⟩,⟨some 21,(some (19,false)),.l (.ld1 (.t 20))⟩,⟨some 22,(some (19,false)),.q (.lnL (.t 21))⟩,⟨some 23,(some (19,false)),.q (.bin .neq true (.t 22) (.i 1))⟩,.a 24 (.pick (.t 19) (.k (.bool true)) (.t 23)),.v 25 24,⟨some 26,(some (25,false)),.q (.mv (.t 4))⟩,⟨some 27,(some (25,false)),.q (.bin .eql true (.t 26) (.i 6))⟩,.a 28 (.pick (.t 25) (.k (.bool true)) (.t 27))]) (.cond (.t 28) (.seq (.reg [.q 2 (.mv (.k (.string (mk []))))]) .ret) .skip)) (.seq (.reg [.v 29 3,.q 30 (.fa 1 (.t 1)),.l 31 (.ld1 (.t 30)),.a 32 (.cq 32 [(.t 31)]),.q 33 (.bin .add true (.k (.string (mk [108,105,115,116,91]))) (.t 32)),.q 34 (.bin .add true (.t 33) (.k (.string (mk [93,32,111,102,32])))),.q 35 (.bin .add true (.t 29) (.t 34)),.v 3 35]) (.reg [.q 36 (.fa 3 (.t 1)),.l 37 (.ld1 (.t 36)),.l 38 (.ia 4 (.t 37) (.i 0)),.l 39 (.ldn 4 (.t 38)),.s (.st 4 (.t 1) (.t 39))])))) (.reg [.v 9 4,.q 10 (.bin .add true (.t 9) (.i 1)),.v 4 10])))))) (.seq (.reg [.l 40 (.ldn 4 (.t 1)),.a 41 (.cq 53 [(.t 40)]),.v 5 41]) (.seq (.seq (.reg [.v 42 5,.q 43 (.bin .eql true (.t 42) (.k (.string (mk []))))]) (.cond (.t 43) (.seq (.reg [.q 2 (.mv (.k (.string (mk []))))]) .ret) .skip)) (.seq (.reg [.v 44 3,.v 45 5,.q 46 (.bin .add true (.t 44) (.t 45)),.v 2 46]) .ret)))))
def QF:List RV:=[.mv (.t 2)]
theorem aA1:aY Tryz.prog true ⟨fun r k=>if r=7/\k=3 then .q else if r=9/\k=1 then .q else .own [],fun _=>false⟩ Tryz.f16=some (UA,QF):=by kernel_rfl
def KB:PC:=.seq (.reg [.q 4 (.mv (.k (.bool false)))]) (.seq (.reg [.v 5 0,.q 6 (.nc (.t 5)),.q 7 (.fa 1 (.t 6)),.l 8 (.ld1 (.t 7)),.q 9 (.not (.t 8)),.v 10 9,⟨some 11,(some (10,true)),.q (.mv (.t 0))⟩,⟨some 12,(some (10,true)),.q (.nc (.t 11))⟩,⟨some 13,(some (10,true)),.q (.fa 0 (.t 12))⟩,⟨some 14,(some (10,true)),.l (.ld1 (.t 13))⟩,⟨some 15,(some (10,true)),.q (.mv (.t 1))⟩,⟨some 16,(some (10,true)),.cl 80 [(.t 14),(.t 15)] [1]⟩,.a 17 (.pick (.t 10) (.t 16) (.k (.bool false))),.v 4 17]) .ret)
def J9:List RV:=[.mv (.t 4)]
theorem Y6:aY Tryz.prog true ⟨fun r k=>if r=1/\k=11 then .own [1] else .own [],fun _=>false⟩ Tryz.f34=some (KB,J9):=by kernel_rfl
def LH:PC:=.seq (.reg [.v 2 0,.q 3 (.nc (.t 2)),.q 4 (.fa 1 (.t 3)),.l 5 (.ld1 (.t 4)),.q 6 (.not (.t 5))]) (.cond (.t 6) (.reg [.v 7 0,.v 8 0,.v 9 0,.q 10 (.nc (.t 9)),.q 11 (.fa 0 (.t 10)),.l 12 (.ld1 (.t 11)),.a 13 (.cl 38 [(.t 12)] [1]),.q 14 (.fld1 3 (.t 13)),.q 15 (.nc (.t 7)),.q 16 (.fa 1 (.t 15)),.s (.st 1 (.t 16) (.k (.bool true))),.q 17 (.nc (.t 8)),.q 18 (.fa 2 (.t 17)),.s (.st 1 (.t 18) (.t 14))]) .skip)
def JM:List RV:=[]
theorem YP:aY Tryz.prog true ⟨fun r k=>if r=1/\k=6 then .own [1] else .own [],fun _=>false⟩ Tryz.f35=some (LH,JM):=by kernel_rfl
def C8:PC:=.seq (.gh (.reg [.v 30 0,.q 31 (.nc (.t 30)),.q 32 (.fa 0 (.t 31)),.l 33 (.ld1 (.t 32)),.a 34 (.cl 81 [(.t 33)] [1])])) (.seq (.reg [.q 35 (.fa 2 (.t 5)),.l 36 (.ld1 (.t 35)),.v 4 36]) .ret)
@[go_sem ↓] theorem ZM:cF C8:=cJ _
def BA:PC:=.seq (.seq (.gh (.reg [.v 11 0,.q 12 (.nc (.t 11)),.q 13 (.fa 1 (.t 12)),.l 14 (.ld1 (.t 13)),.v 15 14,⟨some 16,(some (15,false)),.q (.fa 0 (.t 5))⟩,⟨some 17,(some (15,false)),.l (.ld1 (.t 16))⟩,⟨some 18,(some (15,false)),.q (.bin .neq true (.t 17) (.i 2))⟩,.a 19 (.pick (.t 15) (.k (.bool true)) (.t 18)),.v 20 19,⟨some 21,(some (20,false)),.q (.mv (.t 1))⟩,⟨some 22,(some (20,false)),.q (.mv (.t 21))⟩,⟨some 23,(some (22,true)),.q (.fa 2 (.t 5))⟩,⟨some 24,(some (22,true)),.l (.ld1 (.t 23))⟩,⟨some 25,(some (22,true)),.q (.bin .lss true (.t 24) (.i 0))⟩,⟨some 26,(some (20,false)),.pick (.t 22) (.t 25) (.k (.bool false))⟩,.a 27 (.pick (.t 20) (.k (.bool true)) (.t 26))])) (.cond (.t 27) (.seq (.reg [.v 28 0,.a 29 (.cl 35 [(.t 28)] [0,1,2,3])]) (.seq (.reg [.q 4 (.mv (.i 0))]) .ret)) .skip)) (C8)
@[go_sem ↓] theorem YB:cF BA:=cJ _
def S7:PC:=.seq (.reg [.q 4 (.mv (.i 0))]) (.seq (.reg [.v 6 0,.q 7 (.nc (.t 6)),.q 8 (.fa 0 (.t 7)),.l 9 (.ld1 (.t 8)),.a 10 (.cl 38 [(.t 9)] [1]),.e 5 (.al (.agg #[(.int .i64 0),(.string (mk [])),(.int .i64 0),(.int .i64 0)]) 74),.s (.st 4 (.t 5) (.t 10))]) (BA))
def US:List RV:=[.mv (.t 4)]
theorem YW:aY Tryz.prog true ⟨fun r k=>if r=1/\k=4 then .own [1] else if r=3/\k=1 then .own [0,1,2,3] else if r=5/\k=4 then .own [1] else .own [],fun r=>[2,5].contains r⟩ Tryz.f36=some (S7,US):=by kernel_rfl
def JK:PC:=.seq (.reg [.v 4 0,.q 5 (.nc (.t 4)),.q 6 (.fa 1 (.t 5)),.l 7 (.ld1 (.t 6)),.q 8 (.not (.t 7)),.v 9 8,⟨some 10,(some (9,true)),.q (.mv (.t 0))⟩,⟨some 11,(some (9,true)),.q (.nc (.t 10))⟩,⟨some 12,(some (9,true)),.q (.fa 0 (.t 11))⟩,⟨some 13,(some (9,true)),.l (.ld1 (.t 12))⟩,⟨some 14,(some (9,true)),.q (.mv (.t 1))⟩,⟨some 15,(some (9,true)),.cl 82 [(.t 13),(.t 14)] [1]⟩,⟨some 16,(some (9,true)),.q (.not (.t 15))⟩,.a 17 (.pick (.t 9) (.t 16) (.k (.bool false)))]) (.cond (.t 17) (.reg [.v 18 0,.a 19 (.cl 35 [(.t 18)] [0,1,2,3])]) .skip)
def LD:List RV:=[]
theorem ZX:aY Tryz.prog true ⟨fun r k=>if r=0/\k=11 then .own [1] else if r=1/\k=1 then .own [0,1,2,3] else .own [],fun _=>false⟩ Tryz.f37=some (JK,LD):=by kernel_rfl
def AG:PC:=.seq (.gh (.reg [.v 27 0,.a 28 (.cl 37 [(.t 27),(.k (.string (mk [61])))] [0,1,2,3])])) (.gh (.ord  [.q (.q 29 (.fa 2 (.t 3))),.q (.l 30 (.ld1 (.t 29))),.q (.v 31 0),.m (.a 32 (.cl 36 [(.t 31),(.k (.bool false))] [0,1,2,3])),.rc (.q 29 (.fa 2 (.t 3))),.rc (.l 30 (.ld1 (.t 29))),.m (.e 33 (.bsl 3 1 [(.t 32)])),.rc (.q 29 (.fa 2 (.t 3))),.rc (.l 30 (.ld1 (.t 29))),.m (.e 34 (.ap 3 1 8 (.t 30) (.t 33))),.q (.q 35 (.fa 2 (.t 3))),.m (.s (.st 1 (.t 35) (.t 34)))]))
@[go_sem ↓] theorem Y7:cF AG:=cJ _
def BO:PC:=.gh (.reg [.v 18 0,.a 19 (.cl 84 [(.t 18),(.k (.string (mk [44])))] [0,1,2,3]),.v 4 19])
@[go_sem ↓] theorem YZ:cF BO:=cJ _
def pc39_9:PC:=.seq (.gh (.reg [.v 36 0,.a 37 (.cl 37 [(.t 36),(.k (.string (mk [125])))] [0,1,2,3])])) (.seq (.reg [.l 38 (.ldn 3 (.t 3)),.s (.st 3 (.t 2) (.t 38))]) .ret)
@[go_sem ↓] theorem YG:cF pc39_9:=cJ _
def T7:PC:=.seq (.reg [.e 2 (.al (.agg #[(.string (mk [])),(.slice none 0 0),(.slice none 0 0)]) 62)]) (.seq (.reg [.v 5 0,.a 6 (.cl 83 [(.t 5),(.k (.bool true))] [0,1,2,3]),.q 7 (.bd [(.string (mk [])),(.slice none 0 0),(.slice none 0 0)] [(0,1,(.t 6))]),.e 3 (.al (.agg #[(.string (mk [])),(.slice none 0 0),(.slice none 0 0)]) 62),.s (.st 3 (.t 3) (.t 7))]) (.seq (.reg [.v 8 0,.a 9 (.cl 37 [(.t 8),(.k (.string (mk [123])))] [0,1,2,3])]) (.seq (.seq (.reg [.q 4 (.mv (.k (.bool true)))]) (.block 0 (.loop (.seq (.seq (.reg [.v 10 4,.v 11 10,⟨some 12,(some (11,true)),.q (.mv (.t 0))⟩,⟨some 13,(some (11,true)),.q (.nc (.t 12))⟩,⟨some 14,(some (11,true)),.q (.fa 1 (.t 13))⟩,⟨some 15,(some (11,true)),.l (.ld1 (.t 14))⟩,⟨some 16,(some (11,true)),.q (.not (.t 15))⟩,.a 17 (.pick (.t 11) (.t 16) (.k (.bool false)))]) (.cond (.t 17) .skip (.exit 0))) (.seq (.block 1 (.seq (.ord  [.q (.q 20 (.fa 1 (.t 3))),.q (.l 21 (.ld1 (.t 20))),.q (.v 22 0),.m (.a 23 (.cl 83 [(.t 22),(.k (.bool false))] [0,1,2,3])),.rc (.q 20 (.fa 1 (.t 3))),.rc (.l 21 (.ld1 (.t 20))),.m (.e 24 (.bsl 9 1 [(.t 23)])),.rc (.q 20 (.fa 1 (.t 3))),.rc (.l 21 (.ld1 (.t 20))),.m (.e 25 (.ap 9 1 16 (.t 21) (.t 24))),.q (.q 26 (.fa 1 (.t 3))),.m (.s (.st 1 (.t 26) (.t 25)))]) (AG))) (BO)))))) (pc39_9))))
def GW:List RV:=[.ld (.ldn 3 (.t 2))]
theorem Z7:aY Tryz.prog true ⟨fun r k=>if r=1/\k=1 then .own [0,1,2,3] else if r=2/\k=1 then .own [0,1,2,3] else if r=6/\k=3 then .own [0,1,2,3] else if r=7/\k=1 then .own [0,1,2,3] else if r=8/\k=3 then .own [0,1,2,3] else if r=5/\k=1 then .own [0,1,2,3] else if r=9/\k=1 then .own [0,1,2,3] else .own [],fun r=>[7,8,9,5].contains r⟩ Tryz.f39=some (T7,GW):=by kernel_rfl
def wV:PC:=.gh (.reg [.q 44 (.fa 1 (.t 3)),.l 45 (.ld1 (.t 44)),.l 46 (.ldn 7 (.t 4)),.e 47 (.bsl 64 7 [(.t 46)]),.e 48 (.ap 64 7 88 (.t 45) (.t 47)),.q 49 (.fa 1 (.t 3)),.s (.st 1 (.t 49) (.t 48))])
@[go_sem ↓] theorem XR:cF wV:=cJ _
def xE:PC:=.seq (.gh (.reg [.v 42 0,.a 43 (.cl 37 [(.t 42),(.k (.string (mk [59])))] [0,1,2,3])])) (wV)
@[go_sem ↓] theorem XN:cF xE:=cJ _
def AR:PC:=.seq (.gh (.reg [.v 39 0,.a 40 (.cl 84 [(.t 39),(.k (.string (mk [63])))] [0,1,2,3]),.q 41 (.fa 6 (.t 4)),.s (.st 1 (.t 41) (.t 40))])) (xE)
@[go_sem ↓] theorem ZG:cF AR:=cJ _
def BY:PC:=.seq (.gh (.reg [.v 36 0,.a 37 (.cl 55 [(.t 36)] [0,1,2,3]),.q 38 (.fa 2 (.t 4)),.s (.st 4 (.t 38) (.t 37))])) (AR)
@[go_sem ↓] theorem aAE:cF BY:=cJ _
def CL:PC:=.seq (.gh (.reg [.v 34 0,.a 35 (.cl 37 [(.t 34),(.k (.string (mk [58])))] [0,1,2,3])])) (BY)
@[go_sem ↓] theorem aAW:cF CL:=cJ _
def CX:PC:=.seq (.gh (.reg [.v 29 0,.a 30 (.cl 36 [(.t 29),(.k (.bool false))] [0,1,2,3]),.v 31 0,.a 32 (.cl 83 [(.t 31),(.k (.bool false))] [0,1,2,3]),.q 33 (.bd [(.int .i64 0),(.string (mk [])),(.int .i64 0),(.int .i64 0),(.string (mk [])),(.slice none 0 0),(.bool false)] [(0,1,(.t 30)),(1,1,(.t 32))]),.e 4 (.al (.agg #[(.int .i64 0),(.string (mk [])),(.int .i64 0),(.int .i64 0),(.string (mk [])),(.slice none 0 0),(.bool false)]) 64),.s (.st 7 (.t 4) (.t 33))])) (CL)
@[go_sem ↓] theorem aAU:cF CX:=cJ _
def BK:PC:=.seq (.seq (.gh (.reg [.v 20 0,.q 21 (.nc (.t 20)),.q 22 (.fa 0 (.t 21)),.l 23 (.ld1 (.t 22)),.a 24 (.cl 38 [(.t 23)] [1]),.q 25 (.fld1 0 (.t 24)),.q 26 (.bin .neq true (.t 25) (.i 2))])) (.cond (.t 26) (.seq (.reg [.v 27 0,.a 28 (.cl 35 [(.t 27)] [0,1,2,3])]) (.exit 0)) .skip)) (CX)
@[go_sem ↓] theorem aAM:cF BK:=cJ _
def pc40_12:PC:=.seq (.gh (.reg [.l 50 (.ldn 2 (.t 3)),.s (.st 2 (.t 2) (.t 50))])) .ret
@[go_sem ↓] theorem XV:cF pc40_12:=cJ _
def T5:PC:=.seq (.reg [.e 2 (.al (.agg #[(.string (mk [])),(.slice none 0 0)]) 56)]) (.seq (.reg [.v 5 0,.a 6 (.cl 83 [(.t 5),(.k (.bool true))] [0,1,2,3]),.q 7 (.bd [(.string (mk [])),(.slice none 0 0)] [(0,1,(.t 6))]),.e 3 (.al (.agg #[(.string (mk [])),(.slice none 0 0)]) 56),.s (.st 2 (.t 3) (.t 7))]) (.seq (.reg [.v 8 0,.a 9 (.cl 37 [(.t 8),(.k (.string (mk [123])))] [0,1,2,3])]) (.seq (.block 0 (.loop (.seq (.seq (.reg [.v 10 0,.q 11 (.nc (.t 10)),.q 12 (.fa 1 (.t 11)),.l 13 (.ld1 (.t 12)),.q 14 (.not (.t 13)),.v 15 14,⟨some 16,(some (15,true)),.q (.mv (.t 0))⟩,⟨some 17,(some (15,true)),.cl 84 [(.t 16),(.k (.string (mk [125])))] [0,1,2,3]⟩,⟨some 18,(some (15,true)),.q (.not (.t 17))⟩,.a 19 (.pick (.t 15) (.t 18) (.k (.bool false)))]) (.cond (.t 19) .skip (.exit 0))) (.block 1 (BK))))) (pc40_12))))
def G4:List RV:=[.ld (.ldn 2 (.t 2))]
theorem X9:aY Tryz.prog true ⟨fun r k=>if r=1/\k=1 then .own [0,1,2,3] else if r=2/\k=1 then .own [0,1,2,3] else if r=3/\k=7 then .own [0,1,2,3] else if r=4/\k=4 then .own [1] else if r=5/\k=1 then .own [0,1,2,3] else if r=6/\k=1 then .own [0,1,2,3] else if r=6/\k=3 then .own [0,1,2,3] else if r=7/\k=1 then .own [0,1,2,3] else if r=8/\k=1 then .own [0,1,2,3] else if r=9/\k=1 then .own [0,1,2,3] else if r=10/\k=1 then .own [0,1,2,3] else .own [],fun r=>[4,6,7,8,9,10,12,11].contains r⟩ Tryz.f40=some (T5,G4):=by kernel_rfl
def TE:PC:=.seq (.reg [.e 1 (.bx 37 (.t 0)),.q 2 (.mv (.k (.string (mk []))))]) (.seq (.seq (.reg [.q 5 (.fa 3 (.t 1)),.l 6 (.ld1 (.t 5)),.q 7 (.lnL (.t 6)),.q 8 (.bin .gtr true (.t 7) (.i 0))]) (.cond (.t 8) (.seq (.reg [.q 2 (.mv (.k (.string (mk []))))]) .ret) .skip)) (.seq (.reg [.q 3 (.mv (.k (.string (mk [105,110,116]))))]) (.seq (.seq (.reg [.q 9 (.fa 0 (.t 1)),.l 10 (.ld1 (.t 9))]) (.block 0 (.seq (.block 5 (.seq (.block 4 (.seq (.block 3 (.seq (.block 2 (.seq (.block 1 (.seq (.seq (.seq (.reg [.q 12 (.bin .eql true (.t 10) (.i 1)),.v 11 12]) (.cond (.t 11) (.exit 1) .skip)) (.seq (.seq (.reg [.q 14 (.bin .eql true (.t 10) (.i 3)),.v 13 14]) (.cond (.t 13) (.exit 2) .skip)) (.seq (.seq (.reg [.q 16 (.bin .eql true (.t 10) (.i 2)),.v 15 16]) (.cond (.t 15) (.exit 3) .skip)) (.seq (.seq (.reg [.q 18 (.bin .eql true (.t 10) (.i 4)),.v 17 18]) (.cond (.t 17) (.exit 4) .skip)) (.seq (.seq (.reg [.q 20 (.bin .eql true (.t 10) (.i 6)),.v 19 20]) (.cond (.t 19) .skip (.reg [.q 21 (.bin .eql true (.t 10) (.i 7)),.v 19 21]))) (.cond (.t 19) (.exit 5) .skip)))))) (.exit 0))) (.seq (.seq (.reg [.q 22 (.fa 1 (.t 1)),.l 23 (.ld1 (.t 22)),.q 24 (.bin .eql true (.t 23) (.i 0)),.v 25 24,⟨some 26,(some (25,true)),.q (.fa 2 (.t 1))⟩,⟨some 27,(some (25,true)),.l (.ld1 (.t 26))⟩,⟨some 28,(some (25,true)),.q (.bin .eql true (.t 27) (.k (.string (mk []))))⟩,.a 29 (.pick (.t 25) (.t 28) (.k (.bool false)))]) (.cond (.t 29) (.seq (.reg [.q 2 (.mv (.k (.string (mk [98,111,111,108]))))]) .ret) .skip)) (.exit 0)))) (.reg [.q 3 (.mv (.k (.string (mk [117,105,110,116]))))]))) (.seq (.seq (.reg [.q 30 (.fa 1 (.t 1)),.l 31 (.ld1 (.t 30)),.q 32 (.bin .eql true (.t 31) (.i 64)),.v 33 32,⟨some 34,(some (33,true)),.q (.fa 0 (.t 1))⟩,⟨some 35,(some (33,true)),.l (.ld1 (.t 34))⟩,⟨some 36,(some (33,true)),.q (.bin .eql true (.t 35) (.i 2))⟩,.a 37 (.pick (.t 33) (.t 36) (.k (.bool false))),.v 4 37]) (.seq (.reg [.q 38 (.fa 2 (.t 1)),.l 39 (.ld1 (.t 38)),.q 40 (.bin .eql true (.t 39) (.k (.string (mk [])))),.v 41 40,⟨some 42,(some (41,true)),.q (.fa 1 (.t 1))⟩,⟨some 43,(some (41,true)),.l (.ld1 (.t 42))⟩,⟨some 44,(some (41,true)),.q (.bin .eql true (.t 43) (.i 8))⟩,⟨some 45,(some (41,true)),.q (.mv (.t 44))⟩,⟨some 46,(some (45,false)),.q (.fa 1 (.t 1))⟩,⟨some 47,(some (45,false)),.l (.ld1 (.t 46))⟩,⟨some 48,(some (45,false)),.q (.bin .eql true (.t 47) (.i 16))⟩,⟨some 49,(some (41,true)),.pick (.t 45) (.k (.bool true)) (.t 48)⟩,⟨some 50,(some (41,true)),.q (.mv (.t 49))⟩,⟨some 51,(some (50,false)),.q (.fa 1 (.t 1))⟩,⟨some 52,(some (50,false)),.l (.ld1 (.t 51))⟩,⟨some 53,(some (50,false)),.q (.bin .eql true (.t 52) (.i 32))⟩,⟨some 54,(some (41,true)),.pick (.t 50) (.k (.bool true)) (.t 53)⟩,⟨some 55,(some (41,true)),.q (.mv (.t 54))⟩,⟨some 56,(some (55,false)),.q (.mv (.t 4))⟩,⟨some 57,(some (41,true)),.pick (.t 55) (.k (.bool true)) (.t 56)⟩,.a 58 (.pick (.t 41) (.t 57) (.k (.bool false)))]) (.cond (.t 58) (.seq (.reg [.v 59 3,.q 60 (.fa 1 (.t 1)),.l 61 (.ld1 (.t 60)),.a 62 (.cq 32 [(.t 61)]),.q 63 (.bin .add true (.t 59) (.t 62)),.v 2 63]) .ret) .skip))) (.exit 0)))) (.seq (.seq (.reg [.q 64 (.fa 1 (.t 1)),.l 65 (.ld1 (.t 64)),.q 66 (.bin .geq true (.t 65) (.i 0)),.v 67 66,⟨some 68,(some (67,true)),.q (.fa 2 (.t 1))⟩,⟨some 69,(some (67,true)),.l (.ld1 (.t 68))⟩,⟨some 70,(some (67,true)),.q (.bin .eql true (.t 69) (.k (.string (mk []))))⟩,.a 71 (.pick (.t 67) (.t 70) (.k (.bool false)))]) (.cond (.t 71) (.seq (.reg [.q 72 (.fa 1 (.t 1)),.l 73 (.ld1 (.t 72)),.a 74 (.cq 32 [(.t 73)]),.q 75 (.bin .add true (.k (.string (mk [116,101,120,116,91]))) (.t 74)),.q 76 (.bin .add true (.t 75) (.k (.string (mk [93])))),.v 2 76]) .ret) .skip)) (.exit 0)))) (.seq (.seq (.reg [.q 77 (.fa 1 (.t 1)),.l 78 (.ld1 (.t 77)),.q 79 (.bin .eql true (.t 78) (.i 0)),.v 80 79,⟨some 81,(some (80,true)),.q (.fa 2 (.t 1))⟩,⟨some 82,(some (80,true)),.l (.ld1 (.t 81))⟩,⟨some 83,(some (80,true)),.cq 95 [(.t 82)]⟩,.a 84 (.pick (.t 80) (.t 83) (.k (.bool false))),.v 85 84,⟨some 86,(some (85,true)),.q (.fa 2 (.t 1))⟩,⟨some 87,(some (85,true)),.l (.ld1 (.t 86))⟩,⟨some 88,(some (85,true)),.ix (.t 87) (.i 0)⟩,⟨some 89,(some (85,true)),.q (.bin .geq true (.t 88) (.k (.int .u8 65)))⟩,.a 90 (.pick (.t 85) (.t 89) (.k (.bool false))),.v 91 90,⟨some 92,(some (91,true)),.q (.fa 2 (.t 1))⟩,⟨some 93,(some (91,true)),.l (.ld1 (.t 92))⟩,⟨some 94,(some (91,true)),.ix (.t 93) (.i 0)⟩,⟨some 95,(some (91,true)),.q (.bin .leq true (.t 94) (.k (.int .u8 90)))⟩,.a 96 (.pick (.t 91) (.t 95) (.k (.bool false)))]) (.cond (.t 96) (.seq (.reg [.q 97 (.fa 2 (.t 1)),.l 98 (.ld1 (.t 97)),.v 2 98]) .ret) .skip)) (.exit 0))))) (.seq (.reg [.q 2 (.mv (.k (.string (mk []))))]) .ret))))
def TI:List RV:=[.mv (.t 2)]
theorem Y8:aY Tryz.prog true ⟨fun r k=>if r=16/\k=3 then .q else if r=18/\k=2 then .q else if r=19/\k=6 then .q else .own [],fun _=>false⟩ Tryz.f53=some (TE,TI):=by kernel_rfl
def wC:PC:=.seq (.gh (.reg [.v 13 0,.q 14 (.nc (.t 13)),.q 15 (.fa 1 (.t 14)),.l 16 (.ld1 (.t 15)),.q 17 (.not (.t 16)),.v 18 17,⟨some 19,(some (18,true)),.q (.mv (.t 0))⟩,⟨some 20,(some (18,true)),.cl 34 [(.t 19),(.k (.string (mk [111,102])))] [0,1,2,3]⟩,⟨some 21,(some (18,true)),.q (.not (.t 20))⟩,.a 22 (.pick (.t 18) (.t 21) (.k (.bool false)))])) (.cond (.t 22) (.reg [.v 23 0,.a 24 (.cl 35 [(.t 23)] [0,1,2,3])]) .skip)
@[go_sem ↓] theorem YO:cF wC:=cJ _
def wG:PC:=.gh (.reg [.v 32 5,.q 33 (.bin .sub true (.t 32) (.i 1)),.v 5 33])
@[go_sem ↓] theorem XC:cF wG:=cJ _
def xK:PC:=.seq (.gh (.reg [.l 41 (.ldn 4 (.t 3)),.s (.st 4 (.t 2) (.t 41))])) .ret
@[go_sem ↓] theorem XS:cF xK:=cJ _
def BG:PC:=.seq (.seq (.gh (.reg [.v 27 4,.q 28 (.lnL (.t 27)),.q 29 (.bin .sub true (.t 28) (.i 1)),.v 5 29])) (.block 2 (.loop (.seq (.seq (.reg [.v 30 5,.q 31 (.bin .geq true (.t 30) (.i 0))]) (.cond (.t 31) .skip (.exit 2))) (.seq (.block 3 (.reg [.v 34 4,.v 35 5,.l 36 (.ia 1 (.t 34) (.t 35)),.l 37 (.ld1 (.t 36)),.l 38 (.ldn 4 (.t 3)),.e 39 (.bsl 37 4 [(.t 38)]),.q 40 (.bd [(.int .i64 0),(.int .i64 0),(.string (mk [])),(.slice none 0 0)] [(0,1,(.i 5)),(1,1,(.t 37)),(3,1,(.t 39))]),.s (.st 4 (.t 3) (.t 40))])) (wG)))))) (xK)
@[go_sem ↓] theorem Z9:cF BG:=cJ _
def BL:PC:=.seq (.gh (.reg [.v 25 0,.a 26 (.cl 98 [(.t 25)] [0,1,2,3]),.s (.st 4 (.t 3) (.t 26))])) (BG)
@[go_sem ↓] theorem Y9:cF BL:=cJ _
def TW:PC:=.seq (.reg [.e 2 (.al (.agg #[(.int .i64 0),(.int .i64 0),(.string (mk [])),(.slice none 0 0)]) 37)]) (.seq (.reg [.e 3 (.al (.agg #[(.int .i64 0),(.int .i64 0),(.string (mk [])),(.slice none 0 0)]) 37)]) (.seq (.reg [.q 4 (.mv (.k (.slice none 0 0)))]) (.seq (.block 0 (.loop (.seq (.seq (.reg [.v 6 0,.a 7 (.cl 34 [(.t 6),(.k (.string (mk [108,105,115,116])))] [0,1,2,3])]) (.cond (.t 7) .skip (.exit 0))) (.block 1 (.seq (.reg [.v 8 4,.v 9 0,.a 10 (.cl 97 [(.t 9)] [0,1,2,3]),.e 11 (.bsl 3 1 [(.t 10)]),.e 12 (.ap 3 1 8 (.t 8) (.t 11)),.v 4 12]) (wC)))))) (BL))))
def QU:List RV:=[.ld (.ldn 4 (.t 2))]
theorem aAJ:aY Tryz.prog true ⟨fun r k=>if r=3/\k=1 then .own [0,1,2,3] else if r=4/\k=2 then .own [0,1,2,3] else if r=5/\k=7 then .own [0,1,2,3] else if r=6/\k=1 then .own [0,1,2,3] else if r=7/\k=1 then .own [0,1,2,3] else .own [],fun r=>[5,7,8,12,10].contains r⟩ Tryz.f55=some (TW,QU):=by kernel_rfl
def AU:PC:=.seq (.gh (.reg [.v 37 0,.q 38 (.nc (.t 37)),.q 39 (.fa 0 (.t 38)),.l 40 (.ld1 (.t 39)),.a 41 (.cl 81 [(.t 40)] [1])])) (.seq (.reg [.q 42 (.fa 1 (.t 5)),.l 43 (.ld1 (.t 42)),.v 4 43]) .ret)
@[go_sem ↓] theorem YR:cF AU:=cJ _
def B5:PC:=.seq (.seq (.gh (.reg [.v 11 0,.q 12 (.nc (.t 11)),.q 13 (.fa 1 (.t 12)),.l 14 (.ld1 (.t 13)),.v 15 14,⟨some 16,(some (15,false)),.q (.fa 0 (.t 5))⟩,⟨some 17,(some (15,false)),.l (.ld1 (.t 16))⟩,⟨some 18,(some (15,false)),.q (.bin .neq true (.t 17) (.i 1))⟩,.a 19 (.pick (.t 15) (.k (.bool true)) (.t 18)),.v 20 19,⟨some 21,(some (20,false)),.q (.mv (.t 1))⟩,⟨some 22,(some (20,false)),.q (.mv (.t 21))⟩,⟨some 23,(some (22,true)),.q (.fa 1 (.t 5))⟩,⟨some 24,(some (22,true)),.l (.ld1 (.t 23))⟩,⟨some 25,(some (22,true)),.ix (.t 24) (.i 0)⟩,⟨some 26,(some (22,true)),.q (.bin .lss true (.t 25) (.k (.int .u8 65)))⟩,⟨some 27,(some (22,true)),.q (.mv (.t 26))⟩,⟨some 28,(some (27,false)),.q (.fa 1 (.t 5))⟩,⟨some 29,(some (27,false)),.l (.ld1 (.t 28))⟩,⟨some 30,(some (27,false)),.ix (.t 29) (.i 0)⟩,⟨some 31,(some (27,false)),.q (.bin .gtr true (.t 30) (.k (.int .u8 90)))⟩,⟨some 32,(some (22,true)),.pick (.t 27) (.k (.bool true)) (.t 31)⟩,⟨some 33,(some (20,false)),.pick (.t 22) (.t 32) (.k (.bool false))⟩,.a 34 (.pick (.t 20) (.k (.bool true)) (.t 33))])) (.cond (.t 34) (.seq (.reg [.v 35 0,.a 36 (.cl 35 [(.t 35)] [0,1,2,3])]) (.seq (.reg [.q 4 (.mv (.k (.string (mk []))))]) .ret)) .skip)) (AU)
@[go_sem ↓] theorem ZE:cF B5:=cJ _
def Q3:PC:=.seq (.reg [.q 4 (.mv (.k (.string (mk []))))]) (.seq (.reg [.v 6 0,.q 7 (.nc (.t 6)),.q 8 (.fa 0 (.t 7)),.l 9 (.ld1 (.t 8)),.a 10 (.cl 38 [(.t 9)] [1]),.e 5 (.al (.agg #[(.int .i64 0),(.string (mk [])),(.int .i64 0),(.int .i64 0)]) 74),.s (.st 4 (.t 5) (.t 10))]) (B5))
def UO:List RV:=[.mv (.t 4)]
theorem aAN:aY Tryz.prog true ⟨fun r k=>if r=1/\k=4 then .own [1] else if r=3/\k=1 then .own [0,1,2,3] else if r=5/\k=4 then .own [1] else .own [],fun r=>[2,5].contains r⟩ Tryz.f83=some (Q3,UO):=by kernel_rfl
def JW:PC:=.seq (.reg [.q 4 (.mv (.k (.bool false)))]) (.seq (.reg [.v 5 0,.q 6 (.nc (.t 5)),.q 7 (.fa 1 (.t 6)),.l 8 (.ld1 (.t 7)),.q 9 (.not (.t 8)),.v 10 9,⟨some 11,(some (10,true)),.q (.mv (.t 0))⟩,⟨some 12,(some (10,true)),.q (.nc (.t 11))⟩,⟨some 13,(some (10,true)),.q (.fa 0 (.t 12))⟩,⟨some 14,(some (10,true)),.l (.ld1 (.t 13))⟩,⟨some 15,(some (10,true)),.q (.mv (.t 1))⟩,⟨some 16,(some (10,true)),.cl 82 [(.t 14),(.t 15)] [1]⟩,.a 17 (.pick (.t 10) (.t 16) (.k (.bool false))),.v 4 17]) .ret)
def K9:List RV:=[.mv (.t 4)]
theorem ZT:aY Tryz.prog true ⟨fun r k=>if r=1/\k=11 then .own [1] else .own [],fun _=>false⟩ Tryz.f84=some (JW,K9):=by kernel_rfl
def TJ:PC:=.seq (.reg [.q 2 (.mv (.i 0))]) (.seq (.reg [.v 4 0,.a 5 (.cl 37 [(.t 4),(.k (.string (mk [91])))] [0,1,2,3])]) (.seq (.reg [.v 6 0,.a 7 (.cl 36 [(.t 6),(.k (.bool true))] [0,1,2,3]),.v 3 7]) (.seq (.reg [.v 8 0,.a 9 (.cl 37 [(.t 8),(.k (.string (mk [93])))] [0,1,2,3])]) (.seq (.reg [.v 10 3,.v 2 10]) .ret))))
def RJ:List RV:=[.mv (.t 2)]
theorem Z4:aY Tryz.prog true ⟨fun r k=>if r=1/\k=1 then .own [0,1,2,3] else if r=2/\k=1 then .own [0,1,2,3] else if r=3/\k=1 then .own [0,1,2,3] else .own [],fun _=>false⟩ Tryz.f97=some (TJ,RJ):=by kernel_rfl
def qT:PC:=.gh (.reg [.v 28 4,.q 29 (.bin .lss true (.t 28) (.i 64)),.v 30 29,⟨some 31,(some (30,true)),.q (.mv (.t 0))⟩,⟨some 32,(some (30,true)),.q (.mv (.t 4))⟩,⟨some 33,(some (30,true)),.cq 32 [(.t 32)]⟩,⟨some 34,(some (30,true)),.q (.bin .add true (.k (.string (mk [117,105,110,116]))) (.t 33))⟩,⟨some 35,(some (30,true)),.cl 34 [(.t 31),(.t 34)] [0,1,2,3]⟩,.a 36 (.pick (.t 30) (.t 35) (.k (.bool false)))])
@[go_sem ↓] theorem XY:cF qT:=cJ _
def xD:PC:=.seq (.gh (.reg [.v 40 0,.a 41 (.cl 83 [(.t 40),(.k (.bool true))] [0,1,2,3]),.q 42 (.bd [(.int .i64 0),(.int .i64 0),(.string (mk [])),(.slice none 0 0)] [(0,1,(.i 6)),(2,1,(.t 41))]),.s (.st 4 (.t 2) (.t 42))])) .ret
@[go_sem ↓] theorem XF:cF xD:=cJ _
def BX:PC:=.seq (.seq (.gh (.reg [.e 15 (.bsl 3 1 [(.i 8),(.i 16),(.i 32),(.i 64)]),.q 16 (.lnL (.t 15)),.q 17 (.mv (.i 0))])) (.block 1 (.loop (.seq (.reg [.q 18 (.bin .lss true (.t 17) (.t 16))]) (.seq (.cond (.t 18) .skip (.exit 1)) (.seq (.block 2 (.seq (.reg [.l 19 (.ia 1 (.t 15) (.t 17)),.l 20 (.ld1 (.t 19)),.v 4 20]) (.seq (.seq (.reg [.v 21 0,.v 22 4,.a 23 (.cq 32 [(.t 22)]),.q 24 (.bin .add true (.k (.string (mk [105,110,116]))) (.t 23)),.a 25 (.cl 34 [(.t 21),(.t 24)] [0,1,2,3])]) (.cond (.t 25) (.seq (.reg [.v 26 4,.q 27 (.bd [(.int .i64 0),(.int .i64 0),(.string (mk [])),(.slice none 0 0)] [(0,1,(.i 2)),(1,1,(.t 26))]),.s (.st 4 (.t 2) (.t 27))]) .ret) .skip)) (.seq (qT) (.cond (.t 36) (.seq (.reg [.v 37 4,.q 38 (.bd [(.int .i64 0),(.int .i64 0),(.string (mk [])),(.slice none 0 0)] [(0,1,(.i 3)),(1,1,(.t 37))]),.s (.st 4 (.t 2) (.t 38))]) .ret) .skip))))) (.reg [.q 39 (.bin .add true (.t 17) (.i 1)),.v 17 39]))))))) (xD)
@[go_sem ↓] theorem aAC:cF BX:=cJ _
def R8:PC:=.seq (.reg [.e 2 (.al (.agg #[(.int .i64 0),(.int .i64 0),(.string (mk [])),(.slice none 0 0)]) 37)]) (.seq (.block 0 (.seq (.reg [.v 6 0,.a 7 (.cl 34 [(.t 6),(.k (.string (mk [98,111,111,108])))] [0,1,2,3]),.v 5 7]) (.cond (.t 5) (.seq (.reg [.q 8 (.bd [(.int .i64 0),(.int .i64 0),(.string (mk [])),(.slice none 0 0)] [(0,1,(.i 1))]),.s (.st 4 (.t 2) (.t 8))]) .ret) (.seq (.reg [.v 10 0,.a 11 (.cl 34 [(.t 10),(.k (.string (mk [116,101,120,116])))] [0,1,2,3]),.v 9 11]) (.cond (.t 9) (.seq (.reg [.v 12 0,.a 13 (.cl 97 [(.t 12)] [0,1,2,3]),.q 14 (.bd [(.int .i64 0),(.int .i64 0),(.string (mk [])),(.slice none 0 0)] [(0,1,(.i 4)),(1,1,(.t 13))]),.s (.st 4 (.t 2) (.t 14))]) .ret) .skip))))) (BX))
def SI:List RV:=[.ld (.ldn 4 (.t 2))]
theorem aAF:aY Tryz.prog true ⟨fun r k=>if r=1/\k=1 then .own [0,1,2,3] else if r=3/\k=1 then .own [0,1,2,3] else if r=4/\k=1 then .own [0,1,2,3] else if r=8/\k=2 then .q else if r=8/\k=4 then .own [0,1,2,3] else if r=10/\k=5 then .q else if r=10/\k=7 then .own [0,1,2,3] else if r=13/\k=1 then .own [0,1,2,3] else .own [],fun r=>[5,13,10].contains r⟩ Tryz.f98=some (R8,SI):=by kernel_rfl
end Go.Proofs.YtgogpogophflhaaGreatDoor
namespace Go.Proofs
open Go.Shelf
def Tryz.laysM171_ren:Go.Shelf.Ren:=⟨fun | 171=>32 | 243=>79 | 246=>115 | 283=>127 | 284=>128 | 285=>129 | 286=>130 | 129=>135 | 317=>134 | 318=>136 | 319=>137 | 320=>138 | 337=>150 | 338=>151 | n=>n,fun | 3=>3 | 9=>9 | 2=>2 | 4=>4 | 171=>161 | 0=>0 | 53=>127 | 37=>44 | 5=>5 | 173=>164 | 212=>170 | 51=>171 | 20=>20 | 213=>172 | 46=>168 | 232=>189 | 233=>190 | n=>n,fun | 17=>0 | 18=>2 | 19=>3 | n=>n⟩
theorem Tryz.lays171:Go.Proofs.Lays.n171 Tryz.prog Tryz.laysM171_ren:={
 mixed:=by kernel_rfl
 f129:=Tryz.func135.trans (congrArg some (by kernel_rfl))
 f171:=Tryz.func32.trans (congrArg some (by kernel_rfl))
 f243:=Tryz.func79.trans (congrArg some (by kernel_rfl))
 f246:=Tryz.func115.trans (congrArg some (by kernel_rfl))
 f283:=Tryz.func127.trans (congrArg some (by kernel_rfl))
 f284:=Tryz.func128.trans (congrArg some (by kernel_rfl))
 f285:=Tryz.func129.trans (congrArg some (by kernel_rfl))
 f286:=Tryz.func130.trans (congrArg some (by kernel_rfl))
 f317:=Tryz.func134.trans (congrArg some (by kernel_rfl))
 f318:=Tryz.func136.trans (congrArg some (by kernel_rfl))
 f319:=Tryz.func137.trans (congrArg some (by kernel_rfl))
 f320:=Tryz.func138.trans (congrArg some (by kernel_rfl))
 f337:=Tryz.func150.trans (congrArg some (by kernel_rfl))
 f338:=Tryz.func151.trans (congrArg some (by kernel_rfl))
 t0:=Tryz.underlying0
 a0:=Tryz.isAgg0
 z0:=Tryz.sizeOf0
 v0:=Tryz.zeroValue0
 t2:=Tryz.underlying2
 a2:=Tryz.isAgg2
 z2:=Tryz.sizeOf2
 v2:=Tryz.zeroValue2
 t3:=Tryz.underlying3
 a3:=Tryz.isAgg3
 z3:=Tryz.sizeOf3
 v3:=Tryz.zeroValue3
 t4:=Tryz.underlying4
 a4:=Tryz.isAgg4
 z4:=Tryz.sizeOf4
 v4:=Tryz.zeroValue4
 t5:=Tryz.underlying5
 a5:=Tryz.isAgg5
 z5:=Tryz.sizeOf5
 v5:=Tryz.zeroValue5
 t9:=Tryz.underlying9
 a9:=Tryz.isAgg9
 z9:=Tryz.sizeOf9
 v9:=Tryz.zeroValue9
 t20:=Tryz.underlying20
 a20:=Tryz.isAgg20
 z20:=Tryz.sizeOf20
 v20:=Tryz.zeroValue20
 t37:=Tryz.underlying44
 a37:=Tryz.isAgg44
 z37:=Tryz.sizeOf44
 v37:=Tryz.zeroValue44
 t46:=Tryz.underlying168
 a46:=Tryz.isAgg168
 z46:=Tryz.sizeOf168
 v46:=Tryz.zeroValue168
 t51:=Tryz.underlying171
 a51:=Tryz.isAgg171
 z51:=Tryz.sizeOf171
 v51:=Tryz.zeroValue171
 t53:=Tryz.underlying127
 a53:=Tryz.isAgg127
 z53:=Tryz.sizeOf127
 v53:=Tryz.zeroValue127
 t171:=Tryz.underlying161
 a171:=Tryz.isAgg161
 z171:=Tryz.sizeOf161
 v171:=Tryz.zeroValue161
 t173:=Tryz.underlying164
 a173:=Tryz.isAgg164
 z173:=Tryz.sizeOf164
 v173:=Tryz.zeroValue164
 t212:=Tryz.underlying170
 a212:=Tryz.isAgg170
 z212:=Tryz.sizeOf170
 v212:=Tryz.zeroValue170
 t213:=Tryz.underlying172
 a213:=Tryz.isAgg172
 z213:=Tryz.sizeOf172
 t232:=Tryz.underlying189
 a232:=Tryz.isAgg189
 z232:=Tryz.sizeOf189
 v232:=Tryz.zeroValue189
 t233:=Tryz.underlying190
 a233:=Tryz.isAgg190
 z233:=Tryz.sizeOf190
 v233:=Tryz.zeroValue190
 g17:=by kernel_rfl
 g18:=by kernel_rfl
 g19:=by kernel_rfl }
theorem Tryz.laysM171:Go.Proofs.LaysM.n171 Tryz.prog Tryz.laysM171_ren:={ Tryz.lays171 with
 i0:=by kernel_rfl
 i2:=by kernel_rfl
 i3:=by kernel_rfl
 i4:=by kernel_rfl
 i5:=by kernel_rfl
 i9:=by kernel_rfl
 i20:=by kernel_rfl
 i37:=by kernel_rfl
 i46:=by kernel_rfl
 i51:=by kernel_rfl
 i53:=by kernel_rfl
 i171:=by kernel_rfl
 i173:=by kernel_rfl
 i212:=by kernel_rfl
 i232:=by kernel_rfl
 i233:=by kernel_rfl
 m17:=by kernel_rfl
 m18:=by kernel_rfl
 m19:=by kernel_rfl }
open Go.RowKit Go.Sort Go.Lib in
theorem Tryz.strconv_Itoa (n:Int) (h0:-9223372036854775808<=n) (h1:n<=9223372036854775807) (w:World) (htab:Lib.TabIs Tryz.prog w "internal/strconv.uint64pow10" .u64 Lib.pow10Tab) :
 Calls Tryz.prog 32 #[.int .i64 n] w fun e w'=>e=.returned (.string ⟨(Lib.itoa n).toArray⟩)/\∃ k os,w'=grow (w.drewN k) os:=Any.strconv_Itoa Tryz.laysM171 n h0 h1 w htab
end Go.Proofs
namespace Go.Proofs.YtgogpogophflhaaGreatDoor
open Go.W
theorem iB {x:List UInt8} (h:bL x=true):x.length<=16:=by
 rcases b5 16 x.length with h1 | h1
 · rw [pX h1] at h; cases h
 · exact h1
theorem pY:∀ (m:Nat) (r:List UInt8) (i:Nat) (out:List UInt8) (z:Nat) (o:List UInt8),r.length<=m->out.all oW=true->quoL i r out=(z,some o)->o.all oW=true
 | _,[],i,out,z,o,_,_,h=>by rw [n7] at h; cases h
 | 0,c :: r,i,out,z,o,hm,_,_=>by simp at hm
 | m + 1,c :: r,i,out,z,o,hm,ho,h=>by
  rw [fD] at h
  have app:∀ d:UInt8,oW d=true->(out ++ [d]).all oW=true:=fun d hd=>by rw [List.all_append,ho]; simp [hd]
  cases c1:decide (c < 32) || decide (126 < c) with
  | true=>rw [c1] at h; cases h
  | false=>
  rw [c1,aF] at h
  have hp:oW c=true:=by
   unfold oW
   simp only [Bool.or_eq_false_iff,decide_eq_false_iff_not,UInt8.not_lt] at c1
   simp [c1.1,c1.2]
  cases c2:c == 34 with
  | true=>
   rw [c2] at h
   simp only [aL,Prod.mk.injEq,aC] at h
   rw [<-h.2]; exact ho
  | false=>
  rw [c2,aF] at h
  cases c3:c == 92 with
  | false=>
   rw [c3,aF] at h
   exact pY m r _ _ z o (by simp at hm; omega) (app c hp) h
  | true=>
   rw [c3,aL] at h
   cases r with
   | nil=>cases h
   | cons d r=>
    simp only at h
    cases c4:d == 34 || d == 92 with
    | false=>rw [c4] at h; cases h
    | true=>
     rw [c4,aL] at h
     refine pY m r _ _ z o (by simp at hm; omega) (app d ?_) h
     rw [Bool.or_eq_true] at c4
     rcases c4 with e | e<;>rw [eq_of_beq e]<;>decide
structure Gtk (k:Int) (x:List UInt8) (n:Int):Prop where
 e:k=0->x=[]/\n=0
 o:k ≠ 0->EY k x n=true
 i:bU n
theorem I6 {l:List UInt8} {p:Nat} {k n:Int} {x:List UInt8} {z:Nat} (h:dS l p=.ok k x n z):Gtk k x n:=by
 have z0:bU 0:=⟨by decide,by decide⟩
 unfold dS at h
 split at h
 · simp only [R.ok.injEq] at h
   obtain ⟨rfl,rfl,rfl,_⟩:=h
   exact ⟨fun _=>⟨rfl,rfl⟩,fun h=>absurd rfl h,z0⟩
 · rename_i c hc
   cases c1:cM c.toNat with
   | true=>
    rw [c1,aL] at h
    unfold g6 at h
    simp only at h
    cases d1:decide (16 < bV bG l p - p) with
    | true=>rw [d1] at h; cases h
    | false=>
     rw [d1,aF] at h
     cases d2:l[bV bG l p]? == some 45 with
     | true=>rw [d2] at h; cases h
     | false=>
      rw [d2,aF] at h
      simp only [R.ok.injEq] at h
      obtain ⟨rfl,rfl,rfl,rfl⟩:=h
      refine ⟨fun h=>absurd h (by decide),fun _=>?_,z0⟩
      have hx:bL ((l.take (bV bG l p)).drop p)=true:=by
       have hlt:=(aV.1 hc).1
       have hw:bG c=true:=by
        have:=cC (p:=fun c=>!cM c.toNat || bG c) (by decide +kernel) c
        rw [c1] at this; exact this
       have hg:p + 1<=bV bG l p:=by rw [<-j3 hc hw]; exact xL
       refine (CA _).2 ⟨c,?_,?_,c1,fun d hd=>tC d hd⟩
       · rw [List.getElem?_drop,Nat.add_zero,List.getElem?_take_of_lt (by omega),hc]
       · have:=of_decide_eq_false d1
         simp only [List.length_drop,List.length_take]; omega
      show ((0:Int) == 0 && bL _)=true
      rw [hx]; rfl
   | false=>
   rw [c1,aF] at h
   cases c2:bH c || c == 45 with
   | true=>
    rw [c2,aL] at h
    unfold iZ at h
    simp only at h
    have hd:∀ d ∈ (l.take (bV bH l (bif l[p]? == some 45 then p + 1 else p))).drop (bif l[p]? == some 45 then p + 1 else p),bH d=true:=fun d hd=>tC d hd
    generalize (l.take (bV bH l (bif l[p]? == some 45 then p + 1 else p))).drop (bif l[p]? == some 45 then p + 1 else p)=s at *
    generalize (l[p]? == some 45)=neg at *
    cases d1:s == [] || (s[0]? == some 48 && (decide (1 < s.length) || neg)) with
    | true=>rw [d1] at h; cases h
    | false=>
    rw [d1,aF] at h
    cases hv:valL (dE neg) 0 s with
    | none=>rw [hv] at h; cases h
    | some m=>
    rw [hv] at h
    simp only at h
    have hm:=EX (lim:=dE neg) (by cases neg<;>decide) (Nat.zero_le _) hd hv
    cases d2:nM l (bV bH l (bif neg then p + 1 else p)) with
    | true=>rw [d2] at h; cases h
    | false=>
     rw [d2,aF] at h
     simp only [R.ok.injEq] at h
     obtain ⟨rfl,rfl,rfl,rfl⟩:=h
     refine ⟨fun h=>absurd h (by decide),fun _=>rfl,?_⟩
     cases neg with
     | true=>have hm:m<=9223372036854775808:=hm; show bU (-(m:Int)); unfold bU; omega
     | false=>have hm:m<=9223372036854775807:=hm; show bU (m:Int); unfold bU; omega
   | false=>
   rw [c2,aF] at h
   cases c3:c == 34 with
   | true=>
    rw [c3,aL] at h
    unfold gL at h
    split at h
    · cases h
    · rename_i z' o ho
      cases d1:decide (200 < o.length) with
      | true=>rw [d1] at h; cases h
      | false=>
       rw [d1,aF] at h
       simp only [R.ok.injEq] at h
       obtain ⟨rfl,rfl,rfl,rfl⟩:=h
       refine ⟨fun h=>absurd h (by decide),fun _=>?_,z0⟩
       have h1:=pY _ _ _ [] _ _ (Nat.le_refl _) rfl ho
       have h2:decide (o.length<=200)=true:=by have:=of_decide_eq_false d1; simp; omega
       show ((0:Int) == 0 && (decide (o.length<=200) && o.all oW))=true
       rw [h1,h2]; rfl
   | false=>
   rw [c3,aF] at h
   cases c4:dR c.toNat with
   | false=>rw [c4] at h; cases h
   | true=>
    rw [c4,aL] at h
    simp only [R.ok.injEq] at h
    obtain ⟨rfl,rfl,rfl,rfl⟩:=h
    refine ⟨fun h=>absurd h (by decide),fun _=>?_,z0⟩
    show ((0:Int) == 0 && dR c.toNat)=true
    rw [c4]; rfl
theorem vT {l:List UInt8}:∀ (f a:Nat) (ts:List Tk),eA f l a=.ok ts->∀ t ∈ ts,Gtk t.k t.x t.n
 | 0,a,ts,h=>by cases h; intro t ht; cases ht
 | f + 1,a,ts,h=>by
  rw [eA] at h
  split at h
  · cases h
  · rename_i k x n z hR
    have hg:=I6 hR
    cases hk:k == 0 with
    | true=>
     rw [hk] at h
     simp only [aL,SR.ok.injEq] at h
     subst h
     intro t ht
     rw [List.mem_singleton.1 ht]; exact hg
    | false=>
     rw [hk] at h
     cases hr:eA f l z with
     | bad e t=>rw [hr] at h; cases h
     | ok us=>
      rw [hr] at h
      simp only [aF,SR.cons,SR.ok.injEq] at h
      subst h
      intro t ht
      rcases List.mem_cons.1 ht with rfl | ht
      · exact hg
      · exact vT f z us hr t ht
theorem GH (l:List UInt8):∀ t ∈ (aP l).toks,Gtk t.k t.x t.n:=by
 unfold aP
 cases h:decide (4000 < l.length) with
 | true=>intro t ht; cases ht
 | false=>
  rw [aF]
  cases hr:eA (l.length + 1) l 0 with
  | bad e t=>intro t ht; cases ht
  | ok ts=>exact vT _ _ _ hr
theorem OP {k:Int} {x:List UInt8} {n:Int} (h:EY k x n=true):x.length<=200:=by
 unfold EY at h
 cases c1:k == 1 with
 | true=>rw [c1,aL,Bool.and_eq_true] at h; have:=iB h.2; omega
 | false=>
 rw [c1,aF] at h
 cases c2:k == 2 with
 | true=>rw [c2,aL] at h; rw [eq_of_beq h]; exact Nat.zero_le _
 | false=>
 rw [c2,aF] at h
 cases c3:k == 3 with
 | true=>rw [c3,aL,Bool.and_eq_true,Bool.and_eq_true] at h; exact of_decide_eq_true h.2.1
 | false=>
 rw [c3,aF] at h
 cases c4:k == 4 with
 | false=>rw [c4] at h; cases h
 | true=>
  rw [c4,aL,Bool.and_eq_true] at h
  match x,h with
  | [],_=>exact Nat.zero_le _
  | [_],_=>exact (by decide:1<=200)
  | _ :: _ :: _,h=>exact absurd h.2 (by simp)
theorem Gtk.len {k:Int} {x:List UInt8} {n:Int} (h:Gtk k x n):x.length<=200:=by
 by_cases hk:k=0
 · rw [(h.e hk).1]; exact Nat.zero_le _
 · exact OP (h.o hk)
theorem IG {l:List UInt8} {ts:List Tk} (h:pK l 0 ts) (hl:l.length<=4000):Ends ts:=
 ⟨FC h,by have:=BS h; omega,fun i t ht=>(EW h ht).2.2.2.1⟩
theorem JB {l:List UInt8}:∀ {a:Nat} {ts:List Tk},pK l a ts->∀ t ∈ ts,t.a<=l.length
 | _,[],_=>fun t ht=>by cases ht
 | _,t :: ts,⟨_,h2,z,_,h4,h5⟩=>fun u hu=>by
  rcases List.mem_cons.1 hu with rfl | hu
  · exact h2
  · by_cases h0:t.k=0
    · rw [h4 h0] at hu; cases hu
    · exact JB (h5 h0) u hu
structure Tks (ts:List Tk):Prop where
 e:Ends ts
 g:∀ t ∈ ts,Gtk t.k t.x t.n
 a:∀ t ∈ ts,t.a<=4000
theorem BW {l:List UInt8} (h:(aP l).err=0):Tks (aP l).toks:=by
 rcases F5 l with ⟨h1,_⟩ | ⟨_,_,h3,h4⟩
 · exact absurd h h1
 · exact ⟨IG h4 h3,GH l,fun t ht=>by have:=JB h4 t ht; omega⟩
theorem xZ:∀ n:Nat,Lib.decDigits n=digs n:=fun n=>by
 induction n using Nat.strongRecOn with
 | _ n ih=>
  rw [Lib.decDigits,digs]
  by_cases h:n < 10
  · have e:n % 10=n:=Nat.mod_eq_of_lt h
    simp [h,e,Nat.toUInt8]
  · rw [dif_neg h,dif_neg h,ih (n / 10) (by omega)]
theorem H5 (n:Int):Lib.itoa n=aX n:=by
 unfold Lib.itoa aX
 by_cases h:n < 0
 · rw [if_pos h,decide_eq_true h,xZ]; rfl
 · rw [if_neg h,decide_eq_false h,xZ,show n.toNat=n.natAbs by omega]; rfl
def z7:List S->Prop:=fun av=>match av with
 | [.va (.c1 (.vl (.int .i64 n)))]=>-9223372036854775808<=n/\n<=9223372036854775807
 | _=>False
theorem kT {av:List S} (h:z7 av):∃ n:Int,av=[iS .i64 n]/\-9223372036854775808<=n/\n<=9223372036854775807:=by
 unfold z7 at h
 split at h
 · exact ⟨_,rfl,h⟩
 · exact h.elim
def L8:List S->A:=fun av=>match av with
 | [.va (.c1 (.vl (.int .i64 n)))]=>tA (mk (aX n))
 | _=>.gs []
def itFn:Fun:=⟨z7,L8,fun av h=>by obtain ⟨_,rfl,_⟩:=kT h; trivial⟩
attribute [go_sem ↓] z7 L8 itFn
theorem UQ {ro:RO} {w:World} (h:GR Tryz.prog ro w):Lib.TabIs Tryz.prog w "internal/strconv.uint64pow10" .u64 Lib.pow10Tab:=by
 have:=(h _ (List.mem_singleton.2 rfl) _ Tryz.laysM171.m17).2
 unfold Lib.TabIs
 rw [this,Lib.pow10Tab,List.map_map]
 rfl
theorem zR:Meets Tryz.prog 32 itFn.sp:=by
 refine ⟨by kernel_rfl,?_⟩
 rintro xs vs E ro w K hl hrel hr ⟨⟨h,hE⟩,hK⟩ hG
 obtain ⟨n,rfl,h0,h1⟩:=kT h
 obtain ⟨v0,rfl⟩:∃ v0,vs=[v0]:=by
  match vs,hl with
  | [v0],_=>exact ⟨v0,rfl⟩
 have e0:v0=.int .i64 n:=hrel 0 _ _ rfl rfl
 subst e0
 refine (Tryz.strconv_Itoa n h0 h1 w (UQ hG)).mono ?_
 rintro e w' ⟨rfl,k,os,rfl⟩
 refine ⟨tS (mk (aX n)),_,E,ro,rfl,by rw [H5]; rfl,by rw [hE]; exact hK,?_⟩
 have hk:∀ j,j < w.heap.size->(Sort.grow (w.drewN k) os).heap[j]? = w.heap[j]?:=fun j hj=>by
  simp [Sort.grow,World.drewN,Array.getElem?_append_left hj]
 exact hr.grown hk (by simp [Sort.grow,World.drewN]) rfl rfl rfl
structure Fs where
 bad:Bool
 off:Int
 n:Nat
structure Po where
 ver:Int
 es:List (List C)
 ss:List (List C)
instance:Inhabited Tk:=⟨⟨0,[],0,0⟩⟩
def aW (ts:List Tk) (n:Nat):Tk:=ts.getD n default
abbrev pB (o:Po) (b:Bool) (a:Int):B:=.cells [.pt 1 0,.vl (.bool b),.vl (.int .i64 a),.vl (.int .i64 o.ver),.sl 2 o.es.length,.sl 3 o.ss.length] 70
abbrev pH (o:Po) (ts:List Tk) (z:Fs):Hp:=[pB o z.bad z.off,dT 123 ts z.n,.row o.es 62 3,.row o.ss 56 2]
def dQ (ts:List Tk) (z:Fs):Fs:=bif z.bad then z else ⟨true,(aW ts z.n).a,z.n⟩
def aT (k:Int) (w:List UInt8) (ts:List Tk) (z:Fs):Bool:=!z.bad && eU k w (aW ts z.n)
def a6 (k:Int) (w:List UInt8) (ts:List Tk) (z:Fs):Fs:=bif aT k w ts z then ⟨false,z.off,dP ts z.n⟩ else z
def bW (w:List UInt8) (ts:List Tk) (z:Fs):Fs:=bif aT 4 w ts z then ⟨false,z.off,dP ts z.n⟩ else dQ ts z
def gY (c:Bool) (ts:List Tk) (z:Fs):Bool:=!z.bad && ((aW ts z.n).k == 1 && (!c || (match (aW ts z.n).x with | b :: _=>decide (65<=b) && decide (b<=90) | []=>false)))
def dC (c:Bool) (ts:List Tk) (z:Fs):ByteArray:=bif gY c ts z then mk (aW ts z.n).x else mk []
def cH (c:Bool) (ts:List Tk) (z:Fs):Fs:=bif gY c ts z then ⟨false,z.off,dP ts z.n⟩ else dQ ts z
def kH (c:Bool) (ts:List Tk) (z:Fs):Bool:=!z.bad && ((aW ts z.n).k == 2 && (!c || decide (0<=(aW ts z.n).n)))
def gV (c:Bool) (ts:List Tk) (z:Fs):Int:=bif kH c ts z then (aW ts z.n).n else 0
def gT (c:Bool) (ts:List Tk) (z:Fs):Fs:=bif kH c ts z then ⟨false,z.off,dP ts z.n⟩ else dQ ts z
def jB (ts:List Tk) (z:Fs):Int:=gV true ts (bW [91] ts z)
def iY (ts:List Tk) (z:Fs):Fs:=bW [93] ts (gT true ts (bW [91] ts z))
theorem jL {ts:List Tk} {n:Nat} (h:n < ts.length):ts[n]? = some (aW ts n):=by simp [aW,List.getD_eq_getElem?_getD,aZ h]
theorem s7 {ts:List Tk} {n:Nat} (h:n < ts.length):aW ts n ∈ ts:=bO (jL h)
theorem jH {T:TypeId} {ts:List Tk} {n:Nat} {K:S->Hp->Prop} (he:Ends ts) (h:n < ts.length) (hK:K (.va (.gs (iP (aW ts n)))) [dT T ts n]):d4 T [.va (.c1 (.pt 0 0))] [dT T ts n] K:=
 ⟨rfl,ts,n,rfl,rfl,he,h,fun t ht=>by rw [jL h] at ht; cases ht; exact hK⟩
theorem CY {T:TypeId} {ts:List Tk} {n:Nat} {K:S->Hp->Prop} (he:Ends ts) (h:n < ts.length) (hK:K (.va (.gs (iP (aW ts n)))) [dT T ts (dP ts n)]):fR T [.va (.c1 (.pt 0 0))] [dT T ts n] K:=
 ⟨rfl,ts,n,rfl,rfl,he,h,fun t ht=>by rw [jL h] at ht; cases ht; exact hK⟩
theorem qC {k:Int} {T:TypeId} {w:ByteArray} {ts:List Tk} {n:Nat} {K:S->Hp->Prop} (he:Ends ts) (h:n < ts.length) (hK:K (bS (eU k (bl w) (aW ts n))) [dT T ts (oX k (bl w) ts n (aW ts n))]):d6 k T [.va (.c1 (.pt 0 0)),tS w] [dT T ts n] K:=
 ⟨rfl,ts,n,rfl,rfl,he,h,fun t ht=>by rw [jL h] at ht; cases ht; exact hK⟩
theorem wO (k:Int) (w:List UInt8) (ts:List Tk) (n:Nat) (t:Tk):oX k w ts n t=bif eU k w t then dP ts n else n:=rfl
attribute [-go_sem] d4 fR d6 iD eN
end Go.Proofs.YtgogpogophflhaaGreatDoor
namespace Go.Proofs.YtgogpogophflhaaGreatDoor
open Go.W
attribute [-go_sem] d4 fR d6 iD eN
def lM (av0:List S) (V:List Tk->Fs->S) (F:List Tk->Fs->Fs):List S->Hp->(S->Hp->Prop)->Prop:=fun av H K=>
 ∃ o ts z,av=.va (.c1 (.pt 0 0)) :: av0/\H=pH o ts z/\Tks ts/\z.n < ts.length/\K (V ts z) (pH o ts (F ts z))
theorem gS {av0:List S} {V:List Tk->Fs->S} {F:List Tk->Fs->Fs} {o:Po} {ts:List Tk} {z:Fs} {K:S->Hp->Prop} (h1:Tks ts) (h2:z.n < ts.length) (hK:K (V ts z) (pH o ts (F ts z))) :
 lM av0 V F (.va (.c1 (.pt 0 0)) :: av0) (pH o ts z) K:=⟨o,ts,z,rfl,rfl,h1,h2,hK⟩
def L1:List Tk->Fs->S:=fun _ _=>.tu []
def kZ:W.Spec:=lM [] L1 dQ
def qQ:W.Spec:=fun av H K=>∃ w,lM [tS w] (fun ts z=>bS (aT 1 (bl w) ts z)) (a6 1 (bl w)) av H K
def uC:W.Spec:=fun av H K=>∃ w,lM [tS w] (fun ts z=>bS (aT 4 (bl w) ts z)) (a6 4 (bl w)) av H K
def kY:W.Spec:=fun av H K=>∃ w,lM [tS w] L1 (bW (bl w)) av H K
def qZ:W.Spec:=fun av H K=>∃ c,lM [bS c] (fun ts z=>tS (dC c ts z)) (cH c) av H K
def lK:W.Spec:=fun av H K=>∃ c,lM [bS c] (fun ts z=>iS .i64 (gV c ts z)) (gT c) av H K
def HD:W.Spec:=lM [] (fun ts z=>iS .i64 (jB ts z)) iY
section
variable {o:Po} {ts:List Tk} {z:Fs} {K:S->Hp->Prop}
theorem gA (h1:Tks ts) (h2:z.n < ts.length) (hK:K (.tu []) (pH o ts (dQ ts z))):kZ [.va (.c1 (.pt 0 0))] (pH o ts z) K:=gS h1 h2 hK
theorem fQ {w:ByteArray} (h1:Tks ts) (h2:z.n < ts.length) (hK:K (bS (aT 1 (bl w) ts z)) (pH o ts (a6 1 (bl w) ts z))):qQ [.va (.c1 (.pt 0 0)),tS w] (pH o ts z) K:=⟨w,gS (F:=a6 1 (bl w)) h1 h2 hK⟩
theorem wP {w:ByteArray} (h1:Tks ts) (h2:z.n < ts.length) (hK:K (bS (aT 4 (bl w) ts z)) (pH o ts (a6 4 (bl w) ts z))):uC [.va (.c1 (.pt 0 0)),tS w] (pH o ts z) K:=⟨w,gS (F:=a6 4 (bl w)) h1 h2 hK⟩
theorem fI {w:ByteArray} (h1:Tks ts) (h2:z.n < ts.length) (hK:K (.tu []) (pH o ts (bW (bl w) ts z))):kY [.va (.c1 (.pt 0 0)),tS w] (pH o ts z) K:=⟨w,gS (F:=bW (bl w)) h1 h2 hK⟩
theorem lF {c:Bool} (h1:Tks ts) (h2:z.n < ts.length) (hK:K (tS (dC c ts z)) (pH o ts (cH c ts z))):qZ [.va (.c1 (.pt 0 0)),bS c] (pH o ts z) K:=⟨c,gS (F:=cH c) h1 h2 hK⟩
theorem rO {c:Bool} (h1:Tks ts) (h2:z.n < ts.length) (hK:K (iS .i64 (gV c ts z)) (pH o ts (gT c ts z))):lK [.va (.c1 (.pt 0 0)),bS c] (pH o ts z) K:=⟨c,gS (F:=gT c) h1 h2 hK⟩
theorem EM (h1:Tks ts) (h2:z.n < ts.length) (hK:K (iS .i64 (jB ts z)) (pH o ts (iY ts z))):HD [.va (.c1 (.pt 0 0))] (pH o ts z) K:=gS h1 h2 hK
end
theorem lT {ts:List Tk} {n:Nat} (h:n < ts.length):n<=dP ts n/\dP ts n < ts.length:=by
 unfold dP; split<;>omega
theorem iM (ts:List Tk) (z:Fs):(dQ ts z).n=z.n:=by unfold dQ; cases z.bad<;>rfl
theorem cK {w:List UInt8} {ts:List Tk} {z:Fs} (h:z.n < ts.length):z.n<=(bW w ts z).n/\(bW w ts z).n < ts.length:=by
 unfold bW
 cases aT 4 w ts z
 · rw [aF,iM]; exact ⟨Nat.le_refl _,h⟩
 · exact lT h
theorem eK {k:Int} {w:List UInt8} {ts:List Tk} {z:Fs} (h:z.n < ts.length):z.n<=(a6 k w ts z).n/\(a6 k w ts z).n < ts.length:=by
 unfold a6
 cases aT k w ts z
 · exact ⟨Nat.le_refl _,h⟩
 · exact lT h
theorem eE {c:Bool} {ts:List Tk} {z:Fs} (h:z.n < ts.length):z.n<=(cH c ts z).n/\(cH c ts z).n < ts.length:=by
 unfold cH
 cases gY c ts z
 · rw [aF,iM]; exact ⟨Nat.le_refl _,h⟩
 · exact lT h
theorem mC {c:Bool} {ts:List Tk} {z:Fs} (h:z.n < ts.length):z.n<=(gT c ts z).n/\(gT c ts z).n < ts.length:=by
 unfold gT
 cases kH c ts z
 · rw [aF,iM]; exact ⟨Nat.le_refl _,h⟩
 · exact lT h
theorem uS {ts:List Tk} {z:Fs} (h:z.n < ts.length):z.n<=(iY ts z).n/\(iY ts z).n < ts.length:=by
 unfold iY
 have h1:=cK (w:=[91]) h
 have h2:=mC (c:=true) h1.2
 have h3:=cK (w:=[93]) h2.2
 omega
theorem lN:Meets Tryz.prog 35 kZ:=by
 refine aI Tryz.func35 YP 1 (by rw [Tryz.ntmps35]; decide) (aA mK (aB _)) (fun av H K h=>by obtain ⟨_,_,_,rfl,_⟩:=h; rfl) ?_
 rintro av H K ⟨o,ts,⟨b,a,n⟩,rfl,rfl,ht,hn,hK⟩
 unfold dQ L1 at hK
 cases b with
 | true=>
  simp (maxSteps:=9^6) -dsimp only [go_sem,LH,JM]
  exact .done hK
 | false=>
  simp (maxSteps:=9^6) -dsimp only [go_sem,LH,JM]
  refine jH ht.e hn ?_
  simp (maxSteps:=9^6) -dsimp only [go_sem]
  exact .done hK
theorem C0:Meets Tryz.prog 34 qQ:=by
 refine aI Tryz.func34 Y6 2 (by rw [Tryz.ntmps34]; decide) (aA UG (aB _)) (fun av H K h=>by obtain ⟨_,_,_,_,rfl,_⟩:=h; rfl) ?_
 rintro av H K ⟨w,o,ts,⟨b,a,n⟩,rfl,rfl,ht,hn,hK⟩
 unfold a6 aT at hK
 cases b with
 | true=>
  simp (maxSteps:=9^6) -dsimp only [go_sem,KB,J9]
  exact .done hK
 | false=>
  simp (maxSteps:=9^6) -dsimp only [go_sem,KB,J9]
  refine qC ht.e hn ?_
  rw [wO]
  have hK:K (bS (!false && eU 1 (bl w) (aW ts n))) (pH o ts (bif !false && eU 1 (bl w) (aW ts n) then ⟨false,a,dP ts n⟩ else ⟨false,a,n⟩)):=hK
  cases hh:eU 1 (bl w) (aW ts n)<;>rw [hh] at hK<;>(simp (maxSteps:=9^6) -dsimp only [go_sem]; exact .done hK)
theorem MS:Meets Tryz.prog 84 uC:=by
 refine aI Tryz.func84 ZT 2 (by rw [Tryz.ntmps84]; decide) (aA HB (aB _)) (fun av H K h=>by obtain ⟨_,_,_,_,rfl,_⟩:=h; rfl) ?_
 rintro av H K ⟨w,o,ts,⟨b,a,n⟩,rfl,rfl,ht,hn,hK⟩
 unfold a6 aT at hK
 cases b with
 | true=>
  simp (maxSteps:=9^6) -dsimp only [go_sem,JW,K9]
  exact .done hK
 | false=>
  simp (maxSteps:=9^6) -dsimp only [go_sem,JW,K9]
  refine qC ht.e hn ?_
  rw [wO]
  have hK:K (bS (!false && eU 4 (bl w) (aW ts n))) (pH o ts (bif !false && eU 4 (bl w) (aW ts n) then ⟨false,a,dP ts n⟩ else ⟨false,a,n⟩)):=hK
  cases hh:eU 4 (bl w) (aW ts n)<;>rw [hh] at hK<;>(simp (maxSteps:=9^6) -dsimp only [go_sem]; exact .done hK)
theorem tR:Meets Tryz.prog 37 kY:=by
 refine aI Tryz.func37 ZX 2 (by rw [Tryz.ntmps37]; decide) (aA HB (aA lN (aB _))) (fun av H K h=>by obtain ⟨_,_,_,_,rfl,_⟩:=h; rfl) ?_
 rintro av H K ⟨w,o,ts,⟨b,a,n⟩,rfl,rfl,ht,hn,hK⟩
 unfold bW aT L1 at hK
 cases b with
 | true=>
  simp (maxSteps:=9^6) -dsimp only [go_sem,JK,LD]
  exact .done hK
 | false=>
  simp (maxSteps:=9^6) -dsimp only [go_sem,JK,LD]
  refine qC ht.e hn ?_
  rw [wO]
  cases hh:eU 4 (bl w) (aW ts n) with
  | true=>
   rw [hh] at hK
   simp (maxSteps:=9^6) -dsimp only [go_sem]
   exact .done hK
  | false=>
   rw [hh] at hK
   simp (maxSteps:=9^6) -dsimp only [go_sem]
   refine gA (z:=⟨false,a,n⟩) ht hn ?_
   simp (maxSteps:=9^6) -dsimp only [go_sem]
   exact .done hK
theorem UZ {c b:Bool} {ts:List Tk} {a:Int} {n:Nat} (h:(b || (aW ts n).k != 2 || c && decide ((aW ts n).n < 0))=true):kH c ts ⟨b,a,n⟩=false:=by
 unfold kH
 simp only
 cases b
 · cases hk:(aW ts n).k == 2
   · rfl
   · rw [bne,hk] at h
     cases c
     · cases h
     · have:(aW ts n).n < 0:=by simpa using h
       simp; omega
 · rfl
theorem TH {c b:Bool} {ts:List Tk} {a:Int} {n:Nat} (h:(b || (aW ts n).k != 2 || c && decide ((aW ts n).n < 0))=false):kH c ts ⟨b,a,n⟩=true/\b=false:=by
 unfold kH
 simp only
 cases b
 · cases hk:(aW ts n).k == 2
   · rw [bne,hk] at h; cases h
   · rw [bne,hk] at h
     cases c
     · exact ⟨rfl,rfl⟩
     · have:¬ (aW ts n).n < 0:=by simpa using h
       refine ⟨?_,rfl⟩
       simp; omega
 · cases h
theorem vC:Meets Tryz.prog 36 lK:=by
 refine aI Tryz.func36 YW 2 (by rw [Tryz.ntmps36]; decide) (aA mK (aA FO (aA lN (aB _)))) (fun av H K h=>by obtain ⟨_,_,_,_,rfl,_⟩:=h; rfl) ?_
 rintro av H K ⟨c,o,ts,⟨b,a,n⟩,rfl,rfl,ht,hn,hK⟩
 have hK:K (iS .i64 (gV c ts ⟨b,a,n⟩)) (pH o ts (gT c ts ⟨b,a,n⟩)):=hK
 have bad:kH c ts ⟨b,a,n⟩=false->K (iS .i64 0) (pH o ts (dQ ts ⟨b,a,n⟩)):=fun h=>by
  unfold gV gT at hK; rw [h] at hK; exact hK
 have good:kH c ts ⟨b,a,n⟩=true->K (iS .i64 (aW ts n).n) (pH o ts ⟨false,a,dP ts n⟩):=fun h=>by
  unfold gV gT at hK; rw [h] at hK; exact hK
 clear hK
 simp (maxSteps:=9^6) -dsimp only [go_sem,S7,US]
 refine jH ht.e hn ?_
 simp (maxSteps:=9^6) -dsimp only [go_sem,iP]
 refine a8 rfl (.done ?_)
 simp (maxSteps:=9^6) -dsimp only [go_sem,BA]
 refine ⟨fun h1 h2=>by rw [h1,h2]; rfl,fun h=>?_,fun h=>?_⟩
 · refine gA (z:=⟨b,a,n⟩) ht hn ?_
   simp (maxSteps:=9^6) -dsimp only [go_sem]
   refine .sel [0,1,2,3] (by simp) (by simp) rfl (.done ?_)
   simp (maxSteps:=9^6) -dsimp only [go_sem]
   exact bad (UZ h)
 · refine a8 rfl (.done ?_)
   simp (maxSteps:=9^6) -dsimp only [go_sem,C8]
   refine CY ht.e hn ?_
   simp (maxSteps:=9^6) -dsimp only [go_sem]
   refine .sel [0,1,2,3] (by simp) (by simp) rfl (.done ?_)
   simp (maxSteps:=9^6) -dsimp only [go_sem]
   have g:=TH (a:=a) h
   obtain ⟨g,rfl⟩:=g
   exact good g
theorem N9 {t:Tk} (h:Gtk t.k t.x t.n) (hk:t.k=1):t.x ≠ []:=by
 have:=h.o (by rw [hk]; decide)
 rw [hk] at this
 have h2:bL t.x=true:=by
  have h3:(t.n == 0 && bL t.x)=true:=this
  rw [Bool.and_eq_true] at h3; exact h3.2
 intro e
 rw [e] at h2
 cases h2
theorem VR {c b:Bool} {ts:List Tk} {a:Int} {n:Nat} {c1 c2:UInt8} (h1:(!(b || (aW ts n).k != 1) && c)=true->(aW ts n).x[0]? = some c1)
 (h2:(!(b || (aW ts n).k != 1) && c && !decide ((c1.toNat:Int) < 65))=true->(aW ts n).x[0]? = some c2)
 (h:(b || (aW ts n).k != 1 || c && (decide ((c1.toNat:Int) < 65) || decide (90 < (c2.toNat:Int))))=true):gY c ts ⟨b,a,n⟩=false:=by
 unfold gY
 simp only
 cases b
 · cases hk:(aW ts n).k == 1
   · rfl
   · rw [bne,hk] at h h1 h2
     cases c
     · cases h
     · have g1:=h1 rfl
       cases hx:(aW ts n).x with
       | nil=>rfl
       | cons d r=>
        rw [hx] at g1 h2
        have e1:d=c1:=a7 g1
        subst e1
        have h64:∀ m:Nat,(m:Int) < 65->m < 65:=fun m=>by omega
        by_cases hd:(d.toNat:Int) < 65
        · have:¬ (65:UInt8)<=d:=fun hh=>by
           have:=UInt8.le_iff_toNat_le.1 hh
           simp at this; omega
          simp [this]
        · have e2:d=c2:=a7 (h2 (by simpa using hd))
          subst e2
          have:90 < (d.toNat:Int):=by
           simp [hd] at h; exact h
          have:¬ d<=(90:UInt8):=fun hh=>by
           have:=UInt8.le_iff_toNat_le.1 hh
           simp at this; omega
          simp [this]
 · rfl
theorem TN {c b:Bool} {ts:List Tk} {a:Int} {n:Nat} {c1 c2:UInt8} (h1:(!(b || (aW ts n).k != 1) && c)=true->(aW ts n).x[0]? = some c1)
 (h2:(!(b || (aW ts n).k != 1) && c && !decide ((c1.toNat:Int) < 65))=true->(aW ts n).x[0]? = some c2)
 (h:(b || (aW ts n).k != 1 || c && (decide ((c1.toNat:Int) < 65) || decide (90 < (c2.toNat:Int))))=false):gY c ts ⟨b,a,n⟩=true/\b=false:=by
 unfold gY
 simp only
 cases b
 · refine ⟨?_,rfl⟩
   cases hk:(aW ts n).k == 1
   · rw [bne,hk] at h; cases h
   · rw [bne,hk] at h h1 h2
     cases c
     · rfl
     · have g1:=h1 rfl
       cases hx:(aW ts n).x with
       | nil=>rw [hx] at g1; cases g1
       | cons d r=>
        rw [hx] at g1 h2
        have e1:d=c1:=a7 g1
        subst e1
        have hd:¬ (d.toNat:Int) < 65:=fun hd=>by simp [hd] at h
        have e2:d=c2:=a7 (h2 (by simpa using hd))
        subst e2
        have h90:¬ 90 < (d.toNat:Int):=fun hd=>by simp [hd] at h
        have q1:(65:UInt8)<=d:=UInt8.le_iff_toNat_le.2 (by simp; omega)
        have q2:d<=(90:UInt8):=UInt8.le_iff_toNat_le.2 (by simp; omega)
        simp [q1,q2]
 · cases h
theorem AA:Meets Tryz.prog 83 qZ:=by
 refine aI Tryz.func83 aAN 2 (by rw [Tryz.ntmps83]; decide) (aA mK (aA FO (aA lN (aB _)))) (fun av H K h=>by obtain ⟨_,_,_,_,rfl,_⟩:=h; rfl) ?_
 rintro av H K ⟨c,o,ts,⟨b,a,n⟩,rfl,rfl,ht,hn,hK⟩
 have hK:K (tS (dC c ts ⟨b,a,n⟩)) (pH o ts (cH c ts ⟨b,a,n⟩)):=hK
 have bad:gY c ts ⟨b,a,n⟩=false->K (tS (mk [])) (pH o ts (dQ ts ⟨b,a,n⟩)):=fun h=>by
  unfold dC cH at hK; rw [h] at hK; exact hK
 have good:gY c ts ⟨b,a,n⟩=true->K (tS (mk (aW ts n).x)) (pH o ts ⟨false,a,dP ts n⟩):=fun h=>by
  unfold dC cH at hK; rw [h] at hK; exact hK
 clear hK
 simp (maxSteps:=9^6) -dsimp only [go_sem,Q3,UO]
 refine jH ht.e hn ?_
 simp (maxSteps:=9^6) -dsimp only [go_sem,iP]
 refine a8 rfl (.done ?_)
 simp (maxSteps:=9^6) -dsimp only [go_sem,B5]
 have ne:((!(b || (aW ts n).k != 1) && c)=true)->(0:Int)<=0/\(0:Int) < ((aW ts n).x.length:Int):=fun h=>by
  have hk:(aW ts n).k=1:=by
   cases b
   · cases hk:(aW ts n).k == 1
     · rw [bne,hk] at h; cases c<;>cases h
     · exact eq_of_beq hk
   · cases h
  have this:(aW ts n).x ≠ []:=N9 (ht.g _ (s7 hn)) hk
  have:=List.length_pos_iff.2 this
  omega
 refine ⟨ne,fun c1 h1=>⟨fun h=>ne (by rw [Bool.and_eq_true] at h; exact h.1),fun c2 h2=>⟨fun hA hB=>by rw [hA,hB]; rfl,fun hA hB=>by rw [hA,hB]; rfl,fun h=>?_,fun h=>?_⟩⟩⟩
 · refine gA (z:=⟨b,a,n⟩) ht hn ?_
   simp (maxSteps:=9^6) -dsimp only [go_sem]
   refine .sel [0,1,2,3] (by simp) (by simp) rfl (.done ?_)
   simp (maxSteps:=9^6) -dsimp only [go_sem]
   exact bad (VR h1 h2 h)
 · refine a8 rfl (.done ?_)
   simp (maxSteps:=9^6) -dsimp only [go_sem,AU]
   refine CY ht.e hn ?_
   simp (maxSteps:=9^6) -dsimp only [go_sem]
   refine .sel [0,1,2,3] (by simp) (by simp) rfl (.done ?_)
   simp (maxSteps:=9^6) -dsimp only [go_sem]
   have g:=TN (a:=a) h1 h2 h
   obtain ⟨g,rfl⟩:=g
   exact good g
theorem NE:Meets Tryz.prog 36 lK->Meets Tryz.prog 97 HD:=by
 intro hnum
 refine aI Tryz.func97 Z4 1 (by rw [Tryz.ntmps97]; decide) (aA tR (aA hnum (aB _))) (fun av H K h=>by obtain ⟨_,_,_,rfl,_⟩:=h; rfl) ?_
 rintro av H K ⟨o,ts,z,rfl,rfl,ht,hn,hK⟩
 have hK:K (iS .i64 (jB ts z)) (pH o ts (iY ts z)):=hK
 unfold iY jB at hK
 simp (maxSteps:=9^6) -dsimp only [go_sem,TJ,RJ]
 refine fI ht hn ?_
 have h1:=cK (w:=[91]) hn
 have e1:bW (bl (mk [91])) ts z=bW [91] ts z:=rfl
 rw [e1]
 generalize bW [91] ts z=z1 at *
 simp (maxSteps:=9^6) -dsimp only [go_sem]
 refine rO ht h1.2 ?_
 have h2:=mC (c:=true) h1.2
 simp (maxSteps:=9^6) -dsimp only [go_sem]
 refine fI ht h2.2 ?_
 simp (maxSteps:=9^6) -dsimp only [go_sem]
 exact .done hK
end Go.Proofs.YtgogpogophflhaaGreatDoor
namespace Go.Proofs.YtgogpogophflhaaGreatDoor
open Go.W
attribute [-go_sem] d4 fR d6 iD eN
def szs:List Int:=[8,16,32,64]
def pS (n:Int):List UInt8:=[105,110,116] ++ aX n
def lZ (n:Int):List UInt8:=[117,105,110,116] ++ aX n
def fM:List UInt8:=[98,111,111,108]
def wText:List UInt8:=[116,101,120,116]
def l7 (ts:List Tk) (z:Fs):List Int->Ty × Fs
 | []=>(.mk 6 0 (dC true ts z) [],cH true ts z)
 | s :: r=>bif aT 1 (pS s) ts z then (.mk 2 s (mk []) [],a6 1 (pS s) ts z) else bif decide (s < 64) && aT 1 (lZ s) ts z then (.mk 3 s (mk []) [],a6 1 (lZ s) ts z) else l7 ts z r
def iU (ts:List Tk) (z:Fs):Ty × Fs:=
 bif aT 1 fM ts z then (.mk 1 0 (mk []) [],a6 1 fM ts z)
 else bif aT 1 wText ts z then (.mk 4 (jB ts (a6 1 wText ts z)) (mk []) [],iY ts (a6 1 wText ts z))
 else l7 ts z szs
def B8 (F:List Tk->Fs->Ty × Fs):W.Spec:=lM [] (fun ts z=>.va (.gs (aM (F ts z).1))) fun ts z=>(F ts z).2
theorem C5 {F:List Tk->Fs->Ty × Fs} {o:Po} {ts:List Tk} {z:Fs} {K:S->Hp->Prop} (h1:Tks ts) (h2:z.n < ts.length) (hK:K (.va (.gs (aM (F ts z).1))) (pH o ts (F ts z).2)):B8 F [.va (.c1 (.pt 0 0))] (pH o ts z) K:=gS (V:=fun ts z=>.va (.gs (aM (F ts z).1))) (F:=fun ts z=>(F ts z).2) h1 h2 hK
theorem fC {k:Int} {w:List UInt8} {ts:List Tk} {z:Fs} (h:aT k w ts z=false):a6 k w ts z=z:=by unfold a6; rw [h]; rfl
theorem P5:aX 8=[56]:=by simp [aX,digs,Nat.toUInt8]
theorem JJ:aX 16=[49,54]:=by simp [aX,digs,Nat.toUInt8]
theorem KZ:aX 32=[51,50]:=by simp [aX,digs,Nat.toUInt8]
theorem SX:aX 64=[54,52]:=by simp [aX,digs,Nat.toUInt8]
theorem OZ:Meets Tryz.prog 98 (B8 iU):=by
 refine aI Tryz.func98 aAF 1 (by rw [Tryz.ntmps98]; decide) (aA C0 (aA (NE vC) (aA AA (aN zR (aB _))))) (fun av H K h=>by obtain ⟨_,_,_,rfl,_⟩:=h; rfl) ?_
 rintro av H K ⟨o,ts,z,rfl,rfl,ht,hn,hK⟩
 have hK:K (.va (.gs (aM (iU ts z).1))) (pH o ts (iU ts z).2):=hK
 have fin:∀ (t:Ty) (z':Fs) (R:Hp),iU ts z=(t,z')->W.Fin 4 K (.va (.gs [.vl (.int .i64 t.k),.vl (.int .i64 t.s),.vl (.string t.n),.fz (t.e.map aM)])) (pH o ts z' ++ R):=fun t z' R h=>by
  rw [h] at hK
  refine .sel [0,1,2,3] (by simp) (by simp) rfl (.done ?_)
  rw [aQ] at hK
  simpa [go_sem] using hK
 unfold iU at fin
 simp (maxSteps:=9^6) -dsimp only [go_sem,R8,SI]
 refine fQ ht hn ?_
 rw [show bl (mk [98,111,111,108])=fM from rfl]
 cases h1:aT 1 fM ts z with
 | true=>
  rw [h1] at fin
  simp (maxSteps:=9^6) -dsimp only [go_sem]
  exact fin _ _ _ rfl
 | false=>
 rw [h1] at fin
 rw [fC h1]
 simp (maxSteps:=9^6) -dsimp only [go_sem]
 refine fQ ht hn ?_
 rw [show bl (mk [116,101,120,116])=wText from rfl]
 have hn1:=eK (k:=1) (w:=wText) hn
 cases h2:aT 1 wText ts z with
 | true=>
  rw [h2] at fin
  simp (maxSteps:=9^6) -dsimp only [go_sem]
  refine EM ht hn1.2 ?_
  simp (maxSteps:=9^6) -dsimp only [go_sem]
  exact fin _ _ _ rfl
 | false=>
 rw [h2] at fin
 rw [fC h2]
 simp (maxSteps:=9^6) -dsimp only [go_sem]
 refine a8 rfl (.done ?_)
 simp (maxSteps:=9^6) -dsimp only [go_sem,BX]
 refine bK (α:=Nat) (fun i=>[(0,.va (.c1 (.pt 0 0))),(2,.va (.c1 (.pt 4 0))),(15,.va (.c1 (.sl 5 4))),(16,iS .i64 4),(17,iS .i64 i)]) (fun _=>[pB o z.bad z.off,dT 123 ts z.n,.row o.es 62 3,.row o.ss 56 2,.cells [.vl (.int .i64 0),.vl (.int .i64 0),.vl (.string (mk [])),.vl (.slice none 0 0)] 37,.row (szs.map iL) 3 1])
  (fun i=>i<=4/\l7 ts z (szs.drop i)=l7 ts z szs) (fun i=>4 - i) 0 6 ⟨Nat.zero_le _,rfl⟩ ?_ ?_ ?_
 · simp -dsimp only [go_sem]<;>simp
 · simp -dsimp only [go_sem,szs,List.map_cons,List.map_nil]<;>simp
 rintro i ⟨hi,ho⟩
 have hl4:szs.length=4:=rfl
 rcases b5 i 4 with hlt | hge
 · have hg:decide ((i:Int) < 4)=true:=by simp; omega
   obtain ⟨s,hx⟩:∃ s,szs[i]? = some s:=⟨_,aZ (by omega)⟩
   have hd:szs.drop i=s :: szs.drop (i + 1):=List.drop_eq_getElem_cons (by omega) |>.trans (by rw [(aV.1 hx).2])
   have hs:8<=s/\s<=64:=by
    have:=bO hx
    simp only [szs,List.mem_cons,List.not_mem_nil,or_false] at this
    omega
   have hsl:=eW (n:=s) (by omega) (by omega)
   rw [hd,l7] at ho
   simp (maxSteps:=9^6) -dsimp only [go_sem,hg,List.length_map,hl4]
   refine ⟨⟨by omega,by omega⟩,by omega,fun x hx'=>?_⟩
   obtain rfl:s=x:=a7 (hx.symm.trans hx')
   refine ⟨⟨by omega,by omega⟩,by omega,fQ ht hn ?_⟩
   rw [show bl (mk (105 :: 110 :: 116 :: aX s))=pS s from rfl]
   cases h3:aT 1 (pS s) ts z with
   | true=>
    rw [h3] at ho
    rw [aF,aF,<-ho] at fin
    simp (maxSteps:=9^6) -dsimp only [go_sem]
    exact fin _ _ _ rfl
   | false=>
   rw [h3,aF] at ho
   rw [fC h3]
   simp (maxSteps:=9^6) -dsimp only [go_sem]
   cases h4:decide (s < 64) with
   | false=>
    rw [h4] at ho
    refine a8 rfl (.done ?_)
    simp (maxSteps:=9^6) -dsimp only [go_sem,qT,h4]
    refine ⟨by omega,aG (i + 1) 6 ⟨by omega,ho⟩ (by omega) ?_ ?_⟩
    · simp -dsimp only [go_sem]<;>simp
    · simp -dsimp only [go_sem]<;>simp
   | true=>
   rw [h4,Bool.true_and] at ho
   refine a8 rfl (.done ?_)
   simp (maxSteps:=9^6) -dsimp only [go_sem,qT,h4]
   refine ⟨⟨by omega,by omega⟩,by omega,fQ ht hn ?_⟩
   rw [show bl (mk (117 :: 105 :: 110 :: 116 :: aX s))=lZ s from rfl]
   cases h5:aT 1 (lZ s) ts z with
   | true=>
    rw [h5] at ho
    rw [aF,aF,<-ho] at fin
    simp (maxSteps:=9^6) -dsimp only [go_sem]
    exact fin _ _ _ rfl
   | false=>
   rw [h5,aF] at ho
   rw [fC h5]
   simp (maxSteps:=9^6) -dsimp only [go_sem]
   refine ⟨by omega,aG (i + 1) 6 ⟨by omega,ho⟩ (by omega) ?_ ?_⟩
   · simp -dsimp only [go_sem]<;>simp
   · simp -dsimp only [go_sem]<;>simp
 · have hg:decide ((i:Int) < 4)=false:=by simp; omega
   obtain rfl:i=4:=by omega
   rw [aF,aF,<-ho] at fin
   simp (maxSteps:=9^6) -dsimp only [go_sem,hg]
   refine a8 rfl (.done ?_)
   simp (maxSteps:=9^6) -dsimp only [go_sem,xD]
   refine lF ht hn ?_
   simp (maxSteps:=9^6) -dsimp only [go_sem]
   exact fin _ _ _ rfl
end Go.Proofs.YtgogpogophflhaaGreatDoor
namespace Go.Proofs.YtgogpogophflhaaGreatDoor
open Go.W
attribute [-go_sem] d4 fR d6 iD eN
def dU:List UInt8:=[108,105,115,116]
def rW:List UInt8:=[111,102]
def qA (ts:List Tk) (z:Fs):Fs:=bif aT 1 rW ts z then ⟨false,z.off,dP ts z.n⟩ else dQ ts z
def jY (ts:List Tk):Nat->List Int->Fs->List Int × Fs
 | 0,d,z=>(d,z)
 | f + 1,d,z=>bif aT 1 dU ts z then jY ts f (d ++ [jB ts (a6 1 dU ts z)]) (qA ts (iY ts (a6 1 dU ts z))) else (d,z)
def bJ (d:List Int) (t:Ty):Ty:=d.foldr (fun s t=>.mk 5 s (mk []) [t]) t
def kB (ts:List Tk) (z:Fs):Ty × Fs:=(bJ (jY ts (ts.length + 1) [] z).1 (iU ts (jY ts (ts.length + 1) [] z).2).1,(iU ts (jY ts (ts.length + 1) [] z).2).2)
theorem jF (ts:List Tk) (f:Nat) (d:List Int) (z:Fs):jY ts (f + 1) d z=bif aT 1 dU ts z then jY ts f (d ++ [jB ts (a6 1 dU ts z)]) (qA ts (iY ts (a6 1 dU ts z))) else (d,z):=rfl
theorem rE {k:Int} {w:List UInt8} {ts:List Tk} {z:Fs} (hk0:k ≠ 0) (he:Ends ts) (hn:z.n < ts.length) (h:aT k w ts z=true):dP ts z.n=z.n + 1/\z.n + 1 < ts.length/\z.bad=false:=by
 unfold aT at h
 rw [Bool.and_eq_true] at h
 obtain ⟨h1,h2⟩:=h
 have hb:z.bad=false:=by cases hb:z.bad with
  | false=>rfl
  | true=>rw [hb] at h1; cases h1
 have hk:(aW ts z.n).k=k:=by
  unfold eU at h2
  rw [Bool.and_eq_true] at h2
  exact eq_of_beq h2.1
 have hne:¬ (z.n + 1=ts.length):=fun e=>by
  have:=(he.last _ _ (jL hn)).2 e
  rw [hk] at this; exact hk0 this
 have hlt:z.n + 1 < ts.length:=by omega
 exact ⟨if_pos hlt,hlt,hb⟩
theorem LV {ts:List Tk} {z:Fs} (h:z.n < ts.length):z.n<=(qA ts z).n/\(qA ts z).n < ts.length:=by
 unfold qA
 cases aT 1 rW ts z
 · rw [aF,iM]; exact ⟨Nat.le_refl _,h⟩
 · exact lT h
theorem L7 {ts:List Tk} {z:Fs} (h:z.n < ts.length):∀ l:List Int,z.n<=(l7 ts z l).2.n/\(l7 ts z l).2.n < ts.length
 | []=>eE h
 | s :: r=>by
  rw [l7]
  cases aT 1 (pS s) ts z
  · cases decide (s < 64) && aT 1 (lZ s) ts z
    · exact L7 h r
    · exact eK h
  · exact eK h
theorem WG {ts:List Tk} {z:Fs} (h:z.n < ts.length):z.n<=(iU ts z).2.n/\(iU ts z).2.n < ts.length:=by
 unfold iU
 cases aT 1 fM ts z
 · cases aT 1 wText ts z
   · exact L7 h _
   · have h1:=eK (k:=1) (w:=wText) h
     have h2:=uS h1.2
     exact ⟨Nat.le_trans h1.1 h2.1,h2.2⟩
 · exact eK h
theorem GM {ts:List Tk}:∀ (f:Nat) (d:List Int) (z:Fs),z.n < ts.length->z.n<=(jY ts f d z).2.n/\(jY ts f d z).2.n < ts.length
 | 0,d,z,h=>⟨Nat.le_refl _,h⟩
 | f + 1,d,z,h=>by
  rw [jF]
  cases aT 1 dU ts z
  · exact ⟨Nat.le_refl _,h⟩
  · have h1:=eK (k:=1) (w:=dU) h
    have h2:=uS h1.2
    have h3:=LV h2.2
    have h4:=GM f (d ++ [jB ts (a6 1 dU ts z)]) _ h3.2
    rw [aL]
    omega
theorem GJ {ts:List Tk} {z:Fs} (h:z.n < ts.length):z.n<=(kB ts z).2.n/\(kB ts z).2.n < ts.length:=by
 have h1:=GM (ts.length + 1) [] z h
 have h2:=WG h1.2
 exact ⟨Nat.le_trans h1.1 h2.1,h2.2⟩
theorem FQ (d:List Int) (s:Int) (t:Ty):bJ (d ++ [s]) t=bJ d (.mk 5 s (mk []) [t]):=by simp [bJ]
theorem HL:Meets Tryz.prog 55 (B8 kB):=by
 refine aI Tryz.func55 aAJ 1 (by rw [Tryz.ntmps55]; decide) (aA C0 (aA (NE vC) (aA lN (aA OZ (aB _))))) (fun av H K h=>by obtain ⟨_,_,_,rfl,_⟩:=h; rfl) ?_
 rintro av H K ⟨o,ts,z0,rfl,rfl,ht,hn0,hK⟩
 have hK:K (.va (.gs (aM (kB ts z0).1))) (pH o ts (kB ts z0).2):=hK
 have hle:=ht.e.le
 unfold kB at hK
 simp (maxSteps:=9^6) -dsimp only [go_sem,TW,QU]
 refine b8 (α:=Nat × List Int × Fs) (fun x=>[(0,.va (.c1 (.pt 0 0))),(2,.va (.c1 (.pt 4 0))),(3,.va (.c1 (.pt 5 0))),(4,.va (.c1 (.sl 6 x.2.1.length)))])
  (fun x=>[pB o x.2.2.bad x.2.2.off,dT 123 ts x.2.2.n,.row o.es 62 3,.row o.ss 56 2,.cells [.vl (.int .i64 0),.vl (.int .i64 0),.vl (.string (mk [])),.vl (.slice none 0 0)] 37,.cells [.vl (.int .i64 0),.vl (.int .i64 0),.vl (.string (mk [])),.vl (.slice none 0 0)] 37,.row (x.2.1.map iL) 3 1])
  (fun x=>x.2.2.n < ts.length/\x.2.1.length + x.1<=ts.length + 1/\ts.length < x.2.2.n + x.1/\jY ts x.1 x.2.1 x.2.2=jY ts (ts.length + 1) [] z0)
  (fun x=>x.1) (.nil 4 3 1 rfl (fN (ts.length + 1,[],z0) 7 ⟨hn0,by simp,by simp only; omega,rfl⟩ ?_ ?_)) ?_
 · simp -dsimp only [go_sem]<;>simp
 · simp -dsimp only [go_sem]<;>simp
 rintro ⟨f,d,z⟩ ⟨h1,h2,h3,h4⟩
 simp only at h1 h2 h3 h4
 obtain ⟨f,rfl⟩:∃ g,f=g + 1:=⟨f - 1,by omega⟩
 rw [jF] at h4
 simp (maxSteps:=9^6) -dsimp only [go_sem]
 refine fQ ht h1 ?_
 rw [show bl (mk [108,105,115,116])=dU from rfl]
 cases hl:aT 1 dU ts z with
 | true=>
  rw [hl,aL] at h4
  obtain ⟨g1,g2,g3⟩:=rE (by decide) ht.e h1 hl
  have e1:a6 1 dU ts z=⟨false,z.off,z.n + 1⟩:=by unfold a6; rw [hl,g1]; rfl
  rw [e1] at h4 ⊢
  simp (maxSteps:=9^6) -dsimp only [go_sem]
  have hb:=uS (z:=⟨false,z.off,z.n + 1⟩) g2
  refine EM (z:=⟨false,z.off,z.n + 1⟩) ht g2 ?_
  generalize jB ts ⟨false,z.off,z.n + 1⟩=v at *
  generalize iY ts ⟨false,z.off,z.n + 1⟩=z1 at *
  simp only at hb
  simp (maxSteps:=9^6) -dsimp only [go_sem]
  have nxtl:∀ z2:Fs,z1.n<=z2.n->z2.n < ts.length->qA ts z1=z2->z2.n < ts.length/\(d ++ [v]).length + f<=ts.length + 1/\ts.length < z2.n + f/\jY ts f (d ++ [v]) z2=jY ts (ts.length + 1) [] z0:=fun z2 q1 q2 q3=>by
   subst q3
   refine ⟨q2,?_,by omega,h4⟩
   rw [List.length_append,List.length_singleton]; omega
  clear h4
  refine ⟨by omega,a8 rfl (.done ?_)⟩
  obtain ⟨b1,o1,n1⟩:=z1
  simp only at hb nxtl
  cases b1 with
  | true=>
   simp (maxSteps:=9^6) -dsimp only [go_sem,wC]
   refine aG (f,d ++ [v],⟨true,o1,n1⟩) 7 (nxtl _ (Nat.le_refl _) hb.2 (by simp [qA,aT,dQ])) (by simp) ?_ ?_
   · simp -dsimp only [go_sem]<;>simp
   · simp -dsimp only [go_sem]<;>simp
  | false=>
  simp (maxSteps:=9^6) -dsimp only [go_sem,wC]
  refine fQ (z:=⟨false,o1,n1⟩) ht hb.2 ?_
  rw [show bl (mk [111,102])=rW from rfl]
  cases hw:aT 1 rW ts ⟨false,o1,n1⟩ with
  | true=>
   have e2:a6 1 rW ts ⟨false,o1,n1⟩=⟨false,o1,dP ts n1⟩:=by unfold a6; rw [hw]; rfl
   rw [e2]
   have g4:=lT hb.2
   simp (maxSteps:=9^6) -dsimp only [go_sem]
   refine aG (f,d ++ [v],⟨false,o1,dP ts n1⟩) 7 (nxtl _ g4.1 g4.2 (by simp [qA,hw])) (by simp) ?_ ?_
   · simp -dsimp only [go_sem]<;>simp
   · simp -dsimp only [go_sem]<;>simp
  | false=>
   rw [fC hw]
   simp (maxSteps:=9^6) -dsimp only [go_sem]
   refine gA (z:=⟨false,o1,n1⟩) ht hb.2 ?_
   simp (maxSteps:=9^6) -dsimp only [go_sem]
   refine aG (f,d ++ [v],dQ ts ⟨false,o1,n1⟩) 7 (nxtl _ (by rw [iM]; exact Nat.le_refl _) (by rw [iM]; exact hb.2) (by simp [qA,hw])) (by simp) ?_ ?_
   · simp -dsimp only [go_sem]<;>simp
   · simp -dsimp only [go_sem]<;>simp
 | false=>
  rw [hl,aF] at h4
  rw [<-h4] at hK
  rw [fC hl]
  simp (maxSteps:=9^6) -dsimp only [go_sem]
  refine a8 rfl (.done ?_)
  simp (maxSteps:=9^6) -dsimp only [go_sem,BL]
  refine C5 ht h1 ?_
  simp only at hK
  generalize iU ts z=r at *
  obtain ⟨t,z'⟩:=r
  simp only at hK
  simp (maxSteps:=9^6) -dsimp only [go_sem,aQ t]
  refine a8 rfl (.done ?_)
  simp (maxSteps:=9^6) -dsimp only [go_sem,BG]
  refine ⟨by omega,?_⟩
  refine bK (α:=Nat × Ty) (fun x=>[(2,.va (.c1 (.pt 4 0))),(3,.va (.c1 (.pt 5 0))),(4,.va (.c1 (.sl 6 d.length))),(5,iS .i64 ((x.1:Int) - 1))])
   (fun x=>[pB o z'.bad z'.off,dT 123 ts z'.n,.row o.es 62 3,.row o.ss 56 2,.cells [.vl (.int .i64 0),.vl (.int .i64 0),.vl (.string (mk [])),.vl (.slice none 0 0)] 37,.cells [.vl (.int .i64 x.2.k),.vl (.int .i64 x.2.s),.vl (.string x.2.n),.fz (x.2.e.map aM)] 37,.row (d.map iL) 3 1])
   (fun x=>x.1<=d.length/\bJ (d.take x.1) x.2=bJ d t) (fun x=>x.1) (d.length,t) 7 ⟨Nat.le_refl _,by rw [List.take_length]⟩ ?_ ?_ ?_
  · simp -dsimp only [go_sem]<;>simp
  · simp -dsimp only [go_sem]<;>simp
  rintro ⟨m,u⟩ ⟨hm,hu⟩
  simp only at hm hu
  cases m with
  | zero=>
   have g0:decide ((0:Int)<=((0:Nat):Int) - 1)=false:=rfl
   simp (maxSteps:=9^6) -dsimp only [go_sem,g0]
   refine a8 rfl (.done ?_)
   simp (maxSteps:=9^6) -dsimp only [go_sem,xK]
   refine .sel [0,1,2,3] (by simp) (by simp) rfl (.done ?_)
   simp (maxSteps:=9^6) -dsimp only [go_sem]
   have e:u=bJ d t:=hu
   rw [aQ,<-e] at hK
   exact hK
  | succ m=>
   have g0:decide ((0:Int)<=(m:Int))=true:=decide_eq_true (by omega)
   have em:((m + 1:Nat):Int) - 1=(m:Int):=by omega
   obtain ⟨s,hx⟩:∃ s,d[m]? = some s:=⟨_,aZ (by omega)⟩
   have htk:d.take (m + 1)=d.take m ++ [s]:=by rw [List.take_add_one,hx]; rfl
   rw [htk,FQ] at hu
   simp (maxSteps:=9^6) -dsimp only [go_sem,g0,em]
   refine ⟨⟨by omega,by omega⟩,by omega,fun x hx'=>?_⟩
   obtain rfl:s=x:=a7 (hx.symm.trans hx')
   refine a8 rfl (.pub 7 _ _ _ rfl (.done ?_))
   simp (maxSteps:=9^6) -dsimp only [go_sem,wG,cG]
   refine ⟨by omega,aG (m,.mk 5 s (mk []) [u]) 7 ⟨by omega,hu⟩ (by simp) ?_ ?_⟩
   · simp -dsimp only [go_sem,em]<;>simp
   · simp -dsimp only [go_sem,Ty.k,Ty.s,Ty.n,Ty.e,List.map_cons,List.map_nil,aQ u]<;>simp
end Go.Proofs.YtgogpogophflhaaGreatDoor
namespace Go.Proofs.YtgogpogophflhaaGreatDoor
open Go.W
attribute [-go_sem] d4 fR d6 iD eN
def oO (ts:List Tk) (z:Fs):Fs:=gT false ts (bW [61] ts (cH false ts z))
def lY (ts:List Tk):Nat->List ByteArray->List Int->Fs->(List ByteArray × List Int) × Fs
 | 0,a,b,z=>((a,b),z)
 | f + 1,a,b,z=>bif z.bad then ((a,b),z) else
  bif aT 4 [44] ts (oO ts z) then lY ts f (a ++ [dC false ts z]) (b ++ [gV false ts (bW [61] ts (cH false ts z))]) (a6 4 [44] ts (oO ts z))
  else ((a ++ [dC false ts z],b ++ [gV false ts (bW [61] ts (cH false ts z))]),oO ts z)
theorem sO (ts:List Tk) (f:Nat) (a:List ByteArray) (b:List Int) (z:Fs):lY ts (f + 1) a b z=bif z.bad then ((a,b),z) else
 bif aT 4 [44] ts (oO ts z) then lY ts f (a ++ [dC false ts z]) (b ++ [gV false ts (bW [61] ts (cH false ts z))]) (a6 4 [44] ts (oO ts z))
 else ((a ++ [dC false ts z],b ++ [gV false ts (bW [61] ts (cH false ts z))]),oO ts z):=rfl
def gU (ts:List Tk) (z:Fs):En × Fs:=
 (⟨dC true ts z,(lY ts (ts.length + 1) [] [] (bW [123] ts (cH true ts z))).1.1,(lY ts (ts.length + 1) [] [] (bW [123] ts (cH true ts z))).1.2⟩,bW [125] ts (lY ts (ts.length + 1) [] [] (bW [123] ts (cH true ts z))).2)
theorem NA {ts:List Tk} {z:Fs} (h:z.n < ts.length):z.n<=(oO ts z).n/\(oO ts z).n < ts.length:=by
 have h1:=eE (c:=false) h
 have h2:=cK (w:=[61]) h1.2
 have h3:=mC (c:=false) h2.2
 unfold oO
 omega
theorem ND {ts:List Tk}:∀ (f:Nat) (a:List ByteArray) (b:List Int) (z:Fs),z.n < ts.length->z.n<=(lY ts f a b z).2.n/\(lY ts f a b z).2.n < ts.length
 | 0,a,b,z,h=>⟨Nat.le_refl _,h⟩
 | f + 1,a,b,z,h=>by
  rw [sO]
  cases z.bad
  · have h1:=NA h
    cases aT 4 [44] ts (oO ts z)
    · exact h1
    · have h2:=eK (k:=4) (w:=[44]) h1.2
      have h3:=ND f (a ++ [dC false ts z]) (b ++ [gV false ts (bW [61] ts (cH false ts z))]) _ h2.2
      rw [aF,aL]
      omega
  · exact ⟨Nat.le_refl _,h⟩
theorem NK {ts:List Tk} {z:Fs} (h:z.n < ts.length):z.n<=(gU ts z).2.n/\(gU ts z).2.n < ts.length:=by
 have h1:=eE (c:=true) h
 have h2:=cK (w:=[123]) h1.2
 have h3:=ND (ts.length + 1) [] [] _ h2.2
 have h4:=cK (w:=[125]) h3.2
 unfold gU
 simp only
 omega
def FL:W.Spec:=lM [] (fun ts z=>.va (.gs (bB (gU ts z).1))) fun ts z=>(gU ts z).2
theorem RS {o:Po} {ts:List Tk} {z:Fs} {K:S->Hp->Prop} (h1:Tks ts) (h2:z.n < ts.length) (hK:K (.va (.gs (bB (gU ts z).1))) (pH o ts (gU ts z).2)):FL [.va (.c1 (.pt 0 0))] (pH o ts z) K:=gS (V:=fun ts z=>.va (.gs (bB (gU ts z).1))) (F:=fun ts z=>(gU ts z).2) h1 h2 hK
theorem TG:Meets Tryz.prog 39 FL:=by
 refine aI Tryz.func39 Z7 1 (by rw [Tryz.ntmps39]; decide) (aA AA (aA tR (aA vC (aA MS (aB _))))) (fun av H K h=>by obtain ⟨_,_,_,rfl,_⟩:=h; rfl) ?_
 rintro av H K ⟨o,ts,z0,rfl,rfl,ht,hn0,hK⟩
 have hK:K (.va (.gs (bB (gU ts z0).1))) (pH o ts (gU ts z0).2):=hK
 have hle:=ht.e.le
 unfold gU at hK
 simp (maxSteps:=9^6) -dsimp only [go_sem,T7,GW]
 refine lF ht hn0 ?_
 have hn1:=(eE (c:=true) hn0).2
 simp only at hK
 generalize dC true ts z0=nm at *
 generalize cH true ts z0=z1 at *
 simp (maxSteps:=9^6) -dsimp only [go_sem]
 refine fI ht hn1 ?_
 rw [show bl (mk [123])=[123] from rfl]
 have hn2:=(cK (w:=[123]) hn1).2
 generalize bW [123] ts z1=z2 at *
 simp (maxSteps:=9^6) -dsimp only [go_sem]
 refine b8 (α:=Nat × Bool × List ByteArray × List Int × Fs) (fun x=>[(0,.va (.c1 (.pt 0 0))),(2,.va (.c1 (.pt 4 0))),(3,.va (.c1 (.pt 5 0))),(4,bS x.2.1)])
  (fun x=>[pB o x.2.2.2.2.bad x.2.2.2.2.off,dT 123 ts x.2.2.2.2.n,.row o.es 62 3,.row o.ss 56 2,.cells [.vl (.string (mk [])),.vl (.slice none 0 0),.vl (.slice none 0 0)] 62,.cells [.vl (.string nm),.sl 6 x.2.2.1.length,.sl 7 x.2.2.2.1.length] 62,.row (x.2.2.1.map cP) 9 1,.row (x.2.2.2.1.map iL) 3 1])
  (fun x=>x.2.2.2.2.n < ts.length/\x.2.2.1.length + x.1<=ts.length + 1/\x.2.2.2.1.length + x.1<=ts.length + 1/\(x.2.1=true->ts.length < x.2.2.2.2.n + x.1)/\(bif x.2.1 then lY ts x.1 x.2.2.1 x.2.2.2.1 x.2.2.2.2 else ((x.2.2.1,x.2.2.2.1),x.2.2.2.2))=lY ts (ts.length + 1) [] [] z2)
  (fun x=>x.1) (.nilc 5 1 9 1 _ _ rfl rfl (.nilc 5 2 3 1 _ _ rfl rfl (fN (ts.length + 1,true,[],[],z2) 8 ⟨hn2,by simp,by simp,fun _=>by simp only; omega,rfl⟩ ?_ ?_))) ?_
 · simp -dsimp only [go_sem]<;>simp
 · simp -dsimp only [go_sem]<;>simp
 rintro ⟨f,m,a,b,z⟩ ⟨h1,h2,h2',h3,h4⟩
 simp only at h1 h2 h2' h3 h4
 have fin:lY ts (ts.length + 1) [] [] z2=((a,b),z)->vc [(83,Entry.s qZ),(37,Entry.s kY),(36,Entry.s lK),(84,Entry.s uC)] 4 pc39_9.ungh
  (cU [(0,.va (.c1 (.pt 0 0))),(2,.va (.c1 (.pt 4 0))),(3,.va (.c1 (.pt 5 0)))]) [pB o z.bad z.off,dT 123 ts z.n,.row o.es 62 3,.row o.ss 56 2,.cells [.vl (.string (mk [])),.vl (.slice none 0 0),.vl (.slice none 0 0)] 62,.cells [.vl (.string nm),.sl 6 a.length,.sl 7 b.length] 62,.row (a.map cP) 9 1,.row (b.map iL) 3 1] (eT 4 GW K):=fun e=>by
  rw [e] at hK
  simp (maxSteps:=9^6) -dsimp only [go_sem,pc39_9,GW]
  refine fI ht h1 ?_
  rw [show bl (mk [125])=[125] from rfl]
  simp (maxSteps:=9^6) -dsimp only [go_sem]
  refine .pub 6 _ _ _ rfl (.pub 7 _ _ _ rfl (.sel [0,1,2,3] (by simp) (by simp [cG]) rfl (.done ?_)))
  simp (maxSteps:=9^6) -dsimp only [go_sem,cG]
  exact hK
 cases m with
 | false=>
  rw [aF] at h4
  simp (maxSteps:=9^6) -dsimp only [go_sem]
  refine cB 8 (fin h4.symm) ?_ ?_
  · simp -dsimp only [go_sem]<;>simp
  · simp -dsimp only [go_sem]<;>simp
 | true=>
  rw [aL] at h4
  have h3:=h3 rfl
  obtain ⟨f,rfl⟩:∃ g,f=g + 1:=⟨f - 1,by omega⟩
  rw [sO] at h4
  obtain ⟨bb,oo,n⟩:=z
  cases bb with
  | true=>
   rw [aL] at h4
   simp (maxSteps:=9^6) -dsimp only [go_sem]
   refine cB 8 (fin h4.symm) ?_ ?_
   · simp -dsimp only [go_sem]<;>simp
   · simp -dsimp only [go_sem]<;>simp
  | false=>
   clear fin
   rw [aF] at h4
   simp (maxSteps:=9^6) -dsimp only [go_sem]
   refine lF (z:=⟨false,oo,n⟩) ht h1 ?_
   have g1:=eE (c:=false) (z:=⟨false,oo,n⟩) h1
   unfold oO at h4
   generalize dC false ts ⟨false,oo,n⟩=w at *
   generalize cH false ts ⟨false,oo,n⟩=y1 at *
   simp (maxSteps:=9^6) -dsimp only [go_sem]
   refine ⟨by omega,a8 rfl (.done ?_)⟩
   simp (maxSteps:=9^6) -dsimp only [go_sem,AG]
   refine fI ht g1.2 ?_
   rw [show bl (mk [61])=[61] from rfl]
   have g2:=cK (w:=[61]) g1.2
   generalize bW [61] ts y1=y2 at *
   simp (maxSteps:=9^6) -dsimp only [go_sem]
   refine Gh.done ?_
   simp (maxSteps:=9^6) -dsimp only [go_sem]
   refine rO ht g2.2 ?_
   have g3:=mC (c:=false) g2.2
   generalize gV false ts y2=v at *
   generalize gT false ts y2=y3 at *
   simp (maxSteps:=9^6) -dsimp only [go_sem]
   refine ⟨by omega,a8 rfl (.done ?_)⟩
   simp (maxSteps:=9^6) -dsimp only [go_sem,BO]
   refine wP ht g3.2 ?_
   rw [show bl (mk [44])=[44] from rfl]
   cases hc:aT 4 [44] ts y3 with
   | true=>
    obtain ⟨q1,q2,q3⟩:=rE (by decide) ht.e g3.2 hc
    have e1:a6 4 [44] ts y3=⟨false,y3.off,y3.n + 1⟩:=by unfold a6; rw [hc,q1]; rfl
    rw [hc,aL,e1] at h4
    rw [e1]
    simp (maxSteps:=9^6) -dsimp only [go_sem]
    refine aG (f,true,a ++ [w],b ++ [v],⟨false,y3.off,y3.n + 1⟩) 8 ⟨q2,?_,?_,?_,h4⟩ (by simp) ?_ ?_
    · simp only [List.length_append,List.length_singleton]; omega
    · simp only [List.length_append,List.length_singleton]; omega
    · intro _
      simp only at g1 h3 ⊢
      omega
    · simp -dsimp only [go_sem]<;>simp
    · simp -dsimp only [go_sem]<;>simp
   | false=>
    rw [hc,aF] at h4
    rw [fC hc]
    simp (maxSteps:=9^6) -dsimp only [go_sem]
    refine aG (f,false,a ++ [w],b ++ [v],y3) 8 ⟨g3.2,?_,?_,fun h=>(by cases h),h4⟩ (by simp) ?_ ?_
    · simp only [List.length_append,List.length_singleton]; omega
    · simp only [List.length_append,List.length_singleton]; omega
    · simp -dsimp only [go_sem]<;>simp
    · simp -dsimp only [go_sem]<;>simp
end Go.Proofs.YtgogpogophflhaaGreatDoor
namespace Go.Proofs.YtgogpogophflhaaGreatDoor
open Go.W
attribute [-go_sem] d4 fR d6 iD eN
def LW (ts:List Tk) (z:Fs):Fs:=bW [58] ts (cH false ts (gT false ts z))
def MX (ts:List Tk) (z:Fs):Fs:=(kB ts (LW ts z)).2
def qH (ts:List Tk) (z:Fs):Fl × Fs:=(⟨gV false ts z,dC false ts (gT false ts z),(kB ts (LW ts z)).1,aT 4 [63] ts (MX ts z)⟩,bW [59] ts (a6 4 [63] ts (MX ts z)))
def oM (ts:List Tk):Nat->List Fl->Fs->List Fl × Fs
 | 0,l,z=>(l,z)
 | f + 1,l,z=>bif z.bad then (l,z) else bif aT 4 [125] ts z then (l,a6 4 [125] ts z) else bif (aW ts z.n).k != 2 then (l,dQ ts z) else oM ts f (l ++ [(qH ts z).1]) (qH ts z).2
theorem sM (ts:List Tk) (f:Nat) (l:List Fl) (z:Fs):oM ts (f + 1) l z=bif z.bad then (l,z) else bif aT 4 [125] ts z then (l,a6 4 [125] ts z) else bif (aW ts z.n).k != 2 then (l,dQ ts z) else oM ts f (l ++ [(qH ts z).1]) (qH ts z).2:=rfl
def iJ (ts:List Tk) (z:Fs):St × Fs:=(⟨dC true ts z,(oM ts (ts.length + 1) [] (bW [123] ts (cH true ts z))).1⟩,(oM ts (ts.length + 1) [] (bW [123] ts (cH true ts z))).2)
theorem RU {c:Bool} {ts:List Tk} {z:Fs} (he:Ends ts) (hn:z.n < ts.length) (h:kH c ts z=true):dP ts z.n=z.n + 1/\z.n + 1 < ts.length/\z.bad=false:=by
 unfold kH at h
 rw [Bool.and_eq_true,Bool.and_eq_true] at h
 obtain ⟨h1,h2,_⟩:=h
 have hb:z.bad=false:=by cases hb:z.bad with
  | false=>rfl
  | true=>rw [hb] at h1; cases h1
 have hne:¬ (z.n + 1=ts.length):=fun e=>by
  have:=(he.last _ _ (jL hn)).2 e
  rw [eq_of_beq h2] at this; cases this
 have hlt:z.n + 1 < ts.length:=by omega
 exact ⟨if_pos hlt,hlt,hb⟩
theorem G5 {ts:List Tk} {z:Fs} (h:z.n < ts.length):(gT false ts z).n<=(qH ts z).2.n/\(qH ts z).2.n < ts.length:=by
 have h1:=mC (c:=false) h
 have h2:=eE (c:=false) h1.2
 have h3:=cK (w:=[58]) h2.2
 have h4:=GJ h3.2
 have h5:=eK (k:=4) (w:=[63]) h4.2
 have h6:=cK (w:=[59]) h5.2
 unfold qH MX LW
 simp only
 omega
theorem LO {ts:List Tk}:∀ (f:Nat) (l:List Fl) (z:Fs),z.n < ts.length->z.n<=(oM ts f l z).2.n/\(oM ts f l z).2.n < ts.length
 | 0,l,z,h=>⟨Nat.le_refl _,h⟩
 | f + 1,l,z,h=>by
  rw [sM]
  cases z.bad
  · cases aT 4 [125] ts z
    · cases (aW ts z.n).k != 2
      · have h1:=G5 h
        have h0:=mC (c:=false) h
        have h3:=LO f (l ++ [(qH ts z).1]) _ h1.2
        rw [aF,aF,aF]
        omega
      · rw [aL,aF,aF,iM]; exact ⟨Nat.le_refl _,h⟩
    · exact eK h
  · exact ⟨Nat.le_refl _,h⟩
theorem MU {ts:List Tk} {z:Fs} (h:z.n < ts.length):z.n<=(iJ ts z).2.n/\(iJ ts z).2.n < ts.length:=by
 have h1:=eE (c:=true) h
 have h2:=cK (w:=[123]) h1.2
 have h3:=LO (ts.length + 1) [] _ h2.2
 unfold iJ
 simp only
 omega
def GK:W.Spec:=lM [] (fun ts z=>.va (.gs (aR (iJ ts z).1))) fun ts z=>(iJ ts z).2
theorem Q6 {o:Po} {ts:List Tk} {z:Fs} {K:S->Hp->Prop} (h1:Tks ts) (h2:z.n < ts.length) (hK:K (.va (.gs (aR (iJ ts z).1))) (pH o ts (iJ ts z).2)):GK [.va (.c1 (.pt 0 0))] (pH o ts z) K:=gS (V:=fun ts z=>.va (.gs (aR (iJ ts z).1))) (F:=fun ts z=>(iJ ts z).2) h1 h2 hK
theorem JQ:Meets Tryz.prog 40 GK:=by
 refine aI Tryz.func40 X9 1 (by rw [Tryz.ntmps40]; decide) (aA AA (aA tR (aA vC (aA MS (aA mK (aA lN (aA HL (aB _)))))))) (fun av H K h=>by obtain ⟨_,_,_,rfl,_⟩:=h; rfl) ?_
 rintro av H K ⟨o,ts,z0,rfl,rfl,ht,hn0,hK⟩
 have hK:K (.va (.gs (aR (iJ ts z0).1))) (pH o ts (iJ ts z0).2):=hK
 have hle:=ht.e.le
 unfold iJ at hK
 simp (maxSteps:=9^6) -dsimp only [go_sem,T5,G4]
 refine lF ht hn0 ?_
 have hn1:=(eE (c:=true) hn0).2
 simp only at hK
 generalize dC true ts z0=nm at *
 generalize cH true ts z0=z1 at *
 simp (maxSteps:=9^6) -dsimp only [go_sem]
 refine fI ht hn1 ?_
 rw [show bl (mk [123])=[123] from rfl]
 have hn2:=(cK (w:=[123]) hn1).2
 generalize bW [123] ts z1=z2 at *
 simp (maxSteps:=9^6) -dsimp only [go_sem]
 refine b8 (α:=Nat × List Fl × Fs) (fun x=>[(0,.va (.c1 (.pt 0 0))),(2,.va (.c1 (.pt 4 0))),(3,.va (.c1 (.pt 5 0)))])
  (fun x=>[pB o x.2.2.bad x.2.2.off,dT 123 ts x.2.2.n,.row o.es 62 3,.row o.ss 56 2,.cells [.vl (.string (mk [])),.vl (.slice none 0 0)] 56,.cells [.vl (.string nm),.sl 6 x.2.1.length] 56,.row (x.2.1.map bR) 64 7])
  (fun x=>x.2.2.n < ts.length/\x.2.1.length + x.1<=ts.length + 1/\ts.length < x.2.2.n + x.1/\oM ts x.1 x.2.1 x.2.2=oM ts (ts.length + 1) [] z2)
  (fun x=>x.1) (.nilc 5 1 64 7 _ _ rfl rfl (fN (ts.length + 1,[],z2) 7 ⟨hn2,by simp,by simp only; omega,rfl⟩ ?_ ?_)) ?_
 · simp -dsimp only [go_sem]<;>simp
 · simp -dsimp only [go_sem]<;>simp
 rintro ⟨f,l,z⟩ ⟨h1,h2,h3,h4⟩
 simp only at h1 h2 h3 h4
 obtain ⟨f,rfl⟩:∃ g,f=g + 1:=⟨f - 1,by omega⟩
 rw [sM] at h4
 have fin:∀ z',oM ts (ts.length + 1) [] z2=(l,z')->vc [(83,Entry.s qZ),(37,Entry.s kY),(36,Entry.s lK),(84,Entry.s uC),(38,Entry.s (d4 123)),(35,Entry.s kZ),(55,Entry.s (B8 kB))] 4 pc40_12.ungh
  (cU [(0,.va (.c1 (.pt 0 0))),(2,.va (.c1 (.pt 4 0))),(3,.va (.c1 (.pt 5 0)))]) [pB o z'.bad z'.off,dT 123 ts z'.n,.row o.es 62 3,.row o.ss 56 2,.cells [.vl (.string (mk [])),.vl (.slice none 0 0)] 56,.cells [.vl (.string nm),.sl 6 l.length] 56,.row (l.map bR) 64 7] (eT 4 G4 K):=fun z' e=>by
  rw [e] at hK
  simp (maxSteps:=9^6) -dsimp only [go_sem,pc40_12,G4]
  refine .pub 6 _ _ _ rfl (.sel [0,1,2,3] (by simp) (by simp [cG]) rfl (.done ?_))
  simp (maxSteps:=9^6) -dsimp only [go_sem,cG]
  exact hK
 obtain ⟨bb,oo,n⟩:=z
 cases bb with
 | true=>
  rw [aL] at h4
  simp (maxSteps:=9^6) -dsimp only [go_sem]
  refine cB 7 (fin _ h4.symm) ?_ ?_
  · simp -dsimp only [go_sem]<;>simp
  · simp -dsimp only [go_sem]<;>simp
 | false=>
 rw [aF] at h4
 simp (maxSteps:=9^6) -dsimp only [go_sem]
 refine wP (z:=⟨false,oo,n⟩) ht h1 ?_
 rw [show bl (mk [125])=[125] from rfl]
 cases hh:aT 4 [125] ts ⟨false,oo,n⟩ with
 | true=>
  rw [hh,aL] at h4
  simp (maxSteps:=9^6) -dsimp only [go_sem]
  refine cB 7 (fin _ h4.symm) ?_ ?_
  · simp -dsimp only [go_sem]<;>simp
  · simp -dsimp only [go_sem]<;>simp
 | false=>
 rw [hh,aF] at h4
 rw [fC hh]
 simp (maxSteps:=9^6) -dsimp only [go_sem]
 refine a8 rfl (.done ?_)
 simp (maxSteps:=9^6) -dsimp only [go_sem,BK]
 refine jH ht.e h1 ?_
 simp only at h4
 cases hk:(aW ts n).k != 2 with
 | true=>
  rw [hk,aL] at h4
  simp (maxSteps:=9^6) -dsimp only [go_sem,iP,hk]
  refine gA (z:=⟨false,oo,n⟩) ht h1 ?_
  simp (maxSteps:=9^6) -dsimp only [go_sem]
  refine cB 7 (fin _ h4.symm) ?_ ?_
  · simp -dsimp only [go_sem]<;>simp
  · simp -dsimp only [go_sem]<;>simp
 | false=>
 rw [hk,aF] at h4
 clear fin
 simp (maxSteps:=9^6) -dsimp only [go_sem,iP,hk]
 refine a8 rfl (.done ?_)
 simp (maxSteps:=9^6) -dsimp only [go_sem,CX]
 have hnu:kH false ts ⟨false,oo,n⟩=true:=by unfold kH; rw [bne_eq_false_iff_eq] at hk; simp [hk]
 obtain ⟨q1,q2,_⟩:=RU ht.e h1 hnu
 have q1:dP ts n=n + 1:=q1
 have hz1:gT false ts ⟨false,oo,n⟩=⟨false,oo,n + 1⟩:=by unfold gT; rw [hnu]; simp [q1]
 have hgo:=G5 h1
 rw [hz1] at hgo
 simp only at hgo
 unfold qH MX LW at h4 hgo
 rw [hz1] at h4 hgo
 refine rO (z:=⟨false,oo,n⟩) ht h1 ?_
 rw [hz1]
 generalize gV false ts ⟨false,oo,n⟩=v at *
 simp (maxSteps:=9^6) -dsimp only [go_sem]
 refine lF (z:=⟨false,oo,n + 1⟩) ht q2 ?_
 have g1:=eE (c:=false) (z:=⟨false,oo,n + 1⟩) q2
 generalize dC false ts ⟨false,oo,n + 1⟩=w at *
 generalize cH false ts ⟨false,oo,n + 1⟩=y1 at *
 simp (maxSteps:=9^6) -dsimp only [go_sem]
 refine a8 rfl (.done ?_)
 simp (maxSteps:=9^6) -dsimp only [go_sem,CL]
 refine fI ht g1.2 ?_
 rw [show bl (mk [58])=[58] from rfl]
 have g2:=cK (w:=[58]) g1.2
 generalize bW [58] ts y1=y2 at *
 simp (maxSteps:=9^6) -dsimp only [go_sem]
 refine a8 rfl (.done ?_)
 simp (maxSteps:=9^6) -dsimp only [go_sem,BY]
 refine C5 ht g2.2 ?_
 have g3:=GJ g2.2
 generalize kB ts y2=r at *
 obtain ⟨t,y3⟩:=r
 simp only at h4 hgo g3 ⊢
 simp (maxSteps:=9^6) -dsimp only [go_sem,aQ t]
 refine a8 rfl (.done ?_)
 simp (maxSteps:=9^6) -dsimp only [go_sem,AR]
 refine wP ht g3.2 ?_
 rw [show bl (mk [63])=[63] from rfl]
 have g4:=eK (k:=4) (w:=[63]) g3.2
 generalize aT 4 [63] ts y3=op at *
 generalize a6 4 [63] ts y3=y4 at *
 simp (maxSteps:=9^6) -dsimp only [go_sem]
 refine a8 rfl (.done ?_)
 simp (maxSteps:=9^6) -dsimp only [go_sem,xE]
 refine fI ht g4.2 ?_
 rw [show bl (mk [59])=[59] from rfl]
 have g5:=cK (w:=[59]) g4.2
 generalize bW [59] ts y4=y5 at *
 simp (maxSteps:=9^6) -dsimp only [go_sem]
 refine a8 rfl (.done ?_)
 simp (maxSteps:=9^6) -dsimp only [go_sem,wV]
 refine ⟨by omega,aG (f,l ++ [⟨v,w,t,op⟩],y5) 7 ⟨g5.2,?_,?_,h4⟩ (by simp) ?_ ?_⟩
 · simp only [List.length_append,List.length_singleton]; omega
 · simp only at g1 h3 ⊢; omega
 · simp -dsimp only [go_sem]<;>simp
 · simp -dsimp only [go_sem,bR]<;>simp
end Go.Proofs.YtgogpogophflhaaGreatDoor
namespace Go.W
open Go.RowKit
structure Stay (w w':World):Prop where
 os:w'.os=w.os
 out:w'.output=w.output
 size:w.heap.size<=w'.heap.size
 keep:∀ b:Nat,b < w.heap.size->w'.heap[b]? = w.heap[b]?
theorem Stay.kept {w w':World} (h:Stay w w') (may:MemPlace->Prop):w.keptBut w' may:=by
 refine ⟨h.os,h.out,fun i hi=>?_⟩
 rw [h.keep i hi]
 split
 · rename_i h1 h2; rw [h1] at h2; cases h2; exact ⟨rfl,rfl,rfl,fun _ _=>rfl⟩
 · rename_i h1 h2; rw [h1] at h2; cases h2; exact Or.inr ⟨rfl,rfl⟩
 · rfl
theorem Stay.frozen {w w':World} (h:Stay w w') {a:Addr} (ha:a.block < w.heap.size):w'.frozen? a=w.frozen? a:=by
 unfold World.frozen?; rw [h.keep _ ha]
theorem Stay.cell {w w':World} (h:Stay w w') {a:Addr} (ha:a.block < w.heap.size):w'.cell? a=w.cell? a:=by
 unfold World.cell?; rw [h.keep _ ha]
theorem PN {w:World} {ro:RO} (h:∀ (b off:Nat) (v:Value),ro b off=some v->w.cell? ⟨b,off,none⟩=some v) (hz:∀ b,ro.st b=0):Rel ⟨w,cX [],ro,gm []⟩ [] ro w where
 own:=fun n g blk h=>by simp at h
 inj:=fun n m gn gm bn bm b h=>by simp at h
 apart:=fun b off v _ n g blk h=>by simp at h
 rd:=fun b off v hv=>⟨h b off v hv,fun q=>absurd (hz b) q⟩
 ro0:=fun _ _ _ h=>⟨h,rfl⟩
 rob:=fun b off v h=>.inl h
 par:=fun n b g blk h=>by simp at h
 gx:=.refl _
 sz:=Nat.le_refl _
 keep:=fun b _ _=>rfl
 os:=rfl
 tape:=rfl
 output:=rfl
theorem Meets.run {P:Program} {f:FuncId} {s:Fun} (hm:Meets P f s.sp) {av:List S} {vs:List Value} {ro:RO} {w:World} {x:A} (hpre:s.pre av) (hval:s.val av=x) (hl:av.length=vs.length)
 (hrel:∀ (i:Nat) (x:S) (v:Value),av[i]? = some x->vs[i]? = some v->x.rel (gm []) ro v) (hro:∀ (b off:Nat) (v:Value),ro b off=some v->w.cell? ⟨b,off,none⟩=some v) (hG:GR P ro w) (hz:∀ b,ro.st b=0:=by intro _; rfl) :
 Calls P f vs.toArray w fun e w'=>∃ v γ ro',e=.returned v/\S.rel γ ro' (.va x) v/\Stay w w':=by
 subst hval
 refine (hm.2 av vs [] ro w (fun r H=>r=.va (s.val av)/\H=[]) hl hrel (PN hro hz) ⟨⟨hpre,rfl⟩,rfl,rfl⟩ hG).mono ?_
 rintro e w' ⟨r,v,E',ro',rfl,h1,⟨rfl,h2⟩,h3⟩
 exact ⟨v,_,ro',rfl,h1,h3.os,h3.output,h3.sz,fun b hb=>h3.keep b hb (by simp [cX])⟩
theorem Meets.yes {P:Program} {f:FuncId} {s:Fun} (hm:Meets P f s.sp) {av:List S} {vs:List Value} {ro:RO} {w:World} (hpre:s.pre av) (hval:s.val av=.c1 (.vl (.bool true))) (hl:av.length=vs.length)
 (hrel:∀ (i:Nat) (x:S) (v:Value),av[i]? = some x->vs[i]? = some v->x.rel (gm []) ro v) (hro:∀ (b off:Nat) (v:Value),ro b off=some v->w.cell? ⟨b,off,none⟩=some v) (hG:GR P ro w) (hz:∀ b,ro.st b=0:=by intro _; rfl) :
 Calls P f vs.toArray w fun e w'=>e=.returned (.bool true)/\Stay w w':=by
 refine (hm.run hpre hval hl hrel hro hG hz).mono ?_
 rintro e w' ⟨v,γ,ro',rfl,h1,h2⟩
 have:v=.bool true:=h1
 exact ⟨by rw [this],h2⟩
section
variable {H:Type} {enc:TypeId × Value->H} {P:Program}
theorem A5 {f:Func} {s:ChangeSpec} {apart fresh handsOn again:Bool} {W W':World} {args:Array Value} {v:Value} {ds gs:List (DataW H)} {before pa pv:List MemPlace}
 (hW:DataW.Whole enc P f.params.toList s.vars apart W args.toList ds gs before)
 (hres:∀ (b:Nat) (sp:Nat->Bool) (hd:Bool),DataW.TrodAll enc P W' b sp hd f.resultTypes.toList (v.resultList f.resultTypes.size) (s.fn H (ds ++ gs)).results [])
 (hargs:∀ sp:Nat->Bool,(∀ p ∈ before,sp p.block=true)->DataW.TrodAll enc P W' 0 sp true f.params.toList args.toList (s.fn H (ds ++ gs)).args pa)
 (hvars:∀ sp:Nat->Bool,(∀ p ∈ before,sp p.block=true)->DataW.TrodVars enc P W' sp s.vars (s.fn H (ds ++ gs)).vars pv)
 (hps:before=pa ++ pv) (hs:Stay W W')
 (hok:∀ (j:Nat) (t:TypeId) (r:Value),f.resultTypes[j]? = some t->(v.resultList f.resultTypes.size)[j]? = some r->Value.okWide P W' .any 0 t r) :
 s.post enc P f apart fresh handsOn again W args v W':=by
 have hlt:∀ p ∈ before,p.block < W.heap.size:=fun p hp=>hW.lt p hp
 have hsp:∀ p ∈ before,(fun b=>decide (b < W.heap.size)) p.block=true:=fun p hp=>by simpa using hlt p hp
 have hall:∀ p ∈ before,(fun _:Nat=>true) p.block=true:=fun _ _=>rfl
 obtain ⟨_,_,_,_,_,hz,hn⟩:=id hW
 refine ⟨ds,gs,before,[],pa,pv,hW,hres _ _ _,hargs _ hsp,hvars _ hsp,World.keptBut_mono (fun p hp=>⟨hp,.inr ?_⟩) (hs.kept (· ∈ before)),fun _=>⟨hok,_,_,([] ++ pa) ++ pv,
  ⟨[] ++ pa,pv,ChangeShapes.trodAll_append (hargs _ hall) (hres _ _ _),hvars _ hall,rfl,fun b off hp=>?_,fun ha=>?_⟩,fun p hp _=>?_⟩⟩
 · rw [hps,List.mem_append] at hp; exact hp
 · have hb:MemPlace.cell b off ∈ before:=by rw [hps]; simpa using hp
   rw [hs.frozen (hlt _ hb)]
   exact hz b off hb
 · have:=hn ha
   rw [hps] at this
   simpa using this
 · rw [hps]
   simpa using hp
end
def oZ:Nat->Code->Option (Code × Code)
 | 0,.seq x y=>some (x,y)
 | n + 1,.seq _ y=>oZ n y
 | _,_=>none
def rB:Nat->PC->Option (PC × PC)
 | 0,.seq _ y=>some (.skip,y)
 | n + 1,.seq x y=>(rB n y).map fun t=>(.seq x t.1,t.2)
 | _,_=>none
def pQ (Mid:Fr->Hp->Prop) (K:Ex->Fr->Hp->Prop):Ex->Fr->Hp->Prop
 | .n,fr,H=>Mid fr H
 | ex,fr,H=>K ex fr H
section
variable {P:Program} {N:Nat} {nw:Bool} {X:Ctx} {Γ:cN}
theorem HC {h:Hint} {x y:Code} {pc:PC} (hpc:tr P nw N h (.seq x y)=some pc):∃ px py,tr P nw N h x=some px/\tr P nw N h y=some py/\pc=.seq px py:=by
 simp only [tr] at hpc
 split at hpc
 · rename_i px py hx hy; exact ⟨px,py,hx,hy,(a7 hpc).symm⟩
 · cases hpc
theorem AP (hm:MeetsIn P X Γ) {h:Hint} {k0:Nat} (hk0:X.g0.length=k0) {K:Ex->Fr->Hp->Prop} {Mid:Fr->Hp->Prop} {Q:Exit->Act->World->Prop}
 (hQ:∀ ex fr' E' ro' a' w',ex ≠ .n->K ex fr' (hp E')->FRel N (gm E') ro' fr' a'->Rel X E' ro' w'->Q ex.to a' w') :
 ∀ (n:Nat) (c:Code) (pc pre post:PC) (r c2:Code),tr P nw N h c=some pc->oZ n c=some (r,c2)->rB n pc=some (pre,post)->
 tr P nw N h c2=some post/\∀ (fr:Fr) (E:Es) (ro:RO) (a:Act) (w:World),FRel N (gm E) ro fr a->Rel X E ro w->vc Γ k0 pre fr (hp E) (pQ Mid K)->
  (∀ fr' E' ro' a' w',Mid fr' (hp E')->FRel N (gm E') ro' fr' a'->Rel X E' ro' w'->r.wp P (Exit.then (c2.wp P Q) Q) a' w')->c.wp P Q a w
 | 0,.seq x y,pc,pre,post,r,c2,hpc,hc,hp=>by
  obtain ⟨px,py,hx,hy,rfl⟩:=HC hpc
  simp only [oZ,aC,Prod.mk.injEq] at hc
  simp only [rB,aC,Prod.mk.injEq] at hp
  obtain ⟨rfl,rfl⟩:=hc
  obtain ⟨rfl,rfl⟩:=hp
  refine ⟨hy,fun fr E ro a w hf hr hv hmid=>?_⟩
  simp only [vc] at hv
  exact wp_seq (hmid fr E ro a w hv hf hr)
 | n + 1,.seq x y,pc,pre,post,r,c2,hpc,hc,hp=>by
  obtain ⟨px,py,hx,hy,rfl⟩:=HC hpc
  simp only [oZ] at hc
  simp only [rB,Option.map_eq_some_iff,Prod.mk.injEq] at hp
  obtain ⟨⟨t1,t2⟩,ht,rfl,rfl⟩:=hp
  obtain ⟨h1,h2⟩:=AP hm hk0 hQ n y py t1 t2 r c2 hy hc ht
  refine ⟨h1,fun fr E ro a w hf hr hv hmid=>?_⟩
  simp only [vc] at hv
  refine wp_seq (n5 hm hk0 x px hx fr E ro a w _ hf hr hv _ ?_)
  intro ex fr' E' ro' a' w' hK hf' hr'
  cases ex with
  | n=>exact h2 fr' E' ro' a' w' hf' hr' hK hmid
  | e id=>exact hQ (.e id) _ _ _ _ _ (by simp) hK hf' hr'
  | r=>exact hQ .r _ _ _ _ _ (by simp) hK hf' hr'
theorem OO {f:FuncId} {o1 o2:Oper} {SP:Array TypeId} {id s d:Nat} {a:Act} {w:World} {v:Value} {Q:Exit->Act->World->Prop} {R:Ending->World->Prop} (h1:o1.op=.move (.tmp s)) (g1:o1.guard=none) (d1:o1.dst=some d)
 (h2:o2.op=.call { callee:=.value (.func f),args:=#[.tmp d],argTypes:=SP }) (g2:o2.guard=none) (hs:a.tmps.getD s undef=v) (hd:d < a.tmps.size) (he:j8 P f=true)
 (hc:Calls P f #[v] w R) (hR:∀ e w',R e w'->∃ u,e=.returned u/\Q .normal ((a.put o1.dst v).put o2.dst u) w'):(Code.region id #[o1,o2] false).wp P Q a w:=by
 refine wp_region_list ?_
 simp only [wpList]
 rw [if_pos (cW g1 _)]
 refine .inl ?_
 have r1:(execOp a.eval o1).run P w=.ok (.value v) w:=by simp [execOp,h1,Act.eval,hs]
 unfold Oper.wp
 rw [r1,Oper.upon_value,if_pos (cW g2 _)]
 refine .inl ?_
 have hv:(a.put o1.dst v).tmps.getD d undef=v:=by
  simp only [Act.put,d1]
  rw [Array.getD_eq_getD_getElem?,Array.getElem?_setIfInBounds_self_of_lt hd]; rfl
 have he':=j6 he #[v] w
 have r2:(execOp (a.put o1.dst v).eval o2).run P w=.ok (.enter f #[v]) w:=by
  simp [execOp,h2,resolve,Act.eval,hv,Deferred.ofValue,invoke,he']
 rw [r2,Oper.upon_enter]
 refine hc.mono fun e w' he=>?_
 obtain ⟨u,rfl,hq⟩:=hR e w' he
 exact hq
end
open Classical in
noncomputable def roG (P:Program) (ro:RO):RO:=⟨fun b off=>if off=0/\∃ x ∈ zU,P.globalNamed x.1=some b then ro b off else none,ro.st⟩
theorem FA (P:Program) (ro:RO):Ext (roG P ro) ro:=fun b off v h=>by
 simp only [roG] at h
 split at h
 · exact ⟨h,rfl⟩
 · cases h
theorem PI {P:Program} {ro:RO} {b off:Nat} {v:Value} (h:roG P ro b off=some v):off=0:=by
 simp only [roG] at h
 split at h
 · rename_i hc; exact hc.1
 · cases h
theorem GR.roG {P:Program} {ro:RO} {w:World} (h:GR P ro w):GR P (roG P ro) w:=fun x hx g hg=>⟨by
 obtain ⟨v,hv⟩:=(h x hx g hg).1
 refine ⟨v,?_⟩
 exact (if_pos ⟨rfl,x,hx,hg⟩).trans hv,(h x hx g hg).2⟩
theorem Rel.nilRo {w:World} {ro ro1:RO} {pb:List Nat} (h:Rel ⟨w,pb,ro,[]⟩ [] ro w) (he:Ext ro1 ro):Rel ⟨w,[],ro1,[]⟩ [] ro1 w where
 own:=fun n g blk h=>by simp at h
 inj:=fun n m gn gm bn bm b h=>by simp at h
 apart:=fun b off v _ n g blk h=>by simp at h
 rd:=fun b off v hv=>by
  have h1:=he b off v hv
  rw [<-h1.2]
  exact h.rd b off v h1.1
 ro0:=.refl _
 rob:=fun b off v h=>.inl h
 par:=fun n b g blk h=>by simp at h
 gx:=.refl _
 sz:=Nat.le_refl _
 keep:=fun b _ _=>rfl
 os:=rfl
 tape:=rfl
 output:=rfl
def yR (w:World) (ro ro':RO):RO:=⟨fun b off=>if b < w.heap.size then ro b off else ro' b off,fun b=>if b < w.heap.size then ro.st b else ro'.st b⟩
theorem Rel.widen {w w':World} {ro ro1 ro':RO} {E':Es} (h:Rel ⟨w,[],ro,[]⟩ [] ro w) (he:Ext ro1 ro) (k:Rel ⟨w,[],ro1,[]⟩ E' ro' w'):Ext ro' (yR w ro ro')/\Rel ⟨w,[],ro,[]⟩ E' (yR w ro ro') w':=by
 have hx:Ext ro' (yR w ro ro'):=fun b off v hv=>by
  simp only [yR]
  rcases k.rob b off v hv with h1 | ⟨h1 | h1,_⟩
  · have h2:=he b off v h1
    have hlt:=h.cell_lt h2.1
    rw [if_pos hlt,if_pos hlt]
    exact ⟨h2.1,h2.2.trans (k.ro0 b off v h1).2.symm⟩
  · have hlt:¬ b < w.heap.size:=Nat.not_lt.2 h1
    rw [if_neg hlt,if_neg hlt]; exact ⟨hv,rfl⟩
  · cases h1
 have hpar:∀ (n b:Nat) (g:Gb) (blk:B),E'[n]? = some (g,blk)->g.ob=some b->blk.live=true->¬ b < w.heap.size:=fun n b g blk h1 h2 h3=>by
  rcases k.par n b g blk h1 h2 h3 with q | q
  · exact Nat.not_lt.2 q
  · cases q
 refine ⟨hx,⟨fun n g blk hn=>?_,k.inj,fun b off v hv n g blk hn hb=>?_,fun b off v hv=>?_,fun b off v hv=>?_,fun b off v hv=>?_,k.par,k.gx,k.sz,k.keep,k.os,k.tape,k.output⟩⟩
 · by_cases hl:blk.live=true
   · exact (k.own n g blk hn).same (.refl _) hx fun _ _=>rfl
   · cases blk<;>simp [B.live] at hl; trivial
 · by_cases hl:blk.live=true
   · have hlt:=hpar n b g blk hn hb hl
     simp only [yR] at hv
     rw [if_neg hlt] at hv
     exact k.apart b off v hv n g blk hn hb
   · simpa using hl
 · simp only [yR] at hv ⊢
   split at hv
   · rename_i hlt
     rw [if_pos hlt]
     exact (h.rd b off v hv).same (k.keep b hlt (by simp))
   · rename_i hlt
     rw [if_neg hlt]
     exact k.rd b off v hv
 · have hlt:=h.cell_lt hv
   simp only [yR]
   rw [if_pos hlt,if_pos hlt]; exact ⟨hv,rfl⟩
 · simp only [yR] at hv ⊢
   split at hv
   · exact .inl hv
   · rename_i hlt
     rw [if_neg hlt]
     rcases k.rob b off v hv with h1 | ⟨_,h2⟩
     · exact absurd (h.cell_lt (he b off v h1).1) hlt
     · exact .inr ⟨.inl (Nat.not_lt.1 hlt),h2⟩
theorem IX {P:Program} {nw:Bool} {Γ:cN} {f:FuncId} {fn:Func} {c r c2:Code} {n:Nat} {pc pre post:PC} {rs:List RV} {h:Hint} (hf:P.funcs[f]? = some fn) (hb:fn.body=some c) (hpc:aY P nw h fn=some (pc,rs))
 (hcut:oZ n c=some (r,c2)) (hcp:rB n pc=some (pre,post)) (hm:eS P Γ) {s:Spec} (hlen:∀ az H K,s az H K->az.length<=fn.ntmps) (hH:∀ az H K,s az H K->H=[]/\∀ x ∈ az,∃ v,x=.va (.c1 (.vl v)))
 {Mid:(S->Hp->Prop)->Fr->Hp->Prop} (hs:∀ az K,s az [] K->vc Γ 0 pre (rQ az) [] (pQ (Mid K) (eT 0 rs K)))
 (hr:∀ (K:S->Hp->Prop) (w0:World) (ro0:RO) (fr:Fr) (E:Es) (ro:RO) (a:Act) (w:World),(∀ b off v,ro0 b off=some v->off=0/\b < w0.heap.size)->Mid K fr (hp E)->FRel fn.ntmps (gm E) ro fr a->Rel ⟨w0,[],ro0,[]⟩ E ro w->GR P ro w->
   ∀ Q:Exit->Act->World->Prop,(∀ fr' E' ro' a' w',vc Γ 0 post fr' (hp E') (eT 0 rs K)->FRel fn.ntmps (gm E') ro' fr' a'->Rel ⟨w0,[],ro0,[]⟩ E' ro' w'->Q .normal a' w')->r.wp P Q a w):Meets P f s:=by
 unfold aY at hpc
 split at hpc
 · cases hpc
 rename_i hnm
 rw [hb] at hpc
 simp only at hpc
 obtain ⟨hpc,hrs⟩:tr P nw fn.ntmps h c=some pc/\l0 P fn.results.toList=some rs:=by
  cases h1:tr P nw fn.ntmps h c with
  | none=>rw [h1] at hpc; cases hpc
  | some p1=>
   cases h2:l0 P fn.results.toList with
   | none=>rw [h1,h2] at hpc; cases hpc
   | some r1=>
    rw [h1,h2] at hpc
    simp only [aC,Prod.mk.injEq] at hpc
    exact ⟨congrArg some hpc.1,congrArg some hpc.2⟩
 refine ⟨by simp [j8,hf,hb,hnm],?_⟩
 intro az vs E ro w K hl hrel hr0 hsp hG
 obtain ⟨hE,hflat⟩:=hH az (hp E) K hsp
 have hE0:E=[]:=by cases E with
  | nil=>rfl
  | cons x r=>simp [hp] at hE
 subst hE0
 have hlN:=hlen az _ K hsp
 have hG1:=hG.roG
 have hr1:Rel ⟨w,[],roG P ro,[]⟩ [] (roG P ro) w:=hr0.nilRo (FA P ro)
 refine calls_of_wp hf hb ?_
 have hfr:FRel fn.ntmps (gm []) (roG P ro) (rQ az) { tmps:=vs.toArray ++ Array.replicate (fn.ntmps - vs.toArray.size) undef,defers:=[] }:=by
  refine ⟨by simp; omega,fun i=>?_,rfl⟩
  unfold rQ
  rw [List.getD_eq_getElem?_getD]
  cases hi:az[i]? with
  | none=>trivial
  | some x=>
   have hlt:i < vs.length:=by rw [<-hl]; exact (aV.1 hi).1
   have hv:vs[i]? = some vs[i]:=aZ hlt
   have:=hrel i x _ hi hv
   simp only [Option.getD_some]
   have he:(vs.toArray ++ Array.replicate (fn.ntmps - vs.toArray.size) undef).getD i undef=vs[i]:=by
    rw [Array.getD_eq_getD_getElem?,Array.getElem?_append_left (by simpa using hlt)]
    simp [hlt]
   simp only [he]
   obtain ⟨u,rfl⟩:=hflat x (bO hi)
   exact this
 have fin:∀ fr' E' ro' a' w',qK fr' (hp E') rs (fun l=>Fin 0 K (yC l).nf (hp E'))->FRel fn.ntmps (gm E') ro' fr' a'->Rel ⟨w,[],roG P ro,[]⟩ E' ro' w'->
  a'.defers=[]/\∃ v,(results fn a'.tmps).run P w'=.ok v w'/\∃ r v' E'' ro'',Ending.returned v=.returned v'/\S.rel (gm E'') ro'' r v'/\K r (hp E'')/\Rel ⟨w,cX [],ro,gm []⟩ E'' ro'' w':=by
  intro fr' E' ro' a' w' h1 h4 h5
  obtain ⟨l,us,h3,hrun,hus⟩:=pF h4 h5 hrs h1
  refine ⟨h4.defers,(if h:us.toArray.size=1 then us.toArray[0] else .tuple us.toArray),?_,?_⟩
  · simp only [rV,Array.mapM_eq_mapM_toList,Sem.run_bind,Sem.run_map,hrun,Result.andThen_ok,Sem.run_pure]
  · have hrel:(yC l).rel (gm E') ro' (if h:us.toArray.size=1 then us.toArray[0] else .tuple us.toArray):=by
     match l,us,hus with
     | [],us,hus=>have:=hus.nil_inv; subst this; exact ⟨[],rfl,.nil⟩
     | [y],us,hus=>
      obtain ⟨u,m',rfl,hy,hm'⟩:=hus.cons_inv
      have:=hm'.nil_inv
      subst this
      exact hy
     | y :: z :: r,us,hus=>
      have:¬ us.toArray.size=1:=by have:=hus.1; simp at this ⊢; omega
      rw [dif_neg this]
      exact ⟨us,rfl,hus⟩
    obtain ⟨r',E'',ro'',hK,hr',hR⟩:=yV (X:=⟨w,[],roG P ro,[]⟩) rfl h3 rfl (S.rel_nf hrel) h5
    obtain ⟨g1,g2⟩:=hr0.widen (FA P ro) hR
    exact ⟨r',_,E'',_,rfl,S.rel_mono (.refl _) g1 hr',hK,g2⟩
 have hmI:MeetsIn P ⟨w,[],roG P ro,[]⟩ Γ:=⟨hG1,fun x hx g hg hb=>(by cases hb),hm⟩
 have hQ:∀ ex fr' E' ro' a' w',eT 0 rs K ex fr' (hp E')->FRel fn.ntmps (gm E') ro' fr' a'->Rel ⟨w,[],roG P ro,[]⟩ E' ro' w'->bodyPost P fn (fun e w'=>∃ r v E' ro',e=.returned v/\S.rel (gm E') ro' r v/\K r (hp E')/\Rel ⟨w,cX [],ro,gm []⟩ E' ro' w') ex.to a' w':=by
  intro ex fr' E' ro' a' w' hK h4 h5
  cases ex with
  | n=>exact fin fr' E' ro' a' w' hK h4 h5
  | r=>exact fin fr' E' ro' a' w' hK h4 h5
  | e id=>exact hK.elim
 obtain ⟨q1,q2⟩:=AP hmI (X:=⟨w,[],roG P ro,[]⟩) rfl (K:=eT 0 rs K) (Mid:=Mid K) (Q:=bodyPost P fn _) (fun ex fr' E' ro' a' w' _ hK h4 h5=>hQ ex fr' E' ro' a' w' hK h4 h5) n c pc pre post r c2 hpc hcut hcp
 refine q2 _ [] _ _ _ hfr hr1 (hs az K hsp) fun fr' E' ro' a' w' h1 h2 h3=>?_
 refine hr K w (roG P ro) fr' E' ro' a' w' (fun b off v hv=>⟨PI hv,hr1.cell_lt hv⟩) h1 h2 h3 (hmI.at h3) _ fun fr2 E2 ro2 a2 w2 k1 k2 k3=>?_
 exact n5 hmI (X:=⟨w,[],roG P ro,[]⟩) rfl c2 post q1 fr2 E2 ro2 a2 w2 _ k2 k3 k1 _ hQ
end Go.W
namespace Go.Proofs.YtgogpogophflhaaGreatDoor
open Go.W
theorem wH {ro:RO} {xs:List (List C)} {v:Value} (h:FzR ro xs v) {i sz:Nat} {r:List C} (hr:xs[i]? = some r) (hz:r.length=sz) (hs:0 < sz) :
 ∃ b off cap,v=.slice (some ⟨b,off,none⟩) xs.length cap/\(ro.st b=0\/(ro.st b=sz/\off % sz=0))/\∀ k c,r[k]? = some c->∃ u,ro b (off + i * sz + k)=some u/\c.fv ro u:=by
 obtain ⟨b,off,cap,rfl,h2⟩:=H8 h hr hz
 refine ⟨b,off,cap,rfl,?_,h2⟩
 generalize hv:Value.slice (some ⟨b,off,none⟩) xs.length cap=v at h
 obtain ⟨_,sz',ob,oa,koa,cap',vs,k1,k2,k3,k4,k5,k6,k7,k8⟩:=h
 have hi:i < xs.length:=(aV.1 hr).1
 have hne:xs ≠ []:=fun e=>by subst e; simp at hi
 have hob:=k3 hne
 obtain rfl:=koa hne
 have hmem:=bO hr
 have hs':sz'=sz:=by rw [<-k1 r hmem,hz]
 subst hs'
 cases ob with
 | none=>simp at hob
 | some y=>
  simp only [oR,Option.map_some,Nat.add_zero,Value.slice.injEq,aC,Addr.mk.injEq] at hv
  obtain ⟨⟨rfl,rfl,_⟩,_,_⟩:=hv
  have hk:0 < r.length:=by omega
  have hfl:xs.flatten[i * sz' + 0]? = some r[0]:=by rw [fP k1 hi hs,hr]; exact aZ hk
  exact k8 _ _ hfl
theorem wA {ro ro2:RO} {xs ys:List (List C)} {v:Value} (h:FzR ro xs v) (hl:ys.length=xs.length) (hst:ro2.st=ro.st)
 (hy:∀ (i:Nat) (x y:List C),xs[i]? = some x->ys[i]? = some y->y.length=x.length/\∀ b off cap,v=.slice (some ⟨b,off,none⟩) xs.length cap->(ro.st b=0\/(ro.st b=x.length/\off % x.length=0))->
   ∀ (j:Nat) (c c':C) (u:Value),x[j]? = some c->y[j]? = some c'->ro b (off + i * x.length + j)=some u->c.fv ro u->∃ u',ro2 b (off + i * x.length + j)=some u'/\c'.fv ro2 u'/\c'.shut=true):FzR ro2 ys v:=by
 have hrow:∀ (i:Nat) (x:List C),xs[i]? = some x->0 < x.length->∃ b off cap,v=.slice (some ⟨b,off,none⟩) xs.length cap/\(ro.st b=0\/(ro.st b=x.length/\off % x.length=0))/\∀ k c,x[k]? = some c->∃ u,ro b (off + i * x.length + k)=some u/\c.fv ro u:=
  fun i x hx hp=>wH h hx rfl hp
 generalize hv:v=v' at h
 obtain ⟨_,sz,ob,oa,koa,cap,vs,k1,k2,k3,k4,k5,k6,k7,k8⟩:=h
 subst hv
 have hz:∀ y ∈ ys,y.length=sz:=fun y hm=>by
  obtain ⟨i,hi⟩:=List.mem_iff_getElem?.1 hm
  have hlt:=(aV.1 hi).1
  have hx:xs[i]? = some xs[i]:=aZ (by omega)
  rw [(hy i _ y hx hi).1]
  exact k1 _ (List.getElem_mem _)
 have hcell:∀ (k:Nat) (c':C),ys.flatten[k]? = some c'->∃ u,ro2 (ob.getD (0,0)).1 ((ob.getD (0,0)).2 + k)=some u/\c'.fv ro2 u/\c'.shut=true:=fun k c' hk=>by
  have hkl:k < ys.length * sz:=by
   have h1:=(aV.1 hk).1
   rwa [hZ _ hz] at h1
  have hsz:0 < sz:=Nat.pos_of_ne_zero fun e=>by subst e; omega
  have hi:k / sz < ys.length:=(Nat.div_lt_iff_lt_mul hsz).2 hkl
  have hj:=Nat.mod_lt k hsz
  have hg:=fP hz hi hj
  rw [Nat.mul_comm,Nat.div_add_mod,hk] at hg
  have hyi:ys[k / sz]? = some ys[k / sz]:=aZ hi
  have hi':k / sz < xs.length:=by rw [<-hl]; exact hi
  have hxi:xs[k / sz]? = some xs[k / sz]:=aZ hi'
  rw [hyi,Option.bind_some] at hg
  have hxl:(xs[k / sz]).length=sz:=k1 _ (List.getElem_mem _)
  obtain ⟨q1,q2⟩:=hy _ _ _ hxi hyi
  have hxp:0 < (xs[k / sz]).length:=by rw [hxl]; exact hsz
  obtain ⟨b,off,cp,e1,e2,e3⟩:=hrow _ _ hxi hxp
  have hjx:k % sz < (xs[k / sz]).length:=by rw [hxl]; exact hj
  have hxj:(xs[k / sz])[k % sz]? = some ((xs[k / sz])[k % sz]):=aZ hjx
  obtain ⟨u,e4,e5⟩:=e3 _ _ hxj
  obtain ⟨u',f1,f2,f3⟩:=q2 b off cp e1 e2 _ _ _ u hxj hg.symm e4 e5
  have hne:xs ≠ []:=fun e=>by
   rw [e] at hi'
   exact Nat.not_lt_zero _ hi'
  have hob:=k3 hne
  have hoa:=koa hne
  cases ob with
  | none=>simp at hob
  | some y=>
   rw [hoa] at e1
   simp only [oR,Option.map_some,Nat.add_zero,Value.slice.injEq,aC,Addr.mk.injEq] at e1
   obtain ⟨⟨e6,e7,_⟩,_,_⟩:=e1
   refine ⟨u',?_,f2,f3⟩
   simp only [Option.getD_some]
   rw [hxl,Nat.add_assoc,Nat.mul_comm,Nat.div_add_mod] at f1
   rw [e6,e7]; exact f1
 rw [<-hl]
 refine .mk ys sz ob oa (fun hne=>koa fun e=>hne (List.eq_nil_of_length_eq_zero (by rw [hl,e]; rfl))) cap (fun k=>(ro2 (ob.getD (0,0)).1 ((ob.getD (0,0)).2 + k)).getD undef) hz (by rw [hl]; exact k2) (fun hne=>k3 fun e=>hne (List.eq_nil_of_length_eq_zero (by rw [hl,e]; rfl)))
  (fun k c hk=>?_) (fun k u hk=>?_) (fun k zs hk=>?_) (fun c hc=>?_) (fun k c hk=>?_)
 · obtain ⟨u,h1,_,_⟩:=hcell k c hk
   rw [h1]; rfl
 · obtain ⟨u',h1,h2,_⟩:=hcell k _ hk
   have h2:u'=u:=h2
   simp only [h1,Option.getD_some]; exact h2
 · obtain ⟨u',h1,h2,_⟩:=hcell k _ hk
   have h2:FzR ro2 zs u':=h2
   simp only [h1,Option.getD_some]; exact h2
 · obtain ⟨k,hk⟩:=List.mem_iff_getElem?.1 hc
   exact (hcell k c hk).choose_spec.2.2
 · rw [hst]
   have hkl:k < xs.flatten.length:=by
    have h1:=(aV.1 hk).1
    rw [hZ _ hz] at h1
    rw [hZ _ k1,<-hl]; exact h1
   exact k8 k _ (aZ hkl)
structure TyAt (ro:RO) (b off:Nat) (t:Ty):Prop where
 k:ro b off=some (.int .i64 t.k)
 s:ro b (off + 1)=some (.int .i64 t.s)
 n:ro b (off + 2)=some (.string t.n)
 e:∃ v,ro b (off + 3)=some v/\FzR ro (t.e.map aM) v
 st:ro.st b=0\/(ro.st b=4/\off % 4=0)\/(ro.st b=7/\off % 7=2)
theorem HG {ro:RO} {l:List Ty} {v:Value} {i:Nat} {t:Ty} (h:FzR ro (l.map aM) v) (hi:l[i]? = some t):∃ b off cap,v=.slice (some ⟨b,off,none⟩) l.length cap/\TyAt ro b (off + i * 4) t:=by
 obtain ⟨b,off,cap,h1,h2,h3⟩:=wH h (i:=i) (sz:=4) (r:=aM t) (by rw [List.getElem?_map,hi]; rfl) (by rw [aQ]; rfl) (by decide)
 rw [List.length_map] at h1
 rw [aQ] at h3
 obtain ⟨u0,a0,b0⟩:=h3 0 _ rfl
 obtain ⟨u1,a1,b1⟩:=h3 1 _ rfl
 obtain ⟨u2,a2,b2⟩:=h3 2 _ rfl
 obtain ⟨u3,a3,b3⟩:=h3 3 _ rfl
 have b0:u0=_:=b0
 have b1:u1=_:=b1
 have b2:u2=_:=b2
 subst b0 b1 b2
 refine ⟨b,off,cap,h1,a0,a1,a2,⟨u3,a3,b3⟩,?_⟩
 rcases h2 with h2 | ⟨h2,h4⟩
 · exact .inl h2
 · exact .inr (.inl ⟨h2,by omega⟩)
theorem SE {ro:RO} {l:List Fl} {v:Value} {i:Nat} {f:Fl} (h:FzR ro (l.map bR) v) (hi:l[i]? = some f):∃ b off cap,v=.slice (some ⟨b,off,none⟩) l.length cap/\TyAt ro b (off + i * 7 + 2) f.ty:=by
 obtain ⟨b,off,cap,h1,h2,h3⟩:=wH h (i:=i) (sz:=7) (r:=bR f) (by rw [List.getElem?_map,hi]; rfl) rfl (by decide)
 rw [List.length_map] at h1
 obtain ⟨u0,a0,b0⟩:=h3 2 _ rfl
 obtain ⟨u1,a1,b1⟩:=h3 3 _ rfl
 obtain ⟨u2,a2,b2⟩:=h3 4 _ rfl
 obtain ⟨u3,a3,b3⟩:=h3 5 _ rfl
 have b0:u0=_:=b0
 have b1:u1=_:=b1
 have b2:u2=_:=b2
 subst b0 b1 b2
 refine ⟨b,off,cap,h1,a0,a1,a2,⟨u3,a3,b3⟩,?_⟩
 rcases h2 with h2 | ⟨h2,h4⟩
 · exact .inl h2
 · exact .inr (.inr ⟨h2,by omega⟩)
def wM (ns:List ByteArray) (n:ByteArray):Bool:=ns.any fun m=>decide (m=n)
mutual
def nA (ns:List ByteArray):Ty->Ty
 | .mk k s n e=>bif k == 5 then .mk k s n (GN ns e) else bif k == 6 && wM ns n then .mk 7 s n e else .mk k s n e
def GN (ns:List ByteArray):List Ty->List Ty
 | []=>[]
 | t :: r=>nA ns t :: GN ns r
end
def LB (ns:List ByteArray) (f:Fl):Fl:=⟨f.num,f.nm,nA ns f.ty,f.opt⟩
def oB (ns:List ByteArray) (s:St):St:=⟨s.nm,s.fs.map (LB ns)⟩
def yZ (d:List Int) (t0 t:Ty):Prop:=t=bJ d t0/\t0.k ≠ 5/\t0.e=[]
theorem sL {ns:List ByteArray} {t0:Ty}:∀ d:List Int,nA ns (bJ d t0)=bJ d (nA ns t0)
 | []=>rfl
 | s :: d=>by
  show nA ns (.mk 5 s (mk []) [bJ d t0])=.mk 5 s (mk []) [bJ d (nA ns t0)]
  rw [nA,GN,GN,sL d]; rfl
theorem A6 {ns:List ByteArray} {t:Ty} (h:t.k ≠ 5):nA ns t=bif t.k == 6 && wM ns t.n then .mk 7 t.s t.n t.e else t:=by
 cases t with
 | mk k s n e=>
  have h:k ≠ 5:=h
  rw [nA,beq_eq_false_iff_ne.2 h]; rfl
def InA (ro:RO) (t0:Ty):List Int->Nat->Nat->Nat->Nat->Prop
 | [],b,off,b',o'=>(b=b'/\off=o')/\TyAt ro b off t0
 | s :: d,b,off,b',o'=>TyAt ro b off (bJ (s :: d) t0)/\∃ b1 o1 cap,ro b (off + 3)=some (.slice (some ⟨b1,o1,none⟩) 1 cap)/\InA ro t0 d b1 o1 b' o'
theorem AX {ro:RO} {t0:Ty}:∀ (d:List Int) (b off:Nat),TyAt ro b off (bJ d t0)->∃ b' o',InA ro t0 d b off b' o'
 | [],b,off,h=>⟨b,off,⟨rfl,rfl⟩,h⟩
 | s :: d,b,off,h=>by
  obtain ⟨v,h1,h2⟩:=h.e
  have h2:FzR ro ([bJ d t0].map aM) v:=h2
  obtain ⟨b1,o1,cap,rfl,h3⟩:=HG h2 (i:=0) rfl
  obtain ⟨b',o',h4⟩:=AX d b1 (o1 + 0 * 4) h3
  rw [Nat.zero_mul,Nat.add_zero] at h4
  exact ⟨b',o',h,b1,o1,cap,h1,h4⟩
theorem InA.at {ro:RO} {t0:Ty}:∀ {d:List Int} {b off b' o':Nat},InA ro t0 d b off b' o'->TyAt ro b' o' t0
 | [],b,off,b',o',⟨⟨h1,h2⟩,h⟩=>by subst h1 h2; exact h
 | s :: d,b,off,b',o',⟨_,b1,o1,cap,_,h⟩=>h.at
theorem InA.fst {ro:RO} {t0:Ty}:∀ {d:List Int} {b off b' o':Nat},InA ro t0 d b off b' o'->TyAt ro b off (bJ d t0)
 | [],b,off,b',o',⟨⟨h1,h2⟩,h⟩=>h
 | s :: d,b,off,b',o',⟨h,_⟩=>h
theorem InA.uniq {ro:RO} {t0:Ty}:∀ {d:List Int} {b off b' o' b2 o2:Nat},InA ro t0 d b off b' o'->InA ro t0 d b off b2 o2->b'=b2/\o'=o2
 | [],b,off,b',o',b2,o2,⟨⟨h1,h2⟩,_⟩,⟨⟨h3,h4⟩,_⟩=>⟨h1.symm.trans h3,h2.symm.trans h4⟩
 | s :: d,b,off,b',o',b2,o2,⟨_,b1,o1,cap,e1,h⟩,⟨_,b3,o3,cap3,e2,h2⟩=>by
  rw [e1] at e2
  simp only [aC,Value.slice.injEq,Addr.mk.injEq] at e2
  obtain ⟨⟨rfl,rfl,_⟩,_,_⟩:=e2
  exact h.uniq h2
def iX (ns:List ByteArray) (ro:RO) (a:Nat × Nat):Prop:=
 ro a.1 a.2=some (.int .i64 6)/\(∃ m ∈ ns,ro a.1 (a.2 + 2)=some (.string m))/\((ro.st a.1=4/\a.2 % 4=0)\/(ro.st a.1=7/\a.2 % 7=2))
def mA (L:List (Nat × Nat)) (ro:RO):RO:=⟨fun b off=>if (b,off) ∈ L then some (.int .i64 7) else ro b off,ro.st⟩
theorem dG {L:List (Nat × Nat)} {ro:RO} {b off:Nat} (h:(b,off) ∉ L):mA L ro b off=ro b off:=if_neg h
theorem G8 {L:List (Nat × Nat)} {ro:RO} {b off:Nat} (h:(b,off) ∈ L):mA L ro b off=some (.int .i64 7):=if_pos h
section
variable {ns:List ByteArray} {ro:RO} {L:List (Nat × Nat)}
theorem BV {n:ByteArray}:wM ns n=true ↔ n ∈ ns:=by
 unfold wM
 rw [List.any_eq_true]
 constructor
 · rintro ⟨m,h1,h2⟩
   rw [<-of_decide_eq_true h2]; exact h1
 · exact fun h=>⟨n,h,decide_eq_true rfl⟩
theorem EF {xs:List (List C)} {v:Value} (hL:∀ a ∈ L,iX ns ro a) (h:FzR ro xs v) (hz:∀ x ∈ xs,x.length=1) (hv:∀ x ∈ xs,∀ c ∈ x,∃ u,c=.vl u):FzR (mA L ro) xs v:=by
 refine wA h rfl rfl fun i x y hx hy=>?_
 rw [hx] at hy
 obtain rfl:=a7 hy
 refine ⟨rfl,fun b off cap _ hst j c c' u h1 h2 h3 h4=>?_⟩
 rw [h1] at h2
 obtain rfl:=a7 h2
 have hxm:=bO hx
 obtain ⟨w,rfl⟩:=hv x hxm c (bO h1)
 refine ⟨u,?_,h4,rfl⟩
 rw [dG fun hin=>?_]
 · exact h3
 · have:=(hL _ hin).2.2
   rw [hz x hxm] at hst
   simp only at this
   omega
theorem DL {v:Value} (h:FzR ro [] v):FzR (mA L ro) [] v:=wA h rfl rfl fun i x y hx=>by simp at hx
structure Ty4 (ro:RO) (b off:Nat) (t:Ty):Prop where
 k:ro b off=some (.int .i64 t.k)
 s:ro b (off + 1)=some (.int .i64 t.s)
 n:ro b (off + 2)=some (.string t.n)
 e:∃ v,ro b (off + 3)=some v/\FzR ro (t.e.map aM) v
theorem Ty4.cell {b off:Nat} {t:Ty} (h:Ty4 ro b off t) {j:Nat} {c:C} (hc:(aM t)[j]? = some c):∃ u,ro b (off + j)=some u/\c.fv ro u/\c.shut=true:=by
 rw [aQ] at hc
 match j,hc with
 | 0,hc=>cases hc; exact ⟨_,h.k,rfl,rfl⟩
 | 1,hc=>cases hc; exact ⟨_,h.s,rfl,rfl⟩
 | 2,hc=>cases hc; exact ⟨_,h.n,rfl,rfl⟩
 | 3,hc=>cases hc; obtain ⟨v,h1,h2⟩:=h.e; exact ⟨v,h1,h2,rfl⟩
 | j + 4,hc=>cases hc
theorem tO {b off:Nat} {t:Ty} (hL:∀ a ∈ L,iX ns ro a) (h:TyAt ro b off t):(b,off + 1) ∉ L/\(b,off + 2) ∉ L/\(b,off + 3) ∉ L:=by
 have hs:=h.st
 refine ⟨fun hin=>?_,fun hin=>?_,fun hin=>?_⟩<;>(have:=(hL _ hin).2.2; simp only at this; omega)
theorem HM {t0:Ty} (hL:∀ a ∈ L,iX ns ro a) (h5:t0.k ≠ 5) (he:t0.e=[]):∀ (d:List Int) (b off b' o':Nat),InA ro t0 d b off b' o'->(t0.k=6->t0.n ∈ ns->(b',o') ∈ L)->Ty4 (mA L ro) b off (bJ d (nA ns t0))
 | [],b,off,b',o',⟨⟨h1,h2⟩,h⟩,hc=>by
  subst h1 h2
  obtain ⟨n1,n2,n3⟩:=tO hL h
  obtain ⟨v,hv,hf⟩:=h.e
  rw [he] at hf
  show Ty4 (mA L ro) b off (nA ns t0)
  rw [A6 h5]
  cases hk:t0.k == 6 && wM ns t0.n with
  | true=>
   rw [Bool.and_eq_true] at hk
   have hin:=hc (eq_of_beq hk.1) (BV.1 hk.2)
   exact ⟨G8 hin,by rw [dG n1]; exact h.s,by rw [dG n2]; exact h.n,v,by rw [dG n3]; exact hv,by
    show FzR _ (t0.e.map aM) v
    rw [he]; exact DL hf⟩
  | false=>
   have n0:(b,off) ∉ L:=fun hin=>by
    obtain ⟨m1,⟨m,hm,m2⟩,_⟩:=hL _ hin
    simp only at m1 m2
    rw [h.k] at m1
    rw [h.n] at m2
    have e1:t0.k=6:=by simpa using m1
    have e2:t0.n=m:=by simpa using m2
    rw [e1,e2] at hk
    rw [BV.2 hm] at hk
    cases hk
   exact ⟨by rw [dG n0]; exact h.k,by rw [dG n1]; exact h.s,by rw [dG n2]; exact h.n,v,by rw [dG n3]; exact hv,by
    show FzR _ (t0.e.map aM) v
    rw [he]; exact DL hf⟩
 | s :: d,b,off,b',o',⟨h,b1,o1,cap,h1,h2⟩,hc=>by
  obtain ⟨n1,n2,n3⟩:=tO hL h
  have n0:(b,off) ∉ L:=fun hin=>by
   have m1:=(hL _ hin).1
   simp only at m1
   rw [h.k] at m1
   have e1:(5:Int)=6:=by
    have:(bJ (s :: d) t0).k=6:=by simpa using m1
    exact this
   cases e1
  have ih:=HM hL h5 he d b1 o1 b' o' h2 hc
  obtain ⟨v,hv,hf⟩:=h.e
  rw [h1] at hv
  obtain rfl:=a7 hv
  refine ⟨by rw [dG n0]; exact h.k,by rw [dG n1]; exact h.s,by rw [dG n2]; exact h.n,_,by rw [dG n3]; exact h1,?_⟩
  have hf:FzR ro [aM (bJ d t0)] (.slice (some ⟨b1,o1,none⟩) 1 cap):=hf
  show FzR (mA L ro) [aM (bJ d (nA ns t0))] _
  refine wA hf rfl rfl fun i x y hx hy=>?_
  match i,hx,hy with
  | 0,hx,hy=>
   obtain rfl:=a7 hx
   obtain rfl:=a7 hy
   refine ⟨by rw [aQ,aQ]; rfl,fun b2 o2 cap2 e2 _ j c c' u k1 k2 k3 k4=>?_⟩
   simp only [Value.slice.injEq,aC,Addr.mk.injEq] at e2
   obtain ⟨⟨rfl,rfl,_⟩,_,_⟩:=e2
   have:=ih.cell k2
   rwa [Nat.zero_mul,Nat.add_zero]
  | i + 1,hx,hy=>cases hx
def FlOk (ns:List ByteArray) (L:List (Nat × Nat)) (ro:RO) (f:Fl) (b off:Nat):Prop:=∃ d t0,yZ d t0 f.ty/\∀ b' o',InA ro t0 d b off b' o'->t0.k=6->t0.n ∈ ns->(b',o') ∈ L
theorem U6 {fs:List Fl} {v:Value} (hL:∀ a ∈ L,iX ns ro a) (h:FzR ro (fs.map bR) v) (hc:∀ (i:Nat) (f:Fl) (b off cap:Nat),fs[i]? = some f->v=.slice (some ⟨b,off,none⟩) fs.length cap->FlOk ns L ro f b (off + i * 7 + 2)):FzR (mA L ro) ((fs.map (LB ns)).map bR) v:=by
 refine wA h (by simp) rfl fun i x y hx hy=>?_
 rw [List.getElem?_map] at hx
 rw [List.map_map,List.getElem?_map] at hy
 cases hf:fs[i]? with
 | none=>rw [hf] at hx; cases hx
 | some f=>
  rw [hf] at hx hy
  obtain rfl:=a7 hx
  obtain rfl:=a7 hy
  refine ⟨rfl,fun b off cap e hst j c c' u k1 k2 k3 k4=>?_⟩
  rw [List.length_map] at e
  have hst:ro.st b=0\/(ro.st b=7/\off % 7=0):=hst
  obtain ⟨b9,o9,c9,e9,hat⟩:=SE h hf
  rw [e] at e9
  simp only [Value.slice.injEq,aC,Addr.mk.injEq] at e9
  obtain ⟨⟨rfl,rfl,_⟩,_,_⟩:=e9
  obtain ⟨d,t0,⟨w1,w2,w3⟩,hin⟩:=hc i f b off cap hf e
  rw [w1] at hat
  obtain ⟨b',o',hA⟩:=AX d _ _ hat
  have h4:=HM hL w2 w3 d _ _ _ _ hA (hin b' o' hA)
  rw [<-sL,<-w1] at h4
  have e7:(bR f).length=7:=rfl
  rw [e7] at k3 ⊢
  have no:∀ m,m ≠ 2->m < 7->(b,off + i * 7 + m) ∉ L:=fun m hm hm7 hin=>by
   have:=(hL _ hin).2.2
   simp only at this
   omega
  match j,k1,k2,k3 with
  | 0,k1,k2,k3=>cases k1; cases k2; exact ⟨u,by rw [dG (no 0 (by decide) (by decide))]; exact k3,k4,rfl⟩
  | 1,k1,k2,k3=>cases k1; cases k2; exact ⟨u,by rw [dG (no 1 (by decide) (by decide))]; exact k3,k4,rfl⟩
  | 2,k1,k2,k3=>exact h4.cell (j:=0) (c:=c') (by rw [aQ]; exact k2)
  | 3,k1,k2,k3=>exact h4.cell (j:=1) (c:=c') (by rw [aQ]; exact k2)
  | 4,k1,k2,k3=>exact h4.cell (j:=2) (c:=c') (by rw [aQ]; exact k2)
  | 5,k1,k2,k3=>exact h4.cell (j:=3) (c:=c') (by rw [aQ]; exact k2)
  | 6,k1,k2,k3=>cases k1; cases k2; exact ⟨u,by rw [dG (no 6 (by decide) (by decide))]; exact k3,k4,rfl⟩
  | j + 7,k1,k2,k3=>cases k1
end
structure Cu (w:World) (L:List (Nat × Nat)) (wr:World):Prop where
 sz:w.heap.size<=wr.heap.size
 cell:∀ b off,b < w.heap.size->wr.cell? ⟨b,off,none⟩=if (b,off) ∈ L then some (.int .i64 7) else w.cell? ⟨b,off,none⟩
 fz:∀ b off,b < w.heap.size->wr.frozen? ⟨b,off,none⟩=w.frozen? ⟨b,off,none⟩
 keep:∀ b,b < w.heap.size->(∀ off,(b,off) ∉ L)->wr.heap[b]? = w.heap[b]?
 os:wr.os=w.os
 tape:wr.tape=w.tape
 output:wr.output=w.output
theorem Cu.refl (w:World):Cu w [] w:=⟨Nat.le_refl _,fun b off _=>by simp,fun _ _ _=>rfl,fun _ _ _=>rfl,rfl,rfl,rfl⟩
theorem Cu.alloc {w wr:World} {L:List (Nat × Nat)} (h:Cu w L wr) (o:Obj):Cu w L (wr.alloc o) where
 sz:=Nat.le_trans h.sz (by simp)
 cell:=fun b off hb=>by rw [World.cell?_alloc_lt wr o ⟨b,off,none⟩ (Nat.lt_of_lt_of_le hb h.sz)]; exact h.cell b off hb
 fz:=fun b off hb=>by
  have hlt:b < wr.heap.size:=Nat.lt_of_lt_of_le hb h.sz
  rw [<-h.fz b off hb]
  unfold World.frozen?
  rw [RowKit.Below.heap_alloc wr o b hlt]
 keep:=fun b hb hl=>by rw [RowKit.Below.heap_alloc wr o b (Nat.lt_of_lt_of_le hb h.sz)]; exact h.keep b hb hl
 os:=h.os
 tape:=h.tape
 output:=h.output
theorem Cu.set {w wr:World} {L:List (Nat × Nat)} (h:Cu w L wr) {b off:Nat} {u:Value} (hb:b < w.heap.size) (hc:w.cell? ⟨b,off,none⟩=some u):Cu w ((b,off) :: L) (wr.setCell ⟨b,off,none⟩ (.int .i64 7)) where
 sz:=by simpa using h.sz
 cell:=fun b' o' hb'=>by
  by_cases e:(b',o')=(b,off)
  · cases e
    have:∃ u',wr.cell? ⟨b,off,none⟩=some u':=by
     rw [h.cell b off hb]
     split
     · exact ⟨_,rfl⟩
     · exact ⟨u,hc⟩
    obtain ⟨u',hu'⟩:=this
    rw [World.cell?_setCell_same wr _ _ hu',if_pos (List.mem_cons_self ..)]
  · rw [World.cell?_setCell_other wr _ _ _ (fun e2=>e (by cases e2; rfl)),h.cell b' o' hb']
    by_cases hin:(b',o') ∈ L
    · rw [if_pos hin,if_pos (List.mem_cons_of_mem _ hin)]
    · rw [if_neg hin,if_neg (fun hm=>by rcases List.mem_cons.1 hm with h1 | h1; exact e h1; exact hin h1)]
 fz:=fun b' o' hb'=>by rw [World.frozen?_setCell]; exact h.fz b' o' hb'
 keep:=fun b' hb' hl=>by
  have hne:b' ≠ b:=fun e=>hl off (by rw [e]; exact List.mem_cons_self ..)
  rw [<-h.keep b' hb' fun o hin=>hl o (List.mem_cons_of_mem _ hin)]
  unfold World.setCell
  simp only [Array.getElem?_modify]
  rw [if_neg (fun e=>hne e.symm)]
 os:=h.os
 tape:=h.tape
 output:=h.output
theorem Cu.no {w wr:World} {L:List (Nat × Nat)} (h:Cu w L wr) {b off:Nat} {u:Value} (hb:b < w.heap.size) (hc:w.cell? ⟨b,off,none⟩=some u) (hn:(b,off) ∉ L):wr.cell? ⟨b,off,none⟩=some u:=by
 rw [h.cell b off hb,if_neg hn]; exact hc
structure Rs (ns:List ByteArray) (ro:RO) (w:World) (es:List En) (ss:List St) (aE aS:Option Nat):Prop where
 rd:∀ b off v,ro b off=some v->b < w.heap.size/\Rd (ro.st b) w b off v
 fr:∀ b off v,ro b off=some v->off ≠ 0->ro.st b ≠ 0
 e:∀ j e,es[j]? = some e->∃ b u1 u2,aE=some b/\b < w.heap.size/\(∀ v off,ro b off ≠ some v)/\w.cell? ⟨b,j * 3,none⟩=some (.string e.nm)/\w.cell? ⟨b,j * 3 + 1,none⟩=some u1/\w.cell? ⟨b,j * 3 + 2,none⟩=some u2/\(∃ o n c,u1=.slice o n c)/\∃ o n c,u2=.slice o n c
 s:∀ i s,ss[i]? = some s->∃ b u,aS=some b/\b < w.heap.size/\(∀ v off,ro b off ≠ some v)/\w.cell? ⟨b,i * 2 + 1,none⟩=some u/\FzR ro (s.fs.map bR) u
 w:∀ s ∈ ss,∀ f ∈ s.fs,∃ d t0,yZ d t0 f.ty
 n:ns=es.map En.nm
def DnF (ns:List ByteArray) (ro:RO) (L:List (Nat × Nat)) (s:St) (u:Value) (m:Nat):Prop:=∀ (k:Nat) (f:Fl) (b off cap:Nat),k < m->s.fs[k]? = some f->u=.slice (some ⟨b,off,none⟩) s.fs.length cap->FlOk ns L ro f b (off + k * 7 + 2)
def DnS (ns:List ByteArray) (ro:RO) (w:World) (L:List (Nat × Nat)) (ss:List St) (aS:Option Nat) (m:Nat):Prop:=∀ (i:Nat) (s:St) (b:Nat) (u:Value),i < m->ss[i]? = some s->aS=some b->w.cell? ⟨b,i * 2 + 1,none⟩=some u->DnF ns ro L s u s.fs.length
theorem FlOk.mono {ns:List ByteArray} {ro:RO} {L L':List (Nat × Nat)} {f:Fl} {b off:Nat} (h:FlOk ns L ro f b off) (hL:∀ a ∈ L,a ∈ L'):FlOk ns L' ro f b off:=by
 obtain ⟨d,t0,h1,h2⟩:=h
 exact ⟨d,t0,h1,fun b' o' k1 k2 k3=>hL _ (h2 b' o' k1 k2 k3)⟩
theorem DnF.mono {ns:List ByteArray} {ro:RO} {L L':List (Nat × Nat)} {s:St} {u:Value} {m:Nat} (h:DnF ns ro L s u m) (hL:∀ a ∈ L,a ∈ L'):DnF ns ro L' s u m:=fun k f b off cap h1 h2 h3=>(h k f b off cap h1 h2 h3).mono hL
theorem DnS.mono {ns:List ByteArray} {ro:RO} {w:World} {L L':List (Nat × Nat)} {ss:List St} {aS:Option Nat} {m:Nat} (h:DnS ns ro w L ss aS m) (hL:∀ a ∈ L,a ∈ L'):DnS ns ro w L' ss aS m:=fun i s b u h1 h2 h3 h4=>(h i s b u h1 h2 h3 h4).mono hL
theorem sP (b k:Nat):aU (some b) k=some ⟨b,k,none⟩:=rfl
theorem QN {ro:RO} {xs:List (List C)} {v:Value} (h:FzR ro xs v):∃ o c,v=.slice o xs.length c:=by cases h; exact ⟨_,_,rfl⟩
theorem Cu.loc {w w1 wr:World} {L:List (Nat × Nat)} {cs:Array Value} {T:TypeId} (h1:w1=w.alloc (.cells cs T)) (hL:∀ a ∈ L,a.1 < w.heap.size) (h:Cu w1 L wr) {j:Nat} {u:Value} (hc:cs[j]? = some u):wr.cell? ⟨w.heap.size,j,none⟩=some u:=by
 subst h1
 refine h.no (by simp) ?_ fun hin=>Nat.lt_irrefl _ (hL _ hin)
 rw [World.cell?_alloc_new]; exact hc
theorem Cu.old {w w1 wr:World} {L:List (Nat × Nat)} {o:Obj} (h1:w1=w.alloc o) (h:Cu w1 L wr):Cu w L wr where
 sz:=by subst h1; exact Nat.le_trans (by simp) h.sz
 cell:=fun b off hb=>by subst h1; rw [h.cell b off (by simp; omega),World.cell?_alloc_lt w o ⟨b,off,none⟩ hb]
 fz:=fun b off hb=>by
  subst h1
  rw [h.fz b off (by simp; omega)]
  unfold World.frozen?
  rw [RowKit.Below.heap_alloc w o b hb]
 keep:=fun b hb hl=>by subst h1; rw [h.keep b (by simp; omega) hl,RowKit.Below.heap_alloc w o b hb]
 os:=by subst h1; exact h.os
 tape:=by subst h1; exact h.tape
 output:=by subst h1; exact h.output
theorem Rs.lt {ns:List ByteArray} {ro:RO} {w:World} {es:List En} {ss:List St} {aE aS:Option Nat} (H:Rs ns ro w es ss aE aS) {L:List (Nat × Nat)} (hL:∀ a ∈ L,iX ns ro a):∀ a ∈ L,a.1 < w.heap.size:=fun a ha=>(H.rd _ _ _ (hL a ha).1).1
theorem Rs.outer {ns:List ByteArray} {ro:RO} {w w1 wr:World} {es:List En} {ss:List St} {aE aS:Option Nat} {L:List (Nat × Nat)} {m cE cS:Nat} {ver:Int} (H:Rs ns ro w es ss aE aS)
 (h1:w1=w.alloc (.cells #[.int .i64 ver,.slice (aU aE 0) es.length cE,.slice (aU aS 0) ss.length cS] 25)) (hL:∀ a ∈ L,iX ns ro a) (hC:Cu w1 L wr) (hm:m < ss.length) :
 ∃ s b o c,ss[m]? = some s/\aS=some b/\wr.cell? ⟨w.heap.size,2,none⟩=some (.slice (aU aS 0) ss.length cS)/\wr.cell? ⟨b,m * 2 + 1,none⟩=some (.slice o s.fs.length c)/\FzR ro (s.fs.map bR) (.slice o s.fs.length c)/\w.cell? ⟨b,m * 2 + 1,none⟩=some (.slice o s.fs.length c):=by
 obtain ⟨s,hs⟩:∃ s,ss[m]? = some s:=⟨_,aZ hm⟩
 obtain ⟨b,u,e1,e2,e3,e4,e5⟩:=H.s m s hs
 obtain ⟨o,c,rfl⟩:=QN e5
 rw [List.length_map] at e4 e5
 exact ⟨s,b,o,c,hs,e1,hC.loc h1 (H.lt hL) rfl,(hC.old h1).no e2 e4 fun hin=>e3 _ _ (hL _ hin).1,e5,e4⟩
theorem Rs.inner {ns:List ByteArray} {ro:RO} {w w1 wr:World} {es:List En} {ss:List St} {aE:Option Nat} {b:Nat} {L:List (Nat × Nat)} {m q cE cS c:Nat} {ver:Int} {o:Option Addr} {s:St} (H:Rs ns ro w es ss aE (some b))
 (h1:w1=w.alloc (.cells #[.int .i64 ver,.slice (aU aE 0) es.length cE,.slice (aU (some b) 0) ss.length cS] 25)) (hL:∀ a ∈ L,iX ns ro a) (hC:Cu w1 L wr) (hm:ss[m]? = some s) (hS:w.cell? ⟨b,m * 2 + 1,none⟩=some (.slice o s.fs.length c))
 (hF:FzR ro (s.fs.map bR) (.slice o s.fs.length c)) (hq:q < s.fs.length) :
 ∃ f bF oF d t0 b' o',s.fs[q]? = some f/\o=some ⟨bF,oF,none⟩/\wr.cell? ⟨w.heap.size,2,none⟩=some (.slice (aU (some b) 0) ss.length cS)/\wr.cell? ⟨b,m * 2 + 1,none⟩=some (.slice o s.fs.length c)/\yZ d t0 f.ty/\InA ro t0 d bF (oF + q * 7 + 2) b' o':=by
 obtain ⟨f,hf⟩:∃ f,s.fs[q]? = some f:=⟨_,aZ hq⟩
 obtain ⟨b2,u,e1,e2,e3,e4,e5⟩:=H.s m s hm
 cases e1
 obtain ⟨d,t0,hw⟩:=H.w s (bO hm) f (bO hf)
 obtain ⟨bF,oF,cap,h2,h3⟩:=SE hF hf
 simp only [Value.slice.injEq] at h2
 rw [hw.1] at h3
 obtain ⟨b',o',h4⟩:=AX d _ _ h3
 exact ⟨f,bF,oF,d,t0,b',o',hf,h2.1,hC.loc h1 (H.lt hL) rfl,(hC.old h1).no e2 hS fun hin=>e3 _ _ (hL _ hin).1,hw,h4⟩
theorem Rs.step {ns:List ByteArray} {ro:RO} {w w1 wr:World} {es:List En} {ss:List St} {aE aS:Option Nat} {L:List (Nat × Nat)} {o:Obj} {t0:Ty} {x:Int} {d:List Int} {b1 o1 b' o':Nat} (H:Rs ns ro w es ss aE aS)
 (h1:w1=w.alloc o) (hL:∀ a ∈ L,iX ns ro a) (hC:Cu w1 L wr) (hI:InA ro t0 (x :: d) b1 o1 b' o') :
 ∃ b3 o3 cap,wr.cell? ⟨b1,o1,none⟩=some (.int .i64 5)/\wr.cell? ⟨b1,o1 + 3,none⟩=some (.slice (some ⟨b3,o3,none⟩) 1 cap)/\InA ro t0 d b3 o3 b' o':=by
 obtain ⟨hT,b3,o3,cap,h2,h3⟩:=hI
 have hk:=hT.k
 have hlt:=(H.rd _ _ _ hk).1
 refine ⟨b3,o3,cap,(hC.old h1).no hlt (H.rd _ _ _ hk).2.1 fun hin=>?_,(hC.old h1).no hlt (H.rd _ _ _ h2).2.1 fun hin=>?_,h3⟩
 · have:=(hL _ hin).1
   simp only at this
   rw [hk] at this
   have h5:(bJ (x :: d) t0).k=5:=rfl
   rw [h5] at this
   cases this
 · have:=(hL _ hin).1
   simp only at this
   rw [h2] at this
   cases this
theorem Rs.last {ns:List ByteArray} {ro:RO} {w w1 wr:World} {es:List En} {ss:List St} {aE:Option Nat} {b cE cS:Nat} {ver:Int} {L:List (Nat × Nat)} {t0:Ty} {b1 o1 b' o':Nat} (H:Rs ns ro w es ss aE (some b))
 (h1:w1=w.alloc (.cells #[.int .i64 ver,.slice (aU aE 0) es.length cE,.slice (aU (some b) 0) ss.length cS] 25)) (hL:∀ a ∈ L,iX ns ro a) (hC:Cu w1 L wr) (h5:t0.k ≠ 5) (hI:InA ro t0 [] b1 o1 b' o') :
 ∃ kk,wr.cell? ⟨b1,o1,none⟩=some (.int .i64 kk)/\kk ≠ 5/\(b1=b'/\o1=o')/\wr.cell? ⟨w.heap.size,1,none⟩=some (.slice (aU aE 0) es.length cE)/\TyAt ro b' o' t0/\True:=by
 obtain ⟨⟨e1,e2⟩,hT⟩:=hI
 subst e1 e2
 have hlt:=(H.rd _ _ _ hT.k).1
 have hcell:=(hC.old h1).cell b1 o1 hlt
 by_cases hin:(b1,o1) ∈ L
 · rw [if_pos hin] at hcell
   exact ⟨7,hcell,by decide,⟨rfl,rfl⟩,hC.loc h1 (H.lt hL) rfl,hT,trivial⟩
 · rw [if_neg hin,(H.rd _ _ _ hT.k).2.1] at hcell
   exact ⟨t0.k,hcell,h5,⟨rfl,rfl⟩,hC.loc h1 (H.lt hL) rfl,hT,trivial⟩
def DnT (es:List En) (L:List (Nat × Nat)) (t0:Ty) (b o m:Nat):Prop:=∀ (j:Nat) (e:En),j < m->es[j]? = some e->t0.k=6->e.nm=t0.n->(b,o) ∈ L
theorem DnF.succ {ns:List ByteArray} {ro:RO} {L L':List (Nat × Nat)} {s:St} {m bF oF b' o' c:Nat} {f:Fl} {d:List Int} {t0:Ty} {es:List En} (h:DnF ns ro L s (.slice (some ⟨bF,oF,none⟩) s.fs.length c) m) (hL:∀ a ∈ L,a ∈ L') (hf:s.fs[m]? = some f) (hw:yZ d t0 f.ty)
 (hI:InA ro t0 d bF (oF + m * 7 + 2) b' o') (hn:ns=es.map En.nm) (hT:DnT es L' t0 b' o' es.length):DnF ns ro L' s (.slice (some ⟨bF,oF,none⟩) s.fs.length c) (m + 1):=by
 intro k g b off cap hk hg he
 rcases b5 k m with h1 | h1
 · exact (h k g b off cap h1 hg he).mono hL
 · obtain rfl:k=m:=by omega
   rw [hf] at hg
   obtain rfl:=a7 hg
   simp only [Value.slice.injEq,aC,Addr.mk.injEq] at he
   obtain ⟨⟨rfl,rfl,_⟩,_⟩:=he
   refine ⟨d,t0,hw,fun b2 o2 hI2 hk6 hnm=>?_⟩
   obtain ⟨rfl,rfl⟩:=hI.uniq hI2
   rw [hn] at hnm
   obtain ⟨e,hm,hen⟩:=List.mem_map.1 hnm
   obtain ⟨j,hj⟩:=List.mem_iff_getElem?.1 hm
   exact hT j e (aV.1 hj).1 hj hk6 hen
theorem DnS.succ {ns:List ByteArray} {ro:RO} {w:World} {L':List (Nat × Nat)} {ss:List St} {b m c:Nat} {o:Option Addr} {s:St} (h:DnS ns ro w L' ss (some b) m) (hs:ss[m]? = some s) (hc:w.cell? ⟨b,m * 2 + 1,none⟩=some (.slice o s.fs.length c))
 (hF:DnF ns ro L' s (.slice o s.fs.length c) s.fs.length):DnS ns ro w L' ss (some b) (m + 1):=by
 intro i s2 b2 u hi hs2 hb hu
 rcases b5 i m with h1 | h1
 · exact h i s2 b2 u h1 hs2 hb hu
 · obtain rfl:i=m:=by omega
   cases hb
   rw [hs] at hs2
   obtain rfl:=a7 hs2
   rw [hc] at hu
   obtain rfl:=a7 hu
   exact hF
theorem Rs.each {ns:List ByteArray} {ro:RO} {w w1 wr:World} {es:List En} {ss:List St} {aE:Option Nat} {b cE cS:Nat} {ver:Int} {L:List (Nat × Nat)} {t0:Ty} {b1 o1 j:Nat} (H:Rs ns ro w es ss aE (some b))
 (h1:w1=w.alloc (.cells #[.int .i64 ver,.slice (aU aE 0) es.length cE,.slice (aU (some b) 0) ss.length cS] 25)) (hL:∀ a ∈ L,iX ns ro a) (hC:Cu w1 L wr) (hT:TyAt ro b1 o1 t0) (hj:j < es.length) :
 ∃ e bE,∃ _:Unit,∃ o2 n2 c2 o3 n3 c3 kk,es[j]? = some e/\aE=some bE/\wr.cell? ⟨bE,j * 3,none⟩=some (.string e.nm)/\wr.cell? ⟨bE,j * 3 + 1,none⟩=some (.slice o2 n2 c2)/\wr.cell? ⟨bE,j * 3 + 2,none⟩=some (.slice o3 n3 c3)/\
  wr.cell? ⟨b1,o1,none⟩=some (.int .i64 kk)/\wr.cell? ⟨b1,o1 + 2,none⟩=some (.string t0.n)/\b1 < wr.heap.size/\wr.frozen? ⟨b1,o1,none⟩=false/\(((b1,o1) ∈ L/\kk=7)\/((b1,o1) ∉ L/\kk=t0.k)):=by
 obtain ⟨e,he⟩:∃ e,es[j]? = some e:=⟨_,aZ hj⟩
 obtain ⟨bE,u1,u2,e1,e2,e3,e4,e5,e6,⟨o2,n2,c2,rfl⟩,o3,n3,c3,rfl⟩:=H.e j e he
 have hO:=hC.old h1
 have no:∀ off,(bE,off) ∉ L:=fun off hin=>e3 _ _ (hL _ hin).1
 have hlt:=(H.rd _ _ _ hT.k).1
 have hst:ro.st b1 ≠ 0:=H.fr _ _ _ hT.s (by omega)
 have hfz:wr.frozen? ⟨b1,o1,none⟩=false:=by rw [hO.fz b1 o1 hlt]; exact (H.rd _ _ _ hT.k).2.2 hst
 have hnm:=hO.no hlt (H.rd _ _ _ hT.n).2.1 (tO hL hT).2.1
 have hcell:=hO.cell b1 o1 hlt
 have hsz:b1 < wr.heap.size:=Nat.lt_of_lt_of_le hlt hO.sz
 by_cases hin:(b1,o1) ∈ L
 · rw [if_pos hin] at hcell
   exact ⟨e,bE,(),o2,n2,c2,o3,n3,c3,7,he,e1,hO.no e2 e4 (no _),hO.no e2 e5 (no _),hO.no e2 e6 (no _),hcell,hnm,hsz,hfz,.inl ⟨hin,rfl⟩⟩
 · rw [if_neg hin,(H.rd _ _ _ hT.k).2.1] at hcell
   exact ⟨e,bE,(),o2,n2,c2,o3,n3,c3,t0.k,he,e1,hO.no e2 e4 (no _),hO.no e2 e5 (no _),hO.no e2 e6 (no _),hcell,hnm,hsz,hfz,.inr ⟨hin,rfl⟩⟩
theorem Cu.drewN {w wr:World} {L:List (Nat × Nat)} (h:Cu w L wr) (n:Nat):Cu w L (wr.drewN n):=⟨h.sz,h.cell,h.fz,h.keep,h.os,h.tape,h.output⟩
theorem V2 {a b:ByteArray} (h:(a.toList == b.toList)=true):a=b:=by
 have h1:=eq_of_beq h
 rw [j1,j1] at h1
 rw [<-jU a,h1,jU]
theorem V7 {a b:ByteArray} (h:(a.toList == b.toList)=false):a ≠ b:=fun e=>by
 rw [e,beq_self_eq_true] at h; cases h
theorem kk6 {p:Prop} {q:Prop} {t0:Ty} (h:(p/\(6:Int)=7)\/(q/\(6:Int)=t0.k)):t0.k=6:=by
 rcases h with ⟨_,h⟩ | ⟨_,h⟩
 · cases h
 · exact h.symm
theorem DnT.skip {es:List En} {L:List (Nat × Nat)} {t0:Ty} {b o m:Nat} {e:En} (h:DnT es L t0 b o m) (he:es[m]? = some e) (hn:t0.k=6->e.nm=t0.n->False):DnT es L t0 b o (m + 1):=by
 intro j e2 hj he2 hk hnm
 rcases b5 j m with h1 | h1
 · exact h j e2 h1 he2 hk hnm
 · obtain rfl:j=m:=by omega
   rw [he] at he2
   obtain rfl:=a7 he2
   exact (hn hk hnm).elim
theorem DnT.other {es:List En} {L:List (Nat × Nat)} {t0:Ty} {b o m:Nat} {kk:Int} (h:DnT es L t0 b o m) (hk:(((b,o) ∈ L/\kk=7)\/((b,o) ∉ L/\kk=t0.k))) (h6:¬ kk=6):DnT es L t0 b o (m + 1):=by
 intro j e2 hj he2 hk6 hnm
 rcases hk with ⟨hin,_⟩ | ⟨_,hk⟩
 · exact hin
 · exact absurd (hk.trans hk6) h6
theorem Rs.mark {ns:List ByteArray} {ro:RO} {w w1 wr:World} {es:List En} {ss:List St} {aE aS:Option Nat} {L:List (Nat × Nat)} {o:Obj} {t0:Ty} {b1 o1 j:Nat} {e:En} (H:Rs ns ro w es ss aE aS) (h1:w1=w.alloc o) (hL:∀ a ∈ L,iX ns ro a) (hC:Cu w1 L wr)
 (hT:TyAt ro b1 o1 t0) (he:es[j]? = some e) (hk:t0.k=6) (hn:t0.n=e.nm):(∀ a ∈ (b1,o1) :: L,iX ns ro a)/\Cu w1 ((b1,o1) :: L) (wr.setCell ⟨b1,o1,none⟩ (.int .i64 7)):=by
 have hst:ro.st b1 ≠ 0:=H.fr _ _ _ hT.s (by omega)
 have hlt:=(H.rd _ _ _ hT.k).1
 refine ⟨fun a ha=>?_,?_⟩
 · rcases List.mem_cons.1 ha with rfl | ha
   · refine ⟨by rw [<-hk]; exact hT.k,⟨e.nm,?_,by rw [<-hn]; exact hT.n⟩,?_⟩
     · rw [H.n]; exact List.mem_map.2 ⟨e,bO he,rfl⟩
     · rcases hT.st with h | h | h
       · exact absurd h hst
       · exact .inl h
       · exact .inr h
   · exact hL a ha
 · subst h1
   refine hC.set (u:=.int .i64 t0.k) (by simp; omega) ?_
   rw [World.cell?_alloc_lt w o ⟨b1,o1,none⟩ hlt]
   exact (H.rd _ _ _ hT.k).2.1
theorem BI (w:World) (bp:Nat) (ver:Int) (aE aS:Option Nat) (cE cS:Nat) (es:List En) (ss:List St) (ns:List ByteArray) (ro:RO) (H:Rs ns ro w es ss aE aS) (hlE:es.length<=1000000) (hlS:ss.length<=1000000) (hlF:∀ s ∈ ss,s.fs.length<=1000000) (h3:w.cell? ⟨bp,3,none⟩=some (.int .i64 ver)) (h4:w.cell? ⟨bp,4,none⟩=some (.slice (aU aE 0) es.length cE)) (h5:w.cell? ⟨bp,5,none⟩=some (.slice (aU aS 0) ss.length cS)) :
 Calls Tryz.prog 41 #[.pointer (some ⟨bp,0,none⟩)] w fun e w'=>e=.returned (.tuple #[])/\∃ L,(∀ a ∈ L,iX ns ro a)/\Cu w L w'/\DnS ns ro w L ss aS ss.length:=by
 go_enter Tryz.func41,Tryz.ntmps41
 have A:Aside (Rs ns ro w es ss aE aS/\∀ s ∈ ss,s.fs.length<=1000000):=⟨H,hlF⟩
 clear H hlF
 go_wp2
 obtain ⟨w1,hw1⟩:∃ w1,w1=w.alloc (.cells #[.int .i64 ver,.slice (aU aE 0) es.length cE,.slice (aU aS 0) ss.length cS] 25):=⟨_,rfl⟩
 rw [<-hw1]
 have A1:Aside (w1=w.alloc (.cells #[.int .i64 ver,.slice (aU aE 0) es.length cE,.slice (aU aS 0) ss.length cS] 25)):=hw1
 clear hw1
 go_loopg [15] ss.length (fun k i wr=>∃ m L,i=.int .i64 (m:Nat)/\m + k=ss.length/\Aside ((∀ a ∈ L,iX ns ro a)/\Cu w1 L wr/\DnS ns ro w L ss aS m))
 case atStart=>exact ⟨0,[],rfl,by simp,fun a h=>(by cases h),Cu.refl _,fun i s b u h=>(by omega)⟩
 case round=>
  obtain ⟨m,L,rfl,hm,hR⟩:=hrel
  by_cases hlt:m < ss.length
  · have B:=A.out.1.outer A1.out hR.out.1 hR.out.2.1 hlt
    obtain ⟨s,b,o,c,hx,rfl,q1,q2,q3,q4⟩:=B
    rw [sP] at q1 ⊢
    have q3':Aside (FzR ro (s.fs.map bR) (.slice o s.fs.length c)):=q3
    have hx':Aside (ss[m]? = some s):=hx
    have hlf:s.fs.length<=1000000:=A.out.2 s (bO hx)
    clear hx q3
    have hcS:Aside (w.cell? ⟨b,m * 2 + 1,none⟩=some (.slice o s.fs.length c)):=q4
    clear q4
    go_wp2
    obtain ⟨wo,rfl⟩:∃ wo:World,wo=wr:=⟨_,rfl⟩
    go_loopg [25] s.fs.length (fun k i wr=>∃ q L',i=.int .i64 (q:Nat)/\q + k=s.fs.length/\Aside ((∀ a ∈ L',iX ns ro a)/\Cu w1 L' wr/\DnS ns ro w L' ss (some b) m/\DnF ns ro L' s (.slice o s.fs.length c) q))
    case atStart=>exact ⟨0,L,rfl,by simp,hR.out.1,hR.out.2.1,hR.out.2.2,fun k f b off cap h=>(by omega)⟩
    case round=>
     obtain ⟨q,L',rfl,hq,hR'⟩:=hrel
     by_cases hlq:q < s.fs.length
     · have B:=A.out.1.inner A1.out hR'.out.1 hR'.out.2.1 hx'.out hcS.out q3'.out hlq
       obtain ⟨f,bF,oF,d,t0,b',o',hf,rfl,q5,q6,q7,q8⟩:=B
       have q8':Aside (s.fs[q]? = some f/\yZ d t0 f.ty/\InA ro t0 d bF (oF + q * 7 + 2) b' o'):=⟨hf,q7,q8⟩
       clear hf q7 q8 q1 q2
       rw [sP] at q5
       go_wp2
       obtain ⟨wi,rfl⟩:∃ wi:World,wi=wr:=⟨_,rfl⟩
       go_loopg [5] d.length (fun k v wr=>∃ d' b1 o1,v=.pointer (some ⟨b1,o1,none⟩)/\Aside (d'.length=k)/\Aside (InA ro t0 d' b1 o1 b' o')/\wr=wi)
       case atStart=>exact ⟨d,bF,_,rfl,rfl,q8'.out.2.2,rfl⟩
       case round=>
        obtain ⟨d',b1,o1,rfl,hd,hI,rfl⟩:=hrel
        match d',hd,hI with
        | x :: d2,hd,hI=>
         have B:=A.out.1.step A1.out hR'.out.1 hR'.out.2.1 hI.out
         obtain ⟨b3,o3,cap,q9,q10,q11⟩:=B
         have hI2:Aside (InA ro t0 d2 b3 o3 b' o'):=q11
         clear q11
         go_wp2
         go_roundg d2.length
         case rel=>exact ⟨d2,b3,o3,rfl,rfl,hI2.out,rfl⟩
         case measure=>have:=hd.out; simp only [List.length_cons] at this; omega
        | [],hd,hI=>
         have B:=A.out.1.last A1.out hR'.out.1 hR'.out.2.1 q8'.out.2.1.2.1 hI.out
         obtain ⟨kk,q9,q10,⟨rfl,rfl⟩,q12,q13,_⟩:=B
         have q13':Aside (TyAt ro b1 o1 t0):=q13
         clear q13
         go_wp2
         clear q9 q10 q12
         obtain ⟨wj,rfl⟩:∃ wj:World,wj=wr:=⟨_,rfl⟩
         go_loopg [50] es.length (fun k i wr=>∃ j L2,i=.int .i64 (j:Nat)/\j + k=es.length/\Aside ((∀ a ∈ L2,iX ns ro a)/\Cu w1 L2 wr/\(∀ a ∈ L',a ∈ L2)/\DnT es L2 t0 b1 o1 j))
         case atStart=>exact ⟨0,L',rfl,by simp,hR'.out.1,hR'.out.2.1,fun _ h=>h,fun i e h=>(by omega)⟩
         case round=>
          obtain ⟨j,L2,rfl,hj,hR2⟩:=hrel
          by_cases hlj:j < es.length
          · have B:=A.out.1.each A1.out hR2.out.1 hR2.out.2.1 q13'.out hlj
            obtain ⟨e,bE,u1,o2,n2,c2,o3,n3,c3,kk,hx2,rfl,r1,r2,r3,r4,r5,r6,r7,r8⟩:=B
            rw [sP]
            have hx2':Aside (es[j]? = some e/\(((b1,o1) ∈ L2/\kk=7)\/((b1,o1) ∉ L2/\kk=t0.k))):=⟨hx2,r8⟩
            clear hx2 r8
            by_cases h6:kk=6
            · subst h6
              go_wp2
              go_quiet (fail)
              go_wp2
              · rename_i hnm
                go_roundg (es.length - (j + 1))
                case rel=>
                 have e1:=kk6 hx2'.out.2
                 have e2:=V2 hnm
                 exact ⟨j + 1,(b1,o1) :: L2,by simp,by omega,(A.out.1.mark A1.out hR2.out.1 hR2.out.2.1 q13'.out hx2'.out.1 e1 e2).1,(A.out.1.mark A1.out hR2.out.1 ((hR2.out.2.1.alloc _).drewN _) q13'.out hx2'.out.1 e1 e2).2,fun a h=>List.mem_cons_of_mem _ (hR2.out.2.2.1 a h),fun _ _ _ _ _ _=>List.mem_cons_self ..⟩
                case measure=>omega
              · rename_i hnm
                go_roundg (es.length - (j + 1))
                case rel=>exact ⟨j + 1,L2,by simp,by omega,hR2.out.1,(hR2.out.2.1.alloc _).drewN _,hR2.out.2.2.1,hR2.out.2.2.2.skip hx2'.out.1 fun _ e=>V7 hnm e.symm⟩
                case measure=>omega
            · have hd:decide (kk=6)=false:=decide_eq_false h6
              have hd2:(kk == 6)=false:=beq_eq_false_iff_ne.2 h6
              go_wp2
              go_quiet (fail)
              go_wp2
              go_roundg (es.length - (j + 1))
              case rel=>exact ⟨j + 1,L2,by simp,by omega,hR2.out.1,(hR2.out.2.1.alloc _).drewN _,hR2.out.2.2.1,hR2.out.2.2.2.other hx2'.out.2 h6⟩
              case measure=>omega
          · obtain rfl:j=es.length:=by omega
            go_wp2
            go_roundg (s.fs.length - (q + 1))
            case rel=>exact ⟨q + 1,L2,by simp,by omega,hR2.out.1,hR2.out.2.1,hR'.out.2.2.1.mono hR2.out.2.2.1,hR'.out.2.2.2.succ hR2.out.2.2.1 q8'.out.1 q8'.out.2.1 q8'.out.2.2 A.out.1.n hR2.out.2.2.2⟩
            case measure=>omega
     · obtain rfl:q=s.fs.length:=by omega
       go_wp2
       go_roundg (ss.length - (m + 1))
       case rel=>exact ⟨m + 1,L',by simp,by omega,hR'.out.1,hR'.out.2.1,hR'.out.2.2.1.succ hx'.out hcS.out hR'.out.2.2.2⟩
       case measure=>omega
  · obtain rfl:m=ss.length:=by omega
    go_wp2
    exact bodyPost_end (results_none rfl _ _ _) rfl ⟨rfl,L,hR.out.1,hR.out.2.1.old A1.out,hR.out.2.2⟩
theorem AC {α β:Type} {R S:α->β->Prop} {l:List α} {m:List β} (h:All2 R l m) (hi:∀ x ∈ l,∀ y,R x y->S x y):All2 S l m:=⟨h.1,fun i x y hx hy=>hi x (bO hx) y (h.2 i x y hx hy)⟩
def ind:C->Bool
 | .fz _ | .fp _ _ | .fn _ _ | .fm _ _=>false
 | _=>true
theorem PH {γ:List Gb} {ro ro2:RO} {c:C} {v:Value} (hc:ind c=true) (h:c.rel γ ro v):c.rel γ ro2 v:=by
 cases c<;>first | exact h | cases hc
theorem A3 {γ:List Gb} {ro ro2:RO} {cs:List C} {vs:List Value} (hc:cs.all ind=true) (h:All2 (C.rel γ ro) cs vs):All2 (C.rel γ ro2) cs vs:=
 AC h fun x hx y hr=>PH (List.all_eq_true.1 hc x hx) hr
theorem E9 {l:List St} {i:Nat} {s:St} (h:l[i]? = some s) (j:Nat) (hj:j < 2):(l.map aR).flatten[i * 2 + j]? = (aR s)[j]?:=by
 rw [fP (sz:=2) (fun x hx=>by obtain ⟨y,_,rfl⟩:=List.mem_map.1 hx; rfl) (by rw [List.length_map]; exact (aV.1 h).1) hj,List.getElem?_map,h]; rfl
theorem xI {l:List En} {i:Nat} {e:En} (h:l[i]? = some e) (j:Nat) (hj:j < 3):(l.map bB).flatten[i * 3 + j]? = (bB e)[j]?:=by
 rw [fP (sz:=3) (fun x hx=>by obtain ⟨y,_,rfl⟩:=List.mem_map.1 hx; rfl) (by rw [List.length_map]; exact (aV.1 h).1) hj,List.getElem?_map,h]; rfl
theorem ES {ns:List ByteArray} {ro:RO} {L:List (Nat × Nat)} (hL:∀ a ∈ L,iX ns ro a):∀ (ss:List St) (vs:List Value),All2 (C.fv ro) (ss.map aR).flatten vs->(∀ (i:Nat) (s:St) (u:Value),ss[i]? = some s->vs[i * 2 + 1]? = some u->DnF ns ro L s u s.fs.length)->
 All2 (C.fv (mA L ro)) ((ss.map (oB ns)).map aR).flatten vs
 | [],vs,h,_=>by
  have h:All2 (C.fv ro) [] vs:=h
  obtain rfl:=h.nil_inv
  exact .nil
 | s :: ss,vs,h,hc=>by
  have h:All2 (C.fv ro) (.vl (.string s.nm) :: .fz (s.fs.map bR) :: (ss.map aR).flatten) vs:=h
  obtain ⟨v0,vs',rfl,a0,h⟩:=h.cons_inv
  obtain ⟨v1,vs',rfl,a1,h⟩:=h.cons_inv
  have a1:FzR ro (s.fs.map bR) v1:=a1
  have hd:=hc 0 s v1 rfl rfl
  refine All2.cons a0 (All2.cons ?_ (ES hL ss vs' h fun i s' u h1 h2=>hc (i + 1) s' u (by simpa using h1) (by rw [show (i + 1) * 2 + 1=i * 2 + 1 + 1 + 1 by omega]; simpa using h2)))
  show FzR (mA L ro) ((s.fs.map (LB ns)).map bR) v1
  exact U6 hL a1 fun i f b off cap h1 h2=>hd i f b off cap (aV.1 h1).1 h1 h2
theorem OX {ns:List ByteArray} {ro:RO} {L:List (Nat × Nat)} (hL:∀ a ∈ L,iX ns ro a) {es:List En} {vs:List Value} (h:All2 (C.fv ro) (es.map bB).flatten vs):All2 (C.fv (mA L ro)) (es.map bB).flatten vs:=by
 refine AC h fun x hx y hr=>?_
 obtain ⟨r,hr1,hr2⟩:=List.mem_flatten.1 hx
 obtain ⟨e,_,rfl⟩:=List.mem_map.1 hr1
 simp only [bB,List.mem_cons,List.not_mem_nil,or_false] at hr2
 rcases hr2 with rfl | rfl | rfl
 · exact hr
 · have hr:FzR ro (e.ns.map cP) y:=hr
   refine EF hL hr (fun x hx=>by obtain ⟨z,_,rfl⟩:=List.mem_map.1 hx; rfl) fun x hx c hc=>?_
   obtain ⟨z,_,rfl⟩:=List.mem_map.1 hx
   exact ⟨_,List.mem_singleton.1 hc⟩
 · have hr:FzR ro (e.vs.map iL) y:=hr
   refine EF hL hr (fun x hx=>by obtain ⟨z,_,rfl⟩:=List.mem_map.1 hx; rfl) fun x hx c hc=>?_
   obtain ⟨z,_,rfl⟩:=List.mem_map.1 hx
   exact ⟨_,List.mem_singleton.1 hc⟩
theorem pI {X:Ctx} {E:Es} {ro:RO} {w:World} (h:Rel X E ro w) {n:Nat} {g:Gb} {xs:List (List C)} {T sz:Nat} (hn:E[n]? = some (g,.row xs T sz)) {k:Nat} {c:C} (hk:xs.flatten[k]? = some c) :
 ∃ b u,g.ob=some b/\b < w.heap.size/\(∀ v off,ro b off ≠ some v)/\g.vs[k]? = some u/\w.cell? ⟨b,k,none⟩=some u/\c.fv ro u:=by
 have hon:=h.own n g _ hn
 obtain ⟨h1,h2,h3,h4,hown,hrel,h7⟩:=hon
 obtain ⟨u,hu,hc⟩:=hrel.get hk
 have hxne:xs.length ≠ 0:=fun e=>by
  rw [List.eq_nil_of_length_eq_zero e] at hk; simp at hk
 cases hb:g.ob with
 | none=>
  exfalso
  rw [hb] at hown
  rcases hown.2 with ⟨_,h0⟩ | ⟨b,cap0,cur,hv,_⟩
  · exact hxne h0
  · simp [aU] at hv
 | some b=>
  refine ⟨b,u,rfl,(h.own n g _ hn).lt rfl hb,fun v off hv=>?_,hu,?_,hc⟩
  · have:=h.apart b off v hv n g _ hn hb
    simp [B.live] at this
  · rw [hb] at hown
    have:=World.ownsRow.cells (h:=hown) (g:=b) rfl k u hu
    rwa [dB,Nat.zero_add] at this
abbrev XH (ver:Int) (bad:Bool) (at_:Int) (nE nS:Nat):List C:=[.pt 1 0,.vl (.bool bad),.vl (.int .i64 at_),.vl (.int .i64 ver),.sl 3 nE,.sl 4 nS]
section
variable {w0 w:World} {ro0 ro:RO} {g0 g1 g2 g3 g4:Gb} {b1:B} {es:List En} {ss:List St} {ver at_:Int} {bad:Bool} {T0 T2 T3 T4:TypeId} {c0:List C}
abbrev A0 (g0 g1 g2 g3 g4:Gb) (b1:B) (c0:List C) (ver:Int) (bad:Bool) (at_:Int) (es:List En) (ss:List St) (T0 T2 T3 T4:TypeId):Es:=
 [(g0,.cells c0 T0),(g1,b1),(g2,.cells (XH ver bad at_ es.length ss.length) T2),(g3,.row (es.map bB) T3 3),(g4,.row (ss.map aR) T4 2)]
theorem VU (h:Rel ⟨w0,[],ro0,[]⟩ (A0 g0 g1 g2 g3 g4 b1 c0 ver bad at_ es ss T0 T2 T3 T4) ro w) (h0:∀ b off v,ro0 b off=some v->off=0/\b < w0.heap.size) (hw:∀ s ∈ ss,∀ f ∈ s.fs,∃ d t0,yZ d t0 f.ty):Rs (es.map En.nm) ro w es ss g3.ob g4.ob where
 rd:=fun b off v hv=>⟨h.cell_lt hv,h.rd b off v hv⟩
 fr:=fun b off v hv ho=>by
  rcases h.rob b off v hv with q | ⟨_,q⟩
  · exact absurd (h0 b off v q).1 ho
  · exact q
 e:=fun j e he=>by
  obtain ⟨b,u0,q1,q2,q3,q4,q5,q6⟩:=pI h (n:=3) rfl (xI he 0 (by decide))
  obtain ⟨b',u1,r1,r2,r3,r4,r5,r6⟩:=pI h (n:=3) rfl (xI he 1 (by decide))
  obtain ⟨b'',u2,s1,s2,s3,s4,s5,s6⟩:=pI h (n:=3) rfl (xI he 2 (by decide))
  rw [q1] at r1 s1
  cases r1
  cases s1
  have q6:u0=.string e.nm:=q6
  subst q6
  have r6:FzR ro (e.ns.map cP) u1:=r6
  have s6:FzR ro (e.vs.map iL) u2:=s6
  exact ⟨b,u1,u2,q1,q2,q3,q5,r5,s5,FzR.slice r6,FzR.slice s6⟩
 s:=fun i s hs=>by
  obtain ⟨b,u,q1,q2,q3,q4,q5,q6⟩:=pI h (n:=4) rfl (E9 hs 1 (by decide))
  exact ⟨b,u,q1,q2,q3,q5,q6⟩
 w:=hw
 n:=rfl
theorem KF (h:Rel ⟨w0,[],ro0,[]⟩ (A0 g0 g1 g2 g3 g4 b1 c0 ver bad at_ es ss T0 T2 T3 T4) ro w) :
 ∃ bp,g2.ob=some bp/\w.cell? ⟨bp,3,none⟩=some (.int .i64 ver)/\w.cell? ⟨bp,4,none⟩=some (.slice (aU g3.ob 0) es.length g3.cap)/\w.cell? ⟨bp,5,none⟩=some (.slice (aU g4.ob 0) ss.length g4.cap):=by
 obtain ⟨h1,bp,h2,h3,h4⟩:=h.own 2 g2 _ rfl
 have l3:=(h.own 3 g3 _ rfl).2.1
 have l4:=(h.own 4 g4 _ rfl).2.1
 rw [List.length_map] at l3 l4
 obtain ⟨u3,a3,r3⟩:=h4.get (i:=3) rfl
 obtain ⟨u4,a4,r4⟩:=h4.get (i:=4) rfl
 obtain ⟨u5,a5,r5⟩:=h4.get (i:=5) rfl
 have r3:u3=.int .i64 ver:=r3
 obtain ⟨k4,e4,_,_,_,f4⟩:=r4
 obtain ⟨k5,e5,_,_,_,f5⟩:=r5
 obtain rfl:g3=k4:=a7 e4
 obtain rfl:g4=k5:=a7 e5
 have cell:∀ (j:Nat) (u:Value),g2.vs[j]? = some u->w.cell? ⟨bp,j,none⟩=some u:=fun j u hu=>by
  unfold World.cell?
  rw [h3]
  simpa using hu
 refine ⟨bp,h2,cell 3 _ (by rw [a3,r3]),cell 4 _ (by rw [a4,f4 l3.symm]),cell 5 _ (by rw [a5,f5 l4.symm])⟩
theorem Y3 {L:List (Nat × Nat)} {w':World} (h:Rel ⟨w0,[],ro0,[]⟩ (A0 g0 g1 g2 g3 g4 b1 c0 ver bad at_ es ss T0 T2 T3 T4) ro w) (h0:∀ b off v,ro0 b off=some v->off=0/\b < w0.heap.size) (hc0:c0.all ind=true)
 (hL:∀ a ∈ L,iX (es.map En.nm) ro a) (hC:Cu w L w') (hD:DnS (es.map En.nm) ro w L ss g4.ob ss.length) :
 Rel ⟨w0,[],ro0,[]⟩ (A0 g0 g1 g2 g3 g4 .dead c0 ver bad at_ es (ss.map (oB (es.map En.nm))) T0 T2 T3 T4) (mA L ro) w':=by
 have hfresh:∀ a ∈ L,w0.heap.size<=a.1:=fun a ha=>by
  obtain ⟨_,⟨m,_,h2⟩,_⟩:=hL a ha
  rcases h.rob _ _ _ h2 with q | ⟨q | q,_⟩
  · have:=(h0 _ _ _ q).1; omega
  · exact q
  · cases q
 have hro:∀ b off v,mA L ro b off=some v->∃ v',ro b off=some v':=fun b off v hv=>by
  by_cases hin:(b,off) ∈ L
  · exact ⟨_,(hL _ hin).1⟩
  · rw [dG hin] at hv; exact ⟨v,hv⟩
 have hblk:∀ (n:Nat) (g:Gb) (blk:B) (b:Nat),(A0 g0 g1 g2 g3 g4 b1 c0 ver bad at_ es ss T0 T2 T3 T4)[n]? = some (g,blk)->g.ob=some b->blk.live=true->w'.heap[b]? = w.heap[b]?:=fun n g blk b hn hb hl=>by
  refine hC.keep b ((h.own n g blk hn).lt hl hb) fun off hin=>?_
  have:=h.apart b off _ (hL _ hin).1 n g blk hn hb
  rw [hl] at this; cases this
 have hlen:(ss.map (oB (es.map En.nm))).length=ss.length:=by rw [List.length_map]
 have old:∀ (n:Nat) (g:Gb) (blk:B),(A0 g0 g1 g2 g3 g4 .dead c0 ver bad at_ es (ss.map (oB (es.map En.nm))) T0 T2 T3 T4)[n]? = some (g,blk)->blk.live=true->∃ blk0,(A0 g0 g1 g2 g3 g4 b1 c0 ver bad at_ es ss T0 T2 T3 T4)[n]? = some (g,blk0)/\blk0.live=true:=fun n g blk hn hl=>by
  match n,hn with
  | 0,hn=>cases hn; exact ⟨_,rfl,rfl⟩
  | 1,hn=>cases hn; cases hl
  | 2,hn=>cases hn; exact ⟨_,rfl,rfl⟩
  | 3,hn=>cases hn; exact ⟨_,rfl,rfl⟩
  | 4,hn=>cases hn; exact ⟨_,rfl,rfl⟩
  | n + 5,hn=>cases hn
 refine ⟨fun n g blk hn=>?_,fun n m gn gm bn bm b hn hm en em ln lm=>?_,fun b off v hv n g blk hn hb=>?_,fun b off v hv=>?_,fun b off v hv=>?_,fun b off v hv=>?_,fun n b g blk hn hb hl=>?_,fun n g hn=>by simp at hn,Nat.le_trans h.sz hC.sz,fun b hb hp=>?_,hC.os.trans h.os,hC.tape.trans h.tape,hC.output.trans h.output⟩
 · match n,hn with
   | 0,hn=>
    cases hn
    obtain ⟨k1,b,k2,k3,k4⟩:=h.own 0 g0 _ rfl
    exact ⟨k1,b,k2,by rw [hblk 0 g0 _ b rfl k2 rfl]; exact k3,A3 hc0 k4⟩
   | 1,hn=>cases hn; trivial
   | 2,hn=>
    cases hn
    obtain ⟨k1,b,k2,k3,k4⟩:=h.own 2 g2 _ rfl
    refine ⟨k1,b,k2,by rw [hblk 2 g2 _ b rfl k2 rfl]; exact k3,?_⟩
    rw [hlen]
    exact A3 rfl k4
   | 3,hn=>
    cases hn
    obtain ⟨k1,k2,k3,k4,k5,k6,k7⟩:=h.own 3 g3 _ rfl
    refine ⟨k1,k2,k3,k4,?_,OX hL k6,k7⟩
    have hs:=B.On.same (w':=w') (h.own 3 g3 _ rfl) (.refl _) (.refl _) fun b hb=>hblk 3 g3 _ b rfl hb rfl
    exact hs.2.2.2.2.1
   | 4,hn=>
    cases hn
    have hs:=B.On.same (w':=w') (h.own 4 g4 _ rfl) (.refl _) (.refl _) fun b hb=>hblk 4 g4 _ b rfl hb rfl
    obtain ⟨k1,k2,k3,k4,k5,k6,k7⟩:=hs
    rw [List.length_map] at k2 k5
    refine ⟨k1,by rw [List.length_map,hlen]; exact k2,fun x hx=>?_,fun c hc=>?_,by rw [List.length_map,hlen]; exact k5,?_,k7⟩
    · obtain ⟨y,_,rfl⟩:=List.mem_map.1 hx; rfl
    · obtain ⟨r,hr1,hr2⟩:=List.mem_flatten.1 hc
      obtain ⟨y,_,rfl⟩:=List.mem_map.1 hr1
      simp only [aR,List.mem_cons,List.not_mem_nil,or_false] at hr2
      rcases hr2 with rfl | rfl<;>rfl
    · refine ES hL ss _ k6 fun i s u h1 h2=>?_
      obtain ⟨b,u',q1,q2,q3,q4,q5,q6⟩:=pI h (n:=4) rfl (E9 h1 1 (by decide))
      rw [q4] at h2
      obtain rfl:=a7 h2
      exact hD i s b u' (aV.1 h1).1 h1 q1 q5
   | n + 5,hn=>cases hn
 · obtain ⟨x,hx,lx⟩:=old n gn bn hn ln
   obtain ⟨y,hy,ly⟩:=old m gm bm hm lm
   exact h.inj n m gn gm x y b hx hy en em lx ly
 · by_cases hl:blk.live=true
   · obtain ⟨x,hx,lx⟩:=old n g blk hn hl
     obtain ⟨v',hv'⟩:=hro b off v hv
     have:=h.apart b off v' hv' n g x hx hb
     rw [lx] at this; cases this
   · simpa using hl
 · obtain ⟨v',hv'⟩:=hro b off v hv
   have hlt:=h.cell_lt hv'
   have hrd:=h.rd b off v' hv'
   refine ⟨?_,fun hst=>?_⟩
   · rw [hC.cell b off hlt]
     by_cases hin:(b,off) ∈ L
     · rw [G8 hin] at hv; rw [if_pos hin]; exact hv
     · rw [dG hin] at hv; rw [if_neg hin]; exact (h.rd b off v hv).1
   · rw [hC.fz b off hlt]; exact hrd.2 hst
 · have hno:(b,off) ∉ L:=fun hin=>Nat.lt_irrefl _ (Nat.lt_of_lt_of_le (h0 b off v hv).2 (hfresh _ hin))
   rw [dG hno]
   exact h.ro0 b off v hv
 · by_cases hin:(b,off) ∈ L
   · refine .inr ⟨.inl (hfresh _ hin),?_⟩
     have:=(hL _ hin).2.2
     show ro.st b ≠ 0
     simp only at this
     omega
   · rw [dG hin] at hv
     exact h.rob b off v hv
 · obtain ⟨x,hx,lx⟩:=old n g blk hn hl
   exact h.par n b g x hx hb lx
 · rw [hC.keep b (Nat.lt_of_lt_of_le hb h.sz) fun off hin=>Nat.lt_irrefl _ (Nat.lt_of_lt_of_le hb (hfresh _ hin))]
   exact h.keep b hb hp
end
theorem HE:bU 0:=⟨by decide,by decide⟩
theorem u9 {c:Bool} {ts:List Tk} {z:Fs} (h:Tks ts) (hn:z.n < ts.length):bU (gV c ts z):=by
 unfold gV
 cases kH c ts z
 · exact HE
 · exact (h.g _ (s7 hn)).i
theorem lH {c:Bool} {ts:List Tk} {z:Fs} (h:Tks ts) (hn:z.n < ts.length):(dC c ts z).size<=200:=by
 unfold dC
 cases gY c ts z
 · exact Nat.zero_le _
 · have:=(h.g _ (s7 hn)).len
   rw [aL,fY]
   exact this
def TyP (t:Ty):Prop:=∃ d t0,t=bJ d t0/\bU t0.k/\t0.k ≠ 5/\t0.e=[]/\t0.n.size<=200/\bU t0.s/\d.length<=4002/\∀ s ∈ d,bU s
structure FlP (f:Fl):Prop where
 n:bU f.num
 m:f.nm.size<=200
 t:TyP f.ty
structure StP (s:St):Prop where
 n:s.nm.size<=200
 l:s.fs.length<=4002
 f:∀ f ∈ s.fs,FlP f
structure EnP (e:En):Prop where
 n:e.nm.size<=200
 l:e.ns.length<=4002
 v:e.vs.length<=4002
 a:∀ n ∈ e.ns,n.size<=200
 b:∀ n ∈ e.vs,bU n
structure ScP (s:Sc):Prop where
 v:bU s.ver
 e:s.es.length<=4002
 l:s.ss.length<=4002
 a:∀ e ∈ s.es,EnP e
 b:∀ t ∈ s.ss,StP t
theorem FG {ts:List Tk} {z:Fs} (h:Tks ts) (hn:z.n < ts.length):∀ l:List Int,(∀ s ∈ l,bU s)->TyP (l7 ts z l).1
 | [],_=>⟨[],_,rfl,⟨by show (_:Int)<=6; decide,by show (6:Int)<=_; decide⟩,by show (6:Int) ≠ 5; decide,rfl,lH h hn,HE,by decide,fun s h=>by cases h⟩
 | s :: r,hl=>by
  rw [l7]
  cases aT 1 (pS s) ts z
  · cases decide (s < 64) && aT 1 (lZ s) ts z
    · exact FG h hn r fun s hs=>hl s (List.mem_cons_of_mem _ hs)
    · exact ⟨[],_,rfl,⟨by show (_:Int)<=3; decide,by show (3:Int)<=_; decide⟩,by show (3:Int) ≠ 5; decide,rfl,Nat.zero_le _,hl s (List.mem_cons_self ..),by decide,fun s h=>by cases h⟩
  · exact ⟨[],_,rfl,⟨by show (_:Int)<=2; decide,by show (2:Int)<=_; decide⟩,by show (2:Int) ≠ 5; decide,rfl,Nat.zero_le _,hl s (List.mem_cons_self ..),by decide,fun s h=>by cases h⟩
theorem E0 {ts:List Tk} {z:Fs} (h:Tks ts) (hn:z.n < ts.length):bU (jB ts z):=u9 h (cK hn).2
theorem O5 {ts:List Tk} {z:Fs} (h:Tks ts) (hn:z.n < ts.length):TyP (iU ts z).1:=by
 unfold iU
 cases aT 1 fM ts z
 · cases aT 1 wText ts z
   · exact FG h hn szs (by unfold szs bU; decide)
   · exact ⟨[],_,rfl,⟨by show (_:Int)<=4; decide,by show (4:Int)<=_; decide⟩,by show (4:Int) ≠ 5; decide,rfl,Nat.zero_le _,E0 h (eK hn).2,by decide,fun s h=>by cases h⟩
 · exact ⟨[],_,rfl,⟨by show (_:Int)<=1; decide,by show (1:Int)<=_; decide⟩,by show (1:Int) ≠ 5; decide,rfl,Nat.zero_le _,⟨by show (_:Int)<=0; decide,by show (0:Int)<=_; decide⟩,by decide,fun s h=>by cases h⟩
theorem LQ {ts:List Tk} (h:Tks ts):∀ (f:Nat) (d:List Int) (z:Fs),z.n < ts.length->(∀ s ∈ d,bU s)->(∀ s ∈ (jY ts f d z).1,bU s)/\(jY ts f d z).1.length<=d.length + f
 | 0,d,z,_,hd=>⟨hd,Nat.le_refl _⟩
 | f + 1,d,z,hn,hd=>by
  rw [jF]
  cases aT 1 dU ts z
  · exact ⟨hd,by show d.length<=_; omega⟩
  · have h1:=eK (k:=1) (w:=dU) hn
    have h2:=uS h1.2
    have h3:=LV h2.2
    have ih:=LQ h f (d ++ [jB ts (a6 1 dU ts z)]) _ h3.2 fun s hs=>by
     rcases List.mem_append.1 hs with hs | hs
     · exact hd s hs
     · rw [List.mem_singleton.1 hs]; exact E0 h h1.2
    rw [aL]
    refine ⟨ih.1,?_⟩
    have:=ih.2
    rw [List.length_append,List.length_singleton] at this
    omega
theorem LC {ts:List Tk} {z:Fs}:(iU ts z).1.k ≠ 5/\(iU ts z).1.e=[]:=by
 have hS:∀ l:List Int,(l7 ts z l).1.k ≠ 5/\(l7 ts z l).1.e=[]:=fun l=>by
  induction l with
  | nil=>exact ⟨by show (6:Int) ≠ 5; decide,rfl⟩
  | cons s r ih=>
   rw [l7]
   cases aT 1 (pS s) ts z
   · cases decide (s < 64) && aT 1 (lZ s) ts z
     · exact ih
     · exact ⟨by show (3:Int) ≠ 5; decide,rfl⟩
   · exact ⟨by show (2:Int) ≠ 5; decide,rfl⟩
 unfold iU
 cases aT 1 fM ts z
 · cases aT 1 wText ts z
   · exact hS szs
   · exact ⟨by show (4:Int) ≠ 5; decide,rfl⟩
 · exact ⟨by show (1:Int) ≠ 5; decide,rfl⟩
theorem TyP.leaf {t:Ty} (h:TyP t) (h5:t.k ≠ 5):bU t.k/\t.n.size<=200/\bU t.s:=by
 obtain ⟨d,t0,rfl,h1,h2,h3,h4,h6,_⟩:=h
 cases d with
 | nil=>exact ⟨h1,h4,h6⟩
 | cons s d=>exact absurd rfl h5
theorem FB {ts:List Tk} {z:Fs} (h:Tks ts) (hn:z.n < ts.length):TyP (kB ts z).1:=by
 have h1:=GM (ts.length + 1) [] z hn
 have h2:=LQ h (ts.length + 1) [] z hn fun s hs=>by cases hs
 have h3:=LC (ts:=ts) (z:=(jY ts (ts.length + 1) [] z).2)
 have h4:=(O5 h h1.2).leaf h3.1
 have h5:=h.e.le
 have h6:=h2.2
 simp only [List.length_nil] at h6
 exact ⟨_,_,rfl,h4.1,h3.1,h3.2,h4.2.1,h4.2.2,by omega,h2.1⟩
theorem WD {ts:List Tk} {z:Fs} (h:Tks ts) (hn:z.n < ts.length):FlP (qH ts z).1:=by
 have h1:=mC (c:=false) hn
 have h2:=eE (c:=false) h1.2
 have h3:=cK (w:=[58]) h2.2
 exact ⟨u9 h hn,lH h h1.2,FB h h3.2⟩
theorem M5 {ts:List Tk} (h:Tks ts):∀ (f:Nat) (l:List Fl) (z:Fs),z.n < ts.length->(∀ x ∈ l,FlP x)->(∀ x ∈ (oM ts f l z).1,FlP x)/\(oM ts f l z).1.length<=l.length + f
 | 0,l,z,_,hl=>⟨hl,Nat.le_refl _⟩
 | f + 1,l,z,hn,hl=>by
  rw [sM]
  cases z.bad
  · cases aT 4 [125] ts z
    · cases (aW ts z.n).k != 2
      · have ih:=M5 h f (l ++ [(qH ts z).1]) _ (G5 hn).2 fun x hx=>by
         rcases List.mem_append.1 hx with hx | hx
         · exact hl x hx
         · rw [List.mem_singleton.1 hx]; exact WD h hn
        rw [aF,aF,aF]
        refine ⟨ih.1,?_⟩
        have:=ih.2
        rw [List.length_append,List.length_singleton] at this
        omega
      · exact ⟨hl,by simp only [aL,aF]; omega⟩
    · exact ⟨hl,by simp only [aL,aF]; omega⟩
  · exact ⟨hl,by simp only [aL]; omega⟩
theorem WS {ts:List Tk} {z:Fs} (h:Tks ts) (hn:z.n < ts.length):StP (iJ ts z).1:=by
 have h1:=eE (c:=true) hn
 have h2:=cK (w:=[123]) h1.2
 have h3:=M5 h (ts.length + 1) [] _ h2.2 fun x hx=>by cases hx
 have h5:=h.e.le
 have h6:=h3.2
 simp only [List.length_nil] at h6
 refine ⟨lH h hn,?_,h3.1⟩
 unfold iJ
 simp only
 omega
theorem MZ {ts:List Tk} (h:Tks ts):∀ (f:Nat) (a:List ByteArray) (b:List Int) (z:Fs),z.n < ts.length->(∀ x ∈ a,x.size<=200)->(∀ x ∈ b,bU x)->
 ((∀ x ∈ (lY ts f a b z).1.1,x.size<=200)/\∀ x ∈ (lY ts f a b z).1.2,bU x)/\(lY ts f a b z).1.1.length<=a.length + f/\(lY ts f a b z).1.2.length<=b.length + f
 | 0,a,b,z,_,ha,hb=>⟨⟨ha,hb⟩,Nat.le_refl _,Nat.le_refl _⟩
 | f + 1,a,b,z,hn,ha,hb=>by
  have h1:=eE (c:=false) hn
  have h2:=cK (w:=[61]) h1.2
  have ha':∀ x ∈ a ++ [dC false ts z],x.size<=200:=fun x hx=>by
   rcases List.mem_append.1 hx with hx | hx
   · exact ha x hx
   · rw [List.mem_singleton.1 hx]; exact lH h hn
  have hb':∀ x ∈ b ++ [gV false ts (bW [61] ts (cH false ts z))],bU x:=fun x hx=>by
   rcases List.mem_append.1 hx with hx | hx
   · exact hb x hx
   · rw [List.mem_singleton.1 hx]; exact u9 h h2.2
  rw [sO]
  cases z.bad
  · cases aT 4 [44] ts (oO ts z)
    · refine ⟨⟨ha',hb'⟩,?_,?_⟩<;>(simp only [aF,List.length_append,List.length_singleton]; omega)
    · have ih:=MZ h f _ _ _ (eK (k:=4) (w:=[44]) (NA hn).2).2 ha' hb'
      rw [aF,aL]
      refine ⟨ih.1,?_,?_⟩
      · have:=ih.2.1; rw [List.length_append,List.length_singleton] at this; omega
      · have:=ih.2.2; rw [List.length_append,List.length_singleton] at this; omega
  · exact ⟨⟨ha,hb⟩,by simp only [aL]; omega,by simp only [aL]; omega⟩
theorem WT {ts:List Tk} {z:Fs} (h:Tks ts) (hn:z.n < ts.length):EnP (gU ts z).1:=by
 have h1:=eE (c:=true) hn
 have h2:=cK (w:=[123]) h1.2
 have h3:=MZ h (ts.length + 1) [] [] _ h2.2 (fun x hx=>by cases hx) fun x hx=>by cases hx
 have h5:=h.e.le
 have h6:=h3.2
 simp only [List.length_nil] at h6
 exact ⟨lH h hn,by unfold gU; simp only; omega,by unfold gU; simp only; omega,h3.1.1,h3.1.2⟩
theorem TyP.wrp {t:Ty} (h:TyP t):∃ d t0,yZ d t0 t:=by
 obtain ⟨d,t0,h1,_,h2,h3,_⟩:=h
 exact ⟨d,t0,h1,h2,h3⟩
theorem TyP.rs {t:Ty} (h:TyP t) (ns:List ByteArray):TyP (nA ns t):=by
 obtain ⟨d,t0,rfl,h1,h2,h3,h4,h5,h6,h7⟩:=h
 rw [sL,A6 h2]
 cases t0.k == 6 && wM ns t0.n
 · exact ⟨d,t0,rfl,h1,h2,h3,h4,h5,h6,h7⟩
 · exact ⟨d,_,rfl,⟨by show (_:Int)<=7; decide,by show (7:Int)<=_; decide⟩,by show (7:Int) ≠ 5; decide,h3,h4,h5,h6,h7⟩
theorem StP.rs {s:St} (h:StP s) (ns:List ByteArray):StP (oB ns s):=
 ⟨h.n,by show (s.fs.map _).length<=_; rw [List.length_map]; exact h.l,fun f hf=>by
  obtain ⟨g,hg,rfl⟩:=List.mem_map.1 hf
  have:=h.f g hg
  exact ⟨this.n,this.m,this.t.rs ns⟩⟩
theorem TyP.ok {t:Ty} (h:TyP t):TyOk t/\TySm t/\(bP t).1<=4002:=by
 obtain ⟨d,t0,rfl,h1,h2,h3,h4,h5,h6,h7⟩:=h
 have key:∀ d:List Int,(∀ s ∈ d,bU s)->TyOk (bJ d t0)/\TySm (bJ d t0)/\(bP (bJ d t0)).1<=d.length:=fun d=>by
  induction d with
  | nil=>
   intro _
   cases t0 with
   | mk k s n e=>
    have h3:e=[]:=h3
    subst h3
    have h2:k ≠ 5:=h2
    have h4:n.size<=200:=h4
    refine ⟨.mk h1 h5 (by omega) (by simp) (fun u hu=>by cases hu),.mk (by simp) (fun u hu=>by cases hu),?_⟩
    show (bP (.mk k s n [])).1<=0
    rw [bP,beq_eq_false_iff_ne.2 h2]; exact Nat.le_refl _
  | cons s d ih=>
   intro hd
   obtain ⟨i1,i2,i3⟩:=ih fun s hs=>hd s (List.mem_cons_of_mem _ hs)
   show TyOk (.mk 5 s (mk []) [bJ d t0])/\TySm (.mk 5 s (mk []) [bJ d t0])/\(bP (.mk 5 s (mk []) [bJ d t0])).1<=d.length + 1
   refine ⟨.mk ⟨by decide,by decide⟩ (hd s (List.mem_cons_self ..)) (by decide) (by simp) (fun u hu=>by rw [List.mem_singleton.1 hu]; exact i1),.mk (by simp) (fun u hu=>by rw [List.mem_singleton.1 hu]; exact i2),?_⟩
   rw [bP]
   show (bP (bJ d t0)).1 + 1<=d.length + 1
   omega
 have:=key d h7
 exact ⟨this.1,this.2.1,by omega⟩
theorem ScP.fit {s:Sc} (h:ScP s):s.fit where
 ok:=⟨h.v,by have:=h.e; omega,by have:=h.l; omega,fun e he=>by
  have q:=h.a e he
  exact ⟨by have:=q.n; omega,by have:=q.l; omega,by have:=q.v; omega,fun n hn=>by have:=q.a n hn; omega,q.b⟩,fun t ht=>by
  have q:=h.b t ht
  refine ⟨by have:=q.n; omega,by have:=q.l; omega,fun f hf=>?_⟩
  have r:=q.f f hf
  exact ⟨r.n,by have:=r.m; omega,r.t.ok.1⟩⟩
 lv:=fun t ht f hf=>by have:=((h.b t ht).f f hf).t.ok.2.2; omega
 sm:=fun t ht=>⟨by have:=(h.b t ht).l; omega,fun f hf=>((h.b t ht).f f hf).t.ok.2.1⟩
 en:=fun e he=>⟨by have:=(h.a e he).l; omega,by have:=(h.a e he).v; omega⟩
def wInt:List UInt8:=[105,110,116]
def wUint:List UInt8:=[117,105,110,116]
def gP (x:List UInt8):Bool:=match x with | b :: _=>decide (65<=b) && decide (b<=90) | []=>false
def EN (t:Ty):List UInt8:=bif bl t.n == [] && (t.s == 8 || t.s == 16 || t.s == 32 || (t.s == 64 && t.k == 2)) then wInt ++ aX t.s else []
def BB (t:Ty):List UInt8:=bif t.s == 0 && bL (bl t.n) && gP (bl t.n) then bl t.n else []
theorem RG {A:Bool} {x:List UInt8} {c1 c2:UInt8} (h1:A=true->x[0]? = some c1) (h2:(A && decide (65<=(c1.toNat:Int)))=true->x[0]? = some c2):(A && decide (65<=(c1.toNat:Int)) && decide ((c2.toNat:Int)<=90))=(A && gP x):=by
 cases A
 · rfl
 have h1:=h1 rfl
 match x,h1 with
 | b :: r,h1=>
  obtain rfl:b=c1:=a7 h1
  have e1:decide (65<=(b.toNat:Int))=decide (65<=b):=decide_eq_decide.2 (by rw [UInt8.le_iff_toNat_le]; exact Int.ofNat_le (m:=65))
  rw [e1] at h2 ⊢
  unfold gP
  cases h3:decide (65<=b)
  · simp only [h3]; rfl
  · rw [h3] at h2
    obtain rfl:b=c2:=a7 (h2 rfl)
    simp only [Bool.true_and,h3]
    exact decide_eq_decide.2 (show ((b.toNat:Int)<=((90:Nat):Int)) ↔ b<=90 from Int.ofNat_le.trans (UInt8.le_iff_toNat_le (b:=90)).symm)
theorem C6 {x:List UInt8} {A:Bool} (h:(A && bL x)=true):0 < x.length:=by
 rw [Bool.and_eq_true] at h
 match x,h.2 with
 | _ :: _,_=>simp
def f0 (t:Ty):List UInt8:=
 bif decide (0 < (t.e.length:Int)) then [] else
 bif t.k == 1 then bif t.s == 0 && bl t.n == [] then fM else [] else
 bif t.k == 3 then bif bl t.n == [] && (t.s == 8 || t.s == 16 || t.s == 32 || (t.s == 64 && t.k == 2)) then wUint ++ aX t.s else [] else
 bif t.k == 2 then EN t else
 bif t.k == 4 then bif decide (0<=t.s) && bl t.n == [] then wText ++ [91] ++ aX t.s ++ [93] else [] else
 bif t.k == 6 || t.k == 7 then BB t else []
noncomputable def pxFn:Fun:=o8 iT C.ty fun t=>.string (mk (f0 t))
attribute [go_sem] pxFn
theorem GO:Meets Tryz.prog 53 pxFn.sp:=by
 refine aI Tryz.func53 Y8 1 (by rw [Tryz.ntmps53]; decide) (aN zR (aN qW (aB _))) iI ?_
 rintro av H K ⟨⟨h,rfl⟩,hK⟩
 obtain ⟨_,rfl,t,rfl,hs⟩:=eC h
 have hK:K (tS (mk (f0 t))) []:=by
  have:pxFn.val [.va (.gs (aM t))]=tA (mk (f0 t)):=by simp -dsimp only [go_sem]
  rw [this] at hK; exact hK
 clear h
 have fin:∀ (x:List UInt8) (R:Hp),f0 t=x->W.Fin 0 K (tS (mk x)) R:=fun x R h1=>by
  rw [h1] at hK
  exact .z (hK)
 simp (maxSteps:=9^6) -dsimp only [go_sem,TE,TI,aQ t]
 have hsn:bU t.s:=hs.s
 have hln:(bl t.n).length<=9223372036854775807:=hs.n
 have hd:(aX t.s).length<=21:=eW hsn.1 hsn.2
 repeat' first | (intro _) | (refine And.intro ?_ ?_)
 all_goals first
  | exact hsn.1
  | exact hsn.2
  | omega
  | exact Int.ofNat_lt.2 (C6 ‹(t.s == 0 && bL (bl t.n))=true›)
  | exact Int.ofNat_lt.2 (C6 (Bool.and_eq_true_iff.1 ‹(t.s == 0 && bL (bl t.n) && _)=true›).1)
  | (refine fin _ _ ?_; unfold f0; simp only [*,aL,aF,Bool.or_true,Bool.true_or]; done)
  | (refine fin _ _ ?_; unfold f0; simp only [*,aL,aF,Bool.or_true,Bool.true_or]; rfl)
  | (refine fin _ _ ?_; unfold f0; simp only [*,aL,aF,Bool.or_true,Bool.true_or]; unfold EN; rename_i h; rw [h]; rfl)
  | (refine fin _ _ ?_; unfold f0; simp only [*,aL,aF,Bool.or_true,Bool.true_or]; unfold BB; rename_i q1 _ q2 q; rw [<-RG q1 q2,q]; rfl)
  | (simp [*]; done)
  | (simp_all; done)
  | skip
def wOfs:List UInt8:=[93,32,111,102,32]
def nF (s:Int):List UInt8:=[108,105,115,116,91] ++ (aX s ++ wOfs)
def cA:Nat->Ty->List UInt8
 | f,t=>bif t.k == 5 then (match f with
  | 0=>[]
  | f + 1=>bif decide (t.s < 0) || !(bl t.n == []) || (t.e.length:Int) != 1 then [] else
   bif cA f (t.e.headD default) == [] then [] else nF t.s ++ cA f (t.e.headD default)) else f0 t
noncomputable def txFn:Fun:=o8 iT C.ty fun t=>.string (mk (cA 6 t))
attribute [go_sem] txFn
theorem fT {f:Nat} {t:Ty} (h:(t.k == 5)=false):cA f t=f0 t:=by unfold cA; rw [h]; rfl
theorem nN {t:Ty} (h:(t.k == 5)=true):cA 0 t=[]:=by unfold cA; rw [h]; rfl
theorem gE {f:Nat} {t:Ty} (h:(t.k == 5)=true):cA (f + 1) t=bif decide (t.s < 0) || !(bl t.n == []) || (t.e.length:Int) != 1 then [] else
 bif cA f (t.e.headD default) == [] then [] else nF t.s ++ cA f (t.e.headD default):=by rw [cA,h]; rfl
theorem fA {b:Bool} {x y:List UInt8} {n:Nat} (hx:x.length<=n) (hy:y.length<=n):(bif b then x else y).length<=n:=by cases b<;>assumption
theorem NX (t:Ty):(BB t).length<=30:=by
 unfold BB
 cases h:t.s == 0 && bL (bl t.n) && gP (bl t.n)
 · exact Nat.zero_le _
 · rw [Bool.and_eq_true,Bool.and_eq_true] at h
   have:=iB h.1.2
   rw [aL]; omega
theorem w7 {t:Ty} (h:bU t.s):(f0 t).length<=30:=by
 have hd:(aX t.s).length<=21:=eW h.1 h.2
 have h0:([]:List UInt8).length<=30:=by decide
 unfold f0 EN
 refine fA h0 (fA (fA (by decide) h0) (fA (fA ?_ h0) (fA (fA ?_ h0) (fA (fA ?_ h0) (fA (NX t) h0)))))
 · rw [List.length_append,show wUint.length=4 from rfl]; omega
 · rw [List.length_append,show wInt.length=3 from rfl]; omega
 · rw [List.length_append,List.length_append,List.length_append,show wText.length=4 from rfl]; simp only [List.length_singleton]; omega
theorem CK:Meets Tryz.prog 16 txFn.sp:=by
 refine aI Tryz.func16 aA1 1 (by rw [Tryz.ntmps16]; decide) (aN zR (aN GO (aB _))) iI ?_
 rintro av H K ⟨⟨h,rfl⟩,hK⟩
 obtain ⟨_,rfl,t,rfl,hs⟩:=eC h
 have hK:K (tS (mk (cA 6 t))) []:=by
  have:txFn.val [.va (.gs (aM t))]=tA (mk (cA 6 t)):=by simp -dsimp only [go_sem]
  rw [this] at hK; exact hK
 clear h
 have fin:∀ (x:List UInt8) (R:Hp),cA 6 t=x->W.Fin 0 K (tS (mk x)) R:=fun x R h1=>by
  rw [h1] at hK
  exact .z (hK)
 simp (maxSteps:=9^6) -dsimp only [go_sem,UA,QF,aQ t]
 refine b8 (α:=Nat × List UInt8 × Ty) (fun x=>[(1,.va (.c1 (.pt 0 0))),(2,tS (mk [])),(3,tS (mk x.2.1)),(4,iS .i64 (6 - x.1:Int))])
  (fun x=>[.cells (aM x.2.2) 37])
  (fun x=>x.1<=6/\x.2.1.length + 31 * x.1<=186/\TyOk x.2.2/\cA 6 t=bif cA x.1 x.2.2 == [] then [] else x.2.1 ++ cA x.1 x.2.2)
  (fun x=>x.1) (fN (6,[],t) 1 ⟨by simp,by simp,hs,?_⟩ ?_ ?_) ?_
 · show _=bif cA 6 t == [] then [] else [] ++ cA 6 t
   cases h:cA 6 t == []
   · rfl
   · exact eq_of_beq h
 · simp -dsimp only [go_sem]<;>simp
 · simp -dsimp only [go_sem]<;>simp [aQ t]
 rintro ⟨f,out,u⟩ ⟨h1,h2,h3,h4⟩
 simp only at h1 h2 h3 h4
 have hsn:=h3.s
 have hd:(aX u.s).length<=21:=eW hsn.1 hsn.2
 simp (maxSteps:=9^6) -dsimp only [go_sem,aQ u]
 have hplen:=w7 hsn
 refine ⟨fun hk=>⟨fun hc=>?_,fun hc=>⟨⟨hsn.1,hsn.2⟩,by omega,by omega,by omega,⟨⟨by omega,?_⟩,fun x hx=>bM x⟩,fun x hx=>⟨by rw [bM]; decide,⟨fun c hc=>(iW _ c hc).2,bM _⟩,by rw [bM]; decide,?_⟩⟩⟩,fun hk=>?_⟩
 · refine fin _ _ ?_
   match f,h1,h2,h4,hc with
   | 0,_,_,h4,_=>rw [h4,nN hk]; rfl
   | f + 1,h1,_,h4,hc=>
    rw [show ((6 - ((f + 1:Nat):Int)) == 6)=false from beq_eq_false_iff_ne.2 (by omega),Bool.or_false] at hc
    rw [h4,gE hk,hc]; rfl
 · simp only [Bool.or_eq_false_iff] at hc
   have:=hc.1.2
   rw [bne_eq_false_iff_eq] at this
   omega
 · match f,h1,h2,h4,hc with
   | 0,_,_,_,hc=>simp at hc
   | f + 1,h1,h2,h4,hc=>
    rw [show ((6 - ((f + 1:Nat):Int)) == 6)=false from beq_eq_false_iff_ne.2 (by omega),Bool.or_false] at hc
    rw [gE hk,hc,aF] at h4
    have he:u.e.headD default=x:=by
     cases hu:u.e with
     | nil=>rw [hu] at hx; cases hx
     | cons a r=>rw [hu] at hx; exact a7 hx
    rw [he] at h4
    refine ⟨by omega,?_⟩
    refine aG (f,out ++ nF u.s,x) 1 ⟨by omega,?_,h3.e x (bO hx),?_⟩ (by simp) ?_ ?_
    · simp only [nF,List.length_append,show wOfs.length=5 from rfl,List.length_cons,List.length_nil] at h2 ⊢
      omega
    · rw [h4]
      cases hq:cA f x == []
      · rw [aF,aF,List.append_assoc]
        rw [show (nF u.s ++ cA f x == [])=false by simp [nF]]
        rfl
      · rw [aL,aL]; rfl
    · simp -dsimp only [go_sem,nF,wOfs]<;>simp [nF,wOfs]
      omega
    · simp -dsimp only [go_sem]<;>simp [aQ x]
 · rw [fT hk] at h4
   rw [show C.ty [C.vl (Value.int IntKind.i64 u.k),C.vl (Value.int IntKind.i64 u.s),C.vl (Value.string u.n),C.fz (List.map aM u.e)]=u by rw [<-aQ u]; exact jZ u]
   refine ⟨⟨u,(aQ u).symm,h3⟩,fun hc=>fin _ _ ?_,fun hc=>⟨by omega,fin _ _ ?_⟩⟩
   · rw [h4,hc]; rfl
   · rw [h4,hc]; rfl
def FY:PC:=.seq (.gh (.ord  [.q (.v 27 5),.q (.q 28 (.bin .eql true (.t 27) (.i 0))),.q (.v 29 28),.q ⟨some 30,(some (29,true)),.q (.mv (.t 6))⟩,.q ⟨some 31,(some (29,true)),.q (.bin .eql true (.t 30) (.i 0))⟩,.q (.a 32 (.pick (.t 29) (.t 31) (.k (.bool false)))),.q (.v 33 32),.q ⟨some 34,(some (33,true)),.l (.ldn 4 (.t 4))⟩,.q ⟨some 35,(some (33,true)),.l (.ldn 4 (.t 1))⟩,.m ⟨some 36,(some (33,true)),.cl 20 [(.t 35)] []⟩,.rc ⟨some 34,(some (33,true)),.l (.ldn 4 (.t 4))⟩,.m ⟨some 37,(some (33,true)),.cq 19 [(.t 34),(.t 36)]⟩,.q (.a 38 (.pick (.t 33) (.t 37) (.k (.bool false)))),.q (.v 39 38),.m ⟨some 40,(some (39,true)),.cq 11 []⟩,.q (.a 41 (.pick (.t 39) (.t 40) (.k (.bool false)))),.m (.v 2 41)])) .ret
@[go_sem ↓] theorem aB3:cF FY:=cJ _
def XK:PC:=.seq (.reg [.e 1 (.bx 37 (.t 0)),.q 2 (.mv (.k (.bool false)))]) (.seq (.reg [.l 7 (.ldn 4 (.t 1)),.a 8 (.cq 16 [(.t 7)]),.v 3 8]) (.seq (.seq (.reg [.v 9 3,.l 10 (.ldn 4 (.t 1)),.a 11 (.cq 17 [(.t 10)]),.q 12 (.bin .neq true (.t 9) (.t 11))]) (.cond (.t 12) (.seq (.reg [.q 2 (.mv (.k (.bool false)))]) .ret) .skip)) (.seq (.seq (.reg [.v 13 3,.q 14 (.bin .eql true (.t 13) (.k (.string (mk [])))),.v 15 14,⟨some 16,(some (15,false)),.q (.mv (.t 3))⟩,⟨some 17,(some (15,false)),.q (.lnS (.t 16))⟩,⟨some 18,(some (15,false)),.q (.bin .gtr true (.t 17) (.i 4000))⟩,.a 19 (.pick (.t 15) (.k (.bool true)) (.t 18))]) (.cond (.t 19) (.seq (.reg [.a 20 (.cq 11 []),.v 2 20]) .ret) .skip)) (.seq (.reg [.v 22 3,.a 23 (.cl 18 [(.t 22)] []),.v 21 23,.q 24 (.ex (.t 21) 0),.q 25 (.ex (.t 21) 1),.q 26 (.ex (.t 21) 2),.e 4 (.al (.agg #[(.int .i64 0),(.int .i64 0),(.string (mk [])),(.slice none 0 0)]) 37),.s (.st 4 (.t 4) (.t 24)),.v 5 25,.v 6 26]) (FY)))))
def XE:List RV:=[.mv (.t 2)]
theorem ok6:aY Tryz.prog true ⟨fun r k=>if r=1/\k=1 then .q else if r=2/\k=2 then .q else if r=5/\k=0 then .q else if r=7/\k=10 then .q else if r=7/\k=13 then .q else .own [],fun r=>[7].contains r⟩ Tryz.f6=some (XK,XE):=by kernel_rfl
def CJ:PC:=.seq (.gh (.reg [.q 52 (.fa 2 (.t 1)),.l 53 (.ld1 (.t 52)),.l 54 (.ia 2 (.t 53) (.i 0)),.q 55 (.fa 1 (.t 54)),.l 56 (.ld1 (.t 55)),.l 57 (.ia 7 (.t 56) (.i 0)),.q 58 (.fa 2 (.t 57)),.q 59 (.fa 0 (.t 58)),.l 60 (.ld1 (.t 59)),.q 61 (.bin .eql true (.t 60) (.i 7)),.v 62 61,⟨some 63,(some (62,true)),.l (.ldn 4 (.t 7))⟩,⟨some 64,(some (62,true)),.cq 16 [(.t 63)]⟩,⟨some 65,(some (62,true)),.q (.bin .eql true (.t 64) (.k (.string (mk [108,105,115,116,91,52,93,32,111,102,32,116,101,120,116,91,49,54,93]))))⟩,.a 66 (.pick (.t 62) (.t 65) (.k (.bool false))),.v 67 66,⟨some 68,(some (67,true)),.l (.ldn 3 (.t 1))⟩,⟨some 69,(some (67,true)),.cq 10 [(.t 68)]⟩,⟨some 70,(some (67,true)),.q (.bin .eql true (.t 69) (.k (.string (mk [118,101,114,115,105,111,110,32,50,59,10,101,110,117,109,32,66,32,123,32,99,32,61,32,48,32,125,10,115,116,114,117,99,116,32,65,32,123,10,32,32,49,32,98,58,32,66,59,10,125,10]))))⟩,.a 71 (.pick (.t 67) (.t 70) (.k (.bool false))),.v 0 71])) .ret
@[go_sem ↓] theorem ZQ:cF CJ:=cJ _
def B9:PC:=.seq (.gh (.reg [.q 49 (.bd [(.int .i64 0),(.int .i64 0),(.string (mk [])),(.slice none 0 0)] [(0,1,(.i 4)),(1,1,(.i 16))]),.e 50 (.bsl 37 4 [(.t 49)]),.q 51 (.bd [(.int .i64 0),(.int .i64 0),(.string (mk [])),(.slice none 0 0)] [(0,1,(.i 5)),(1,1,(.i 4)),(3,1,(.t 50))]),.e 7 (.al (.agg #[(.int .i64 0),(.int .i64 0),(.string (mk [])),(.slice none 0 0)]) 37),.s (.st 4 (.t 7) (.t 51))])) (CJ)
@[go_sem ↓] theorem aAZ:cF B9:=cJ _
def CO:PC:=.seq (.seq (.gh (.reg [.v 18 2,.q 19 (.bin .neq true (.t 18) (.i 0)),.v 20 19,⟨some 21,(some (20,false)),.q (.mv (.t 5))⟩,⟨some 22,(some (20,false)),.q (.bin .neq true (.t 21) (.i 2))⟩,.a 23 (.pick (.t 20) (.k (.bool true)) (.t 22)),.v 24 23,⟨some 25,(some (24,false)),.q (.mv (.t 6))⟩,⟨some 26,(some (24,false)),.q (.bin .neq true (.t 25) (.i 9))⟩,.a 27 (.pick (.t 24) (.k (.bool true)) (.t 26)),.v 28 27,⟨some 29,(some (28,false)),.q (.fa 2 (.t 1))⟩,⟨some 30,(some (28,false)),.l (.ld1 (.t 29))⟩,⟨some 31,(some (28,false)),.q (.lnL (.t 30))⟩,⟨some 32,(some (28,false)),.q (.bin .neq true (.t 31) (.i 1))⟩,.a 33 (.pick (.t 28) (.k (.bool true)) (.t 32)),.v 34 33,⟨some 35,(some (34,false)),.q (.fa 2 (.t 1))⟩,⟨some 36,(some (34,false)),.l (.ld1 (.t 35))⟩,⟨some 37,(some (34,false)),.l (.ia 2 (.t 36) (.i 0))⟩,⟨some 38,(some (34,false)),.q (.fa 1 (.t 37))⟩,⟨some 39,(some (34,false)),.l (.ld1 (.t 38))⟩,⟨some 40,(some (34,false)),.q (.lnL (.t 39))⟩,⟨some 41,(some (34,false)),.q (.bin .neq true (.t 40) (.i 1))⟩,.a 42 (.pick (.t 34) (.k (.bool true)) (.t 41)),.v 43 42,⟨some 44,(some (43,false)),.q (.fa 1 (.t 1))⟩,⟨some 45,(some (43,false)),.l (.ld1 (.t 44))⟩,⟨some 46,(some (43,false)),.q (.lnL (.t 45))⟩,⟨some 47,(some (43,false)),.q (.bin .neq true (.t 46) (.i 1))⟩,.a 48 (.pick (.t 43) (.k (.bool true)) (.t 47))])) (.cond (.t 48) (.seq (.reg [.q 0 (.mv (.k (.bool false)))]) .ret) .skip)) (B9)
@[go_sem ↓] theorem ZU:cF CO:=cJ _
def z8:PC:=.seq (.gh (.reg [.a 14 (.cl 12 [(.k (.string (mk [118,101,114,115,105,111,110,32,49])))] []),.v 13 14,.q 15 (.ex (.t 13) 0),.q 16 (.ex (.t 13) 1),.q 17 (.ex (.t 13) 2),.e 4 (.al (.agg #[(.int .i64 0),(.slice none 0 0),(.slice none 0 0)]) 25),.s (.st 3 (.t 4) (.t 15)),.v 5 16,.v 6 17])) (CO)
@[go_sem ↓] theorem ZO:cF z8:=cJ _
def SU:PC:=.seq (.reg [.q 0 (.mv (.k (.bool false)))]) (.seq (.reg [.a 9 (.cl 12 [(.k (.string (mk [118,101,114,115,105,111,110,32,50,59,32,115,116,114,117,99,116,32,65,32,123,32,49,32,98,58,32,66,59,32,125,32,101,110,117,109,32,66,32,123,32,99,32,61,32,48,32,125])))] []),.v 8 9,.q 10 (.ex (.t 8) 0),.q 11 (.ex (.t 8) 1),.q 12 (.ex (.t 8) 2),.e 1 (.al (.agg #[(.int .i64 0),(.slice none 0 0),(.slice none 0 0)]) 25),.s (.st 3 (.t 1) (.t 10)),.v 2 11,.v 3 12]) (z8))
def QB:List RV:=[.mv (.t 0)]
theorem aAH:aY Tryz.prog true ⟨fun r k=>if r=6/\k=12 then .q else if r=6/\k=17 then .q else .own [],fun r=>[2,3,5,6].contains r⟩ Tryz.f11=some (SU,QB):=by kernel_rfl
def vU:PC:=.gh (.ord  [.q (.q 18 (.fa 3 (.t 3))),.q (.l 19 (.ld1 (.t 18))),.q (.q 20 (.fa 3 (.t 1))),.q (.l 21 (.ld1 (.t 20))),.q (.v 22 4),.q (.l 23 (.ia 4 (.t 21) (.t 22))),.q (.l 24 (.ldn 4 (.t 23))),.m (.a 25 (.cl 20 [(.t 24)] [])),.rc (.q 18 (.fa 3 (.t 3))),.rc (.l 19 (.ld1 (.t 18))),.m (.e 26 (.bsl 37 4 [(.t 25)])),.rc (.q 18 (.fa 3 (.t 3))),.rc (.l 19 (.ld1 (.t 18))),.m (.e 27 (.ap 37 4 56 (.t 19) (.t 26))),.q (.q 28 (.fa 3 (.t 3))),.m (.s (.st 1 (.t 28) (.t 27)))])
@[go_sem ↓] theorem YS:cF vU:=cJ _
def KV:PC:=.seq (.reg [.e 1 (.bx 37 (.t 0)),.e 2 (.al (.agg #[(.int .i64 0),(.int .i64 0),(.string (mk [])),(.slice none 0 0)]) 37)]) (.seq (.reg [.l 5 (.ldn 4 (.t 1)),.e 3 (.al (.agg #[(.int .i64 0),(.int .i64 0),(.string (mk [])),(.slice none 0 0)]) 37),.s (.st 4 (.t 3) (.t 5))]) (.seq (.reg [.q 6 (.fa 3 (.t 3)),.s (.st 1 (.t 6) (.k (.slice none 0 0)))]) (.seq (.seq (.reg [.q 7 (.fa 0 (.t 1)),.l 8 (.ld1 (.t 7)),.q 9 (.bin .eql true (.t 8) (.i 7))]) (.cond (.t 9) (.reg [.q 10 (.fa 0 (.t 3)),.s (.st 1 (.t 10) (.i 6))]) .skip)) (.seq (.seq (.reg [.q 4 (.mv (.i 0))]) (.block 0 (.loop (.seq (.seq (.reg [.v 11 4,.q 12 (.fa 3 (.t 1)),.l 13 (.ld1 (.t 12)),.q 14 (.lnL (.t 13)),.q 15 (.bin .lss true (.t 11) (.t 14))]) (.cond (.t 15) .skip (.exit 0))) (.seq (.block 1 (vU)) (.reg [.v 16 4,.q 17 (.bin .add true (.t 16) (.i 1)),.v 4 17])))))) (.seq (.reg [.l 29 (.ldn 4 (.t 3)),.s (.st 4 (.t 2) (.t 29))]) .ret)))))
def KP:List RV:=[.ld (.ldn 4 (.t 2))]
theorem aAV:aY Tryz.prog true ⟨fun _ _=>.own [],fun r=>[8].contains r⟩ Tryz.f20=some (KV,KP):=by kernel_rfl
mutual
def fU:Ty->Ty
 | .mk k s n e=>.mk (bif k == 7 then 6 else k) s n (F0 e)
def F0:List Ty->List Ty
 | []=>[]
 | u :: r=>fU u :: F0 r
end
theorem tH:∀ l:List Ty,F0 l=l.map fU
 | []=>rfl
 | u :: r=>by rw [F0,tH r]; rfl
theorem RY:bU 6:=⟨by decide,by decide⟩
theorem I4:∀ t:Ty,TyOk t->TyOk (fU t)
 | .mk k s n e,h=>by
  rw [fU,tH]
  refine .mk ?_ h.s h.n ?_ fun u hu=>?_
  · cases k == 7
    · exact h.k
    · exact RY
  · rw [List.length_map]; exact h.len
  · obtain ⟨v,hv,rfl⟩:=List.mem_map.1 hu
    exact I4 v (h.e v hv)
def TB (N:Nat):W.Spec:=fun av H K=>∃ t:Ty,av=[.va (.gs (aM t))]/\H=[]/\TyOk t/\TySm t/\t.h<=N/\K (.va (.gs (aM (fU t)))) []
theorem IJ {N:Nat} {t:Ty} {K:S->Hp->Prop} (h1:TyOk t) (h2:TySm t) (h3:t.h<=N) (hK:K (.va (.gs (aM (fU t)))) []):TB N [.va (.gs (aM t))] [] K:=⟨t,rfl,rfl,h1,h2,h3,hK⟩
theorem xX:∀ N,Meets Tryz.prog 20 (TB N)
 | 0=>⟨by kernel_rfl,by rintro xs vs E ro w K _ _ _ ⟨t,_,_,_,_,h,_⟩; have:=t.h_pos; omega⟩
 | N + 1=>by
  refine aI Tryz.func20 aAV 1 (by rw [Tryz.ntmps20]; decide) (aA (xX N) (aB _)) (fun av H K h=>by obtain ⟨_,rfl,_⟩:=h; rfl) ?_
  rintro av H K ⟨⟨k,s,n,e⟩,rfl,rfl,h1,h2,h3,hK⟩
  have hle:=h1.len
  have hoe:=h1.e
  obtain ⟨hl,hse⟩:e.length<=1000000000/\∀ t ∈ e,TySm t:=by cases h2; exact ⟨by assumption,by assumption⟩
  simp only [Ty.e] at hle hoe
  have hK:K (.va (.gs [.vl (.int .i64 (bif k == 7 then 6 else k)),.vl (.int .i64 s),.vl (.string n),.fz ((e.map fU).map aM)])) []:=by
   rw [aQ] at hK
   rw [<-tH]
   exact hK
  cases hk:k == 7 with
  | true=>
   rw [hk,aL] at hK
   simp (maxSteps:=9^6) -dsimp only [go_sem,aM,bC,KV,KP,hk]
   refine b8 (α:=Nat) (fun i=>[(1,.va (.c1 (.pt 0 0))),(2,.va (.c1 (.pt 1 0))),(3,.va (.c1 (.pt 2 0))),(4,iS .i64 i)]) (fun i=>[.cells (aM (.mk k s n e)) 37,.cells [.vl (.int .i64 0),.vl (.int .i64 0),.vl (.string (mk [])),.vl (.slice none 0 0)] 37,.cells [.vl (.int .i64 6),.vl (.int .i64 s),.vl (.string n),.sl 3 i] 37,.row (((e.take i).map fU).map aM) 37 4])
    (fun i=>i<=e.length) (fun i=>e.length - i) (.nilc 2 3 37 4 [.vl (.int .i64 6),.vl (.int .i64 s),.vl (.string n),.vl (.slice none 0 0)] 37 rfl rfl (fN 0 4 (Nat.zero_le _) ?_ ?_)) ?_
   · simp -dsimp only [go_sem]<;>simp
   · simp -dsimp only [go_sem,aM,bC]<;>simp
   intro i hi
   have hz:(e.take i).length=i:=by rw [List.length_take]; omega
   rcases b5 i e.length with hlt | hge
   · have hg:decide ((i:Int) < (e.length:Int))=true:=by simp; omega
     obtain ⟨u,hx⟩:∃ t,e[i]? = some t:=⟨_,aZ hlt⟩
     have q1:=bN (row:=aM) hx
     have hu:=bO hx
     simp (maxSteps:=9^6) -dsimp only [go_sem,hg,aQ (.mk k s n e),show (Ty.mk k s n e).e=e from rfl]
     refine a8 rfl (.done ?_)
     simp (maxSteps:=9^6) -dsimp only [go_sem,vU,↓q1,bM]
     refine ⟨by omega,IJ (hoe u hu) (hse u hu) ?_ ?_⟩
     · have:=Ty.hs_mem hu; rw [Ty.h] at h3; omega
     simp (maxSteps:=9^6) -dsimp only [go_sem,bM]
     refine ⟨iW _,iW _,hz,by omega,by omega,aG (i + 1) 4 (by omega) (by omega) ?_ ?_⟩
     · simp -dsimp only [go_sem]<;>simp
     · simp -dsimp only [go_sem,aM,bC,xY hx]<;>simp [aQ (.mk k s n e)]<;>exact ⟨rfl,rfl,rfl⟩
   · have hg:decide ((i:Int) < (e.length:Int))=false:=by simp; omega
     obtain rfl:i=e.length:=by omega
     rw [List.take_length]
     simp (maxSteps:=9^6) -dsimp only [go_sem,hg,aQ (.mk k s n e),show (Ty.mk k s n e).e=e from rfl]
     refine .pub 3 _ _ _ rfl (.sel [] (by simp) (by simp [cG]) rfl (.done ?_))
     simp -dsimp only [go_sem,cG]
     exact hK
  | false=>
   rw [hk,aF] at hK
   simp (maxSteps:=9^6) -dsimp only [go_sem,aM,bC,KV,KP,hk]
   refine b8 (α:=Nat) (fun i=>[(1,.va (.c1 (.pt 0 0))),(2,.va (.c1 (.pt 1 0))),(3,.va (.c1 (.pt 2 0))),(4,iS .i64 i)]) (fun i=>[.cells (aM (.mk k s n e)) 37,.cells [.vl (.int .i64 0),.vl (.int .i64 0),.vl (.string (mk [])),.vl (.slice none 0 0)] 37,.cells [.vl (.int .i64 k),.vl (.int .i64 s),.vl (.string n),.sl 3 i] 37,.row (((e.take i).map fU).map aM) 37 4])
    (fun i=>i<=e.length) (fun i=>e.length - i) (.nilc 2 3 37 4 [.vl (.int .i64 k),.vl (.int .i64 s),.vl (.string n),.vl (.slice none 0 0)] 37 rfl rfl (fN 0 4 (Nat.zero_le _) ?_ ?_)) ?_
   · simp -dsimp only [go_sem]<;>simp
   · simp -dsimp only [go_sem,aM,bC]<;>simp
   intro i hi
   have hz:(e.take i).length=i:=by rw [List.length_take]; omega
   rcases b5 i e.length with hlt | hge
   · have hg:decide ((i:Int) < (e.length:Int))=true:=by simp; omega
     obtain ⟨u,hx⟩:∃ t,e[i]? = some t:=⟨_,aZ hlt⟩
     have q1:=bN (row:=aM) hx
     have hu:=bO hx
     simp (maxSteps:=9^6) -dsimp only [go_sem,hg,aQ (.mk k s n e),show (Ty.mk k s n e).e=e from rfl]
     refine a8 rfl (.done ?_)
     simp (maxSteps:=9^6) -dsimp only [go_sem,vU,↓q1,bM]
     refine ⟨by omega,IJ (hoe u hu) (hse u hu) ?_ ?_⟩
     · have:=Ty.hs_mem hu; rw [Ty.h] at h3; omega
     simp (maxSteps:=9^6) -dsimp only [go_sem,bM]
     refine ⟨iW _,iW _,hz,by omega,by omega,aG (i + 1) 4 (by omega) (by omega) ?_ ?_⟩
     · simp -dsimp only [go_sem]<;>simp
     · simp -dsimp only [go_sem,aM,bC,xY hx]<;>simp [aQ (.mk k s n e)]<;>exact ⟨rfl,rfl,rfl⟩
   · have hg:decide ((i:Int) < (e.length:Int))=false:=by simp; omega
     obtain rfl:i=e.length:=by omega
     rw [List.take_length]
     simp (maxSteps:=9^6) -dsimp only [go_sem,hg,aQ (.mk k s n e),show (Ty.mk k s n e).e=e from rfl]
     refine .pub 3 _ _ _ rfl (.sel [] (by simp) (by simp [cG]) rfl (.done ?_))
     simp -dsimp only [go_sem,cG]
     exact hK
def l9 (rest:List UInt8):Prop:=∀ c,rest[0]? = some c->bG c=false/\(c == 45)=false
theorem JO {p:UInt8->Bool} (hp:∀ c,bG c=false->p c=false) {x rest:List UInt8} (hx:∀ c ∈ x,p c=true) (hr:l9 rest):(x ++ rest).takeWhile p=x:=by
 induction x with
 | nil=>
  cases rest with
  | nil=>rfl
  | cons c r=>rw [List.nil_append,List.takeWhile_cons,hp c (hr c rfl).1]; rfl
 | cons c x ih=>rw [List.cons_append,List.takeWhile_cons,if_pos (hx c (by simp)),ih fun d hd=>hx d (by simp [hd])]
theorem CZ {p:UInt8->Bool} (hp:∀ c,bG c=false->p c=false) {l x rest:List UInt8} {a:Nat} (h:l.drop a=x ++ rest) (hx:∀ c ∈ x,p c=true) (hr:l9 rest):bV p l a=a + x.length:=by
 rw [bV,h,JO hp hx hr]
theorem KI (c:UInt8) (h:bG c=false):bH c=false:=by
 have:=cC (p:=fun c=>bG c || !bH c) (by decide +kernel) c
 rw [h] at this
 simpa using this
theorem AV {l x rest:List UInt8} {a:Nat} (h:l.drop a=x ++ rest) (hr:l9 rest) (hx:bL x=true):dS l a=.ok 1 x 0 (a + x.length)/\∃ c,l[a]? = some c/\(c == 32 || c == 9 || c == 10)=false/\(c == 35)=false:=by
 obtain ⟨c,h0,h1,h2,h3⟩:=(CA x).1 hx
 have hc:l[a]? = some c:=by
  cases x with
  | nil=>cases h0
  | cons d x=>simp at h0; subst h0; exact qB h
 have hz:bV bG l a=a + x.length:=CZ (fun _ h=>h) h h3 hr
 have hsk:=cC (p:=fun c=>!(cM c.toNat) || (!(c == 32 || c == 9 || c == 10) && !(c == 35))) (by decide +kernel) c
 simp only [h2,Bool.not_true,Bool.false_or,Bool.and_eq_true,Bool.not_eq_true'] at hsk
 refine ⟨?_,c,hc,hsk⟩
 have hn:(l[a + x.length]? == some 45)=false:=by
  have:=AH h 0
  rw [Nat.add_zero] at this
  rw [this]
  cases hq:rest[0]? with
  | none=>rfl
  | some d=>exact (hr d hq).2
 have h16:decide (16 < a + x.length - a)=false:=by simp; omega
 simp only [dS,hc,h2,aL,g6,hz,h16,hn,aF,B0 h]
theorem DS {l rest:List UInt8} {a:Nat} {n:Int} (h:l.drop a=aX n ++ rest) (hr:l9 rest) (h1:-9223372036854775808<=n) (h2:n<=9223372036854775807) :
 dS l a=.ok 2 [] n (a + (aX n).length)/\∃ c,l[a]? = some c/\(c == 32 || c == 9 || c == 10)=false/\(c == 35)=false:=by
 have hm:n.natAbs < 10 ^ (19 + 1):=by omega
 have hd:=sN 19 n.natAbs hm
 obtain ⟨c0,ds,hds⟩:∃ c ds,digs n.natAbs=c :: ds:=by
  cases hq:digs n.natAbs with
  | nil=>exact absurd hq (xG _)
  | cons c ds=>exact ⟨c,ds,rfl⟩
 have hc0:=jP.1 (hd c0 (by rw [hds]; simp))
 have hlim:∀ neg,neg=decide (n < 0)->valL (dE neg) 0 (digs n.natAbs)=some n.natAbs/\signed neg n.natAbs=n:=fun neg hn=>by
  rw [A8 (by cases neg<;>decide) _ _ (Nat.zero_le _) hd,pD 19 _ hm]
  have:n.natAbs<=dE neg:=by subst hn; unfold dE; cases hh:decide (n < 0)<;>simp at hh ⊢<;>omega
  refine ⟨by simp [this],?_⟩
  subst hn; unfold signed; cases hh:decide (n < 0)<;>simp at hh ⊢<;>omega
 have fin:∀ (f:Nat) (neg:Bool),neg=decide (n < 0)->l.drop f=digs n.natAbs ++ rest->(l[a]? == some 45)=neg->(bif neg then a + 1 else a)=f->iZ l a=.ok 2 [] n (f + (digs n.natAbs).length):=fun f neg hn hf hng hff=>by
  have hz:bV bH l f=f + (digs n.natAbs).length:=CZ KI hf hd hr
  have hw:nM l (f + (digs n.natAbs).length)=false:=by
   have:=AH hf 0
   rw [Nat.add_zero] at this
   unfold nM
   rw [this]
   cases hq:rest[0]? with
   | none=>rfl
   | some d=>show (bG d && !bH d || d == 45)=false; rw [(hr d hq).1,(hr d hq).2]; rfl
  have hs:((digs n.natAbs == []) || ((digs n.natAbs)[0]? == some 48 && (decide (1 < (digs n.natAbs).length) || neg)))=false:=by
   rcases b5 0 n.natAbs with h0 | h0
   · have h3:=qI 19 n.natAbs hm h0
     have e1:((digs n.natAbs)[0]? == some 48)=false:=by rw [beq_eq_false_iff_ne]; exact h3
     have e2:(digs n.natAbs == [])=false:=by rw [beq_eq_false_iff_ne]; exact xG _
     rw [e1,e2]; rfl
   · obtain rfl:n=0:=by omega
     subst hn
     rw [show (0:Int).natAbs=0 from rfl,jI (by omega)]; decide
  simp only [iZ,hng,hff,hz,B0 hf,hs,aF,(hlim neg hn).1,hw,(hlim neg hn).2]
 cases hn:decide (n < 0) with
 | true=>
  have e:aX n=45 :: digs n.natAbs:=by simp only [aX,hn,aL]
  rw [e] at h ⊢
  have hc:=qB h
  refine ⟨?_,45,hc,by decide,by decide⟩
  have e1:cM ((45:UInt8).toNat:Int)=false:=by decide
  have e2:(bH 45 || (45:UInt8) == 45)=true:=by decide
  simp only [dS,hc,e1,e2,aF,aL]
  rw [fin (a + 1) true hn.symm (EJ h) (by rw [hc]; decide) rfl]
  simp; omega
 | false=>
  have e:aX n=digs n.natAbs:=by simp only [aX,hn,aF]
  rw [e] at h ⊢
  have hc:l[a]? = some c0:=by rw [hds] at h; exact qB h
  have hsk:=cC (p:=fun c=>!(bH c) || ((!(c == 32 || c == 9 || c == 10) && !(c == 35)) && (!(cM c.toNat) && !(c == 45)))) (by decide +kernel) c0
  have hd0:=hd c0 (by rw [hds]; simp)
  simp only [hd0,Bool.not_true,Bool.false_or,Bool.and_eq_true,Bool.not_eq_true'] at hsk
  obtain ⟨h3,h4,h5⟩:=hsk
  refine ⟨?_,c0,hc,h3⟩
  simp only [dS,hc,h4,hd0,Bool.true_or,aF,aL]
  exact fin a false hn.symm h (by rw [hc]; simpa using h5) rfl
theorem EP {l rest:List UInt8} {a:Nat} {t:Tx} (hf:TkFit t) (ho:EY t.k t.x t.n=true) (h:l.drop a=jR t.k t.x t.n ++ rest) (hr:t.k=1\/t.k=2->l9 rest) :
 dS l a=.ok t.k t.x t.n (a + (jR t.k t.x t.n).length)/\t.k ≠ 0/\∃ c,l[a]? = some c/\(c == 32 || c == 9 || c == 10)=false/\(c == 35)=false:=by
 obtain ⟨k,x,n,b⟩:=t
 have hlo:=hf.lo; have hhi:=hf.hi
 simp only at ho h hlo hhi ⊢
 unfold EY at ho
 cases h1:k == 1 with
 | true=>
  obtain rfl:k=1:=by simpa using h1
  simp only [h1,aL,Bool.and_eq_true,beq_iff_eq] at ho
  obtain ⟨rfl,ho⟩:=ho
  have e:jR 1 x 0=x:=rfl
  rw [e] at h ⊢
  exact ⟨(AV h (hr (.inl rfl)) ho).1,by decide,(AV h (hr (.inl rfl)) ho).2⟩
 | false=>
 cases h2:k == 2 with
 | true=>
  obtain rfl:k=2:=by simpa using h2
  simp only [h1,h2,aL,aF,beq_iff_eq] at ho
  subst ho
  have e:jR 2 [] n=aX n:=rfl
  rw [e] at h ⊢
  exact ⟨(DS h (hr (.inr rfl)) hlo hhi).1,by decide,(DS h (hr (.inr rfl)) hlo hhi).2⟩
 | false=>
 cases h3:k == 3 with
 | true=>
  obtain rfl:k=3:=by simpa using h3
  simp only [h1,h2,h3,aL,aF,Bool.and_eq_true,beq_iff_eq,decide_eq_true_eq] at ho
  obtain ⟨rfl,hl,hx⟩:=ho
  have e:jR 3 x 0=wF x:=rfl
  rw [e] at h ⊢
  exact ⟨(xQ h hl hx).1,by decide,(xQ h hl hx).2⟩
 | false=>
 cases h4:k == 4 with
 | false=>simp only [h1,h2,h3,h4,aF] at ho; cases ho
 | true=>
  obtain rfl:k=4:=by simpa using h4
  simp only [h1,h2,h3,h4,aL,aF,Bool.and_eq_true,beq_iff_eq] at ho
  obtain ⟨rfl,ho⟩:=ho
  have e:jR 4 x 0=x:=rfl
  rw [e] at h ⊢
  match x,ho with
  | [c],ho=>exact ⟨(yO h ho).1,by decide,(yO h ho).2⟩
  | [],ho=>cases ho
  | _ :: _ :: _,ho=>cases ho
def xO (g:List UInt8):Prop:=∀ rest,dO false (g ++ rest)=g.length + dO false rest
theorem jJ:xO []:=fun rest=>by simp
abbrev lV:Type:=List (List UInt8 × Tx)
def cY:lV->List UInt8
 | []=>[]
 | (g,t) :: r=>g ++ (kJ t ++ cY r)
def gI:lV->Prop
 | []=>True
 | (g,t) :: r=>xO g/\TkFit t/\okT t=true/\(t.k=1\/t.k=2->l9 (cY r))/\gI r
theorem BN {l:List UInt8}:∀ (us:lV) (f a:Nat),gI us->a<=l.length->l.length < f + a->l.drop a=cY us->
 ∃ ms,eA f l a=.ok ms/\ms.map cO=us.map (fun u=>QD u.2) ++ [(0,[],0)]
 | [],f,a,_,hle,hlt,h=>by
  have ha:l.length<=a:=List.drop_eq_nil_iff.1 h
  obtain ⟨f,rfl⟩:∃ g,f=g + 1:=⟨f - 1,by omega⟩
  have hn:l[a]? = none:=List.getElem?_eq_none ha
  exact ⟨[⟨0,[],0,a⟩],by rw [eA,sZ ha]; simp [dS,hn],rfl⟩
 | (g,u) :: us,f,a,⟨hg,hf,ho,hs,hok⟩,hle,hlt,h=>by
  have h':l.drop a=g ++ (kJ u ++ cY us):=h
  have h1:l.drop (a + g.length)=kJ u ++ cY us:=by rw [<-List.drop_drop,h',List.drop_left]
  obtain ⟨ht,hk,c,hc,hb,hh⟩:=EP hf ho h1 hs
  have hlc:=(aV.1 hc).1
  obtain ⟨f,rfl⟩:∃ g,f=g + 1:=⟨f - 1,by omega⟩
  have hsk:bY l a=a + g.length:=by
   have e:=vY hc hb hh
   unfold bY at e ⊢
   rw [h',hg,<-h1]
   omega
  have h2:l.drop (a + g.length + (kJ u).length)=cY us:=by rw [<-List.drop_drop,h1,List.drop_left]
  have hlen:a + g.length + (kJ u).length<=l.length:=by
   have:=congrArg List.length h1
   rw [List.length_drop,List.length_append] at this
   omega
  have hne:0 < (kJ u).length:=by
   rcases Nat.eq_zero_or_pos (kJ u).length with h0 | h0
   · have e0:kJ u=[]:=List.eq_nil_of_length_eq_zero h0
     obtain ⟨_,_,c,hc,_⟩:=EP (l:=kJ u) (a:=0) (rest:=[]) hf ho (by simp) (fun _ c hc=>by cases hc)
     rw [e0] at hc; cases hc
   · exact h0
  obtain ⟨ms,hm,hmm⟩:=BN us f (a + g.length + (kJ u).length) hok hlen (by omega) h2
  have hk0:(u.k == 0)=false:=by simpa using hk
  refine ⟨⟨u.k,u.x,u.n,a + g.length⟩ :: ms,?_,by simp [hmm]⟩
  rw [eA,hsk,ht]
  simp only [hk0,aF,hm,SR.cons]
theorem J8 {us:lV} (hok:gI us) (hl:(cY us).length<=4000):(aP (cY us)).err=0/\(aP (cY us)).toks.map cO=us.map (fun u=>QD u.2) ++ [(0,[],0)]:=by
 obtain ⟨ms,h1,h2⟩:=BN (l:=cY us) us ((cY us).length + 1) 0 hok (Nat.zero_le _) (by omega) rfl
 have h4:decide (4000 < (cY us).length)=false:=by simp; omega
 unfold aP
 rw [h4,aF,h1]
 exact ⟨rfl,h2⟩
theorem BZ:∀ (a b:lV),cY (a ++ b)=cY a ++ cY b
 | [],b=>rfl
 | (g,t) :: r,b=>by rw [List.cons_append,cY,cY,BZ r b]; simp [List.append_assoc]
def v8 (c:UInt8):Tx:=⟨4,[c],0,0⟩
def mG (x:List UInt8):Tx:=⟨1,x,0,0⟩
theorem H3:xO [32]:=fun rest=>by
 rw [List.cons_append,List.nil_append]
 show dO false (32 :: rest)=1 + dO false rest
 rw [Nat.add_comm]
 simp [dO]
theorem sU {c:UInt8} {r:List UInt8} (h1:bG c=false) (h2:(c == 45)=false):l9 (c :: r):=fun d hd=>by
 simp at hd; subst hd; exact ⟨h1,h2⟩
theorem oH {c:UInt8} {g:List UInt8} {r:lV} (hg:xO g) (hc:dR c.toNat=true) (hr:gI r):gI ((g,v8 c) :: r):=by
 refine ⟨hg,⟨by show (-9223372036854775808:Int)<=0; decide,by show (0:Int)<=9223372036854775807; decide,by show 1<=100000; decide⟩,?_,fun h=>(by rcases h with h | h<;>cases h),hr⟩
 show ((0:Int) == 0 && dR c.toNat)=true
 rw [hc]; rfl
theorem iG {x g:List UInt8} {r:lV} (hg:xO g) (hx:bL x=true) (hr:gI r) (hs:l9 (cY r)):gI ((g,mG x) :: r):=by
 refine ⟨hg,⟨by show (-9223372036854775808:Int)<=0; decide,by show (0:Int)<=9223372036854775807; decide,by show x.length<=100000; have:=iB hx; omega⟩,?_,fun _=>hs,hr⟩
 show ((0:Int) == 0 && bL x)=true
 rw [hx]; rfl
abbrev oV:Type:=Int × List UInt8 × Int
def kL (l:lV):List oV:=l.map fun u=>QD u.2
theorem eM {ts:List Tk} {n:Nat} {k m:Int} {x:List UInt8} {R:List oV} (h:(ts.map cO).drop n=(k,x,m) :: R):n < ts.length/\(aW ts n).k=k/\(aW ts n).x=x/\(aW ts n).n=m/\(ts.map cO).drop (n + 1)=R:=by
 have h1:n < (ts.map cO).length:=by
  rcases b5 n (ts.map cO).length with h1 | h1
  · exact h1
  · rw [List.drop_eq_nil_iff.2 h1] at h; cases h
 rw [List.drop_eq_getElem_cons h1] at h
 obtain ⟨h2,h3⟩:=List.cons.inj h
 have hn:n < ts.length:=by simpa using h1
 have e:aW ts n=ts[n]:=by unfold aW; simp [List.getD_eq_getElem?_getD,aZ hn]
 rw [List.getElem_map] at h2
 simp only [cO,Prod.mk.injEq] at h2
 exact ⟨hn,by rw [e]; exact h2.1,by rw [e]; exact h2.2.1,by rw [e]; exact h2.2.2,h3⟩
theorem m5 {ts:List Tk} {n:Nat} {y:oV} {R:List oV} (h:(ts.map cO).drop n=y :: R) (hR:R ≠ []):n + 1 < ts.length/\dP ts n=n + 1:=by
 have h1:n + 1 < ts.length:=by
  have:=congrArg List.length h
  rw [List.length_drop,List.length_map,List.length_cons] at this
  have:0 < R.length:=List.length_pos_iff.2 hR
  omega
 exact ⟨h1,if_pos h1⟩
theorem RW {ts:List Tk} {n:Nat} {xs R:List oV} (h:(ts.map cO).drop n=xs ++ R):(ts.map cO).drop (n + xs.length)=R:=by
 rw [<-List.drop_drop,h,List.drop_left]
abbrev nP (c:UInt8):oV:=(4,[c],0)
end Go.Proofs.YtgogpogophflhaaGreatDoor
