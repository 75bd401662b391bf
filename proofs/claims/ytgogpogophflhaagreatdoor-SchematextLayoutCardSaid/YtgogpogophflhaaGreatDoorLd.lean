/- Lemmas and walks for the proof. -/
import Derived.Test.YtgogpogophflhaaGreatDoorLc
import Derived.Test.YtgogpogophflhaaGreatDoorProg
import Derived.Shelf.Strconv.Itoa3
import Derived.ProofKit
import Derived.OpenShut
import Derived.WalkKit
import Derived.Deep.LoopGhost
import Derived.Deep.QuietTactic
import Derived.BigQuiet
set_option maxRecDepth 100000
set_option maxHeartbeats 8000000
namespace Go.Proofs.YtgogpogophflhaaGreatDoor
open Go.W
def kK (ss:List St):Int:=bif ss.any (fun t=>b6 (eI ss t.nm) t.nm) then 19 else bif ss.any (fun t=>decide (6 < dD ss t.nm)) then 9 else 0
def RJ:W.Spec:=fun av H K=>∃ (s:Sc) (ks:List Value) (vs:List St) (ks':List Value) (vs':List En),av=[.va (.gs (aM s)),kF]/\H=eF ks vs ks' vs'/\
 iX ks vs s.ss/\Gd s.ss s.es/\s.ok/\K (iS .i64 (kK s.ss)) (eF ks vs ks' vs')
theorem PT {s:Sc} {ks:List Value} {vs:List St} {ks':List Value} {vs':List En} {K:S->Hp->Prop} (h1:iX ks vs s.ss) (h2:Gd s.ss s.es) (h3:s.ok) (hK:K (iS .i64 (kK s.ss)) (eF ks vs ks' vs')) :
 RJ [.va (.gs (aM s)),kF] (eF ks vs ks' vs') K:=⟨s,ks,vs,ks',vs',rfl,rfl,h1,h2,h3,hK⟩
theorem iK {α:Type} {l:List α} {p:α->Bool} (h:l.any p=false):∀ x ∈ l,p x=false:=fun x hx=>by
 rw [List.any_eq_false] at h; simpa using h x hx
theorem KR:Meets Tryz.prog 78 RJ:=by
 refine aG Tryz.func78 YV 2 (by rw [Tryz.ntmps78]; decide) (aA WR (aK vN (aA UF (aB _)))) (fun av H K h=>by obtain ⟨_,_,_,_,_,rfl,_⟩:=h; rfl) ?_
 rintro av H K ⟨s,ks,vs,ks',vs',rfl,rfl,h1,hg,hs,hK⟩
 have fin:∀ (x:Int) (R:Hp),kK s.ss=x->W.Fin 2 K (iS .i64 x) (.map .string ks (vs.map gA) :: .map .string ks' (vs'.map gE) :: R):=fun x R h=>by
  rw [h] at hK
  exact .sel [0,1] (by simp) (by simp) rfl (.done (by simp -dsimp only [go_sem]; simpa using hK))
 obtain ⟨_,_,hls,_,hss⟩:=hs
 simp -dsimp only [go_sem,aM,T5,QG]
 refine a6 (α:=Nat) (fun i=>[(2,.va (.c1 (.pt 2 0))),(3,.va (.c1 (.pt 3 0))),(10,.va (.c1 (.fz (s.ss.map aO)))),(11,iS .i64 s.ss.length),(12,iS .i64 i)]) (fun _=>[.map .string ks (vs.map gA),.map .string ks' (vs'.map gE),.cells (aM s) 25,.cells [.mp 0,.mp 1] 117])
  (fun i=>i<=s.ss.length/\(s.ss.drop i).any (fun t=>b6 (eI s.ss t.nm) t.nm)=s.ss.any (fun t=>b6 (eI s.ss t.nm) t.nm)) (fun i=>s.ss.length - i) 0 4 ⟨Nat.zero_le _,rfl⟩ ?_ ?_ ?_
 · simp -dsimp only [go_sem]<;>simp
 · simp -dsimp only [go_sem,aM]<;>simp
 rintro i ⟨hi,ho⟩
 rcases bQ i s.ss.length with hlt | hge
 · have hgi:decide ((i:Int) < (s.ss.length:Int))=true:=by simp; omega
   obtain ⟨t,hx⟩:∃ t,s.ss[i]? = some t:=⟨_,aT hlt⟩
   have q1:=a7 (row:=aO) hx
   rw [fL hx] at ho
   have hv:=hg.vlen t.nm
   have hbs:CK ((eI s.ss t.nm).map cC):=wZ (by rw [IM]; omega)
   simp (maxSteps:=9^6) -dsimp only [go_sem,hgi,↓q1,aO,aM]
   refine ⟨by omega,Q7 h1 hss (by omega) ?_⟩
   simp (maxSteps:=9^6) -dsimp only [go_sem,hbs]
   cases hc:b6 (eI s.ss t.nm) t.nm with
   | true=>
    rw [hc,Bool.true_or] at ho
    simp -dsimp only [go_sem]
    exact fin 19 _ (by unfold kK; rw [<-ho]; rfl)
   | false=>
    rw [hc,Bool.false_or] at ho
    simp -dsimp only [go_sem]
    refine ⟨by omega,aD (i + 1) 4 ⟨by omega,ho⟩ (by omega) ?_ ?_⟩
    · simp -dsimp only [go_sem]<;>simp
    · simp -dsimp only [go_sem,aM]<;>simp
 · have hgi:decide ((i:Int) < (s.ss.length:Int))=false:=by simp; omega
   obtain rfl:i=s.ss.length:=by omega
   rw [gH] at ho
   have ha:BS s.ss:=fun t ht=>iK ho.symm t ht
   have hD:=hg.dp ha
   have hF:kK s.ss=bif s.ss.any (fun t=>decide (6 < dD s.ss t.nm)) then 9 else 0:=by unfold kK; rw [<-ho]; rfl
   simp -dsimp only [go_sem,hgi,aM]
   refine a6 (α:=Nat) (fun i=>[(3,.va (.c1 (.pt 3 0))),(25,.va (.c1 (.fz (s.ss.map aO)))),(26,iS .i64 s.ss.length),(27,iS .i64 i)]) (fun _=>[.map .string ks (vs.map gA),.map .string ks' (vs'.map gE),.cells (aM s) 25,.cells [.mp 0,.mp 1] 117])
    (fun i=>i<=s.ss.length/\(s.ss.drop i).any (fun t=>decide (6 < dD s.ss t.nm))=s.ss.any (fun t=>decide (6 < dD s.ss t.nm))) (fun i=>s.ss.length - i) 0 4 ⟨Nat.zero_le _,rfl⟩ ?_ ?_ ?_
   · simp -dsimp only [go_sem]<;>simp
   · simp -dsimp only [go_sem,aM]<;>simp
   clear ho
   rintro i ⟨hi,ho⟩
   rcases bQ i s.ss.length with hlt | hge
   · have hgi:decide ((i:Int) < (s.ss.length:Int))=true:=by simp; omega
     obtain ⟨t,hx⟩:∃ t,s.ss[i]? = some t:=⟨_,aT hlt⟩
     have q1:=a7 (row:=aO) hx
     rw [fL hx] at ho
     have hnd:=hg.nd t (bH hx)
     simp (maxSteps:=9^6) -dsimp only [go_sem,hgi,↓q1,aO,aM]
     refine ⟨by omega,QE h1 hD hnd ?_⟩
     simp (maxSteps:=9^6) -dsimp only [go_sem]
     cases hc:decide (6 < dD s.ss t.nm) with
     | true=>
      rw [hc,Bool.true_or] at ho
      simp -dsimp only [go_sem]
      exact fin 9 _ (by rw [hF,<-ho]; rfl)
     | false=>
      rw [hc,Bool.false_or] at ho
      simp -dsimp only [go_sem]
      refine ⟨by omega,aD (i + 1) 4 ⟨by omega,ho⟩ (by omega) ?_ ?_⟩
      · simp -dsimp only [go_sem]<;>simp
      · simp -dsimp only [go_sem,aM]<;>simp
   · have hgi:decide ((i:Int) < (s.ss.length:Int))=false:=by simp; omega
     obtain rfl:i=s.ss.length:=by omega
     rw [gH] at ho
     simp -dsimp only [go_sem,hgi,aM]
     exact fin 0 _ (by rw [hF,<-ho]; rfl)
def oI (s:Sc) (i:Nat):Int:=match s.es[i]? with
 | some e=>bif !(mC (bl e.nm)) then 5 else bif eS (s.es.take i) e.nm then 7 else mZ e
 | none=>0
def n6 (s:Sc) (i:Nat):Int:=match s.ss[i]? with
 | some t=>bif iI s i t.nm != 0 then iI s i t.nm else rM s.ss s.es t
 | none=>0
def yW (s:Sc):Int:=fE (oI s) (s.es.length - 0) 0
def wE (s:Sc):Int:=fE (n6 s) (s.ss.length - 0) 0
def dJ (s:Sc):Int:=bif decide (s.ver < 1) || decide (999 < s.ver) then 4 else bif dW s then 3 else bif yW s != 0 then yW s else bif wE s != 0 then wE s else kK s.ss
inductive TySm:Ty->Prop
 | mk {k s:Int} {n:ByteArray} {e:List Ty}:e.length<=1000000000->(∀ t ∈ e,TySm t)->TySm (.mk k s n e)
structure Sc.fit (s:Sc):Prop where
 ok:s.ok
 lv:∀ t ∈ s.ss,∀ f ∈ t.fs,(cL f.ty).1<=1000000000
 sm:∀ t ∈ s.ss,t.fs.length<=1000000000/\∀ f ∈ t.fs,TySm f.ty
 en:∀ e ∈ s.es,e.ns.length<=1000000000/\e.vs.length<=1000000000
theorem HK {f:Nat->Int} {m:Nat}:∀ (k i:Nat),i + k=m->fE f (m - i) i=0->∀ j,i<=j->j < m->f j=0
 | 0,i,h,_=>fun j h1 h2=>by omega
 | k + 1,i,h,h0=>fun j h1 h2=>by
  have hi:i < m:=by omega
  by_cases e:f i=0
  · rw [tK hi e] at h0
    rcases bQ i j with h3 | h3
    · exact HK k (i + 1) (by omega) h0 j h3 h2
    · obtain rfl:i=j:=by omega
      exact e
  · rw [pW hi e] at h0; exact absurd h0 e
theorem nK {f:Nat->Int} {m:Nat} (h:fE f (m - 0) 0=0):∀ j,j < m->f j=0:=fun j hj=>HK m 0 (by omega) h j (Nat.zero_le _) hj
theorem KG {ss:List St} {i:Nat} {t:St} (hx:ss[i]? = some t) (h:gP (ss.take i) t.nm=false):fS ss t.nm=some t:=by
 obtain ⟨hl,ht⟩:=aY.1 hx
 have h1:(ss.take i).find? (fun s=>decide (s.nm=t.nm))=none:=by
  rw [List.find?_eq_none]
  intro x hx
  have:=iK h x hx
  simpa using this
 have h2:ss=ss.take i ++ (t :: ss.drop (i + 1)):=by rw [<-ht,<-List.drop_eq_getElem_cons hl,List.take_append_drop]
 unfold fS
 rw [h2,List.find?_append,h1]
 simp
theorem DW {ss:List St} {es:List En} {t:St} (h:rM ss es t=0):∀ f ∈ t.fs,(1<=f.num/\f.num<=127)/\bU (bl f.nm)=true/\valF ss es f.ty=true:=fun f hf=>by
 obtain ⟨i,hi⟩:=List.mem_iff_getElem?.1 hf
 have:=nK h i (aY.1 hi).1
 unfold pO at this
 rw [hi] at this
 simp only at this
 cases c1:decide (f.num < 1) || decide (127 < f.num) with
 | true=>rw [c1] at this; simp at this
 | false=>
 rw [c1] at this
 simp only [aH] at this
 revert this
 generalize (decide (0 < (i:Int)) && (match t.fs[i - 1]? with | some g=>decide (f.num<=g.num) | none=>false))=b
 intro this
 cases b with
 | true=>simp at this
 | false=>
 simp only [aH] at this
 simp only [Bool.or_eq_false_iff,decide_eq_false_iff_not] at c1
 refine ⟨by omega,?_⟩
 cases c2:bU (bl f.nm) with
 | false=>rw [c2] at this; simp at this
 | true=>
 rw [c2] at this
 cases c3:(t.fs.take i).any (fun g=>decide (g.nm=f.nm)) with
 | true=>rw [c3] at this; simp at this
 | false=>
 rw [c3] at this
 cases c4:valF ss es f.ty with
 | false=>rw [c4] at this; simp at this
 | true=>exact ⟨rfl,rfl⟩
theorem D6 {s:Sc} {i:Nat} {n:ByteArray} (h:iI s i n=0):mC (bl n)=true/\eS s.es n=false/\gP (s.ss.take i) n=false:=by
 unfold iI at h
 cases c1:mC (bl n) with
 | false=>rw [c1] at h; simp at h
 | true=>
 rw [c1] at h
 cases c2:eS s.es n with
 | true=>rw [c2] at h; simp at h
 | false=>
 rw [c2] at h
 cases c3:gP (s.ss.take i) n with
 | true=>rw [c3] at h; simp at h
 | false=>exact ⟨rfl,rfl,rfl⟩
theorem DC {s:Sc} {i:Nat} {t:St} (hx:s.ss[i]? = some t) (h:n6 s i=0):iI s i t.nm=0/\rM s.ss s.es t=0:=by
 unfold n6 at h
 rw [hx] at h
 simp only at h
 by_cases e:iI s i t.nm=0
 · rw [e] at h; exact ⟨e,by simpa using h⟩
 · rw [show (iI s i t.nm != 0)=true by simpa using e] at h
   exact absurd h e
theorem OW {s:Sc} {i:Nat} {t:En} (hx:s.es[i]? = some t) (h:oI s i=0):mC (bl t.nm)=true/\eS (s.es.take i) t.nm=false/\mZ t=0:=by
 unfold oI at h
 rw [hx] at h
 simp only at h
 cases c1:mC (bl t.nm) with
 | false=>rw [c1] at h; simp at h
 | true=>
 rw [c1] at h
 cases c2:eS (s.es.take i) t.nm with
 | true=>rw [c2] at h; simp at h
 | false=>
 rw [c2] at h
 exact ⟨rfl,rfl,by simpa using h⟩
theorem rX {s:Sc} (h:dW s=false):s.es.length<=16/\s.es.length + s.ss.length<=16/\(∀ e ∈ s.es,e.ns.length<=16)/\∀ t ∈ s.ss,t.fs.length<=16:=by
 unfold dW at h
 simp only [Bool.or_eq_false_iff,decide_eq_false_iff_not] at h
 obtain ⟨⟨⟨h1,h2⟩,h3⟩,h4⟩:=h
 refine ⟨by omega,by omega,fun e he=>?_,fun t ht=>?_⟩
 · have:=iK h3 e he; simp at this; exact this
 · have:=iK h4 t ht; simp at this; exact this
theorem D5 {s:Sc} (hf:s.fit) (h1:dW s=false) (h2:wE s=0):Gd s.ss s.es:=by
 obtain ⟨l1,l2,l3,l4⟩:=rX h1
 have key:∀ t ∈ s.ss,∃ i,s.ss[i]? = some t/\iI s i t.nm=0/\rM s.ss s.es t=0:=fun t ht=>by
  obtain ⟨i,hi⟩:=List.mem_iff_getElem?.1 ht
  exact ⟨i,hi,DC hi (nK h2 i (aY.1 hi).1)⟩
 refine ⟨hf.ok.ss,by omega,by omega,fun t ht f hm=>?_,hf.lv,fun t ht=>?_⟩
 · obtain ⟨i,hi,c1,c2⟩:=key t ht
   exact (DW c2 f hm).2.2
 · obtain ⟨i,hi,c1,c2⟩:=key t ht
   exact KG hi (D6 c1).2.2
def zR (r:List C):Prop:=∃ s:Sc,r=aM s/\s.fit
theorem KV {s:Sc} (h:s.fit):zR (aM s):=⟨s,rfl,h⟩
noncomputable def ckFn:Fun:=rP zR C.sc fun s=>.int .i64 (dJ s)
attribute [go_sem] ckFn
theorem lZ {a b:Int} (h:a ≠ 0):(bif a != 0 then a else b)=a:=by rw [bne,beq_eq_false_iff_ne.2 h]; rfl
theorem nC {a b:Int} (h:a=0):(bif a != 0 then a else b)=b:=by rw [h]; rfl
theorem HX:Meets Tryz.prog 31 ckFn.sp:=by
 refine aG Tryz.func31 YA 1 (by rw [Tryz.ntmps31]; decide) (aK RC (aK yF (aK FV (aA JO (aK FL (aA AJ (aA KR (aB _)))))))) kS ?_
 rintro av H K ⟨⟨h,rfl⟩,hK⟩
 obtain ⟨_,rfl,s,rfl,hs⟩:=fG h
 have hK:K (iS .i64 (dJ s)) []:=by
  have:ckFn.val [.va (.gs (aM s))]=iA .i64 (dJ s):=by simp -dsimp only [go_sem]
  rw [this] at hK; exact hK
 clear h
 have hfit:=hs
 have hsc:sO (aM s):=D3 hs.ok
 obtain ⟨⟨hv,hle,hls,hes,hss⟩,hlv,_,_⟩:=hs
 have fin:∀ (x:Int) (R:Hp),dJ s=x->W.Fin 0 K (iS .i64 x) R:=fun x R h1=>by
  rw [h1] at hK
  exact .z ((by simpa [go_sem] using hK))
 have hsc':=hsc
 simp only [aM] at hsc'
 have hdec:C.sc [.vl (.int .i64 s.ver),.fz (s.es.map aQ),.fz (s.ss.map aO)]=s:=m9 s
 simp (maxSteps:=9^6) -dsimp only [go_sem,aM,QH,RA,hsc',hdec]
 refine ⟨fun h1=>fin 4 _ (by unfold dJ; rw [h1]; rfl),fun c1=>⟨fun h1=>fin 3 _ (by unfold dJ; rw [c1,h1]; rfl),fun c2=>?_⟩⟩
 have hF:dJ s=bif yW s != 0 then yW s else bif wE s != 0 then wE s else kK s.ss:=by unfold dJ; rw [c1,c2]; rfl
 refine a6 (α:=Nat) (fun i=>[(1,.va (.c1 (.pt 0 0))),(24,.va (.c1 (.fz (s.es.map aQ)))),(25,iS .i64 s.es.length),(26,iS .i64 i)]) (fun _=>[.cells (aM s) 25])
  (fun i=>i<=s.es.length/\fE (oI s) (s.es.length - i) i=yW s) (fun i=>s.es.length - i) 0 1 ⟨Nat.zero_le _,rfl⟩ ?_ ?_ ?_
 · simp -dsimp only [go_sem]<;>simp
 · simp -dsimp only [go_sem,aM]<;>simp
 rintro i ⟨hi,ho⟩
 rcases bQ i s.es.length with hlt | hge
 · have hg:decide ((i:Int) < (s.es.length:Int))=true:=by simp; omega
   obtain ⟨e,hx⟩:∃ e,s.es[i]? = some e:=⟨_,aT hlt⟩
   have q1:=a7 (row:=aQ) hx
   have he:e.ok:=hes e (bH hx)
   have hie:tC (aQ e):=w4 he
   have hie':=hie
   simp only [aQ] at hie'
   have hed:C.en [.vl (.string e.nm),.fz (e.ns.map cC),.fz (e.vs.map gM)]=e:=BE e
   have hA:oI s i=bif !(mC (bl e.nm)) then 5 else bif eS (s.es.take i) e.nm then 7 else mZ e:=by unfold oI; rw [hx]
   have fin':∀ (x:Int) (R:Hp),oI s i=x->x ≠ 0->W.Fin 0 K (iS .i64 x) R:=fun x R h1 h2=>fin x R (by
    rw [hF,<-ho,pW hlt (by rw [h1]; exact h2),h1]; exact lZ h2)
   have dE:oI s i=0->fE (oI s) (s.es.length - (i + 1)) (i + 1)=yW s:=fun h1=>by rw [<-ho,tK hlt h1]
   simp (maxSteps:=9^6) -dsimp only [go_sem,hg,↓q1,aQ,aM]
   refine ⟨by omega,fun h1=>fin' 5 _ (by rw [hA,h1]; rfl) (by decide),fun c3=>?_⟩
   rw [c3] at hA
   simp only [aH] at hA
   have hlj:=lP s.es i
   simp -dsimp only [fJ PB]
   refine ⟨by simp; omega,?_⟩
   generalize hm:s.es.take i=m at *
   refine a6 (α:=Nat) (fun j=>[(1,.va (.c1 (.pt 0 0))),(4,.va (.c1 (.pt 1 0))),(24,.va (.c1 (.fz (s.es.map aQ)))),(25,iS .i64 s.es.length),(26,iS .i64 i),(38,.va (.c1 (.fz (m.map aQ)))),(39,iS .i64 m.length),(40,iS .i64 j)]) (fun _=>[.cells (aM s) 25,.cells (aQ e) 62])
    (fun j=>j<=m.length/\eS (m.drop j) e.nm=eS m e.nm) (fun j=>m.length - j) 0 2 ⟨Nat.zero_le _,rfl⟩ ?_ ?_ ?_
   · simp -dsimp only [go_sem]<;>simp
     rw [<-hm]; exact ⟨List.map_take.symm,by simp⟩
   · simp -dsimp only [go_sem,aM,aQ]<;>simp
   rintro j ⟨hj,ho2⟩
   rcases bQ j m.length with hjt | hjg
   · have hgj:decide ((j:Int) < (m.length:Int))=true:=by simp; omega
     obtain ⟨d,hd⟩:∃ e,m[j]? = some e:=⟨_,aT hjt⟩
     have q5:=a7 (row:=aQ) hd
     rw [eS,fL hd] at ho2
     simp (maxSteps:=9^6) -dsimp only [go_sem,hgj,↓q5,aQ,aM,eX]
     and_intros
     all_goals first
      | omega
      | skip
     · intro hc
       rw [hc,Bool.true_or] at ho2
       exact fin' 7 _ (by rw [hA,<-ho2]; rfl) (by decide)
     · intro hc
       rw [hc,Bool.false_or] at ho2
       refine ⟨by omega,aD (j + 1) 2 ⟨by omega,ho2⟩ (by omega) ?_ ?_⟩
       · simp -dsimp only [go_sem]<;>simp
       · simp -dsimp only [go_sem,aM,aQ]<;>simp
   · have hgj:decide ((j:Int) < (m.length:Int))=false:=by simp; omega
     obtain rfl:j=m.length:=by omega
     rw [eS,gH] at ho2
     rw [<-ho2] at hA
     simp only [aH] at hA
     simp (maxSteps:=9^6) -dsimp only [go_sem,hgj,aQ,aM,hie',hed]
     refine ⟨fun h1=>fin' _ _ hA (by simpa using h1),fun h1=>?_⟩
     refine ⟨by omega,aD (i + 1) 1 ⟨by omega,dE (by rw [hA]; simpa using h1)⟩ (by omega) ?_ ?_⟩
     · simp -dsimp only [go_sem]<;>simp
     · simp -dsimp only [go_sem,aM]<;>simp
 · have hg:decide ((i:Int) < (s.es.length:Int))=false:=by simp; omega
   obtain rfl:i=s.es.length:=by omega
   rw [uP] at ho
   rw [nC ho.symm] at hF
   simp (maxSteps:=9^6) -dsimp only [go_sem,hg,aM]
   refine UC hfit.ok fun ks vs ks' vs' x1 x2=>?_
   simp (maxSteps:=9^6) -dsimp only [go_sem]
   clear hi hge hg
   refine a6 (α:=Nat) (fun i=>[(1,.va (.c1 (.pt 0 0))),(8,.va (.c1 (.pt 3 0))),(59,.va (.c1 (.fz (s.ss.map aO)))),(60,iS .i64 s.ss.length),(61,iS .i64 i)]) (fun _=>[.cells (aM s) 25,.map .string ks (vs.map gA),.map .string ks' (vs'.map gE),.cells [.mp 1,.mp 2] 117])
    (fun i=>i<=s.ss.length/\fE (n6 s) (s.ss.length - i) i=wE s) (fun i=>s.ss.length - i) 0 4 ⟨Nat.zero_le _,rfl⟩ ?_ ?_ ?_
   · simp -dsimp only [go_sem]<;>simp
   · simp -dsimp only [go_sem,aM]<;>simp
   clear ho
   rintro i ⟨hi,ho⟩
   rcases bQ i s.ss.length with hlt | hge
   · have hg:decide ((i:Int) < (s.ss.length:Int))=true:=by simp; omega
     obtain ⟨t,hx⟩:∃ e,s.ss[i]? = some e:=⟨_,aT hlt⟩
     have q1:=a7 (row:=aO) hx
     have ht:t.ok:=hss t (bH hx)
     have hA:n6 s i=bif iI s i t.nm != 0 then iI s i t.nm else rM s.ss s.es t:=by unfold n6; rw [hx]
     have fin':∀ (x:Int) (R:Hp),n6 s i=x->x ≠ 0->W.Fin 0 K (iS .i64 x) R:=fun x R h1 h2=>fin x R (by
      rw [hF,<-ho,pW hlt (by rw [h1]; exact h2),h1]; exact lZ h2)
     have dE:n6 s i=0->fE (n6 s) (s.ss.length - (i + 1)) (i + 1)=wE s:=fun h1=>by rw [<-ho,tK hlt h1]
     have q0:decide (0<=(i:Int))=true:=by simp
     simp (maxSteps:=9^6) -dsimp only [go_sem,hg,↓q1,aO,aM,hsc',hdec,Int.toNat_natCast]
     refine ⟨by omega,⟨by omega,by omega⟩,fun h1=>fin' _ _ (by rw [hA]; exact lZ (by simpa using h1)) (by simpa using h1),fun h1=>?_⟩
     have h1:iI s i t.nm=0:=by simpa using h1
     rw [nC h1] at hA
     refine Q1 x1 x2 ht ?_
     simp (maxSteps:=9^6) -dsimp only [go_sem]
     refine ⟨fun h1=>fin' _ _ hA (by simpa using h1),fun h1=>?_⟩
     refine ⟨by omega,aD (i + 1) 4 ⟨by omega,dE (by rw [hA]; simpa using h1)⟩ (by omega) ?_ ?_⟩
     · simp -dsimp only [go_sem]<;>simp
     · simp -dsimp only [go_sem,aM]<;>simp
   · have hg:decide ((i:Int) < (s.ss.length:Int))=false:=by simp; omega
     obtain rfl:i=s.ss.length:=by omega
     rw [uP] at ho
     rw [nC ho.symm] at hF
     simp (maxSteps:=9^6) -dsimp only [go_sem,hg,aM]
     refine PT x1 (D5 hfit c2 ho.symm) hfit.ok ?_
     simp (maxSteps:=9^6) -dsimp only [go_sem]
     exact fin _ _ hF
def SL (s:Sc) (n:ByteArray):Bool:=dJ s == 0 && gP s.ss n
theorem FH {s:Sc} (hf:s.fit) (h:dJ s=0):Gd s.ss s.es/\BS s.ss/\yW s=0/\wE s=0/\dW s=false/\1<=s.ver/\s.ver<=999/\∀ t ∈ s.ss,dD s.ss t.nm<=6:=by
 unfold dJ at h
 cases c1:decide (s.ver < 1) || decide (999 < s.ver) with
 | true=>rw [c1] at h; simp at h
 | false=>
 rw [c1] at h
 cases c2:dW s with
 | true=>rw [c2] at h; simp at h
 | false=>
 rw [c2] at h
 simp only [aH] at h
 by_cases e1:yW s=0
 · rw [nC e1] at h
   by_cases e2:wE s=0
   · rw [nC e2] at h
     have g:=D5 hf c2 e2
     unfold kK at h
     cases c3:s.ss.any (fun t=>b6 (eI s.ss t.nm) t.nm) with
     | true=>rw [c3] at h; simp at h
     | false=>
     rw [c3] at h
     cases c4:s.ss.any (fun t=>decide (6 < dD s.ss t.nm)) with
     | true=>rw [c4] at h; simp at h
     | false=>
     simp only [Bool.or_eq_false_iff,decide_eq_false_iff_not] at c1
     refine ⟨g,iK c3,e1,e2,rfl,by omega,by omega,fun t ht=>?_⟩
     have:=iK c4 t ht
     simpa using this
   · rw [lZ e2] at h; exact absurd h e2
 · rw [lZ e1] at h; exact absurd h e1
theorem S2 (t:Ty):∀ c ∈ aX t,c.shut=true/\c.one:=by rw [bO]; simp [go_sem,C.shut]
@[go_sem] theorem aB5 (t:Ty) (H:Hp):(aX t).map (C.bor H)=aX t:=by rw [bO]; rfl
noncomputable def oO (a b:Ty):Bool:=@decide (a=b) (Classical.propDecidable _)
theorem G8 {a b:Ty} (h:a=b):oO a b=true:=by unfold oO; simp [h]
theorem HO {a b:Ty} (h:a ≠ b):oO a b=false:=by unfold oO; simp [h]
theorem EY {a b:Ty}:oO a b=true ↔ a=b:=by unfold oO; simp
def zO (N:Nat):List S->Prop:=fun av=>match av with
 | [.va (.gs r),.va (.gs q)]=>iQ r/\iQ q/\(C.ty r).h<=N
 | _=>False
theorem kP {N:Nat} {av:List S} (h:zO N av):∃ a b,av=[.va (.gs (aX a)),.va (.gs (aX b))]/\TyOk a/\TyOk b/\a.h<=N:=by
 unfold zO at h
 split at h
 · obtain ⟨⟨a,rfl,ha⟩,⟨b,rfl,hb⟩,hh⟩:=h
   rw [pC] at hh
   exact ⟨a,b,rfl,ha,hb,hh⟩
 · exact h.elim
noncomputable def F4:List S->A:=fun av=>match av with
 | [.va (.gs r),.va (.gs q)]=>bA (oO (C.ty r) (C.ty q))
 | _=>.gs []
noncomputable def GG (N:Nat):Fun:=⟨zO N,F4,fun av h=>by obtain ⟨a,b,rfl,_⟩:=kP h; trivial⟩
theorem J2 {N:Nat}:∀ av H K,(GG N).sp av H K->av.length=2:=fun av H K h=>by obtain ⟨a,b,rfl,_⟩:=kP h.1.1; rfl
attribute [go_sem] GG zO F4
theorem FA {k s k' s':Int} {n n':ByteArray} {e e':List Ty}:(Ty.mk k s n e=Ty.mk k' s' n' e') ↔ (k=k'/\s=s'/\n=n'/\e=e'):=by simp
def FD:List S->Prop:=fun av=>match av with
 | [.va (.gs r),.va (.gs q)]=>iQ r/\iQ q
 | _=>False
theorem x8 {av:List S} (h:FD av):∃ a b,av=[.va (.gs (aX a)),.va (.gs (aX b))]/\TyOk a/\TyOk b:=by
 unfold FD at h
 split at h
 · obtain ⟨⟨a,rfl,ha⟩,⟨b,rfl,hb⟩⟩:=h
   exact ⟨a,b,rfl,ha,hb⟩
 · exact h.elim
noncomputable def sFn:Fun:=⟨FD,F4,fun av h=>by obtain ⟨a,b,rfl,_⟩:=x8 h; trivial⟩
attribute [go_sem] sFn FD
theorem NU:∀ (m:Nat) (r:List UInt8) (i:Nat) (out:List UInt8),r.length=m->(quoL i r out).1<=i + r.length:=by
 intro m
 induction m using Nat.strongRecOn with
 | ind m ih=>
  intro r i out hm
  cases r with
  | nil=>rw [n7]; exact Nat.le_add_right _ _
  | cons c r=>
   rw [fC]
   simp only [List.length_cons] at hm ⊢
   cases (decide (c < 32) || decide (126 < c)) with
   | true=>simp
   | false=>
    cases (c == 34) with
    | true=>simp
    | false=>
     cases (c == 92) with
     | true=>
      simp only [aH,aN]
      cases r with
      | nil=>simp
      | cons d r'=>
       simp only [List.length_cons] at hm ⊢
       cases (d == 34 || d == 92) with
       | true=>simp only [aN]; have:=ih r'.length (by omega) r' (i + 2) (out ++ [d]) rfl; omega
       | false=>simp
     | false=>
      simp only [aH]
      have:=ih r.length (by omega) r (i + 1) (out ++ [c]) rfl; omega
structure Told (l:List UInt8) (p:Nat) (k:Int) (x:List UInt8) (n:Int) (z:Nat):Prop where
 zero:k=0->p=l.length/\x=[]/\n=0
 one:k ≠ 0->∃ c,l[p]? = some c/\p < z/\z<=l.length/\0 < k/\k<=4/\32 < c.toNat/\c.toNat ≠ 35/\(c == 34)=(k == 3)/\(k == 1)=cO c.toNat
theorem uX {l:List UInt8} {a:Nat} (ha:a<=l.length):(∀ {e t},gY l a=.bad e t->0<=t/\t<=l.length)/\∀ {k x n z},gY l a=.ok k x n z->k=1:=by
 have:=rG (p:=bG) ha
 unfold gY
 simp only
 cases decide (16 < bP bG l a - a)<;>cases (l[bP bG l a]? == some 45)<;>simp [R.bad.injEq,R.ok.injEq]
 all_goals (intros; omega)
theorem xQ {l:List UInt8} {a:Nat} {c:UInt8} (hc:l[a]? = some c):(∀ {e t},iU l a=.bad e t->0<=t/\t<=l.length)/\∀ {k x n z},iU l a=.ok k x n z->k=2:=by
 have hlt:a < l.length:=(aY.1 hc).1
 have hge:(bif l[a]? == some 45 then a + 1 else a)<=l.length:=by cases (l[a]? == some 45)<;>simp<;>omega
 have hz2:=rG (p:=bC) hge
 unfold iU
 simp only
 generalize (List.drop (bif l[a]? == some 45 then a + 1 else a) (List.take (bP bC l (bif l[a]? == some 45 then a + 1 else a)) l))=q
 cases (q == [] || (q[0]? == some 48 && (decide (1 < q.length) || l[a]? == some 45))) with
 | true=>simp only [aN,R.bad.injEq,reduceCtorEq,false_implies,implies_true,and_true]; rintro e t ⟨rfl,rfl⟩; omega
 | false=>
  simp only [aH]
  split
  · simp only [R.bad.injEq,reduceCtorEq,false_implies,implies_true,and_true]; rintro e t ⟨rfl,rfl⟩; omega
  · cases nM l (bP bC l (bif l[a]? == some 45 then a + 1 else a))<;>simp only [aN,aH,R.bad.injEq,R.ok.injEq,reduceCtorEq,false_implies,implies_true,and_true,true_and]
    · rintro k x n z ⟨rfl,_⟩; rfl
    · rintro e t ⟨rfl,rfl⟩; omega
theorem tQ {l:List UInt8} {a:Nat} (ha:a < l.length):(∀ {e t},gJ l a=.bad e t->0<=t/\t<=l.length)/\∀ {k x n z},gJ l a=.ok k x n z->k=3:=by
 have:=NU _ (l.drop (a + 1)) (a + 1) [] rfl
 simp only [List.length_drop] at this
 unfold gJ
 split
 · rename_i i hq
   rw [hq] at this
   simp only at this
   constructor
   · intro e t h; simp only [R.bad.injEq] at h; omega
   · intro k x n z h; cases h
 · rename_i z o hq
   cases decide (200 < o.length)<;>simp [R.bad.injEq,R.ok.injEq]
   all_goals (intros; omega)
def E8 (c:UInt8):Bool:=
 (!(cO c.toNat || bC c || c == 45 || c == 34 || d7 c.toNat) || (decide (32 < c.toNat) && c.toNat != 35)) && (!cO c.toNat || !(c == 34)) && (!(bC c || c == 45) || !(c == 34)) && (!d7 c.toNat || !(c == 34))
theorem IQ (c:UInt8):E8 c=true:=b5 (by decide +kernel) c
theorem pU {l:List UInt8} {p:Nat} (hp:p<=l.length):(∀ {e t},dM l p=.bad e t->e ≠ 0/\0<=t/\t<=l.length)/\∀ {k x n z},dM l p=.ok k x n z->Told l p k x n z:=by
 obtain ⟨hb,ho⟩:=tU hp
 refine ⟨fun {e t} h=>⟨hb h,?_⟩,fun {k x n z} h=>?_⟩
 · unfold dM at h
   split at h
   · cases h
   · rename_i c hc
     have hlt:p < l.length:=(aY.1 hc).1
     revert h
     cases cO c.toNat with
     | true=>exact fun h=>(uX hp).1 h
     | false=>
      cases (bC c || c == 45) with
      | true=>exact fun h=>(xQ hc).1 h
      | false=>
       cases (c == 34) with
       | true=>exact fun h=>(tQ hlt).1 h
       | false=>
        cases d7 c.toNat with
        | true=>intro h; cases h
        | false=>intro h; simp only [aH,R.bad.injEq] at h; omega
 · obtain ⟨o1,o2⟩:=ho h
   unfold dM at h
   split at h
   · simp only [R.ok.injEq] at h
     exact ⟨fun h0=>⟨o1 h0,h.2.1.symm,h.2.2.1.symm⟩,fun h0=>absurd h.1.symm h0⟩
   · rename_i c hc
     have hlt:p < l.length:=(aY.1 hc).1
     have hs:=IQ c
     unfold E8 at hs
     have key:∀ {q:Int},k=q->0 < q->q<=4->(32 < c.toNat/\c.toNat ≠ 35)->(c == 34)=(q == 3)->(q == 1)=cO c.toNat->Told l p k x n z:=by
      rintro q rfl h1 h2 h3 h4 h5
      obtain ⟨h6,h7⟩:=o2 (by omega)
      exact ⟨fun h=>by omega,fun _=>⟨c,hc,h6,h7,h1,h2,h3.1,h3.2,h4,h5⟩⟩
     revert h hs
     cases hL:cO c.toNat with
     | true=>
      intro h hs
      simp at hs
      exact key ((uX hp).2 h) (by omega) (by omega) hs.1.1.1 (by simpa using hs.1.1.2) (by rw [hL]; rfl)
     | false=>
      cases hd:(bC c || c == 45) with
      | true=>
       intro h hs
       have hd':bC c=true\/c=45:=by simpa using hd
       simp only [Bool.false_or,hd,Bool.true_or,Bool.not_true,Bool.not_false,Bool.and_true,Bool.true_and,Bool.and_eq_true] at hs
       simp at hs
       exact key ((xQ hc).2 h) (by omega) (by omega) hs.1.1 (by simpa using hs.1.2) (by rw [hL]; rfl)
      | false=>
       cases h4:(c == 34) with
       | true=>
        intro h hs
        have:c=34:=by simpa using h4
        subst this
        exact key ((tQ hlt).2 h) (by omega) (by omega) (by decide) (by rfl) (by rw [hL]; rfl)
       | false=>
        cases hm:d7 c.toNat with
        | true=>
         intro h hs
         simp only [Bool.false_or,hd,Bool.or_true,Bool.not_true,Bool.not_false,Bool.and_true,Bool.true_and,Bool.and_eq_true] at hs
         simp at hs
         simp only [aH,aN,R.ok.injEq] at h
         exact key h.1.symm (by omega) (by omega) hs (by rw [h4]; rfl) (by rw [hL]; rfl)
        | false=>intro h hs; cases h
def pJ (l:List UInt8):Nat->List Tk->Prop
 | _,[]=>False
 | a,t :: ts=>a<=t.a/\t.a<=l.length/\∃ z,Told l t.a t.k t.x t.n z/\(t.k=0->ts=[])/\(t.k ≠ 0->pJ l z ts)
theorem yQ {l:List UInt8}:∀ (f a:Nat) (ts:List Tk),a<=l.length->l.length < f + a->dZ f l a=.ok ts->pJ l a ts
 | 0,a,ts,ha,hf,h=>by omega
 | f + 1,a,ts,ha,hf,h=>by
  have hpl:bL l a<=l.length:=n8 ha
  have hpa:a<=bL l a:=AY
  rw [dZ] at h
  split at h
  · cases h
  · rename_i k x n z hR
    have ht:=(pU hpl).2 hR
    cases hk:k == 0 with
    | true=>
     rw [hk] at h
     simp only [aN,SR.ok.injEq] at h
     subst h
     exact ⟨hpa,hpl,z,ht,fun _=>rfl,fun h=>absurd (by simpa using hk) h⟩
    | false=>
     rw [hk] at h
     have hk':k ≠ 0:=by simpa using hk
     obtain ⟨c,_,h1,h2,_⟩:=ht.one hk'
     cases hr:dZ f l z with
     | bad e t=>rw [hr] at h; cases h
     | ok us=>
      rw [hr] at h
      simp only [aH,SR.cons,SR.ok.injEq] at h
      subst h
      exact ⟨hpa,hpl,z,ht,fun h=>absurd h hk',fun _=>yQ f z us h2 (by omega) hr⟩
theorem AS {l:List UInt8}:∀ (f a:Nat) (e t:Int),a<=l.length->dZ f l a=.bad e t->e ≠ 0/\0<=t/\t<=l.length
 | 0,a,e,t,ha,h=>by cases h
 | f + 1,a,e,t,ha,h=>by
  have hpl:bL l a<=l.length:=n8 ha
  rw [dZ] at h
  split at h
  · rename_i e' t' hR
    have:=(pU hpl).1 hR
    simp only [SR.bad.injEq] at h
    obtain ⟨rfl,rfl⟩:=h; exact this
  · rename_i k x n z hR
    have ht:=(pU hpl).2 hR
    cases hk:k == 0 with
    | true=>rw [hk] at h; cases h
    | false=>
     rw [hk] at h
     have hk':k ≠ 0:=by simpa using hk
     obtain ⟨c,_,h1,h2,_⟩:=ht.one hk'
     cases hr:dZ f l z with
     | bad e' t'=>rw [hr] at h; simp only [aH,SR.cons,SR.bad.injEq] at h; obtain ⟨rfl,rfl⟩:=h; exact AS f z _ _ h2 hr
     | ok us=>rw [hr] at h; cases h
theorem FT (l:List UInt8):(aL l).err ≠ 0/\(aL l).toks=[]/\0<=(aL l).off/\(aL l).off<=l.length\/(aL l).err=0/\(aL l).off=0/\l.length<=4000/\pJ l 0 (aL l).toks:=by
 unfold aL
 cases h:decide (4000 < l.length) with
 | true=>left; exact ⟨by simp [SR.err],rfl,by simp [SR.off],by simp [SR.off]⟩
 | false=>
  have h4:l.length<=4000:=by simpa using h
  simp only [aH]
  cases hr:dZ (l.length + 1) l 0 with
  | bad e t=>left; obtain ⟨h1,h2,h3⟩:=AS _ _ _ _ (by omega) hr; exact ⟨h1,rfl,h2,h3⟩
  | ok ts=>right; exact ⟨rfl,rfl,h4,yQ _ _ _ (by omega) (by omega) hr⟩
theorem E0 {l:List UInt8} {a:Nat} {ts:List Tk} (h:pJ l a ts):0 < ts.length:=by
 cases ts with
 | nil=>exact h.elim
 | cons t ts=>simp
theorem BQ {l:List UInt8}:∀ {a:Nat} {ts:List Tk},pJ l a ts->ts.length + a<=l.length + 1
 | a,[],h=>h.elim
 | a,t :: ts,⟨h1,h2,z,h3,h4,h5⟩=>by
  rcases Decidable.em (t.k=0) with h0 | h0
  · rw [h4 h0]; simp only [List.length_cons,List.length_nil]; omega
  · obtain ⟨c,_,g1,_⟩:=h3.one h0
    have:=BQ (h5 h0)
    simp only [List.length_cons]; omega
theorem EQ {l:List UInt8}:∀ {a:Nat} {ts:List Tk} {i:Nat} {t:Tk},pJ l a ts->ts[i]? = some t->
 a<=t.a/\t.a<=l.length/\(∃ z,Told l t.a t.k t.x t.n z)/\(t.k=0 ↔ i + 1=ts.length)/\∀ u,0 < i->ts[i - 1]? = some u->u.a < t.a
 | a,[],i,t,h,_=>h.elim
 | a,s :: ts,0,t,⟨h1,h2,z,h3,h4,h5⟩,hi=>by
  simp at hi; subst hi
  refine ⟨h1,h2,⟨z,h3⟩,⟨fun h=>by rw [h4 h]; rfl,fun h=>?_⟩,fun u h=>by omega⟩
  rcases Decidable.em (s.k=0) with h0 | h0
  · exact h0
  · have:=E0 (h5 h0); simp only [List.length_cons] at h; omega
 | a,s :: ts,i + 1,t,⟨h1,h2,z,h3,h4,h5⟩,hi=>by
  simp at hi
  have h0:s.k ≠ 0:=fun h=>by rw [h4 h] at hi; simp at hi
  obtain ⟨c,_,g1,g2,_⟩:=h3.one h0
  obtain ⟨q1,q2,q3,q4,q5⟩:=EQ (h5 h0) hi
  refine ⟨by omega,q2,q3,by rw [q4]; simp,fun u _ hu=>?_⟩
  simp only [Nat.add_sub_cancel] at hu
  cases i with
  | zero=>simp at hu; subst hu; omega
  | succ i=>simp at hu; exact q5 u (by omega) (by simpa using hu)
def Got:R->ByteArray->Int->Int->Int->Int->Prop
 | .ok _ x n z,x',n',z',e',t'=>x'=mk x/\n'=n/\z'=z/\e'=0/\t'=0
 | .bad e t,_,_,_,e',t'=>e'=e/\t'=t
def decV:Nat->List UInt8->Nat
 | n,[]=>n
 | n,c :: l=>decV (10 * n + (c.toNat - 48)) l
theorem lE (n:Nat):decV n []=n:=by rw [decV.eq_def]
theorem iF (n:Nat) (c:UInt8) (l:List UInt8):decV n (c :: l)=decV (10 * n + (c.toNat - 48)) l:=by rw [decV.eq_def]
theorem DY:∀ (l:List UInt8) (n:Nat),n<=decV n l
 | [],n=>by rw [lE]; exact Nat.le_refl n
 | c :: l,n=>by have:=DY l (10 * n + (c.toNat - 48)); rw [iF]; omega
theorem HD (lim n:Nat) (c:UInt8) (l:List UInt8):valL lim n (c :: l)=if (lim - (c.toNat - 48)) / 10 < n then none else valL lim (10 * n + (c.toNat - 48)) l:=by rw [valL.eq_def]
theorem A7 {lim:Nat} (h9:9<=lim):∀ (l:List UInt8) (n:Nat),n<=lim->(∀ c ∈ l,bC c=true)->valL lim n l=bif decide (decV n l<=lim) then some (decV n l) else none
 | [],n,hn,_=>by rw [lE,valL.eq_def]; simp [hn]
 | c :: l,n,hn,hd=>by
  have hc:=jN.1 (hd c (by simp))
  rw [HD,iF]
  generalize c.toNat=d at hc ⊢
  by_cases h:(lim - (d - 48)) / 10 < n
  · have:=DY l (10 * n + (d - 48))
    have h2:decide (decV (10 * n + (d - 48)) l<=lim)=false:=by simp only [decide_eq_false_iff_not]; omega
    rw [if_pos h,h2]; rfl
  · rw [if_neg h]
    exact A7 h9 l _ (by omega) (fun x hx=>hd x (by simp [hx]))
theorem Got.bad {r:R} {e t:Int} (h:r=.bad e t) {x:ByteArray} {n z:Int}:Got r x n z e t:=by subst h; exact ⟨rfl,rfl⟩
theorem Got.ok {r:R} {k:Int} {x:List UInt8} {n:Int} {z:Nat} (h:r=.ok k x n z):Got r (mk x) n z 0 0:=by subst h; exact ⟨rfl,rfl,rfl,rfl,rfl⟩
theorem B5 (l:List UInt8):bU l=true ↔ ∃ c,l[0]? = some c/\l.length<=16/\cO c.toNat=true/\∀ x ∈ l,bG x=true:=by
 cases l with
 | nil=>simp [bU]
 | cons c l=>simp [bU,and_assoc]
structure Ends (ts:List Tk):Prop where
 pos:0 < ts.length
 le:ts.length<=4001
 last:∀ (i:Nat) (t:Tk),ts[i]? = some t->(t.k=0 ↔ i + 1=ts.length)
abbrev d9 (T:TypeId) (ts:List Tk) (n:Nat):B:=.cells [.fz (ts.map gV),.vl (.int .i64 n)] T
theorem JI (T:TypeId) (ts:List Tk) (n:Nat):d9 T ts (n + 1)=.cells [.fz (ts.map gV),.vl (.int .i64 ((n:Int) + 1))] T:=rfl
def iC (T:TypeId) (post:List Tk->Nat->(S->Hp->Prop)->Prop):W.Spec:=fun xs H K=>
 match xs,H with
 | [.va (.c1 (.pt 0 0))],[.cells [.fz r,.vl (.int .i64 a)] T']=>T'=T/\∃ (ts:List Tk) (n:Nat),r=ts.map gV/\a=n/\Ends ts/\n < ts.length/\post ts n K
 | _,_=>False
theorem pS {T:TypeId} {post:List Tk->Nat->(S->Hp->Prop)->Prop} {xs:List S} {H:Hp} {K:S->Hp->Prop} (h:iC T post xs H K) :
 ∃ ts n,xs=[.va (.c1 (.pt 0 0))]/\H=[d9 T ts n]/\Ends ts/\n < ts.length/\post ts n K:=by
 unfold iC at h
 split at h
 · obtain ⟨rfl,ts,n,rfl,rfl,h1,h2,h3⟩:=h; exact ⟨ts,n,rfl,rfl,h1,h2,h3⟩
 · exact h.elim
theorem AU {T:TypeId} {post:List Tk->Nat->(S->Hp->Prop)->Prop}:∀ xs H K,iC T post xs H K->xs.length=1:=fun xs H K h=>by obtain ⟨ts,n,rfl,_⟩:=pS h; rfl
attribute [go_sem ↓] iC
def dE (ts:List Tk) (n:Nat):Nat:=if n + 1 < ts.length then n + 1 else n
def eC (T:TypeId):W.Spec:=iC T fun ts n K=>∀ t,ts[n]? = some t->K (.va (.gs (gV t))) [d9 T ts n]
def fV (T:TypeId):W.Spec:=iC T fun ts n K=>∀ t,ts[n]? = some t->K (.va (.gs (gV t))) [d9 T ts (dE ts n)]
attribute [go_sem ↓] eC fV
theorem oG:Meets Tryz.prog 38 (eC 123):=by
 refine aG Tryz.func38 YT 1 (by rw [Tryz.ntmps38]; decide) (aB _) AU ?_
 intro xs H K h
 obtain ⟨ts,n,rfl,rfl,hE,hn,hK⟩:=pS h
 simp -dsimp only [go_sem,QL,QC]
 refine ⟨fun h=>?_,fun _=>⟨by omega,fun t ht=>.sel [0] (by simp) (by simp) rfl (.done (hK t ht))⟩⟩
 have:=hE.pos; simp at h; simp [h] at this
theorem FE:Meets Tryz.prog 81 (fV 123):=by
 refine aG Tryz.func81 YS 1 (by rw [Tryz.ntmps81]; decide) (aA oG (aB _)) AU ?_
 intro xs H K h
 obtain ⟨ts,n,rfl,rfl,hE,hn,hK⟩:=pS h
 simp -dsimp only [go_sem,TN,S5]
 refine ⟨ts,n,rfl,rfl,hE,hn,fun t ht=>?_⟩
 have hK:=hK t ht
 have hle:=hE.le
 refine ⟨by omega,fun h=>⟨by omega,?_⟩,fun h=>?_⟩
 · have e:dE ts n=n + 1:=if_pos (by simp at h; omega)
   rw [e,JI] at hK
   exact .sel [0] (by simp) (by simp) rfl (.done hK)
 · have e:dE ts n=n:=if_neg (by simp at h; omega)
   rw [e] at hK
   exact .sel [0] (by simp) (by simp) rfl (.done hK)
def eR (k:Int) (w:List UInt8) (t:Tk):Bool:=t.k == k && t.x == w
def oX (k:Int) (w:List UInt8) (ts:List Tk) (n:Nat) (t:Tk):Nat:=bif eR k w t then dE ts n else n
def dX (k:Int) (T:TypeId):W.Spec:=fun xs H K=>
 match xs,H with
 | [.va (.c1 (.pt 0 0)),.va (.c1 (.vl (.string w)))],[.cells [.fz r,.vl (.int .i64 a)] T']=>T'=T/\∃ (ts:List Tk) (n:Nat),r=ts.map gV/\a=n/\Ends ts/\n < ts.length/\
  ∀ t,ts[n]? = some t->K (bS (eR k (bl w) t)) [d9 T ts (oX k (bl w) ts n t)]
 | _,_=>False
theorem mK {k:Int} {T:TypeId} {xs:List S} {H:Hp} {K:S->Hp->Prop} (h:dX k T xs H K) :
 ∃ w ts n,xs=[.va (.c1 (.pt 0 0)),tS w]/\H=[d9 T ts n]/\Ends ts/\n < ts.length/\∀ t,ts[n]? = some t->K (bS (eR k (bl w) t)) [d9 T ts (oX k (bl w) ts n t)]:=by
 unfold dX at h
 split at h
 · obtain ⟨rfl,ts,n,rfl,rfl,h1,h2,h3⟩:=h; exact ⟨_,ts,n,rfl,rfl,h1,h2,h3⟩
 · exact h.elim
theorem tT {k:Int} {T:TypeId}:∀ xs H K,dX k T xs H K->xs.length=2:=fun xs H K h=>by obtain ⟨w,ts,n,rfl,_⟩:=mK h; rfl
def eK (T:TypeId):W.Spec:=fun xs H K=>
 match xs,H with
 | [.va (.c1 (.pt 0 0)),.va (.c1 (.vl (.int .i64 k))),.va (.c1 (.vl (.string w)))],[.cells [.fz r,.vl (.int .i64 a)] T']=>T'=T/\∃ (ts:List Tk) (n:Nat),r=ts.map gV/\a=n/\Ends ts/\n < ts.length/\
  ∀ t,ts[n]? = some t->K (bS (eR k (bl w) t)) [d9 T ts (oX k (bl w) ts n t)]
 | _,_=>False
theorem r9 {T:TypeId} {xs:List S} {H:Hp} {K:S->Hp->Prop} (h:eK T xs H K) :
 ∃ k w ts n,xs=[.va (.c1 (.pt 0 0)),iS .i64 k,tS w]/\H=[d9 T ts n]/\Ends ts/\n < ts.length/\∀ t,ts[n]? = some t->K (bS (eR k (bl w) t)) [d9 T ts (oX k (bl w) ts n t)]:=by
 unfold eK at h
 split at h
 · obtain ⟨rfl,ts,n,rfl,rfl,h1,h2,h3⟩:=h; exact ⟨_,_,ts,n,rfl,rfl,h1,h2,h3⟩
 · exact h.elim
theorem FO {T:TypeId}:∀ xs H K,eK T xs H K->xs.length=3:=fun xs H K h=>by obtain ⟨k,w,ts,n,rfl,_⟩:=r9 h; rfl
attribute [go_sem ↓] dX eK
theorem NH:Meets Tryz.prog 116 (eK 123):=by
 refine aG Tryz.func116 VE 3 (by rw [Tryz.ntmps116]; decide) (aA oG (aA FE (aB _))) FO ?_
 intro xs H K h
 obtain ⟨k,w,ts,n,rfl,rfl,hE,hn,hK⟩:=r9 h
 simp -dsimp only [go_sem,L6,ML]
 refine ⟨ts,n,rfl,rfl,hE,hn,fun t ht=>?_⟩
 have hK:=hK t ht
 have hg:(t.k != k || !t.x == bl w)=!(eR k (bl w) t):=by simp [eR,bne,Bool.not_and]
 rw [hg]
 refine ⟨fun h=>?_,fun h=>⟨ts,n,rfl,rfl,hE,hn,fun u hu=>?_⟩⟩
 · have h:eR k (bl w) t=false:=by simpa using h
   simp only [oX,h,aH] at hK
   exact .sel [0] (by simp) (by simp) rfl (.done hK)
 · have h:eR k (bl w) t=true:=by simpa using h
   simp only [oX,h,aN] at hK
   exact .sel [0] (by simp) (by simp) rfl (.done hK)
theorem G1:Meets Tryz.prog 82 (dX 4 123):=by
 refine aG Tryz.func82 X3 2 (by rw [Tryz.ntmps82]; decide) (aA NH (aB _)) tT ?_
 intro xs H K h
 obtain ⟨w,ts,n,rfl,rfl,hE,hn,hK⟩:=mK h
 simp -dsimp only [go_sem,UL,SA]
 refine ⟨ts,n,rfl,rfl,hE,hn,fun t ht=>.done ?_⟩
 exact hK t ht
theorem T9:Meets Tryz.prog 80 (dX 1 123):=by
 refine aG Tryz.func80 Y4 2 (by rw [Tryz.ntmps80]; decide) (aA NH (aB _)) tT ?_
 intro xs H K h
 obtain ⟨w,ts,n,rfl,rfl,hE,hn,hK⟩:=mK h
 simp -dsimp only [go_sem,SE,RR]
 refine ⟨ts,n,rfl,rfl,hE,hn,fun t ht=>.done ?_⟩
 exact hK t ht
def iN:W.Spec:=fun xs H K=>
 match xs,H with
 | [.va (.c1 (.vl (.string s)))],[]=>((aL (bl s)).err=0->K (.tu [.c1 (.pt 0 0),iA .i64 0,iA .i64 0]) [d9 123 (aL (bl s)).toks 0])/\
  ((aL (bl s)).err ≠ 0->K (.tu [.c1 (.vl (.pointer none)),iA .i64 (aL (bl s)).err,iA .i64 (aL (bl s)).off]) [])
 | _,_=>False
theorem tY {xs:List S} {H:Hp} {K:S->Hp->Prop} (h:iN xs H K):∃ s,xs=[tS s]/\H=[]/\((aL (bl s)).err=0->K (.tu [.c1 (.pt 0 0),iA .i64 0,iA .i64 0]) [d9 123 (aL (bl s)).toks 0])/\
 ((aL (bl s)).err ≠ 0->K (.tu [.c1 (.vl (.pointer none)),iA .i64 (aL (bl s)).err,iA .i64 (aL (bl s)).off]) []):=by
 unfold iN at h
 split at h
 · exact ⟨_,rfl,rfl,h.1,h.2⟩
 · exact h.elim
attribute [go_sem ↓] iN
theorem YW:Meets Tryz.prog 33 iN:=by
 refine aG Tryz.func33 aAN 1 (by rw [Tryz.ntmps33]; decide) (aA M7 (aB _)) (fun xs H K h=>by obtain ⟨s,rfl,_⟩:=tY h; rfl) ?_
 intro xs H K h
 obtain ⟨s,rfl,rfl,hK1,hK2⟩:=tY h
 simp -dsimp only [go_sem,PV,QZ]
 refine ⟨fun h=>.done (hK2 (by simpa using h)),fun h=>?_⟩
 have hK:=hK1 (by simpa using h)
 exact .sel [0] (by simp) (by simp) rfl (.done hK)
end Go.Proofs.YtgogpogophflhaaGreatDoor
namespace Go.Proofs.YtgogpogophflhaaGreatDoor.Pr
open Go.W
def pc24:PC:=.seq (.reg [.q 2 (.mv (.k (.string (mk []))))]) (.seq (.reg [.e 3 (.al (.agg #[(.pointer none),(.slice none 0 0)]) 95)]) (.seq (.seq (.reg [.v 8 0,.q 9 (.lnL (.t 8)),.q 10 (.mv (.i 0))]) (.block 0 (.loop (.seq (.reg [.q 11 (.bin .lss true (.t 10) (.t 9))]) (.seq (.cond (.t 11) .skip (.exit 0)) (.seq (.block 1 (.seq (.reg [.l 12 (.ia 4 (.t 8) (.t 10)),.l 13 (.ldn 4 (.t 12)),.e 5 (.al (.agg #[(.int .i64 0),(.string (mk [])),(.int .i64 0),(.int .i64 0)]) 74),.s (.st 4 (.t 5) (.t 13))]) (.seq (.reg [.l 15 (.ldn 4 (.t 5)),.a 16 (.cl 59 [(.t 15)] []),.v 14 16,.q 17 (.ex (.t 14) 0),.q 18 (.ex (.t 14) 1),.v 6 17,.v 7 18]) (.seq (.seq (.reg [.v 19 7,.q 20 (.not (.t 19))]) (.cond (.t 20) (.exit 1) .skip)) (.seq (.seq (.reg [.a 21 (.cl 60 [(.t 3)] [0,1]),.q 22 (.bin .gtr true (.t 21) (.i 0))]) (.cond (.t 22) (.reg [.a 23 (.cl 61 [(.t 3),(.k (.int .u8 32))] [0,1])]) .skip)) (.reg [.v 24 6,.a 25 (.cl 62 [(.t 3),(.t 24)] [0,1])])))))) (.reg [.q 26 (.bin .add true (.t 10) (.i 1)),.v 10 26]))))))) (.seq (.reg [.a 27 (.cl 63 [(.t 3)] [0,1]),.v 2 27]) .ret)))
def rs24:List RV:=[.mv (.t 2)]
theorem ok24:aV Tryz.prog true ⟨fun r k=>if r=7/\k=0 then .own [0,1] else if r=8/\k=0 then .own [0,1] else if r=9/\k=1 then .own [0,1] else if r=11/\k=0 then .own [0,1] else .own [],fun _=>false⟩ Tryz.f24=some (pc24,rs24):=by kernel_rfl
def pc62:PC:=.seq (.reg [.q 4 (.mv (.i 0)),.q 5 (.mv (.k .nilIface))]) (.seq (.reg [.v 6 0,.a 7 (.cl 109 [(.t 6)] [0,1])]) (.seq (.reg [.v 8 0,.v 9 0,.q 10 (.nc (.t 9)),.q 11 (.fa 1 (.t 10)),.l 12 (.ld1 (.t 11)),.v 13 1,.e 14 (.aps 5 (.t 12) (.t 13)),.q 15 (.nc (.t 8)),.q 16 (.fa 1 (.t 15)),.s (.st 1 (.t 16) (.t 14))]) (.seq (.reg [.v 17 1,.q 18 (.lnS (.t 17)),.v 4 18,.q 5 (.mv (.k .nilIface))]) .ret)))
def rs62:List RV:=[.mv (.t 4),.mv (.t 5)]
theorem ok62:aV Tryz.prog true ⟨fun r k=>if r=1/\k=1 then .own [0,1] else .own [],fun _=>false⟩ Tryz.f62=some (pc62,rs62):=by kernel_rfl
def pc106_4:PC:=.seq (.gh (.reg [.q 4 (.mv (.k (.string (mk []))))])) (.seq (.seq (.reg [.q 5 (.mv (.k (.bool true)))]) (.block 0 (.loop (.seq (.seq (.reg [.v 12 5,.v 13 12,⟨some 14,(some (13,false)),.q (.mv (.t 3))⟩,⟨some 15,(some (13,false)),.q (.bin .gtr true (.t 14) (.k (.int .u64 0)))⟩,.a 16 (.pick (.t 13) (.k (.bool true)) (.t 15))]) (.cond (.t 16) .skip (.exit 0))) (.seq (.block 1 (.seq (.reg [.v 17 3,.q 18 (.bin .rem true (.t 17) (.k (.int .u64 10))),.q 19 (.bin .add true (.k (.int .u64 48)) (.t 18)),.q 20 (.cvt .u8 (.t 19)),.e 21 (.bsl 5 1 [(.t 20)]),.q 22 (.b2s (.t 21)),.v 23 4,.q 24 (.bin .add true (.t 22) (.t 23)),.v 4 24]) (.reg [.v 25 3,.q 26 (.bin .quo true (.t 25) (.k (.int .u64 10))),.v 3 26]))) (.reg [.q 5 (.mv (.k (.bool false)))])))))) (.seq (.seq (.reg [.v 27 0,.q 28 (.bin .lss true (.t 27) (.i 0))]) (.cond (.t 28) (.seq (.reg [.v 29 4,.q 30 (.bin .add true (.k (.string (mk [45]))) (.t 29)),.v 2 30]) .ret) .skip)) (.seq (.reg [.v 31 4,.v 2 31]) .ret)))
@[go_sem ↓] theorem HT:bY pc106_4:=bZ _
def pc106:PC:=.seq (.reg [.q 2 (.mv (.k (.string (mk []))))]) (.seq (.reg [.v 6 0,.q 7 (.cvt .u64 (.t 6)),.v 3 7]) (.seq (.seq (.reg [.v 8 0,.q 9 (.bin .lss true (.t 8) (.i 0))]) (.cond (.t 9) (.reg [.v 10 3,.q 11 (.neg false (.t 10)),.v 3 11]) .skip)) (pc106_4)))
def rs106:List RV:=[.mv (.t 2)]
theorem ok106:aV Tryz.prog true ⟨fun _ _=>.own [],fun r=>[4].contains r⟩ Tryz.f106=some (pc106,rs106):=by kernel_rfl
end Go.Proofs.YtgogpogophflhaaGreatDoor.Pr
namespace Go.Proofs.YtgogpogophflhaaGreatDoor
open Go.W
def digs (n:Nat):List UInt8:=(if h:n < 10 then [] else digs (n / 10)) ++ [(48 + n % 10).toUInt8]
 termination_by n
 decreasing_by omega
theorem jG {n:Nat} (h:n < 10):digs n=[(48 + n).toUInt8]:=by
 rw [digs.eq_1,dif_pos h,Nat.mod_eq_of_lt h]; rfl
theorem m3 {n:Nat} (h:10<=n):digs n=digs (n / 10) ++ [(48 + n % 10).toUInt8]:=by
 rw [digs.eq_1,dif_neg (by omega)]
theorem tH:∀ (k n:Nat),n < 10 ^ (k + 1)->(digs n).length<=k + 1
 | 0,n,h=>by rw [jG (by omega)]; simp
 | k + 1,n,h=>by
  rcases bQ n 10 with h1 | h1
  · rw [jG h1]; simp
  · rw [m3 h1,List.length_append]
    have:=tH k (n / 10) (by rw [Nat.pow_succ] at h; omega)
    simp; omega
def bX (n:Int):List UInt8:=bif decide (n < 0) then 45 :: digs n.natAbs else digs n.natAbs
def nW (f:Bool) (u:Nat):List UInt8:=bif f || decide (0 < u) then digs u else []
theorem GU {f:Bool} {u:Nat} (h:(f || decide (0 < u))=true):nW f u=nW false (u / 10) ++ [(48 + u % 10).toUInt8]:=by
 unfold nW
 rw [h,aN,Bool.false_or]
 rcases bQ u 10 with h1 | h1
 · rw [jG h1,Nat.mod_eq_of_lt h1,show decide (0 < u / 10)=false by simp; omega]; rfl
 · rw [m3 h1,show decide (0 < u / 10)=true by simp; omega]; rfl
def tW:List S->Prop:=fun xs=>match xs with
 | [.va (.c1 (.vl (.int .i64 n)))]=>-9223372036854775808<=n/\n<=9223372036854775807
 | _=>False
theorem mT {xs:List S} (h:tW xs):∃ n:Int,xs=[iS .i64 n]/\-9223372036854775808<=n/\n<=9223372036854775807:=by
 unfold tW at h
 split at h
 · exact ⟨_,rfl,h⟩
 · exact h.elim
def IT:List S->A:=fun xs=>match xs with
 | [.va (.c1 (.vl (.int .i64 n)))]=>tA (mk (bX n))
 | _=>.gs []
def decFn:Fun:=⟨tW,IT,fun xs h=>by obtain ⟨n,rfl,_⟩:=mT h; trivial⟩
theorem I3:∀ xs H K,decFn.sp xs H K->xs.length=1:=fun xs H K h=>by obtain ⟨n,rfl,_⟩:=mT h.1.1; rfl
attribute [go_sem ↓] tW IT decFn
theorem JN:Meets Tryz.prog 106 decFn.sp:=by
 refine aG Tryz.func106 Pr.ok106 1 (by rw [Tryz.ntmps106]; decide) (aB _) I3 ?_
 intro xs H K h
 obtain ⟨⟨hp,rfl⟩,hK⟩:=h
 obtain ⟨n,rfl,hn1,hn2⟩:=mT hp
 have hK':K (tS (mk (bX n))) []:=hK
 have rest:vc [] 0 Pr.pc106_4.ungh (cZ [(0,iS .i64 n),(3,iS .u64 n.natAbs)]) [] (eV 0 Pr.rs106 K):=by
  simp -dsimp only [go_sem,Pr.pc106_4,Pr.rs106]
  refine a6 (α:=Bool × Nat × List UInt8) (fun z=>[(0,iS .i64 n),(3,iS .u64 z.2.1),(4,tS (mk z.2.2)),(5,bS z.1)]) (fun _=>[]) (fun z=>z.2.1<=9223372036854775808/\nW z.1 z.2.1 ++ z.2.2=digs n.natAbs) (fun z=>2 * z.2.1 + (bif z.1 then 1 else 0)) (true,n.natAbs,[]) 0 ⟨by simp only; omega,by simp [nW]⟩ ?_ rfl ?_
  · simp [go_sem]
  rintro ⟨f,u,acc⟩ ⟨hu,hr⟩
  simp only at hu hr
  have hl:=tH 19 n.natAbs (by omega)
  rw [<-hr,List.length_append] at hl
  simp -dsimp only [go_sem]
  have hu0:decide (0 < (u:Int))=decide (0 < u):=by rw [decide_eq_decide]; omega
  have ht:(u:Int).tmod 10=(u % 10:Nat):=by rw [Int.tmod_eq_emod_of_nonneg (by omega)]; omega
  have hd:(u:Int).tdiv 10=(u / 10:Nat):=by rw [Int.tdiv_eq_ediv_of_nonneg (by omega)]; omega
  have hm:=Nat.mod_lt u (show 0 < 10 by decide)
  have hw:IntKind.u8.wrap (48 + ((u % 10:Nat):Int))=48 + ((u % 10:Nat):Int):=nR (by simp [inr,IntKind.min,IntKind.max,IntKind.signed,IntKind.bits]; omega)
  rw [hu0,ht,hd,hw]
  have hb:iO [[C.vl (Value.int IntKind.u8 (48 + ((u % 10:Nat):Int)))]]=[(48 + u % 10).toUInt8]:=by
   show [UInt8.ofNat (48 + ((u % 10:Nat):Int)).toNat]=_
   rw [show (48 + ((u % 10:Nat):Int)).toNat=48 + u % 10 by omega]
  rw [hb]
  refine ⟨fun hf=>⟨by decide,by omega,rfl,by simp; omega,⟨by decide,by omega⟩,?_⟩,fun hf=>⟨fun h0=>⟨by omega,?_⟩,fun h0=>?_⟩⟩
  · rw [GU hf,List.append_assoc] at hr
    refine aD (false,u / 10,[(48 + u % 10).toUInt8] ++ acc) 0 ⟨by simp only; omega,hr⟩ ?_ ?_ rfl
    · cases f with
      | true=>simp only [aN,aH]; omega
      | false=>simp at hf; simp only [aH]; omega
    · simp [go_sem]
  · have:acc=digs n.natAbs:=by rw [<-hr]; simp [nW,hf]
    refine .done ?_
    rw [this]
    simpa [bX,h0] using hK'
  · have:acc=digs n.natAbs:=by rw [<-hr]; simp [nW,hf]
    refine .done ?_
    rw [this]
    simpa [bX,h0] using hK'
 simp -dsimp only [go_sem,Pr.pc106,Pr.rs106]
 have w:∀ m:Int,IntKind.u64.wrap m=m % 18446744073709551616:=fun m=>by simp [IntKind.wrap,IntKind.signed,IntKind.bits]
 refine ⟨fun h0=>cJ 0 rest ?_ rfl,fun h0=>cJ 0 rest ?_ rfl⟩
 · simp at h0
   simp [go_sem,w]
   omega
 · simp at h0
   simp [go_sem,w]
   omega
def lM (c:UInt8):List UInt8:=bif c == 34 || c == 92 then [92,c] else [c]
def gB (l:List UInt8) (i:Nat):List UInt8:=34 :: (l.take i).flatMap lM
def lA (l:List UInt8):List UInt8:=34 :: l.flatMap lM ++ [34]
theorem I4 {l:List UInt8} {i:Nat} {c:UInt8} (h:l[i]? = some c):gB l (i + 1)=gB l i ++ lM c:=by
 unfold gB
 rw [List.take_add_one,h]
 simp
theorem JL (c:UInt8):(lM c).length<=2:=by unfold lM; cases c == 34 || c == 92<;>simp
theorem xP (l:List UInt8):(l.flatMap lM).length<=2 * l.length:=by
 induction l with
 | nil=>simp
 | cons c l ih=>have:=JL c; simp only [List.flatMap_cons,List.length_append,List.length_cons]; omega
theorem K4 (l:List UInt8) (i:Nat):(gB l i).length<=1 + 2 * l.length:=by
 have:=xP (l.take i)
 simp only [gB,List.length_cons]
 simp only [List.length_take] at this
 omega
theorem JW (l:List UInt8):gB l l.length ++ [34]=lA l:=by unfold gB lA; rw [List.take_length]
def uR:List S->Prop:=fun xs=>match xs with
 | [.va (.c1 (.vl (.string s)))]=>(bl s).length<=10000000
 | _=>False
theorem mH {xs:List S} (h:uR xs):∃ s,xs=[tS s]/\(bl s).length<=10000000:=by
 unfold uR at h
 split at h
 · exact ⟨_,rfl,h⟩
 · exact h.elim
def IS:List S->A:=fun xs=>match xs with
 | [.va (.c1 (.vl (.string s)))]=>tA (mk (lA (bl s)))
 | _=>.gs []
def quoFn:Fun:=⟨uR,IS,fun xs h=>by obtain ⟨s,rfl,_⟩:=mH h; trivial⟩
theorem HN:∀ xs H K,quoFn.sp xs H K->xs.length=1:=fun xs H K h=>by obtain ⟨s,rfl,_⟩:=mH h.1.1; rfl
attribute [go_sem ↓] uR IS quoFn
theorem BR (l:List UInt8):iO (l.map eE)=l:=by
 simp only [iO,List.map_map]
 conv=>rhs; rw [<-List.map_id l]
 apply List.map_congr_left
 intro c _
 simp [C.gi,eE]
theorem OT:Meets Tryz.prog 107 quoFn.sp:=by
 refine aG Tryz.func107 UT 1 (by rw [Tryz.ntmps107]; decide) (aB _) HN ?_
 intro xs H K h
 obtain ⟨⟨hp,rfl⟩,hK⟩:=h
 obtain ⟨s,rfl,hs⟩:=mH hp
 have hK':K (tS (mk (lA (bl s)))) []:=hK
 have h34:∀ c:UInt8,((c.toNat:Int) == 34)=(c == 34):=fun c=>p6 34
 have h92:∀ c:UInt8,((c.toNat:Int) == 92)=(c == 92):=fun c=>p6 92
 simp -dsimp only [go_sem,NA,MJ]
 refine a6 (α:=Nat) (fun i=>[(0,tS s),(3,.va (.c1 (.sl 0 (gB (bl s) i).length))),(7,iS .i64 (bl s).length),(8,iS .i64 i)]) (fun i=>[.row ((gB (bl s) i).map eE) 5 1]) (fun i=>i<=(bl s).length) (fun i=>(bl s).length - i) 0 1 (by omega) ?_ (by simp [go_sem,gB]) ?_
 · simp [go_sem,gB]
 intro i hi
 have hl:=K4 (bl s) i
 simp -dsimp only [go_sem,h34,h92]
 have hap:∀ (l:List UInt8) (c:UInt8),l.map eE ++ [[C.vl (.int .u8 c.toNat)]]=(l ++ [c]).map eE:=fun l c=>by rw [List.map_append]; rfl
 have hap34:(gB (bl s) i).map eE ++ [[C.vl (.int .u8 34)]]=(gB (bl s) i ++ [34]).map eE:=hap _ 34
 have hap92:(gB (bl s) i).map eE ++ [[C.vl (.int .u8 92)]]=(gB (bl s) i ++ [92]).map eE:=hap _ 92
 refine ⟨fun h1=>?_,fun h1=>?_⟩
 · simp at h1
   refine ⟨by omega,fun c hc=>⟨fun _=>by omega,fun d hd=>?_⟩⟩
   have hE:(c == 34 || d == 92)=(c == 34 || c == 92):=by
    cases h7:c == 34 with
    | true=>rfl
    | false=>
     have:=hd h7
     rw [hc] at this
     obtain rfl:=aZ this
     rfl
   have hst:=I4 hc
   rw [hE]
   unfold lM at hst
   refine ⟨fun h2=>⟨by omega,by omega,fun e he=>?_⟩,fun h2=>⟨by omega,fun e he=>?_⟩⟩
   · rw [hc] at he
     obtain rfl:=aZ he
     rw [h2,aN] at hst
     have hst':gB (bl s) (i + 1)=gB (bl s) i ++ [92] ++ [c]:=by rw [hst,List.append_assoc]; rfl
     refine ⟨by omega,by omega,?_⟩
     refine aD (i + 1) 1 (by omega) (by omega) ?_ ?_
     · simp -dsimp only [go_sem,hst']
       simp
     · simp -dsimp only [go_sem,hst',List.map_cons,List.map_nil]
       rfl
   · rw [hc] at he
     obtain rfl:=aZ he
     rw [h2,aH] at hst
     refine ⟨by omega,by omega,?_⟩
     refine aD (i + 1) 1 (by omega) (by omega) ?_ ?_
     · simp -dsimp only [go_sem,hst]
       simp
     · simp -dsimp only [go_sem,hst,List.map_cons,List.map_nil]
 · simp at h1
   obtain rfl:i=(bl s).length:=by omega
   rw [hap34,BR,JW]
   refine ⟨by omega,fun r hr=>?_,.z (hK')⟩
   obtain ⟨c,_,rfl⟩:=List.mem_map.1 hr
   rfl
def GN:W.Spec:=fun av H K=>
 match av,H with
 | [.va (.c1 (.pt 0 0)),.va (.c1 (.vl (.string s)))],[.cells [p,.sl 1 n] 95,.row xs 5 1]=>(gW p n xs/\(bl s).length<=1000000000)/\
  K (.tu [iA .i64 (bl s).length,.c1 (.vl .nilIface)]) [.cells [.pt 0 0,.sl 1 (n + (bl s).length)] 95,.row (xs ++ (bl s).map eE) 5 1]
 | _,_=>False
theorem yC {av:List S} {H:Hp} {K:S->Hp->Prop} (h:GN av H K):∃ p n xs s,av=[.va (.c1 (.pt 0 0)),tS s]/\H=[.cells [p,.sl 1 n] 95,.row xs 5 1]/\gW p n xs/\(bl s).length<=1000000000/\
 K (.tu [iA .i64 (bl s).length,.c1 (.vl .nilIface)]) [.cells [.pt 0 0,.sl 1 (n + (bl s).length)] 95,.row (xs ++ (bl s).map eE) 5 1]:=by
 unfold GN at h
 split at h
 · exact ⟨_,_,_,_,rfl,rfl,h.1.1,h.1.2,h.2⟩
 · exact h.elim
attribute [go_sem ↓] GN
theorem CM:Meets Tryz.prog 62 GN:=by
 refine aG Tryz.func62 Pr.ok62 2 (by rw [Tryz.ntmps62]; decide) (aA tR (aB _)) (fun av H K h=>by obtain ⟨_,_,_,_,rfl,_⟩:=yC h; rfl) ?_
 intro av H K h
 obtain ⟨p,n,xs,s,rfl,rfl,hp,hs,hK⟩:=yC h
 obtain ⟨hp1,rfl,hp2,hp3⟩:=hp
 rcases hp1 with rfl | rfl
 all_goals
  simp -dsimp only [go_sem,Pr.pc62,Pr.rs62] at hK ⊢
  exact ⟨⟨by simp,rfl,hp2,hp3⟩,by omega,.done hK⟩
def kC (c:UInt8):Bool:=decide (32<=c) && decide (c<=126)
def f0 (k:Int) (x:List UInt8) (n:Int):List UInt8:=bif k == 1 then x else bif k == 2 then bX n else bif k == 3 then lA x else bif k == 4 then x else []
def iV (k:Int) (x:List UInt8) (n:Int):Bool:=
 bif k == 1 then n == 0 && bU x else bif k == 2 then x == [] else bif k == 3 then n == 0 && (decide (x.length<=200) && x.all kC) else bif k == 4 then n == 0 && (match x with | [c]=>d7 c.toNat | _=>false) else false
def uZ:W.Spec:=fun xs H K=>
 match xs with
 | [.va (.gs [.vl (.int .i64 k),.vl (.string x),.vl (.int .i64 n),.vl (.int .i64 _)])]=>(H=[]/\(-9223372036854775808<=n/\n<=9223372036854775807)/\(bl x).length<=10000000)/\K (.tu [tA (mk (f0 k (bl x) n)),bA (iV k (bl x) n)]) []
 | _=>False
theorem vT {xs:List S} {H:Hp} {K:S->Hp->Prop} (h:uZ xs H K):∃ k x n a,xs=[.va (.gs (lQ k x n a))]/\H=[]/\(-9223372036854775808<=n/\n<=9223372036854775807)/\(bl x).length<=10000000/\K (.tu [tA (mk (f0 k (bl x) n)),bA (iV k (bl x) n)]) []:=by
 unfold uZ at h
 split at h
 · exact ⟨_,_,_,_,rfl,h.1.1,h.1.2.1,h.1.2.2,h.2⟩
 · exact h.elim
theorem IK:∀ xs H K,uZ xs H K->xs.length=1:=fun xs H K h=>by obtain ⟨_,_,_,_,rfl,_⟩:=vT h; rfl
attribute [go_sem ↓] uZ
theorem JP:Meets Tryz.prog 59 uZ:=by
 refine aG Tryz.func59 Z4 1 (by rw [Tryz.ntmps59]; decide) (aK m4 (aK JN (aK OT (aK CJ (aB _))))) IK ?_
 intro xs H K h
 obtain ⟨k,x,n,a,rfl,rfl,hn,hx,hK⟩:=vT h
 simp -dsimp only [go_sem,Q0,QT]
 have fin:∀ (H':Hp) (y:ByteArray) (b:Bool),y=mk (f0 k (bl x) n)->b=iV k (bl x) n->W.Fin 0 K (.tu [tA y,bA b]) H':=fun H' y b h1 h2=>by
  subst h1; subst h2
  exact .z (hK)
 refine ⟨fun h1=>fin _ _ _ (by simp [f0,h1]) (by simp [iV,h1]),fun h1=>⟨fun h2=>⟨hn,fin _ _ _ (by simp [f0,h1,h2]) (by simp [iV,h1,h2])⟩,fun h2=>⟨fun h3=>?_,fun h3=>⟨fun h4=>?_,fun h4=>fin _ _ _ (by simp [f0,h1,h2,h3,h4]) (by simp [iV,h1,h2,h3,h4])⟩⟩⟩⟩
 · refine a6 (α:=Nat) (fun i=>[(1,.va (.c1 (.pt 0 0))),(4,bS (n == 0 && (decide ((bl x).length<=200) && ((bl x).take i).all kC))),(41,iS .i64 (bl x).length),(42,iS .i64 i)]) (fun _=>[.cells (lQ k x n a) 74]) (fun i=>i<=(bl x).length) (fun i=>(bl x).length - i) 0 1 (by omega) ?_ (by simp [go_sem]) ?_
   · simp [go_sem]
     congr 1
     rw [decide_eq_decide]; omega
   intro i hi
   simp -dsimp only [go_sem]
   refine ⟨fun h5=>⟨fun _=>by simp at h5; omega,fun c hc=>⟨fun _=>by simp at h5; omega,fun d hd=>⟨by omega,aD (i + 1) 1 (by simp at h5; omega) (by simp at h5; omega) ?_ (by simp [go_sem])⟩⟩⟩,fun h5=>?_⟩
   · have hE:(n == 0 && (decide ((bl x).length<=200) && (List.take i (bl x)).all kC) && decide (32<=(c.toNat:Int)) && decide ((d.toNat:Int)<=126))=(n == 0 && (decide ((bl x).length<=200) && (List.take (i + 1) (bl x)).all kC)):=by
      have hlt:i < (bl x).length:=by simp at h5; omega
      have hg:=aT hlt
      rw [List.take_add_one,hg,List.all_append]
      generalize (bl x)[i]=e at hg
      simp only [Option.toList_some,List.all_cons,List.all_nil,Bool.and_true]
      have hb:∀ p q r s:Bool,(p && (q && (r && s)))=(p && (q && r) && s):=by decide
      rw [hb]
      generalize (n == 0 && (decide ((bl x).length<=200) && (List.take i (bl x)).all kC))=g at hc hd ⊢
      cases g with
      | false=>rfl
      | true=>
       obtain rfl:e=c:=by have:=hc rfl; rw [hg] at this; exact aZ this
       have e32:decide (32<=(e.toNat:Int))=decide (32<=e):=by rw [decide_eq_decide,UInt8.le_iff_toNat_le]; show _ ↔ 32<=e.toNat; omega
       have e126:∀ d:UInt8,decide ((d.toNat:Int)<=126)=decide (d<=126):=fun d=>by rw [decide_eq_decide,UInt8.le_iff_toNat_le]; show _ ↔ d.toNat<=126; omega
       rw [e32] at hd ⊢
       rw [e126]
       unfold kC
       cases h6:decide (32<=e) with
       | false=>rfl
       | true=>
        rw [h6] at hd
        obtain rfl:e=d:=by have:=hd rfl; rw [hg] at this; exact aZ this
        rfl
     rw [<-hE]
     simp [go_sem]
   · obtain rfl:i=(bl x).length:=by simp at h5; omega
     rw [List.take_length]
     exact ⟨hx,fin _ _ _ (by simp [f0,h1,h2,h3]) (by simp [iV,h1,h2,h3])⟩
 · refine ⟨fun h5=>by simp at h5; omega,fun c hc=>⟨fun _=>by have:=c.toNat_lt; omega,fin _ _ _ (by simp [f0,h1,h2,h3,h4]) ?_⟩⟩
   rw [Q9]
   simp only [iV,h1,h2,h3,h4,aN,aH]
   cases h6:n == 0 with
   | false=>rfl
   | true=>
    rw [h6] at hc
    cases hb:bl x with
    | nil=>rfl
    | cons d r=>
     rw [hb] at hc
     cases r with
     | nil=>
      obtain rfl:d=c:=by simpa using hc
      rfl
     | cons e r=>
      have:((((d :: e :: r).length:Nat):Int) == 1)=false:=by simp; omega
      rw [this]; rfl
structure Tx where
 k:Int
 x:List UInt8
 n:Int
 a:Int
abbrev rO (t:Tx):List C:=lQ t.k (mk t.x) t.n t.a
structure TkFit (t:Tx):Prop where
 lo:-9223372036854775808<=t.n
 hi:t.n<=9223372036854775807
 len:t.x.length<=100000
def nN (acc:List UInt8) (t:Tx):List UInt8:=bif iV t.k t.x t.n then acc ++ (bif (acc == []) then [] else [32]) ++ f0 t.k t.x t.n else acc
def dL (ts:List Tx):List UInt8:=ts.foldl nN []
def dH (ts:List Tx) (i:Nat):List UInt8:=(ts.take i).foldl nN []
theorem rW {ts:List Tx} {i:Nat} {t:Tx} (h:ts[i]? = some t):dH ts (i + 1)=nN (dH ts i) t:=by
 unfold dH
 rw [List.take_add_one,h,List.foldl_append]; rfl
theorem t6 (ts:List Tx):dH ts ts.length=dL ts:=by unfold dH dL; rw [List.take_length]
theorem fR {n:Int} (h1:-9223372036854775808<=n) (h2:n<=9223372036854775807):(bX n).length<=21:=by
 have:=tH 19 n.natAbs (by omega)
 unfold bX
 cases decide (n < 0)<;>simp<;>omega
theorem A2 {t:Tx} (h:TkFit t):(f0 t.k t.x t.n).length<=200002:=by
 have h1:=fR h.lo h.hi
 have h2:=xP t.x
 have h3:=h.len
 unfold f0 lA
 cases t.k == 1<;>cases t.k == 2<;>cases t.k == 3<;>cases t.k == 4<;>simp -dsimp only [aN,aH,List.length_append,List.length_cons,List.length_nil]<;>omega
theorem C0 {acc:List UInt8} {t:Tx} (h:TkFit t):(nN acc t).length<=acc.length + 200003:=by
 have:=A2 h
 unfold nN
 cases iV t.k t.x t.n<;>cases (acc == [])<;>simp<;>omega
theorem uG {ts:List Tx} (h:∀ t ∈ ts,TkFit t):∀ i,i<=ts.length->(dH ts i).length<=i * 200003
 | 0,_=>by simp [dH]
 | i + 1,hi=>by
  have h1:=uG h i (by omega)
  have hg:ts[i]? = some ts[i]:=aT (by omega)
  rw [rW hg]
  have:=C0 (acc:=dH ts i) (h _ (bH hg))
  omega
def vB:List S->Prop:=fun xs=>match xs with
 | [.va (.c1 (.fz rs))]=>∃ ts:List Tx,rs=ts.map rO/\ts.length<=4001/\∀ t ∈ ts,TkFit t
 | _=>False
theorem mM {xs:List S} (h:vB xs):∃ ts:List Tx,xs=[.va (.c1 (.fz (ts.map rO)))]/\ts.length<=4001/\∀ t ∈ ts,TkFit t:=by
 unfold vB at h
 split at h
 · obtain ⟨ts,rfl,h1,h2⟩:=h
   exact ⟨_,rfl,h1,h2⟩
 · exact h.elim
def C.tk (r:List C):Tx:=match r with
 | [.vl (.int .i64 k),.vl (.string x),.vl (.int .i64 n),.vl (.int .i64 a)]=>⟨k,bl x,n,a⟩
 | _=>⟨0,[],0,0⟩
theorem RL (t:Tx):C.tk (rO t)=t:=rfl
def uK:List S->A:=fun xs=>match xs with
 | [.va (.c1 (.fz rs))]=>tA (mk (dL (rs.map C.tk)))
 | _=>.gs []
theorem pI (ts:List Tx):uK [.va (.c1 (.fz (ts.map rO)))]=tA (mk (dL ts)):=by
 show tA (mk (dL ((ts.map rO).map C.tk)))=_
 rw [List.map_map,show (C.tk ∘ rO)=id from funext RL,List.map_id]
def prtFn:Fun:=⟨vB,uK,fun xs h=>by obtain ⟨ts,rfl,_⟩:=mM h; rw [pI]; trivial⟩
theorem HQ:∀ xs H K,prtFn.sp xs H K->xs.length=1:=fun xs H K h=>by obtain ⟨ts,rfl,_⟩:=mM h.1.1; rfl
theorem Q4:Meets Tryz.prog 24 prtFn.sp:=by
 refine aG Tryz.func24 Pr.ok24 1 (by rw [Tryz.ntmps24]; decide) (aA JP (aA P2 (aA tN (aA CM (aA EB (aB _)))))) HQ ?_
 intro xs H K h
 obtain ⟨⟨hp,rfl⟩,hK⟩:=h
 obtain ⟨ts,rfl,h60,hf⟩:=mM hp
 have hK':K (tS (mk (dL ts))) []:=by have:=hK; rw [show prtFn.val=uK from rfl,pI] at this; exact this
 simp -dsimp only [go_sem,Pr.pc24,Pr.rs24]
 refine cI (α:=C × Nat) (fun z=>[(3,.va (.c1 (.pt 0 0))),(8,.va (.c1 (.fz (ts.map rO)))),(9,iS .i64 ts.length),(10,iS .i64 z.2)])
  (fun z=>[.cells [z.1,.sl 1 (dH ts z.2).length] 95,.row ((dH ts z.2).map eE) 5 1])
  (fun z=>(z.1=.vl (.pointer none)\/z.1=.pt 0 0)/\z.2<=ts.length) (fun z=>ts.length - z.2)
  (.nilc 0 1 5 1 _ _ rfl rfl (gZ (.vl (.pointer none),0) 2 ⟨.inl rfl,by simp only; omega⟩ ?_ ?_)) ?_
 · simp [go_sem]
 · simp -dsimp only [go_sem]; simp [dH]
 rintro ⟨p,i⟩ ⟨hp,hi⟩
 simp only at hp hi
 have hl:=uG hf i hi
 have hby:∀ (l:List UInt8),∀ r ∈ l.map eE,∃ c:UInt8,r=eE c:=fun l r hr=>by obtain ⟨c,_,rfl⟩:=List.mem_map.1 hr; exact ⟨c,rfl⟩
 have hI:∀ (p:C) (l:List UInt8),(p=.vl (.pointer none)\/p=.pt 0 0)->l.length<=1000000000->gW p l.length (l.map eE):=fun p l h1 h2=>⟨h1,by simp,hby l,by simpa using h2⟩
 have hap:∀ (l:List UInt8),l.map eE ++ [[C.vl (.int .u8 32)]]=(l ++ [32]).map eE:=fun l=>by rw [List.map_append]; rfl
 rcases hp with rfl | rfl
 all_goals
  simp -dsimp only [go_sem,PH]
  refine ⟨fun h1=>⟨by simp at h1; omega,fun t ht=>?_⟩,fun h1=>?_⟩
  · have hft:=hf t (bH ht)
    have hlx:=hft.len
    have hxl:=A2 hft
    have hst:=rW ht
    have hlt:i < ts.length:=by simp at h1; omega
    refine ⟨⟨⟨hft.lo,hft.hi⟩,by omega⟩,fun h2=>⟨by omega,?_⟩,fun h2=>?_⟩
    · simp only [nN,h2,aH] at hst
      first
       | (refine aD (C.vl (.pointer none),i + 1) 2 ⟨.inl rfl,hlt⟩ (by simp only; omega) (by simp [go_sem]) ?_; simp -dsimp only [go_sem,hst]; done)
       | (refine aD (C.pt 0 0,i + 1) 2 ⟨.inr rfl,hlt⟩ (by simp only; omega) (by simp [go_sem]) ?_; simp -dsimp only [go_sem,hst]; done)
    · have h2':iV t.k t.x t.n=true:=by simpa using h2
      simp only [nN,h2',aN] at hst
      refine ⟨hI _ _ (by simp) (by omega),fun h3=>?_,fun h3=>?_⟩
      · have hne:(dH ts i == [])=false:=by
         cases hq:dH ts i with
         | nil=>rw [hq] at h3; simp at h3
         | cons c l=>rfl
        rw [hne,aH] at hst
        have hB:gW (C.pt 0 0) ((dH ts i).length + 1) ((dH ts i).map eE ++ [[C.vl (.int .u8 32)]]):=by
         rw [hap]
         have:=hI (.pt 0 0) (dH ts i ++ [32]) (.inr rfl) (by simp; omega)
         simpa only [List.length_append,List.length_cons,List.length_nil] using this
        refine ⟨⟨hI _ _ (by simp) (by omega),by omega⟩,⟨hB,by omega⟩,by omega,aD (C.pt 0 0,i + 1) 2 ⟨.inr rfl,hlt⟩ (by simp only; omega) (by simp [go_sem]) ?_⟩
        simp -dsimp only [go_sem,hst,List.map_cons,List.map_nil]
        rfl
      · have hne:(dH ts i == [])=true:=by
         cases hq:dH ts i with
         | nil=>rfl
         | cons c l=>rw [hq] at h3; simp at h3
        rw [hne,aN,List.append_nil] at hst
        refine ⟨⟨hI _ _ (by simp) (by omega),by omega⟩,by omega,aD (C.pt 0 0,i + 1) 2 ⟨.inr rfl,hlt⟩ (by simp only; omega) (by simp [go_sem]) ?_⟩
        simp -dsimp only [go_sem,hst]
  · obtain rfl:i=ts.length:=by simp at h1; omega
    rw [BR,t6]
    exact ⟨hI _ _ (by simp) (by rw [t6] at hl; omega),.z (hK')⟩
theorem BX {l x rest:List UInt8} {a:Nat} (h:l.drop a=x ++ rest):(l.take (a + x.length)).drop a=x:=by
 rw [List.drop_take,h,Nat.add_sub_cancel_left,List.take_left]
theorem AF {l x rest:List UInt8} {a:Nat} (h:l.drop a=x ++ rest) (j:Nat):l[a + x.length + j]? = rest[j]?:=by
 have:(l.drop a)[x.length + j]? = rest[j]?:=by rw [h,List.getElem?_append_right (by omega)]; congr 1; omega
 rw [<-this,List.getElem?_drop]; congr 1; omega
theorem p7 {l x:List UInt8} {a:Nat} {c:UInt8} (h:l.drop a=c :: x):l[a]? = some c:=by
 have:(l.drop a)[0]? = some c:=by rw [h]; rfl
 rwa [List.getElem?_drop,Nat.add_zero] at this
theorem EC {l x:List UInt8} {a:Nat} {c:UInt8} (h:l.drop a=c :: x):l.drop (a + 1)=x:=by
 rw [<-List.drop_drop,h]; rfl
theorem yJ {l rest:List UInt8} {a:Nat} {c:UInt8} (h:l.drop a=c :: rest) (hx:d7 c.toNat=true):dM l a=.ok 4 [c] 0 (a + 1)/\∃ c,l[a]? = some c/\(c == 32 || c == 9 || c == 10)=false/\(c == 35)=false:=by
 have hc:=p7 h
 have hsk:=b5 (p:=fun c=>!(d7 c.toNat) || ((!(c == 32 || c == 9 || c == 10) && !(c == 35)) && (!(cO c.toNat) && !(bC c || c == 45) && !(c == 34)))) (by decide +kernel) c
 simp only [hx,Bool.not_true,Bool.false_or,Bool.and_eq_true,Bool.not_eq_true'] at hsk
 obtain ⟨h1,⟨h2,h3⟩,h4⟩:=hsk
 exact ⟨by simp only [dM,hc,h2,h3,h4,hx,aN,aH],c,hc,h1⟩
theorem DP:∀ (x rest out:List UInt8) (i:Nat),x.all kC=true->quoL i (x.flatMap lM ++ 34 :: rest) out=(i + (x.flatMap lM).length + 1,some (out ++ x))
 | [],rest,out,i,_=>by
  rw [List.flatMap_nil,List.nil_append,fC]
  simp
 | c :: x,rest,out,i,h=>by
  rw [List.all_cons,Bool.and_eq_true] at h
  obtain ⟨h1,h2⟩:=h
  have ih:=fun i out=>DP x rest out i h2
  rw [List.flatMap_cons,List.append_assoc]
  unfold kC at h1
  have hlo:(decide (c < 32) || decide (126 < c))=false:=by
   simp only [Bool.and_eq_true,decide_eq_true_eq,UInt8.le_iff_toNat_le] at h1
   simp only [Bool.or_eq_false_iff,decide_eq_false_iff_not,UInt8.lt_iff_toNat_lt]
   exact ⟨by omega,by omega⟩
  rw [show lM c=bif c == 34 || c == 92 then [92,c] else [c] from rfl]
  cases hq:(c == 34 || c == 92) with
  | true=>
   rw [aN,List.cons_append,fC]
   have e1:(decide ((92:UInt8) < 32) || decide ((126:UInt8) < 92))=false:=by decide
   have e2:((92:UInt8) == 34)=false:=by decide
   have e3:((92:UInt8) == 92)=true:=by decide
   rw [e1,e2,e3]
   simp only [aN,aH,List.cons_append,List.nil_append,hq]
   rw [ih]
   simp; omega
  | false=>
   simp only [Bool.or_eq_false_iff] at hq
   rw [aH,List.cons_append,List.nil_append,fC,hlo,hq.1,hq.2]
   simp only [aH]
   rw [ih]
   simp; omega
theorem xM {l x rest:List UInt8} {a:Nat} (h:l.drop a=lA x ++ rest) (hl:x.length<=200) (hx:x.all kC=true):dM l a=.ok 3 x 0 (a + (lA x).length)/\∃ c,l[a]? = some c/\(c == 32 || c == 9 || c == 10)=false/\(c == 35)=false:=by
 have h':l.drop a=34 :: (x.flatMap lM ++ 34 :: rest):=by rw [h]; simp [lA]
 have hc:=p7 h'
 refine ⟨?_,34,hc,by decide,by decide⟩
 have e1:cO ((34:UInt8).toNat:Int)=false:=by decide
 have e2:(bC 34 || (34:UInt8) == 45)=false:=by decide
 have h200:decide (200 < x.length)=false:=by simp; omega
 simp only [dM,hc,e1,e2,aH,gJ,EC h',DP x rest [] (a + 1) hx,List.nil_append,h200]
 simp [lA]
 omega
theorem sI:∀ (k m:Nat),m < 10 ^ (k + 1)->∀ c ∈ digs m,bC c=true
 | 0,m,h=>fun c hc=>by
  rw [jG (by omega)] at hc
  simp only [List.mem_cons,List.not_mem_nil,or_false] at hc
  subst hc
  rw [jN,UInt8.toNat_ofNat']
  omega
 | k + 1,m,h=>fun c hc=>by
  rcases bQ m 10 with h1 | h1
  · exact sI 0 m (by omega) c hc
  · rw [m3 h1,List.mem_append] at hc
    rcases hc with hc | hc
    · exact sI k (m / 10) (by rw [Nat.pow_succ] at h; omega) c hc
    · simp only [List.mem_cons,List.not_mem_nil,or_false] at hc
      subst hc
      rw [jN,UInt8.toNat_ofNat']
      omega
theorem xD (m:Nat):digs m ≠ []:=by rw [digs.eq_1]; simp
theorem qC:∀ (k m:Nat),m < 10 ^ (k + 1)->0 < m->(digs m)[0]? ≠ some 48
 | 0,m,h,h0=>by
  rw [jG (by omega)]
  simp only [List.getElem?_cons_zero,ne_eq,aC]
  intro e
  have:=congrArg UInt8.toNat e
  rw [UInt8.toNat_ofNat'] at this
  have:(48 + m) % 256=48:=this
  omega
 | k + 1,m,h,h0=>by
  rcases bQ m 10 with h1 | h1
  · exact qC 0 m (by omega) h0
  · rw [m3 h1,List.getElem?_append_left (List.length_pos_iff.2 (xD _))]
    exact qC k (m / 10) (by rw [Nat.pow_succ] at h; omega) (by omega)
theorem CI (c:UInt8):∀ (l:List UInt8) (n:Nat),decV n (l ++ [c])=10 * decV n l + (c.toNat - 48)
 | [],n=>by rw [List.nil_append,iF,lE,lE]
 | d :: l,n=>by rw [List.cons_append,iF,iF,CI c l]
theorem pD:∀ (k m:Nat),m < 10 ^ (k + 1)->decV 0 (digs m)=m
 | 0,m,h=>by
  rw [jG (by omega),iF,lE,UInt8.toNat_ofNat']
  omega
 | k + 1,m,h=>by
  rcases bQ m 10 with h1 | h1
  · exact pD 0 m (by omega)
  · rw [m3 h1,CI,pD k (m / 10) (by rw [Nat.pow_succ] at h; omega),UInt8.toNat_ofNat']
    omega
abbrev ID (t:Tx):Bool:=iV t.k t.x t.n
abbrev pQ (t:Tx):List UInt8:=f0 t.k t.x t.n
abbrev LK (t:Tx):Int × List UInt8 × Int:=(t.k,t.x,t.n)
abbrev nB (t:Tk):Int × List UInt8 × Int:=(t.k,t.x,t.n)
def PZ:PC:=.seq (.reg [.e 1 (.bx 25 (.t 0)),.q 2 (.mv (.k (.string (mk []))))]) (.seq (.seq (.reg [.l 12 (.ldn 3 (.t 1)),.a 13 (.cq 31 [(.t 12)]),.q 14 (.bin .neq true (.t 13) (.i 0))]) (.cond (.t 14) (.seq (.reg [.q 2 (.mv (.k (.string (mk []))))]) .ret) .skip)) (.seq (.reg [.q 15 (.fa 0 (.t 1)),.l 16 (.ld1 (.t 15)),.a 17 (.cq 32 [(.t 16)]),.q 18 (.bin .add true (.k (.string (mk [118,101,114,115,105,111,110,32]))) (.t 17)),.q 19 (.bin .add true (.t 18) (.k (.string (mk [59,10])))),.v 3 19]) (.seq (.seq (.reg [.q 20 (.fa 1 (.t 1)),.l 21 (.ld1 (.t 20)),.q 22 (.lnL (.t 21)),.q 23 (.mv (.i 0))]) (.block 0 (.loop (.seq (.reg [.q 24 (.bin .lss true (.t 23) (.t 22))]) (.seq (.cond (.t 24) .skip (.exit 0)) (.seq (.block 1 (.seq (.reg [.l 25 (.ia 3 (.t 21) (.t 23)),.l 26 (.ldn 3 (.t 25)),.e 5 (.al (.agg #[(.string (mk [])),(.slice none 0 0),(.slice none 0 0)]) 62),.s (.st 3 (.t 5) (.t 26))]) (.seq (.reg [.v 27 3,.q 28 (.fa 0 (.t 5)),.l 29 (.ld1 (.t 28)),.q 30 (.bin .add true (.k (.string (mk [101,110,117,109,32]))) (.t 29)),.q 31 (.bin .add true (.t 30) (.k (.string (mk [32,123,32])))),.q 32 (.bin .add true (.t 27) (.t 31)),.v 3 32]) (.seq (.seq (.reg [.q 33 (.fa 1 (.t 5)),.l 34 (.ld1 (.t 33)),.q 35 (.lnL (.t 34)),.q 36 (.mv (.i 0))]) (.block 2 (.loop (.seq (.reg [.q 37 (.bin .lss true (.t 36) (.t 35))]) (.seq (.cond (.t 37) .skip (.exit 2)) (.seq (.block 3 (.seq (.reg [.v 38 36,.l 39 (.ia 1 (.t 34) (.t 36)),.l 40 (.ld1 (.t 39)),.v 6 38,.v 7 40]) (.seq (.seq (.reg [.v 41 6,.q 42 (.bin .gtr true (.t 41) (.i 0))]) (.cond (.t 42) (.reg [.v 43 3,.q 44 (.bin .add true (.t 43) (.k (.string (mk [44,32])))),.v 3 44]) .skip)) (.reg [.v 45 3,.v 46 7,.q 47 (.bin .add true (.t 46) (.k (.string (mk [32,61,32])))),.q 48 (.fa 2 (.t 5)),.l 49 (.ld1 (.t 48)),.v 50 6,.l 51 (.ia 1 (.t 49) (.t 50)),.l 52 (.ld1 (.t 51)),.a 53 (.cq 32 [(.t 52)]),.q 54 (.bin .add true (.t 47) (.t 53)),.q 55 (.bin .add true (.t 45) (.t 54)),.v 3 55])))) (.reg [.q 56 (.bin .add true (.t 36) (.i 1)),.v 36 56]))))))) (.reg [.v 57 3,.q 58 (.bin .add true (.t 57) (.k (.string (mk [32,125,10])))),.v 3 58]))))) (.reg [.q 59 (.bin .add true (.t 23) (.i 1)),.v 23 59]))))))) (.seq (.seq (.reg [.q 60 (.fa 2 (.t 1)),.l 61 (.ld1 (.t 60)),.q 62 (.lnL (.t 61)),.q 63 (.mv (.i 0))]) (.block 4 (.loop (.seq (.reg [.q 64 (.bin .lss true (.t 63) (.t 62))]) (.seq (.cond (.t 64) .skip (.exit 4)) (.seq (.block 5 (.seq (.reg [.l 65 (.ia 2 (.t 61) (.t 63)),.l 66 (.ldn 2 (.t 65)),.e 9 (.al (.agg #[(.string (mk [])),(.slice none 0 0)]) 56),.s (.st 2 (.t 9) (.t 66))]) (.seq (.reg [.v 67 3,.q 68 (.fa 0 (.t 9)),.l 69 (.ld1 (.t 68)),.q 70 (.bin .add true (.k (.string (mk [115,116,114,117,99,116,32]))) (.t 69)),.q 71 (.bin .add true (.t 70) (.k (.string (mk [32,123,10])))),.q 72 (.bin .add true (.t 67) (.t 71)),.v 3 72]) (.seq (.seq (.reg [.q 73 (.fa 1 (.t 9)),.l 74 (.ld1 (.t 73)),.q 75 (.lnL (.t 74)),.q 76 (.mv (.i 0))]) (.block 6 (.loop (.seq (.reg [.q 77 (.bin .lss true (.t 76) (.t 75))]) (.seq (.cond (.t 77) .skip (.exit 6)) (.seq (.block 7 (.seq (.reg [.l 78 (.ia 7 (.t 74) (.t 76)),.l 79 (.ldn 7 (.t 78)),.e 11 (.al (.agg #[(.int .i64 0),(.string (mk [])),(.int .i64 0),(.int .i64 0),(.string (mk [])),(.slice none 0 0),(.bool false)]) 64),.s (.st 7 (.t 11) (.t 79))]) (.seq (.reg [.v 80 3,.q 81 (.fa 0 (.t 11)),.l 82 (.ld1 (.t 81)),.a 83 (.cq 32 [(.t 82)]),.q 84 (.bin .add true (.k (.string (mk [32,32]))) (.t 83)),.q 85 (.bin .add true (.t 84) (.k (.string (mk [32])))),.q 86 (.fa 1 (.t 11)),.l 87 (.ld1 (.t 86)),.q 88 (.bin .add true (.t 85) (.t 87)),.q 89 (.bin .add true (.t 88) (.k (.string (mk [58,32])))),.q 90 (.fa 2 (.t 11)),.l 91 (.ldn 4 (.t 90)),.a 92 (.cq 16 [(.t 91)]),.q 93 (.bin .add true (.t 89) (.t 92)),.q 94 (.bin .add true (.t 80) (.t 93)),.v 3 94]) (.seq (.seq (.reg [.q 95 (.fa 6 (.t 11)),.l 96 (.ld1 (.t 95))]) (.cond (.t 96) (.reg [.v 97 3,.q 98 (.bin .add true (.t 97) (.k (.string (mk [63])))),.v 3 98]) .skip)) (.reg [.v 99 3,.q 100 (.bin .add true (.t 99) (.k (.string (mk [59,10])))),.v 3 100]))))) (.reg [.q 101 (.bin .add true (.t 76) (.i 1)),.v 76 101]))))))) (.reg [.v 102 3,.q 103 (.bin .add true (.t 102) (.k (.string (mk [125,10])))),.v 3 103]))))) (.reg [.q 104 (.bin .add true (.t 63) (.i 1)),.v 63 104]))))))) (.seq (.reg [.v 105 3,.v 2 105]) .ret)))))
def TP:List RV:=[.mv (.t 2)]
theorem YB:aV Tryz.prog true ⟨fun r k=>if r=1/\k=1 then .q else if r=3/\k=2 then .q else if r=13/\k=8 then .q else if r=24/\k=3 then .q else if r=24/\k=12 then .q else .own [],fun _=>false⟩ Tryz.f10=some (PZ,TP):=by kernel_rfl
def TZ:PC:=.seq (.reg [.e 1 (.bx 37 (.t 0)),.q 2 (.mv (.k (.string (mk []))))]) (.seq (.reg [.q 3 (.mv (.k (.string (mk []))))]) (.seq (.seq (.reg [.q 4 (.mv (.i 0))]) (.block 0 (.loop (.seq (.seq (.reg [.q 6 (.fa 0 (.t 1)),.l 7 (.ld1 (.t 6)),.q 8 (.bin .eql true (.t 7) (.i 5))]) (.cond (.t 8) .skip (.exit 0))) (.seq (.block 1 (.seq (.seq (.reg [.q 11 (.fa 1 (.t 1)),.l 12 (.ld1 (.t 11)),.q 13 (.bin .lss true (.t 12) (.i 0)),.v 14 13,⟨some 15,(some (14,false)),.q (.fa 2 (.t 1))⟩,⟨some 16,(some (14,false)),.l (.ld1 (.t 15))⟩,⟨some 17,(some (14,false)),.q (.bin .neq true (.t 16) (.k (.string (mk []))))⟩,.a 18 (.pick (.t 14) (.k (.bool true)) (.t 17)),.v 19 18,⟨some 20,(some (19,false)),.q (.fa 3 (.t 1))⟩,⟨some 21,(some (19,false)),.l (.ld1 (.t 20))⟩,⟨some 22,(some (19,false)),.q (.lnL (.t 21))⟩,⟨some 23,(some (19,false)),.q (.bin .neq true (.t 22) (.i 1))⟩,.a 24 (.pick (.t 19) (.k (.bool true)) (.t 23)),.v 25 24,⟨some 26,(some (25,false)),.q (.mv (.t 4))⟩,⟨some 27,(some (25,false)),.q (.bin .eql true (.t 26) (.i 6))⟩,.a 28 (.pick (.t 25) (.k (.bool true)) (.t 27))]) (.cond (.t 28) (.seq (.reg [.q 2 (.mv (.k (.string (mk []))))]) .ret) .skip)) (.seq (.reg [.v 29 3,.q 30 (.fa 1 (.t 1)),.l 31 (.ld1 (.t 30)),.a 32 (.cq 32 [(.t 31)]),.q 33 (.bin .add true (.k (.string (mk [108,105,115,116,91]))) (.t 32)),.q 34 (.bin .add true (.t 33) (.k (.string (mk [93,32,111,102,32])))),.q 35 (.bin .add true (.t 29) (.t 34)),.v 3 35]) (.reg [.q 36 (.fa 3 (.t 1)),.l 37 (.ld1 (.t 36)),.l 38 (.ia 4 (.t 37) (.i 0)),.l 39 (.ldn 4 (.t 38)),.s (.st 4 (.t 1) (.t 39))])))) (.reg [.v 9 4,.q 10 (.bin .add true (.t 9) (.i 1)),.v 4 10])))))) (.seq (.reg [.l 40 (.ldn 4 (.t 1)),.a 41 (.cq 53 [(.t 40)]),.v 5 41]) (.seq (.seq (.reg [.v 42 5,.q 43 (.bin .eql true (.t 42) (.k (.string (mk []))))]) (.cond (.t 43) (.seq (.reg [.q 2 (.mv (.k (.string (mk []))))]) .ret) .skip)) (.seq (.reg [.v 44 3,.v 45 5,.q 46 (.bin .add true (.t 44) (.t 45)),.v 2 46]) .ret)))))
def QA:List RV:=[.mv (.t 2)]
theorem aAU:aV Tryz.prog true ⟨fun r k=>if r=7/\k=3 then .q else if r=9/\k=1 then .q else .own [],fun _=>false⟩ Tryz.f16=some (TZ,QA):=by kernel_rfl
def J8:PC:=.seq (.reg [.q 4 (.mv (.k (.bool false)))]) (.seq (.reg [.v 5 0,.q 6 (.nc (.t 5)),.q 7 (.fa 1 (.t 6)),.l 8 (.ld1 (.t 7)),.q 9 (.not (.t 8)),.v 10 9,⟨some 11,(some (10,true)),.q (.mv (.t 0))⟩,⟨some 12,(some (10,true)),.q (.nc (.t 11))⟩,⟨some 13,(some (10,true)),.q (.fa 0 (.t 12))⟩,⟨some 14,(some (10,true)),.l (.ld1 (.t 13))⟩,⟨some 15,(some (10,true)),.q (.mv (.t 1))⟩,⟨some 16,(some (10,true)),.cl 80 [(.t 14),(.t 15)] [1]⟩,.a 17 (.pick (.t 10) (.t 16) (.k (.bool false))),.v 4 17]) .ret)
def J6:List RV:=[.mv (.t 4)]
theorem YX:aV Tryz.prog true ⟨fun r k=>if r=1/\k=11 then .own [1] else .own [],fun _=>false⟩ Tryz.f34=some (J8,J6):=by kernel_rfl
def LB:PC:=.seq (.reg [.v 2 0,.q 3 (.nc (.t 2)),.q 4 (.fa 1 (.t 3)),.l 5 (.ld1 (.t 4)),.q 6 (.not (.t 5))]) (.cond (.t 6) (.reg [.v 7 0,.v 8 0,.v 9 0,.q 10 (.nc (.t 9)),.q 11 (.fa 0 (.t 10)),.l 12 (.ld1 (.t 11)),.a 13 (.cl 38 [(.t 12)] [1]),.q 14 (.fld1 3 (.t 13)),.q 15 (.nc (.t 7)),.q 16 (.fa 1 (.t 15)),.s (.st 1 (.t 16) (.k (.bool true))),.q 17 (.nc (.t 8)),.q 18 (.fa 2 (.t 17)),.s (.st 1 (.t 18) (.t 14))]) .skip)
def JH:List RV:=[]
theorem YG:aV Tryz.prog true ⟨fun r k=>if r=1/\k=6 then .own [1] else .own [],fun _=>false⟩ Tryz.f35=some (LB,JH):=by kernel_rfl
def CZ:PC:=.seq (.gh (.reg [.v 30 0,.q 31 (.nc (.t 30)),.q 32 (.fa 0 (.t 31)),.l 33 (.ld1 (.t 32)),.a 34 (.cl 81 [(.t 33)] [1])])) (.seq (.reg [.q 35 (.fa 2 (.t 5)),.l 36 (.ld1 (.t 35)),.v 4 36]) .ret)
@[go_sem ↓] theorem ZD:bY CZ:=bZ _
def A8:PC:=.seq (.seq (.gh (.reg [.v 11 0,.q 12 (.nc (.t 11)),.q 13 (.fa 1 (.t 12)),.l 14 (.ld1 (.t 13)),.v 15 14,⟨some 16,(some (15,false)),.q (.fa 0 (.t 5))⟩,⟨some 17,(some (15,false)),.l (.ld1 (.t 16))⟩,⟨some 18,(some (15,false)),.q (.bin .neq true (.t 17) (.i 2))⟩,.a 19 (.pick (.t 15) (.k (.bool true)) (.t 18)),.v 20 19,⟨some 21,(some (20,false)),.q (.mv (.t 1))⟩,⟨some 22,(some (20,false)),.q (.mv (.t 21))⟩,⟨some 23,(some (22,true)),.q (.fa 2 (.t 5))⟩,⟨some 24,(some (22,true)),.l (.ld1 (.t 23))⟩,⟨some 25,(some (22,true)),.q (.bin .lss true (.t 24) (.i 0))⟩,⟨some 26,(some (20,false)),.pick (.t 22) (.t 25) (.k (.bool false))⟩,.a 27 (.pick (.t 20) (.k (.bool true)) (.t 26))])) (.cond (.t 27) (.seq (.reg [.v 28 0,.a 29 (.cl 35 [(.t 28)] [0,1,2,3])]) (.seq (.reg [.q 4 (.mv (.i 0))]) .ret)) .skip)) (CZ)
@[go_sem ↓] theorem X2:bY A8:=bZ _
def S3:PC:=.seq (.reg [.q 4 (.mv (.i 0))]) (.seq (.reg [.v 6 0,.q 7 (.nc (.t 6)),.q 8 (.fa 0 (.t 7)),.l 9 (.ld1 (.t 8)),.a 10 (.cl 38 [(.t 9)] [1]),.e 5 (.al (.agg #[(.int .i64 0),(.string (mk [])),(.int .i64 0),(.int .i64 0)]) 74),.s (.st 4 (.t 5) (.t 10))]) (A8))
def UM:List RV:=[.mv (.t 4)]
theorem YN:aV Tryz.prog true ⟨fun r k=>if r=1/\k=4 then .own [1] else if r=3/\k=1 then .own [0,1,2,3] else if r=5/\k=4 then .own [1] else .own [],fun r=>[2,5].contains r⟩ Tryz.f36=some (S3,UM):=by kernel_rfl
def JF:PC:=.seq (.reg [.v 4 0,.q 5 (.nc (.t 4)),.q 6 (.fa 1 (.t 5)),.l 7 (.ld1 (.t 6)),.q 8 (.not (.t 7)),.v 9 8,⟨some 10,(some (9,true)),.q (.mv (.t 0))⟩,⟨some 11,(some (9,true)),.q (.nc (.t 10))⟩,⟨some 12,(some (9,true)),.q (.fa 0 (.t 11))⟩,⟨some 13,(some (9,true)),.l (.ld1 (.t 12))⟩,⟨some 14,(some (9,true)),.q (.mv (.t 1))⟩,⟨some 15,(some (9,true)),.cl 82 [(.t 13),(.t 14)] [1]⟩,⟨some 16,(some (9,true)),.q (.not (.t 15))⟩,.a 17 (.pick (.t 9) (.t 16) (.k (.bool false)))]) (.cond (.t 17) (.reg [.v 18 0,.a 19 (.cl 35 [(.t 18)] [0,1,2,3])]) .skip)
def K7:List RV:=[]
theorem ZO:aV Tryz.prog true ⟨fun r k=>if r=0/\k=11 then .own [1] else if r=1/\k=1 then .own [0,1,2,3] else .own [],fun _=>false⟩ Tryz.f37=some (JF,K7):=by kernel_rfl
def AE:PC:=.seq (.gh (.reg [.v 27 0,.a 28 (.cl 37 [(.t 27),(.k (.string (mk [61])))] [0,1,2,3])])) (.gh (.ord  [.q (.q 29 (.fa 2 (.t 3))),.q (.l 30 (.ld1 (.t 29))),.q (.v 31 0),.m (.a 32 (.cl 36 [(.t 31),(.k (.bool false))] [0,1,2,3])),.rc (.q 29 (.fa 2 (.t 3))),.rc (.l 30 (.ld1 (.t 29))),.m (.e 33 (.bsl 3 1 [(.t 32)])),.rc (.q 29 (.fa 2 (.t 3))),.rc (.l 30 (.ld1 (.t 29))),.m (.e 34 (.ap 3 1 8 (.t 30) (.t 33))),.q (.q 35 (.fa 2 (.t 3))),.m (.s (.st 1 (.t 35) (.t 34)))]))
@[go_sem ↓] theorem YY:bY AE:=bZ _
def BK:PC:=.gh (.reg [.v 18 0,.a 19 (.cl 84 [(.t 18),(.k (.string (mk [44])))] [0,1,2,3]),.v 4 19])
@[go_sem ↓] theorem YR:bY BK:=bZ _
def pc39_9:PC:=.seq (.gh (.reg [.v 36 0,.a 37 (.cl 37 [(.t 36),(.k (.string (mk [125])))] [0,1,2,3])])) (.seq (.reg [.l 38 (.ldn 3 (.t 3)),.s (.st 3 (.t 2) (.t 38))]) .ret)
@[go_sem ↓] theorem X6:bY pc39_9:=bZ _
def TW:PC:=.seq (.reg [.e 2 (.al (.agg #[(.string (mk [])),(.slice none 0 0),(.slice none 0 0)]) 62)]) (.seq (.reg [.v 5 0,.a 6 (.cl 83 [(.t 5),(.k (.bool true))] [0,1,2,3]),.q 7 (.bd [(.string (mk [])),(.slice none 0 0),(.slice none 0 0)] [(0,1,(.t 6))]),.e 3 (.al (.agg #[(.string (mk [])),(.slice none 0 0),(.slice none 0 0)]) 62),.s (.st 3 (.t 3) (.t 7))]) (.seq (.reg [.v 8 0,.a 9 (.cl 37 [(.t 8),(.k (.string (mk [123])))] [0,1,2,3])]) (.seq (.seq (.reg [.q 4 (.mv (.k (.bool true)))]) (.block 0 (.loop (.seq (.seq (.reg [.v 10 4,.v 11 10,⟨some 12,(some (11,true)),.q (.mv (.t 0))⟩,⟨some 13,(some (11,true)),.q (.nc (.t 12))⟩,⟨some 14,(some (11,true)),.q (.fa 1 (.t 13))⟩,⟨some 15,(some (11,true)),.l (.ld1 (.t 14))⟩,⟨some 16,(some (11,true)),.q (.not (.t 15))⟩,.a 17 (.pick (.t 11) (.t 16) (.k (.bool false)))]) (.cond (.t 17) .skip (.exit 0))) (.seq (.block 1 (.seq (.ord  [.q (.q 20 (.fa 1 (.t 3))),.q (.l 21 (.ld1 (.t 20))),.q (.v 22 0),.m (.a 23 (.cl 83 [(.t 22),(.k (.bool false))] [0,1,2,3])),.rc (.q 20 (.fa 1 (.t 3))),.rc (.l 21 (.ld1 (.t 20))),.m (.e 24 (.bsl 9 1 [(.t 23)])),.rc (.q 20 (.fa 1 (.t 3))),.rc (.l 21 (.ld1 (.t 20))),.m (.e 25 (.ap 9 1 16 (.t 21) (.t 24))),.q (.q 26 (.fa 1 (.t 3))),.m (.s (.st 1 (.t 26) (.t 25)))]) (AE))) (BK)))))) (pc39_9))))
def GJ:List RV:=[.ld (.ldn 3 (.t 2))]
theorem ZX:aV Tryz.prog true ⟨fun r k=>if r=1/\k=1 then .own [0,1,2,3] else if r=2/\k=1 then .own [0,1,2,3] else if r=6/\k=3 then .own [0,1,2,3] else if r=7/\k=1 then .own [0,1,2,3] else if r=8/\k=3 then .own [0,1,2,3] else if r=5/\k=1 then .own [0,1,2,3] else if r=9/\k=1 then .own [0,1,2,3] else .own [],fun r=>[7,8,9,5].contains r⟩ Tryz.f39=some (TW,GJ):=by kernel_rfl
def wU:PC:=.gh (.reg [.q 44 (.fa 1 (.t 3)),.l 45 (.ld1 (.t 44)),.l 46 (.ldn 7 (.t 4)),.e 47 (.bsl 64 7 [(.t 46)]),.e 48 (.ap 64 7 88 (.t 45) (.t 47)),.q 49 (.fa 1 (.t 3)),.s (.st 1 (.t 49) (.t 48))])
@[go_sem ↓] theorem XK:bY wU:=bZ _
def xB:PC:=.seq (.gh (.reg [.v 42 0,.a 43 (.cl 37 [(.t 42),(.k (.string (mk [59])))] [0,1,2,3])])) (wU)
@[go_sem ↓] theorem XF:bY xB:=bZ _
def AN:PC:=.seq (.gh (.reg [.v 39 0,.a 40 (.cl 84 [(.t 39),(.k (.string (mk [63])))] [0,1,2,3]),.q 41 (.fa 6 (.t 4)),.s (.st 1 (.t 41) (.t 40))])) (xB)
@[go_sem ↓] theorem Y7:bY AN:=bZ _
def BW:PC:=.seq (.gh (.reg [.v 36 0,.a 37 (.cl 55 [(.t 36)] [0,1,2,3]),.q 38 (.fa 2 (.t 4)),.s (.st 4 (.t 38) (.t 37))])) (AN)
@[go_sem ↓] theorem Z6:bY BW:=bZ _
def CD:PC:=.seq (.gh (.reg [.v 34 0,.a 35 (.cl 37 [(.t 34),(.k (.string (mk [58])))] [0,1,2,3])])) (BW)
@[go_sem ↓] theorem aAP:bY CD:=bZ _
def CQ:PC:=.seq (.gh (.reg [.v 29 0,.a 30 (.cl 36 [(.t 29),(.k (.bool false))] [0,1,2,3]),.v 31 0,.a 32 (.cl 83 [(.t 31),(.k (.bool false))] [0,1,2,3]),.q 33 (.bd [(.int .i64 0),(.string (mk [])),(.int .i64 0),(.int .i64 0),(.string (mk [])),(.slice none 0 0),(.bool false)] [(0,1,(.t 30)),(1,1,(.t 32))]),.e 4 (.al (.agg #[(.int .i64 0),(.string (mk [])),(.int .i64 0),(.int .i64 0),(.string (mk [])),(.slice none 0 0),(.bool false)]) 64),.s (.st 7 (.t 4) (.t 33))])) (CD)
@[go_sem ↓] theorem aAO:bY CQ:=bZ _
def BH:PC:=.seq (.seq (.gh (.reg [.v 20 0,.q 21 (.nc (.t 20)),.q 22 (.fa 0 (.t 21)),.l 23 (.ld1 (.t 22)),.a 24 (.cl 38 [(.t 23)] [1]),.q 25 (.fld1 0 (.t 24)),.q 26 (.bin .neq true (.t 25) (.i 2))])) (.cond (.t 26) (.seq (.reg [.v 27 0,.a 28 (.cl 35 [(.t 27)] [0,1,2,3])]) (.exit 0)) .skip)) (CQ)
@[go_sem ↓] theorem aAE:bY BH:=bZ _
def pc40_12:PC:=.seq (.gh (.reg [.l 50 (.ldn 2 (.t 3)),.s (.st 2 (.t 2) (.t 50))])) .ret
@[go_sem ↓] theorem XP:bY pc40_12:=bZ _
def TU:PC:=.seq (.reg [.e 2 (.al (.agg #[(.string (mk [])),(.slice none 0 0)]) 56)]) (.seq (.reg [.v 5 0,.a 6 (.cl 83 [(.t 5),(.k (.bool true))] [0,1,2,3]),.q 7 (.bd [(.string (mk [])),(.slice none 0 0)] [(0,1,(.t 6))]),.e 3 (.al (.agg #[(.string (mk [])),(.slice none 0 0)]) 56),.s (.st 2 (.t 3) (.t 7))]) (.seq (.reg [.v 8 0,.a 9 (.cl 37 [(.t 8),(.k (.string (mk [123])))] [0,1,2,3])]) (.seq (.block 0 (.loop (.seq (.seq (.reg [.v 10 0,.q 11 (.nc (.t 10)),.q 12 (.fa 1 (.t 11)),.l 13 (.ld1 (.t 12)),.q 14 (.not (.t 13)),.v 15 14,⟨some 16,(some (15,true)),.q (.mv (.t 0))⟩,⟨some 17,(some (15,true)),.cl 84 [(.t 16),(.k (.string (mk [125])))] [0,1,2,3]⟩,⟨some 18,(some (15,true)),.q (.not (.t 17))⟩,.a 19 (.pick (.t 15) (.t 18) (.k (.bool false)))]) (.cond (.t 19) .skip (.exit 0))) (.block 1 (BH))))) (pc40_12))))
def GS:List RV:=[.ld (.ldn 2 (.t 2))]
theorem XZ:aV Tryz.prog true ⟨fun r k=>if r=1/\k=1 then .own [0,1,2,3] else if r=2/\k=1 then .own [0,1,2,3] else if r=3/\k=7 then .own [0,1,2,3] else if r=4/\k=4 then .own [1] else if r=5/\k=1 then .own [0,1,2,3] else if r=6/\k=1 then .own [0,1,2,3] else if r=6/\k=3 then .own [0,1,2,3] else if r=7/\k=1 then .own [0,1,2,3] else if r=8/\k=1 then .own [0,1,2,3] else if r=9/\k=1 then .own [0,1,2,3] else if r=10/\k=1 then .own [0,1,2,3] else .own [],fun r=>[4,6,7,8,9,10,12,11].contains r⟩ Tryz.f40=some (TU,GS):=by kernel_rfl
def TB:PC:=.seq (.reg [.e 1 (.bx 37 (.t 0)),.q 2 (.mv (.k (.string (mk []))))]) (.seq (.seq (.reg [.q 5 (.fa 3 (.t 1)),.l 6 (.ld1 (.t 5)),.q 7 (.lnL (.t 6)),.q 8 (.bin .gtr true (.t 7) (.i 0))]) (.cond (.t 8) (.seq (.reg [.q 2 (.mv (.k (.string (mk []))))]) .ret) .skip)) (.seq (.reg [.q 3 (.mv (.k (.string (mk [105,110,116]))))]) (.seq (.seq (.reg [.q 9 (.fa 0 (.t 1)),.l 10 (.ld1 (.t 9))]) (.block 0 (.seq (.block 5 (.seq (.block 4 (.seq (.block 3 (.seq (.block 2 (.seq (.block 1 (.seq (.seq (.seq (.reg [.q 12 (.bin .eql true (.t 10) (.i 1)),.v 11 12]) (.cond (.t 11) (.exit 1) .skip)) (.seq (.seq (.reg [.q 14 (.bin .eql true (.t 10) (.i 3)),.v 13 14]) (.cond (.t 13) (.exit 2) .skip)) (.seq (.seq (.reg [.q 16 (.bin .eql true (.t 10) (.i 2)),.v 15 16]) (.cond (.t 15) (.exit 3) .skip)) (.seq (.seq (.reg [.q 18 (.bin .eql true (.t 10) (.i 4)),.v 17 18]) (.cond (.t 17) (.exit 4) .skip)) (.seq (.seq (.reg [.q 20 (.bin .eql true (.t 10) (.i 6)),.v 19 20]) (.cond (.t 19) .skip (.reg [.q 21 (.bin .eql true (.t 10) (.i 7)),.v 19 21]))) (.cond (.t 19) (.exit 5) .skip)))))) (.exit 0))) (.seq (.seq (.reg [.q 22 (.fa 1 (.t 1)),.l 23 (.ld1 (.t 22)),.q 24 (.bin .eql true (.t 23) (.i 0)),.v 25 24,⟨some 26,(some (25,true)),.q (.fa 2 (.t 1))⟩,⟨some 27,(some (25,true)),.l (.ld1 (.t 26))⟩,⟨some 28,(some (25,true)),.q (.bin .eql true (.t 27) (.k (.string (mk []))))⟩,.a 29 (.pick (.t 25) (.t 28) (.k (.bool false)))]) (.cond (.t 29) (.seq (.reg [.q 2 (.mv (.k (.string (mk [98,111,111,108]))))]) .ret) .skip)) (.exit 0)))) (.reg [.q 3 (.mv (.k (.string (mk [117,105,110,116]))))]))) (.seq (.seq (.reg [.q 30 (.fa 1 (.t 1)),.l 31 (.ld1 (.t 30)),.q 32 (.bin .eql true (.t 31) (.i 64)),.v 33 32,⟨some 34,(some (33,true)),.q (.fa 0 (.t 1))⟩,⟨some 35,(some (33,true)),.l (.ld1 (.t 34))⟩,⟨some 36,(some (33,true)),.q (.bin .eql true (.t 35) (.i 2))⟩,.a 37 (.pick (.t 33) (.t 36) (.k (.bool false))),.v 4 37]) (.seq (.reg [.q 38 (.fa 2 (.t 1)),.l 39 (.ld1 (.t 38)),.q 40 (.bin .eql true (.t 39) (.k (.string (mk [])))),.v 41 40,⟨some 42,(some (41,true)),.q (.fa 1 (.t 1))⟩,⟨some 43,(some (41,true)),.l (.ld1 (.t 42))⟩,⟨some 44,(some (41,true)),.q (.bin .eql true (.t 43) (.i 8))⟩,⟨some 45,(some (41,true)),.q (.mv (.t 44))⟩,⟨some 46,(some (45,false)),.q (.fa 1 (.t 1))⟩,⟨some 47,(some (45,false)),.l (.ld1 (.t 46))⟩,⟨some 48,(some (45,false)),.q (.bin .eql true (.t 47) (.i 16))⟩,⟨some 49,(some (41,true)),.pick (.t 45) (.k (.bool true)) (.t 48)⟩,⟨some 50,(some (41,true)),.q (.mv (.t 49))⟩,⟨some 51,(some (50,false)),.q (.fa 1 (.t 1))⟩,⟨some 52,(some (50,false)),.l (.ld1 (.t 51))⟩,⟨some 53,(some (50,false)),.q (.bin .eql true (.t 52) (.i 32))⟩,⟨some 54,(some (41,true)),.pick (.t 50) (.k (.bool true)) (.t 53)⟩,⟨some 55,(some (41,true)),.q (.mv (.t 54))⟩,⟨some 56,(some (55,false)),.q (.mv (.t 4))⟩,⟨some 57,(some (41,true)),.pick (.t 55) (.k (.bool true)) (.t 56)⟩,.a 58 (.pick (.t 41) (.t 57) (.k (.bool false)))]) (.cond (.t 58) (.seq (.reg [.v 59 3,.q 60 (.fa 1 (.t 1)),.l 61 (.ld1 (.t 60)),.a 62 (.cq 32 [(.t 61)]),.q 63 (.bin .add true (.t 59) (.t 62)),.v 2 63]) .ret) .skip))) (.exit 0)))) (.seq (.seq (.reg [.q 64 (.fa 1 (.t 1)),.l 65 (.ld1 (.t 64)),.q 66 (.bin .geq true (.t 65) (.i 0)),.v 67 66,⟨some 68,(some (67,true)),.q (.fa 2 (.t 1))⟩,⟨some 69,(some (67,true)),.l (.ld1 (.t 68))⟩,⟨some 70,(some (67,true)),.q (.bin .eql true (.t 69) (.k (.string (mk []))))⟩,.a 71 (.pick (.t 67) (.t 70) (.k (.bool false)))]) (.cond (.t 71) (.seq (.reg [.q 72 (.fa 1 (.t 1)),.l 73 (.ld1 (.t 72)),.a 74 (.cq 32 [(.t 73)]),.q 75 (.bin .add true (.k (.string (mk [116,101,120,116,91]))) (.t 74)),.q 76 (.bin .add true (.t 75) (.k (.string (mk [93])))),.v 2 76]) .ret) .skip)) (.exit 0)))) (.seq (.seq (.reg [.q 77 (.fa 1 (.t 1)),.l 78 (.ld1 (.t 77)),.q 79 (.bin .eql true (.t 78) (.i 0)),.v 80 79,⟨some 81,(some (80,true)),.q (.fa 2 (.t 1))⟩,⟨some 82,(some (80,true)),.l (.ld1 (.t 81))⟩,⟨some 83,(some (80,true)),.cq 95 [(.t 82)]⟩,.a 84 (.pick (.t 80) (.t 83) (.k (.bool false))),.v 85 84,⟨some 86,(some (85,true)),.q (.fa 2 (.t 1))⟩,⟨some 87,(some (85,true)),.l (.ld1 (.t 86))⟩,⟨some 88,(some (85,true)),.ix (.t 87) (.i 0)⟩,⟨some 89,(some (85,true)),.q (.bin .geq true (.t 88) (.k (.int .u8 65)))⟩,.a 90 (.pick (.t 85) (.t 89) (.k (.bool false))),.v 91 90,⟨some 92,(some (91,true)),.q (.fa 2 (.t 1))⟩,⟨some 93,(some (91,true)),.l (.ld1 (.t 92))⟩,⟨some 94,(some (91,true)),.ix (.t 93) (.i 0)⟩,⟨some 95,(some (91,true)),.q (.bin .leq true (.t 94) (.k (.int .u8 90)))⟩,.a 96 (.pick (.t 91) (.t 95) (.k (.bool false)))]) (.cond (.t 96) (.seq (.reg [.q 97 (.fa 2 (.t 1)),.l 98 (.ld1 (.t 97)),.v 2 98]) .ret) .skip)) (.exit 0))))) (.seq (.reg [.q 2 (.mv (.k (.string (mk []))))]) .ret))))
def TG:List RV:=[.mv (.t 2)]
theorem YZ:aV Tryz.prog true ⟨fun r k=>if r=16/\k=3 then .q else if r=18/\k=2 then .q else if r=19/\k=6 then .q else .own [],fun _=>false⟩ Tryz.f53=some (TB,TG):=by kernel_rfl
def wC:PC:=.seq (.gh (.reg [.v 13 0,.q 14 (.nc (.t 13)),.q 15 (.fa 1 (.t 14)),.l 16 (.ld1 (.t 15)),.q 17 (.not (.t 16)),.v 18 17,⟨some 19,(some (18,true)),.q (.mv (.t 0))⟩,⟨some 20,(some (18,true)),.cl 34 [(.t 19),(.k (.string (mk [111,102])))] [0,1,2,3]⟩,⟨some 21,(some (18,true)),.q (.not (.t 20))⟩,.a 22 (.pick (.t 18) (.t 21) (.k (.bool false)))])) (.cond (.t 22) (.reg [.v 23 0,.a 24 (.cl 35 [(.t 23)] [0,1,2,3])]) .skip)
@[go_sem ↓] theorem YF:bY wC:=bZ _
def wG:PC:=.gh (.reg [.v 32 5,.q 33 (.bin .sub true (.t 32) (.i 1)),.v 5 33])
@[go_sem ↓] theorem W5:bY wG:=bZ _
def xH:PC:=.seq (.gh (.reg [.l 41 (.ldn 4 (.t 3)),.s (.st 4 (.t 2) (.t 41))])) .ret
@[go_sem ↓] theorem XL:bY xH:=bZ _
def BD:PC:=.seq (.seq (.gh (.reg [.v 27 4,.q 28 (.lnL (.t 27)),.q 29 (.bin .sub true (.t 28) (.i 1)),.v 5 29])) (.block 2 (.loop (.seq (.seq (.reg [.v 30 5,.q 31 (.bin .geq true (.t 30) (.i 0))]) (.cond (.t 31) .skip (.exit 2))) (.seq (.block 3 (.reg [.v 34 4,.v 35 5,.l 36 (.ia 1 (.t 34) (.t 35)),.l 37 (.ld1 (.t 36)),.l 38 (.ldn 4 (.t 3)),.e 39 (.bsl 37 4 [(.t 38)]),.q 40 (.bd [(.int .i64 0),(.int .i64 0),(.string (mk [])),(.slice none 0 0)] [(0,1,(.i 5)),(1,1,(.t 37)),(3,1,(.t 39))]),.s (.st 4 (.t 3) (.t 40))])) (wG)))))) (xH)
@[go_sem ↓] theorem ZZ:bY BD:=bZ _
def BI:PC:=.seq (.gh (.reg [.v 25 0,.a 26 (.cl 98 [(.t 25)] [0,1,2,3]),.s (.st 4 (.t 3) (.t 26))])) (BD)
@[go_sem ↓] theorem Y0:bY BI:=bZ _
def TQ:PC:=.seq (.reg [.e 2 (.al (.agg #[(.int .i64 0),(.int .i64 0),(.string (mk [])),(.slice none 0 0)]) 37)]) (.seq (.reg [.e 3 (.al (.agg #[(.int .i64 0),(.int .i64 0),(.string (mk [])),(.slice none 0 0)]) 37)]) (.seq (.reg [.q 4 (.mv (.k (.slice none 0 0)))]) (.seq (.block 0 (.loop (.seq (.seq (.reg [.v 6 0,.a 7 (.cl 34 [(.t 6),(.k (.string (mk [108,105,115,116])))] [0,1,2,3])]) (.cond (.t 7) .skip (.exit 0))) (.block 1 (.seq (.reg [.v 8 4,.v 9 0,.a 10 (.cl 97 [(.t 9)] [0,1,2,3]),.e 11 (.bsl 3 1 [(.t 10)]),.e 12 (.ap 3 1 8 (.t 8) (.t 11)),.v 4 12]) (wC)))))) (BI))))
def QN:List RV:=[.ld (.ldn 4 (.t 2))]
theorem aAB:aV Tryz.prog true ⟨fun r k=>if r=3/\k=1 then .own [0,1,2,3] else if r=4/\k=2 then .own [0,1,2,3] else if r=5/\k=7 then .own [0,1,2,3] else if r=6/\k=1 then .own [0,1,2,3] else if r=7/\k=1 then .own [0,1,2,3] else .own [],fun r=>[5,7,8,12,10].contains r⟩ Tryz.f55=some (TQ,QN):=by kernel_rfl
def AP:PC:=.seq (.gh (.reg [.v 37 0,.q 38 (.nc (.t 37)),.q 39 (.fa 0 (.t 38)),.l 40 (.ld1 (.t 39)),.a 41 (.cl 81 [(.t 40)] [1])])) (.seq (.reg [.q 42 (.fa 1 (.t 5)),.l 43 (.ld1 (.t 42)),.v 4 43]) .ret)
@[go_sem ↓] theorem YI:bY AP:=bZ _
def B0:PC:=.seq (.seq (.gh (.reg [.v 11 0,.q 12 (.nc (.t 11)),.q 13 (.fa 1 (.t 12)),.l 14 (.ld1 (.t 13)),.v 15 14,⟨some 16,(some (15,false)),.q (.fa 0 (.t 5))⟩,⟨some 17,(some (15,false)),.l (.ld1 (.t 16))⟩,⟨some 18,(some (15,false)),.q (.bin .neq true (.t 17) (.i 1))⟩,.a 19 (.pick (.t 15) (.k (.bool true)) (.t 18)),.v 20 19,⟨some 21,(some (20,false)),.q (.mv (.t 1))⟩,⟨some 22,(some (20,false)),.q (.mv (.t 21))⟩,⟨some 23,(some (22,true)),.q (.fa 1 (.t 5))⟩,⟨some 24,(some (22,true)),.l (.ld1 (.t 23))⟩,⟨some 25,(some (22,true)),.ix (.t 24) (.i 0)⟩,⟨some 26,(some (22,true)),.q (.bin .lss true (.t 25) (.k (.int .u8 65)))⟩,⟨some 27,(some (22,true)),.q (.mv (.t 26))⟩,⟨some 28,(some (27,false)),.q (.fa 1 (.t 5))⟩,⟨some 29,(some (27,false)),.l (.ld1 (.t 28))⟩,⟨some 30,(some (27,false)),.ix (.t 29) (.i 0)⟩,⟨some 31,(some (27,false)),.q (.bin .gtr true (.t 30) (.k (.int .u8 90)))⟩,⟨some 32,(some (22,true)),.pick (.t 27) (.k (.bool true)) (.t 31)⟩,⟨some 33,(some (20,false)),.pick (.t 22) (.t 32) (.k (.bool false))⟩,.a 34 (.pick (.t 20) (.k (.bool true)) (.t 33))])) (.cond (.t 34) (.seq (.reg [.v 35 0,.a 36 (.cl 35 [(.t 35)] [0,1,2,3])]) (.seq (.reg [.q 4 (.mv (.k (.string (mk []))))]) .ret)) .skip)) (AP)
@[go_sem ↓] theorem Y5:bY B0:=bZ _
def QY:PC:=.seq (.reg [.q 4 (.mv (.k (.string (mk []))))]) (.seq (.reg [.v 6 0,.q 7 (.nc (.t 6)),.q 8 (.fa 0 (.t 7)),.l 9 (.ld1 (.t 8)),.a 10 (.cl 38 [(.t 9)] [1]),.e 5 (.al (.agg #[(.int .i64 0),(.string (mk [])),(.int .i64 0),(.int .i64 0)]) 74),.s (.st 4 (.t 5) (.t 10))]) (B0))
def UH:List RV:=[.mv (.t 4)]
theorem aAF:aV Tryz.prog true ⟨fun r k=>if r=1/\k=4 then .own [1] else if r=3/\k=1 then .own [0,1,2,3] else if r=5/\k=4 then .own [1] else .own [],fun r=>[2,5].contains r⟩ Tryz.f83=some (QY,UH):=by kernel_rfl
def JT:PC:=.seq (.reg [.q 4 (.mv (.k (.bool false)))]) (.seq (.reg [.v 5 0,.q 6 (.nc (.t 5)),.q 7 (.fa 1 (.t 6)),.l 8 (.ld1 (.t 7)),.q 9 (.not (.t 8)),.v 10 9,⟨some 11,(some (10,true)),.q (.mv (.t 0))⟩,⟨some 12,(some (10,true)),.q (.nc (.t 11))⟩,⟨some 13,(some (10,true)),.q (.fa 0 (.t 12))⟩,⟨some 14,(some (10,true)),.l (.ld1 (.t 13))⟩,⟨some 15,(some (10,true)),.q (.mv (.t 1))⟩,⟨some 16,(some (10,true)),.cl 82 [(.t 14),(.t 15)] [1]⟩,.a 17 (.pick (.t 10) (.t 16) (.k (.bool false))),.v 4 17]) .ret)
def KZ:List RV:=[.mv (.t 4)]
theorem ZL:aV Tryz.prog true ⟨fun r k=>if r=1/\k=11 then .own [1] else .own [],fun _=>false⟩ Tryz.f84=some (JT,KZ):=by kernel_rfl
def TH:PC:=.seq (.reg [.q 2 (.mv (.i 0))]) (.seq (.reg [.v 4 0,.a 5 (.cl 37 [(.t 4),(.k (.string (mk [91])))] [0,1,2,3])]) (.seq (.reg [.v 6 0,.a 7 (.cl 36 [(.t 6),(.k (.bool true))] [0,1,2,3]),.v 3 7]) (.seq (.reg [.v 8 0,.a 9 (.cl 37 [(.t 8),(.k (.string (mk [93])))] [0,1,2,3])]) (.seq (.reg [.v 10 3,.v 2 10]) .ret))))
def RG:List RV:=[.mv (.t 2)]
theorem ZV:aV Tryz.prog true ⟨fun r k=>if r=1/\k=1 then .own [0,1,2,3] else if r=2/\k=1 then .own [0,1,2,3] else if r=3/\k=1 then .own [0,1,2,3] else .own [],fun _=>false⟩ Tryz.f97=some (TH,RG):=by kernel_rfl
def qO:PC:=.gh (.reg [.v 28 4,.q 29 (.bin .lss true (.t 28) (.i 64)),.v 30 29,⟨some 31,(some (30,true)),.q (.mv (.t 0))⟩,⟨some 32,(some (30,true)),.q (.mv (.t 4))⟩,⟨some 33,(some (30,true)),.cq 32 [(.t 32)]⟩,⟨some 34,(some (30,true)),.q (.bin .add true (.k (.string (mk [117,105,110,116]))) (.t 33))⟩,⟨some 35,(some (30,true)),.cl 34 [(.t 31),(.t 34)] [0,1,2,3]⟩,.a 36 (.pick (.t 30) (.t 35) (.k (.bool false)))])
@[go_sem ↓] theorem XR:bY qO:=bZ _
def xA:PC:=.seq (.gh (.reg [.v 40 0,.a 41 (.cl 83 [(.t 40),(.k (.bool true))] [0,1,2,3]),.q 42 (.bd [(.int .i64 0),(.int .i64 0),(.string (mk [])),(.slice none 0 0)] [(0,1,(.i 6)),(2,1,(.t 41))]),.s (.st 4 (.t 2) (.t 42))])) .ret
@[go_sem ↓] theorem W7:bY xA:=bZ _
def BV:PC:=.seq (.seq (.gh (.reg [.e 15 (.bsl 3 1 [(.i 8),(.i 16),(.i 32),(.i 64)]),.q 16 (.lnL (.t 15)),.q 17 (.mv (.i 0))])) (.block 1 (.loop (.seq (.reg [.q 18 (.bin .lss true (.t 17) (.t 16))]) (.seq (.cond (.t 18) .skip (.exit 1)) (.seq (.block 2 (.seq (.reg [.l 19 (.ia 1 (.t 15) (.t 17)),.l 20 (.ld1 (.t 19)),.v 4 20]) (.seq (.seq (.reg [.v 21 0,.v 22 4,.a 23 (.cq 32 [(.t 22)]),.q 24 (.bin .add true (.k (.string (mk [105,110,116]))) (.t 23)),.a 25 (.cl 34 [(.t 21),(.t 24)] [0,1,2,3])]) (.cond (.t 25) (.seq (.reg [.v 26 4,.q 27 (.bd [(.int .i64 0),(.int .i64 0),(.string (mk [])),(.slice none 0 0)] [(0,1,(.i 2)),(1,1,(.t 26))]),.s (.st 4 (.t 2) (.t 27))]) .ret) .skip)) (.seq (qO) (.cond (.t 36) (.seq (.reg [.v 37 4,.q 38 (.bd [(.int .i64 0),(.int .i64 0),(.string (mk [])),(.slice none 0 0)] [(0,1,(.i 3)),(1,1,(.t 37))]),.s (.st 4 (.t 2) (.t 38))]) .ret) .skip))))) (.reg [.q 39 (.bin .add true (.t 17) (.i 1)),.v 17 39]))))))) (xA)
@[go_sem ↓] theorem Z3:bY BV:=bZ _
def RY:PC:=.seq (.reg [.e 2 (.al (.agg #[(.int .i64 0),(.int .i64 0),(.string (mk [])),(.slice none 0 0)]) 37)]) (.seq (.block 0 (.seq (.reg [.v 6 0,.a 7 (.cl 34 [(.t 6),(.k (.string (mk [98,111,111,108])))] [0,1,2,3]),.v 5 7]) (.cond (.t 5) (.seq (.reg [.q 8 (.bd [(.int .i64 0),(.int .i64 0),(.string (mk [])),(.slice none 0 0)] [(0,1,(.i 1))]),.s (.st 4 (.t 2) (.t 8))]) .ret) (.seq (.reg [.v 10 0,.a 11 (.cl 34 [(.t 10),(.k (.string (mk [116,101,120,116])))] [0,1,2,3]),.v 9 11]) (.cond (.t 9) (.seq (.reg [.v 12 0,.a 13 (.cl 97 [(.t 12)] [0,1,2,3]),.q 14 (.bd [(.int .i64 0),(.int .i64 0),(.string (mk [])),(.slice none 0 0)] [(0,1,(.i 4)),(1,1,(.t 13))]),.s (.st 4 (.t 2) (.t 14))]) .ret) .skip))))) (BV))
def SB:List RV:=[.ld (.ldn 4 (.t 2))]
theorem Z7:aV Tryz.prog true ⟨fun r k=>if r=1/\k=1 then .own [0,1,2,3] else if r=3/\k=1 then .own [0,1,2,3] else if r=4/\k=1 then .own [0,1,2,3] else if r=8/\k=2 then .q else if r=8/\k=4 then .own [0,1,2,3] else if r=10/\k=5 then .q else if r=10/\k=7 then .own [0,1,2,3] else if r=13/\k=1 then .own [0,1,2,3] else .own [],fun r=>[5,13,10].contains r⟩ Tryz.f98=some (RY,SB):=by kernel_rfl
end Go.Proofs.YtgogpogophflhaaGreatDoor
namespace Go.Proofs
open Go.Shelf
def Tryz.laysM171_ren:Go.Shelf.Ren:=⟨fun | 171=>32 | 243=>79 | 246=>115 | 283=>127 | 284=>128 | 285=>129 | 286=>130 | 129=>135 | 317=>134 | 318=>136 | 319=>137 | 320=>138 | 337=>150 | 338=>151 | n=>n,fun | 3=>3 | 9=>9 | 2=>2 | 4=>4 | 171=>161 | 0=>0 | 53=>127 | 37=>44 | 5=>5 | 173=>164 | 212=>170 | 51=>171 | 20=>20 | 213=>172 | 46=>168 | 232=>189 | 233=>190 | n=>n,fun | 17=>0 | 18=>2 | 19=>3 | n=>n⟩
theorem Tryz.lays171:Go.Proofs.Lays.n171 Tryz.prog Tryz.laysM171_ren:={
 mixed:=by kernel_rfl
 f129:=Tryz.func135.trans (congrArg some (by kernel_rfl))
 f171:=Tryz.func32.trans (congrArg some (by kernel_rfl))
 f243:=Tryz.func79.trans (congrArg some (by kernel_rfl))
 f246:=Tryz.func115.trans (congrArg some (by kernel_rfl))
 f283:=Tryz.func127.trans (congrArg some (by kernel_rfl))
 f284:=Tryz.func128.trans (congrArg some (by kernel_rfl))
 f285:=Tryz.func129.trans (congrArg some (by kernel_rfl))
 f286:=Tryz.func130.trans (congrArg some (by kernel_rfl))
 f317:=Tryz.func134.trans (congrArg some (by kernel_rfl))
 f318:=Tryz.func136.trans (congrArg some (by kernel_rfl))
 f319:=Tryz.func137.trans (congrArg some (by kernel_rfl))
 f320:=Tryz.func138.trans (congrArg some (by kernel_rfl))
 f337:=Tryz.func150.trans (congrArg some (by kernel_rfl))
 f338:=Tryz.func151.trans (congrArg some (by kernel_rfl))
 t0:=Tryz.underlying0
 a0:=Tryz.isAgg0
 z0:=Tryz.sizeOf0
 v0:=Tryz.zeroValue0
 t2:=Tryz.underlying2
 a2:=Tryz.isAgg2
 z2:=Tryz.sizeOf2
 v2:=Tryz.zeroValue2
 t3:=Tryz.underlying3
 a3:=Tryz.isAgg3
 z3:=Tryz.sizeOf3
 v3:=Tryz.zeroValue3
 t4:=Tryz.underlying4
 a4:=Tryz.isAgg4
 z4:=Tryz.sizeOf4
 v4:=Tryz.zeroValue4
 t5:=Tryz.underlying5
 a5:=Tryz.isAgg5
 z5:=Tryz.sizeOf5
 v5:=Tryz.zeroValue5
 t9:=Tryz.underlying9
 a9:=Tryz.isAgg9
 z9:=Tryz.sizeOf9
 v9:=Tryz.zeroValue9
 t20:=Tryz.underlying20
 a20:=Tryz.isAgg20
 z20:=Tryz.sizeOf20
 v20:=Tryz.zeroValue20
 t37:=Tryz.underlying44
 a37:=Tryz.isAgg44
 z37:=Tryz.sizeOf44
 v37:=Tryz.zeroValue44
 t46:=Tryz.underlying168
 a46:=Tryz.isAgg168
 z46:=Tryz.sizeOf168
 v46:=Tryz.zeroValue168
 t51:=Tryz.underlying171
 a51:=Tryz.isAgg171
 z51:=Tryz.sizeOf171
 v51:=Tryz.zeroValue171
 t53:=Tryz.underlying127
 a53:=Tryz.isAgg127
 z53:=Tryz.sizeOf127
 v53:=Tryz.zeroValue127
 t171:=Tryz.underlying161
 a171:=Tryz.isAgg161
 z171:=Tryz.sizeOf161
 v171:=Tryz.zeroValue161
 t173:=Tryz.underlying164
 a173:=Tryz.isAgg164
 z173:=Tryz.sizeOf164
 v173:=Tryz.zeroValue164
 t212:=Tryz.underlying170
 a212:=Tryz.isAgg170
 z212:=Tryz.sizeOf170
 v212:=Tryz.zeroValue170
 t213:=Tryz.underlying172
 a213:=Tryz.isAgg172
 z213:=Tryz.sizeOf172
 t232:=Tryz.underlying189
 a232:=Tryz.isAgg189
 z232:=Tryz.sizeOf189
 v232:=Tryz.zeroValue189
 t233:=Tryz.underlying190
 a233:=Tryz.isAgg190
 z233:=Tryz.sizeOf190
 v233:=Tryz.zeroValue190
 g17:=by kernel_rfl
 g18:=by kernel_rfl
 g19:=by kernel_rfl }
theorem Tryz.laysM171:Go.Proofs.LaysM.n171 Tryz.prog Tryz.laysM171_ren:={ Tryz.lays171 with
 i0:=by kernel_rfl
 i2:=by kernel_rfl
 i3:=by kernel_rfl
 i4:=by kernel_rfl
 i5:=by kernel_rfl
 i9:=by kernel_rfl
 i20:=by kernel_rfl
 i37:=by kernel_rfl
 i46:=by kernel_rfl
 i51:=by kernel_rfl
 i53:=by kernel_rfl
 i171:=by kernel_rfl
 i173:=by kernel_rfl
 i212:=by kernel_rfl
 i232:=by kernel_rfl
 i233:=by kernel_rfl
 m17:=by kernel_rfl
 m18:=by kernel_rfl
 m19:=by kernel_rfl }
open Go.RowKit Go.Sort Go.Lib in
theorem Tryz.strconv_Itoa (n:Int) (h0:-9223372036854775808<=n) (h1:n<=9223372036854775807) (w:World) (htab:Lib.TabIs Tryz.prog w "internal/strconv.uint64pow10" .u64 Lib.pow10Tab) :
 Calls Tryz.prog 32 #[.int .i64 n] w fun e w'=>e=.returned (.string ⟨(Lib.itoa n).toArray⟩)/\∃ k os,w'=grow (w.drewN k) os:=Any.strconv_Itoa Tryz.laysM171 n h0 h1 w htab
end Go.Proofs
namespace Go.Proofs.YtgogpogophflhaaGreatDoor
open Go.W
theorem jH {x:List UInt8} (h:bU x=true):x.length<=16:=by
 rcases bQ 16 x.length with h1 | h1
 · rw [yI h1] at h; cases h
 · exact h1
theorem pT:∀ (m:Nat) (r:List UInt8) (i:Nat) (out:List UInt8) (z:Nat) (o:List UInt8),r.length<=m->out.all kC=true->quoL i r out=(z,some o)->o.all kC=true
 | _,[],i,out,z,o,_,_,h=>by rw [n7] at h; cases h
 | 0,c :: r,i,out,z,o,hm,_,_=>by simp at hm
 | m + 1,c :: r,i,out,z,o,hm,ho,h=>by
  rw [fC] at h
  have app:∀ d:UInt8,kC d=true->(out ++ [d]).all kC=true:=fun d hd=>by rw [List.all_append,ho]; simp [hd]
  cases c1:decide (c < 32) || decide (126 < c) with
  | true=>rw [c1] at h; cases h
  | false=>
  rw [c1,aH] at h
  have hp:kC c=true:=by
   unfold kC
   simp only [Bool.or_eq_false_iff,decide_eq_false_iff_not,UInt8.not_lt] at c1
   simp [c1.1,c1.2]
  cases c2:c == 34 with
  | true=>
   rw [c2] at h
   simp only [aN,Prod.mk.injEq,aC] at h
   rw [<-h.2]; exact ho
  | false=>
  rw [c2,aH] at h
  cases c3:c == 92 with
  | false=>
   rw [c3,aH] at h
   exact pT m r _ _ z o (by simp at hm; omega) (app c hp) h
  | true=>
   rw [c3,aN] at h
   cases r with
   | nil=>cases h
   | cons d r=>
    simp only at h
    cases c4:d == 34 || d == 92 with
    | false=>rw [c4] at h; cases h
    | true=>
     rw [c4,aN] at h
     refine pT m r _ _ z o (by simp at hm; omega) (app d ?_) h
     rw [Bool.or_eq_true] at c4
     rcases c4 with e | e<;>rw [eq_of_beq e]<;>decide
structure Gtk (k:Int) (x:List UInt8) (n:Int):Prop where
 e:k=0->x=[]/\n=0
 o:k ≠ 0->iV k x n=true
 i:cH n
theorem I1 {l:List UInt8} {p:Nat} {k n:Int} {x:List UInt8} {z:Nat} (h:dM l p=.ok k x n z):Gtk k x n:=by
 have z0:cH 0:=⟨by decide,by decide⟩
 unfold dM at h
 split at h
 · simp only [R.ok.injEq] at h
   obtain ⟨rfl,rfl,rfl,_⟩:=h
   exact ⟨fun _=>⟨rfl,rfl⟩,fun h=>absurd rfl h,z0⟩
 · rename_i c hc
   cases c1:cO c.toNat with
   | true=>
    rw [c1,aN] at h
    unfold gY at h
    simp only at h
    cases d1:decide (16 < bP bG l p - p) with
    | true=>rw [d1] at h; cases h
    | false=>
     rw [d1,aH] at h
     cases d2:l[bP bG l p]? == some 45 with
     | true=>rw [d2] at h; cases h
     | false=>
      rw [d2,aH] at h
      simp only [R.ok.injEq] at h
      obtain ⟨rfl,rfl,rfl,rfl⟩:=h
      refine ⟨fun h=>absurd h (by decide),fun _=>?_,z0⟩
      have hx:bU ((l.take (bP bG l p)).drop p)=true:=by
       have hlt:=(aY.1 hc).1
       have hw:bG c=true:=by
        have:=b5 (p:=fun c=>!cO c.toNat || bG c) (by decide +kernel) c
        rw [c1] at this; exact this
       have hg:p + 1<=bP bG l p:=by rw [<-j0 hc hw]; exact xI
       refine (B5 _).2 ⟨c,?_,?_,c1,fun d hd=>sY d hd⟩
       · rw [List.getElem?_drop,Nat.add_zero,List.getElem?_take_of_lt (by omega),hc]
       · have:=of_decide_eq_false d1
         simp only [List.length_drop,List.length_take]; omega
      show ((0:Int) == 0 && bU _)=true
      rw [hx]; rfl
   | false=>
   rw [c1,aH] at h
   cases c2:bC c || c == 45 with
   | true=>
    rw [c2,aN] at h
    unfold iU at h
    simp only at h
    have hd:∀ d ∈ (l.take (bP bC l (bif l[p]? == some 45 then p + 1 else p))).drop (bif l[p]? == some 45 then p + 1 else p),bC d=true:=fun d hd=>sY d hd
    generalize (l.take (bP bC l (bif l[p]? == some 45 then p + 1 else p))).drop (bif l[p]? == some 45 then p + 1 else p)=s at *
    generalize (l[p]? == some 45)=neg at *
    cases d1:s == [] || (s[0]? == some 48 && (decide (1 < s.length) || neg)) with
    | true=>rw [d1] at h; cases h
    | false=>
    rw [d1,aH] at h
    cases hv:valL (cX neg) 0 s with
    | none=>rw [hv] at h; cases h
    | some m=>
    rw [hv] at h
    simp only at h
    have hm:=ER (lim:=cX neg) (by cases neg<;>decide) (Nat.zero_le _) hd hv
    cases d2:nM l (bP bC l (bif neg then p + 1 else p)) with
    | true=>rw [d2] at h; cases h
    | false=>
     rw [d2,aH] at h
     simp only [R.ok.injEq] at h
     obtain ⟨rfl,rfl,rfl,rfl⟩:=h
     refine ⟨fun h=>absurd h (by decide),fun _=>rfl,?_⟩
     cases neg with
     | true=>have hm:m<=9223372036854775808:=hm; show cH (-(m:Int)); unfold cH; omega
     | false=>have hm:m<=9223372036854775807:=hm; show cH (m:Int); unfold cH; omega
   | false=>
   rw [c2,aH] at h
   cases c3:c == 34 with
   | true=>
    rw [c3,aN] at h
    unfold gJ at h
    split at h
    · cases h
    · rename_i z' o ho
      cases d1:decide (200 < o.length) with
      | true=>rw [d1] at h; cases h
      | false=>
       rw [d1,aH] at h
       simp only [R.ok.injEq] at h
       obtain ⟨rfl,rfl,rfl,rfl⟩:=h
       refine ⟨fun h=>absurd h (by decide),fun _=>?_,z0⟩
       have h1:=pT _ _ _ [] _ _ (Nat.le_refl _) rfl ho
       have h2:decide (o.length<=200)=true:=by have:=of_decide_eq_false d1; simp; omega
       show ((0:Int) == 0 && (decide (o.length<=200) && o.all kC))=true
       rw [h1,h2]; rfl
   | false=>
   rw [c3,aH] at h
   cases c4:d7 c.toNat with
   | false=>rw [c4] at h; cases h
   | true=>
    rw [c4,aN] at h
    simp only [R.ok.injEq] at h
    obtain ⟨rfl,rfl,rfl,rfl⟩:=h
    refine ⟨fun h=>absurd h (by decide),fun _=>?_,z0⟩
    show ((0:Int) == 0 && d7 c.toNat)=true
    rw [c4]; rfl
theorem vW {l:List UInt8}:∀ (f a:Nat) (ts:List Tk),dZ f l a=.ok ts->∀ t ∈ ts,Gtk t.k t.x t.n
 | 0,a,ts,h=>by cases h; intro t ht; cases ht
 | f + 1,a,ts,h=>by
  rw [dZ] at h
  split at h
  · cases h
  · rename_i k x n z hR
    have hg:=I1 hR
    cases hk:k == 0 with
    | true=>
     rw [hk] at h
     simp only [aN,SR.ok.injEq] at h
     subst h
     intro t ht
     rw [List.mem_singleton.1 ht]; exact hg
    | false=>
     rw [hk] at h
     cases hr:dZ f l z with
     | bad e t=>rw [hr] at h; cases h
     | ok us=>
      rw [hr] at h
      simp only [aH,SR.cons,SR.ok.injEq] at h
      subst h
      intro t ht
      rcases List.mem_cons.1 ht with rfl | ht
      · exact hg
      · exact vW f z us hr t ht
theorem n9 (l:List UInt8):∀ t ∈ (aL l).toks,Gtk t.k t.x t.n:=by
 unfold aL
 cases h:decide (4000 < l.length) with
 | true=>intro t ht; cases ht
 | false=>
  rw [aH]
  cases hr:dZ (l.length + 1) l 0 with
  | bad e t=>intro t ht; cases ht
  | ok ts=>exact vW _ _ _ hr
theorem OI {k:Int} {x:List UInt8} {n:Int} (h:iV k x n=true):x.length<=200:=by
 unfold iV at h
 cases c1:k == 1 with
 | true=>rw [c1,aN,Bool.and_eq_true] at h; have:=jH h.2; omega
 | false=>
 rw [c1,aH] at h
 cases c2:k == 2 with
 | true=>rw [c2,aN] at h; rw [eq_of_beq h]; exact Nat.zero_le _
 | false=>
 rw [c2,aH] at h
 cases c3:k == 3 with
 | true=>rw [c3,aN,Bool.and_eq_true,Bool.and_eq_true] at h; exact of_decide_eq_true h.2.1
 | false=>
 rw [c3,aH] at h
 cases c4:k == 4 with
 | false=>rw [c4] at h; cases h
 | true=>
  rw [c4,aN,Bool.and_eq_true] at h
  match x,h with
  | [],_=>exact Nat.zero_le _
  | [_],_=>exact (by decide:1<=200)
  | _ :: _ :: _,h=>exact absurd h.2 (by simp)
theorem Gtk.len {k:Int} {x:List UInt8} {n:Int} (h:Gtk k x n):x.length<=200:=by
 by_cases hk:k=0
 · rw [(h.e hk).1]; exact Nat.zero_le _
 · exact OI (h.o hk)
theorem H9 {l:List UInt8} {ts:List Tk} (h:pJ l 0 ts) (hl:l.length<=4000):Ends ts:=
 ⟨E0 h,by have:=BQ h; omega,fun i t ht=>(EQ h ht).2.2.2.1⟩
theorem I5 {l:List UInt8}:∀ {a:Nat} {ts:List Tk},pJ l a ts->∀ t ∈ ts,t.a<=l.length
 | _,[],_=>fun t ht=>by cases ht
 | _,t :: ts,⟨_,h2,z,_,h4,h5⟩=>fun u hu=>by
  rcases List.mem_cons.1 hu with rfl | hu
  · exact h2
  · by_cases h0:t.k=0
    · rw [h4 h0] at hu; cases hu
    · exact I5 (h5 h0) u hu
structure Tks (ts:List Tk):Prop where
 e:Ends ts
 g:∀ t ∈ ts,Gtk t.k t.x t.n
 a:∀ t ∈ ts,t.a<=4000
theorem uU {l:List UInt8} (h:(aL l).err=0):Tks (aL l).toks:=by
 rcases FT l with ⟨h1,_⟩ | ⟨_,_,h3,h4⟩
 · exact absurd h h1
 · exact ⟨H9 h4 h3,n9 l,fun t ht=>by have:=I5 h4 t ht; omega⟩
theorem xT:∀ n:Nat,Lib.decDigits n=digs n:=fun n=>by
 induction n using Nat.strongRecOn with
 | _ n ih=>
  rw [Lib.decDigits,digs]
  by_cases h:n < 10
  · have e:n % 10=n:=Nat.mod_eq_of_lt h
    simp [h,e,Nat.toUInt8]
  · rw [dif_neg h,dif_neg h,ih (n / 10) (by omega)]
theorem HR (n:Int):Lib.itoa n=bX n:=by
 unfold Lib.itoa bX
 by_cases h:n < 0
 · rw [if_pos h,decide_eq_true h,xT]; rfl
 · rw [if_neg h,decide_eq_false h,xT,show n.toNat=n.natAbs by omega]; rfl
def zZ:List S->Prop:=fun av=>match av with
 | [.va (.c1 (.vl (.int .i64 n)))]=>-9223372036854775808<=n/\n<=9223372036854775807
 | _=>False
theorem wD {av:List S} (h:zZ av):∃ n:Int,av=[iS .i64 n]/\-9223372036854775808<=n/\n<=9223372036854775807:=by
 unfold zZ at h
 split at h
 · exact ⟨_,rfl,h⟩
 · exact h.elim
def L0:List S->A:=fun av=>match av with
 | [.va (.c1 (.vl (.int .i64 n)))]=>tA (mk (bX n))
 | _=>.gs []
def itFn:Fun:=⟨zZ,L0,fun av h=>by obtain ⟨_,rfl,_⟩:=wD h; trivial⟩
attribute [go_sem ↓] zZ L0 itFn
theorem UJ {ro:RO} {w:World} (h:GR Tryz.prog ro w):Lib.TabIs Tryz.prog w "internal/strconv.uint64pow10" .u64 Lib.pow10Tab:=by
 have:=(h _ (List.mem_singleton.2 rfl) _ Tryz.laysM171.m17).2
 unfold Lib.TabIs
 rw [this,Lib.pow10Tab,List.map_map]
 rfl
theorem zP:Meets Tryz.prog 32 itFn.sp:=by
 refine ⟨by kernel_rfl,?_⟩
 rintro xs vs E ro w K hl hrel hr ⟨⟨h,hE⟩,hK⟩ hG
 obtain ⟨n,rfl,h0,h1⟩:=wD h
 obtain ⟨v0,rfl⟩:∃ v0,vs=[v0]:=by
  match vs,hl with
  | [v0],_=>exact ⟨v0,rfl⟩
 have e0:v0=.int .i64 n:=hrel 0 _ _ rfl rfl
 subst e0
 refine (Tryz.strconv_Itoa n h0 h1 w (UJ hG)).mono ?_
 rintro e w' ⟨rfl,k,os,rfl⟩
 refine ⟨tS (mk (bX n)),_,E,ro,rfl,by rw [HR]; rfl,by rw [hE]; exact hK,?_⟩
 have hk:∀ j,j < w.heap.size->(Sort.grow (w.drewN k) os).heap[j]? = w.heap[j]?:=fun j hj=>by
  simp [Sort.grow,World.drewN,Array.getElem?_append_left hj]
 exact hr.grown hk (by simp [Sort.grow,World.drewN]) rfl rfl rfl
structure Fs where
 bad:Bool
 off:Int
 n:Nat
structure Po where
 ver:Int
 es:List (List C)
 ss:List (List C)
instance:Inhabited Tk:=⟨⟨0,[],0,0⟩⟩
def aU (ts:List Tk) (n:Nat):Tk:=ts.getD n default
abbrev pB (o:Po) (b:Bool) (a:Int):B:=.cells [.pt 1 0,.vl (.bool b),.vl (.int .i64 a),.vl (.int .i64 o.ver),.sl 2 o.es.length,.sl 3 o.ss.length] 70
abbrev pH (o:Po) (ts:List Tk) (z:Fs):Hp:=[pB o z.bad z.off,d9 123 ts z.n,.row o.es 62 3,.row o.ss 56 2]
def dF (ts:List Tk) (z:Fs):Fs:=bif z.bad then z else ⟨true,(aU ts z.n).a,z.n⟩
def aP (k:Int) (w:List UInt8) (ts:List Tk) (z:Fs):Bool:=!z.bad && eR k w (aU ts z.n)
def bB (k:Int) (w:List UInt8) (ts:List Tk) (z:Fs):Fs:=bif aP k w ts z then ⟨false,z.off,dE ts z.n⟩ else z
def bK (w:List UInt8) (ts:List Tk) (z:Fs):Fs:=bif aP 4 w ts z then ⟨false,z.off,dE ts z.n⟩ else dF ts z
def f7 (c:Bool) (ts:List Tk) (z:Fs):Bool:=!z.bad && ((aU ts z.n).k == 1 && (!c || (match (aU ts z.n).x with | b :: _=>decide (65<=b) && decide (b<=90) | []=>false)))
def cW (c:Bool) (ts:List Tk) (z:Fs):ByteArray:=bif f7 c ts z then mk (aU ts z.n).x else mk []
def b7 (c:Bool) (ts:List Tk) (z:Fs):Fs:=bif f7 c ts z then ⟨false,z.off,dE ts z.n⟩ else dF ts z
def i7 (c:Bool) (ts:List Tk) (z:Fs):Bool:=!z.bad && ((aU ts z.n).k == 2 && (!c || decide (0<=(aU ts z.n).n)))
def gL (c:Bool) (ts:List Tk) (z:Fs):Int:=bif i7 c ts z then (aU ts z.n).n else 0
def gK (c:Bool) (ts:List Tk) (z:Fs):Fs:=bif i7 c ts z then ⟨false,z.off,dE ts z.n⟩ else dF ts z
def jP (ts:List Tk) (z:Fs):Int:=gL true ts (bK [91] ts z)
def jL (ts:List Tk) (z:Fs):Fs:=bK [93] ts (gK true ts (bK [91] ts z))
theorem jJ {ts:List Tk} {n:Nat} (h:n < ts.length):ts[n]? = some (aU ts n):=by simp [aU,List.getD_eq_getElem?_getD,aT h]
theorem sV {ts:List Tk} {n:Nat} (h:n < ts.length):aU ts n ∈ ts:=bH (jJ h)
theorem k9 {T:TypeId} {ts:List Tk} {n:Nat} {K:S->Hp->Prop} (he:Ends ts) (h:n < ts.length) (hK:K (.va (.gs (gV (aU ts n)))) [d9 T ts n]):eC T [.va (.c1 (.pt 0 0))] [d9 T ts n] K:=
 ⟨rfl,ts,n,rfl,rfl,he,h,fun t ht=>by rw [jJ h] at ht; cases ht; exact hK⟩
theorem CR {T:TypeId} {ts:List Tk} {n:Nat} {K:S->Hp->Prop} (he:Ends ts) (h:n < ts.length) (hK:K (.va (.gs (gV (aU ts n)))) [d9 T ts (dE ts n)]):fV T [.va (.c1 (.pt 0 0))] [d9 T ts n] K:=
 ⟨rfl,ts,n,rfl,rfl,he,h,fun t ht=>by rw [jJ h] at ht; cases ht; exact hK⟩
theorem p8 {k:Int} {T:TypeId} {w:ByteArray} {ts:List Tk} {n:Nat} {K:S->Hp->Prop} (he:Ends ts) (h:n < ts.length) (hK:K (bS (eR k (bl w) (aU ts n))) [d9 T ts (oX k (bl w) ts n (aU ts n))]):dX k T [.va (.c1 (.pt 0 0)),tS w] [d9 T ts n] K:=
 ⟨rfl,ts,n,rfl,rfl,he,h,fun t ht=>by rw [jJ h] at ht; cases ht; exact hK⟩
theorem wN (k:Int) (w:List UInt8) (ts:List Tk) (n:Nat) (t:Tk):oX k w ts n t=bif eR k w t then dE ts n else n:=rfl
attribute [-go_sem] eC fV dX iC eK
end Go.Proofs.YtgogpogophflhaaGreatDoor
namespace Go.Proofs.YtgogpogophflhaaGreatDoor
open Go.W
attribute [-go_sem] eC fV dX iC eK
def lN (av0:List S) (V:List Tk->Fs->S) (F:List Tk->Fs->Fs):List S->Hp->(S->Hp->Prop)->Prop:=fun av H K=>
 ∃ o ts z,av=.va (.c1 (.pt 0 0)) :: av0/\H=pH o ts z/\Tks ts/\z.n < ts.length/\K (V ts z) (pH o ts (F ts z))
theorem gQ {av0:List S} {V:List Tk->Fs->S} {F:List Tk->Fs->Fs} {o:Po} {ts:List Tk} {z:Fs} {K:S->Hp->Prop} (h1:Tks ts) (h2:z.n < ts.length) (hK:K (V ts z) (pH o ts (F ts z))) :
 lN av0 V F (.va (.c1 (.pt 0 0)) :: av0) (pH o ts z) K:=⟨o,ts,z,rfl,rfl,h1,h2,hK⟩
def LV:List Tk->Fs->S:=fun _ _=>.tu []
def nH:W.Spec:=lN [] LV dF
def qL:W.Spec:=fun av H K=>∃ w,lN [tS w] (fun ts z=>bS (aP 1 (bl w) ts z)) (bB 1 (bl w)) av H K
def tX:W.Spec:=fun av H K=>∃ w,lN [tS w] (fun ts z=>bS (aP 4 (bl w) ts z)) (bB 4 (bl w)) av H K
def kX:W.Spec:=fun av H K=>∃ w,lN [tS w] LV (bK (bl w)) av H K
def qS:W.Spec:=fun av H K=>∃ c,lN [bS c] (fun ts z=>tS (cW c ts z)) (b7 c) av H K
def lK:W.Spec:=fun av H K=>∃ c,lN [bS c] (fun ts z=>iS .i64 (gL c ts z)) (gK c) av H K
def G3:W.Spec:=lN [] (fun ts z=>iS .i64 (jP ts z)) jL
section
variable {o:Po} {ts:List Tk} {z:Fs} {K:S->Hp->Prop}
theorem hJ (h1:Tks ts) (h2:z.n < ts.length) (hK:K (.tu []) (pH o ts (dF ts z))):nH [.va (.c1 (.pt 0 0))] (pH o ts z) K:=gQ h1 h2 hK
theorem fT {w:ByteArray} (h1:Tks ts) (h2:z.n < ts.length) (hK:K (bS (aP 1 (bl w) ts z)) (pH o ts (bB 1 (bl w) ts z))):qL [.va (.c1 (.pt 0 0)),tS w] (pH o ts z) K:=⟨w,gQ (F:=bB 1 (bl w)) h1 h2 hK⟩
theorem wP {w:ByteArray} (h1:Tks ts) (h2:z.n < ts.length) (hK:K (bS (aP 4 (bl w) ts z)) (pH o ts (bB 4 (bl w) ts z))):tX [.va (.c1 (.pt 0 0)),tS w] (pH o ts z) K:=⟨w,gQ (F:=bB 4 (bl w)) h1 h2 hK⟩
theorem fK {w:ByteArray} (h1:Tks ts) (h2:z.n < ts.length) (hK:K (.tu []) (pH o ts (bK (bl w) ts z))):kX [.va (.c1 (.pt 0 0)),tS w] (pH o ts z) K:=⟨w,gQ (F:=bK (bl w)) h1 h2 hK⟩
theorem lG {c:Bool} (h1:Tks ts) (h2:z.n < ts.length) (hK:K (tS (cW c ts z)) (pH o ts (b7 c ts z))):qS [.va (.c1 (.pt 0 0)),bS c] (pH o ts z) K:=⟨c,gQ (F:=b7 c) h1 h2 hK⟩
theorem rH {c:Bool} (h1:Tks ts) (h2:z.n < ts.length) (hK:K (iS .i64 (gL c ts z)) (pH o ts (gK c ts z))):lK [.va (.c1 (.pt 0 0)),bS c] (pH o ts z) K:=⟨c,gQ (F:=gK c) h1 h2 hK⟩
theorem EG (h1:Tks ts) (h2:z.n < ts.length) (hK:K (iS .i64 (jP ts z)) (pH o ts (jL ts z))):G3 [.va (.c1 (.pt 0 0))] (pH o ts z) K:=gQ h1 h2 hK
end
theorem lV {ts:List Tk} {n:Nat} (h:n < ts.length):n<=dE ts n/\dE ts n < ts.length:=by
 unfold dE; split<;>omega
theorem iH (ts:List Tk) (z:Fs):(dF ts z).n=z.n:=by unfold dF; cases z.bad<;>rfl
theorem cA {w:List UInt8} {ts:List Tk} {z:Fs} (h:z.n < ts.length):z.n<=(bK w ts z).n/\(bK w ts z).n < ts.length:=by
 unfold bK
 cases aP 4 w ts z
 · rw [aH,iH]; exact ⟨Nat.le_refl _,h⟩
 · exact lV h
theorem eD {k:Int} {w:List UInt8} {ts:List Tk} {z:Fs} (h:z.n < ts.length):z.n<=(bB k w ts z).n/\(bB k w ts z).n < ts.length:=by
 unfold bB
 cases aP k w ts z
 · exact ⟨Nat.le_refl _,h⟩
 · exact lV h
theorem d5 {c:Bool} {ts:List Tk} {z:Fs} (h:z.n < ts.length):z.n<=(b7 c ts z).n/\(b7 c ts z).n < ts.length:=by
 unfold b7
 cases f7 c ts z
 · rw [aH,iH]; exact ⟨Nat.le_refl _,h⟩
 · exact lV h
theorem kO {c:Bool} {ts:List Tk} {z:Fs} (h:z.n < ts.length):z.n<=(gK c ts z).n/\(gK c ts z).n < ts.length:=by
 unfold gK
 cases i7 c ts z
 · rw [aH,iH]; exact ⟨Nat.le_refl _,h⟩
 · exact lV h
theorem uO {ts:List Tk} {z:Fs} (h:z.n < ts.length):z.n<=(jL ts z).n/\(jL ts z).n < ts.length:=by
 unfold jL
 have h1:=cA (w:=[91]) h
 have h2:=kO (c:=true) h1.2
 have h3:=cA (w:=[93]) h2.2
 omega
theorem m7:Meets Tryz.prog 35 nH:=by
 refine aG Tryz.func35 YG 1 (by rw [Tryz.ntmps35]; decide) (aA oG (aB _)) (fun av H K h=>by obtain ⟨_,_,_,rfl,_⟩:=h; rfl) ?_
 rintro av H K ⟨o,ts,⟨b,a,n⟩,rfl,rfl,ht,hn,hK⟩
 unfold dF LV at hK
 cases b with
 | true=>
  simp (maxSteps:=9^6) -dsimp only [go_sem,LB,JH]
  exact .done hK
 | false=>
  simp (maxSteps:=9^6) -dsimp only [go_sem,LB,JH]
  refine k9 ht.e hn ?_
  simp (maxSteps:=9^6) -dsimp only [go_sem]
  exact .done hK
theorem CT:Meets Tryz.prog 34 qL:=by
 refine aG Tryz.func34 YX 2 (by rw [Tryz.ntmps34]; decide) (aA T9 (aB _)) (fun av H K h=>by obtain ⟨_,_,_,_,rfl,_⟩:=h; rfl) ?_
 rintro av H K ⟨w,o,ts,⟨b,a,n⟩,rfl,rfl,ht,hn,hK⟩
 unfold bB aP at hK
 cases b with
 | true=>
  simp (maxSteps:=9^6) -dsimp only [go_sem,J8,J6]
  exact .done hK
 | false=>
  simp (maxSteps:=9^6) -dsimp only [go_sem,J8,J6]
  refine p8 ht.e hn ?_
  rw [wN]
  have hK:K (bS (!false && eR 1 (bl w) (aU ts n))) (pH o ts (bif !false && eR 1 (bl w) (aU ts n) then ⟨false,a,dE ts n⟩ else ⟨false,a,n⟩)):=hK
  cases hh:eR 1 (bl w) (aU ts n)<;>rw [hh] at hK<;>(simp (maxSteps:=9^6) -dsimp only [go_sem]; exact .done hK)
theorem MM:Meets Tryz.prog 84 tX:=by
 refine aG Tryz.func84 ZL 2 (by rw [Tryz.ntmps84]; decide) (aA G1 (aB _)) (fun av H K h=>by obtain ⟨_,_,_,_,rfl,_⟩:=h; rfl) ?_
 rintro av H K ⟨w,o,ts,⟨b,a,n⟩,rfl,rfl,ht,hn,hK⟩
 unfold bB aP at hK
 cases b with
 | true=>
  simp (maxSteps:=9^6) -dsimp only [go_sem,JT,KZ]
  exact .done hK
 | false=>
  simp (maxSteps:=9^6) -dsimp only [go_sem,JT,KZ]
  refine p8 ht.e hn ?_
  rw [wN]
  have hK:K (bS (!false && eR 4 (bl w) (aU ts n))) (pH o ts (bif !false && eR 4 (bl w) (aU ts n) then ⟨false,a,dE ts n⟩ else ⟨false,a,n⟩)):=hK
  cases hh:eR 4 (bl w) (aU ts n)<;>rw [hh] at hK<;>(simp (maxSteps:=9^6) -dsimp only [go_sem]; exact .done hK)
theorem tL:Meets Tryz.prog 37 kX:=by
 refine aG Tryz.func37 ZO 2 (by rw [Tryz.ntmps37]; decide) (aA G1 (aA m7 (aB _))) (fun av H K h=>by obtain ⟨_,_,_,_,rfl,_⟩:=h; rfl) ?_
 rintro av H K ⟨w,o,ts,⟨b,a,n⟩,rfl,rfl,ht,hn,hK⟩
 unfold bK aP LV at hK
 cases b with
 | true=>
  simp (maxSteps:=9^6) -dsimp only [go_sem,JF,K7]
  exact .done hK
 | false=>
  simp (maxSteps:=9^6) -dsimp only [go_sem,JF,K7]
  refine p8 ht.e hn ?_
  rw [wN]
  cases hh:eR 4 (bl w) (aU ts n) with
  | true=>
   rw [hh] at hK
   simp (maxSteps:=9^6) -dsimp only [go_sem]
   exact .done hK
  | false=>
   rw [hh] at hK
   simp (maxSteps:=9^6) -dsimp only [go_sem]
   refine hJ (z:=⟨false,a,n⟩) ht hn ?_
   simp (maxSteps:=9^6) -dsimp only [go_sem]
   exact .done hK
theorem UU {c b:Bool} {ts:List Tk} {a:Int} {n:Nat} (h:(b || (aU ts n).k != 2 || c && decide ((aU ts n).n < 0))=true):i7 c ts ⟨b,a,n⟩=false:=by
 unfold i7
 simp only
 cases b
 · cases hk:(aU ts n).k == 2
   · rfl
   · rw [bne,hk] at h
     cases c
     · cases h
     · have:(aU ts n).n < 0:=by simpa using h
       simp; omega
 · rfl
theorem TE {c b:Bool} {ts:List Tk} {a:Int} {n:Nat} (h:(b || (aU ts n).k != 2 || c && decide ((aU ts n).n < 0))=false):i7 c ts ⟨b,a,n⟩=true/\b=false:=by
 unfold i7
 simp only
 cases b
 · cases hk:(aU ts n).k == 2
   · rw [bne,hk] at h; cases h
   · rw [bne,hk] at h
     cases c
     · exact ⟨rfl,rfl⟩
     · have:¬ (aU ts n).n < 0:=by simpa using h
       refine ⟨?_,rfl⟩
       simp; omega
 · cases h
theorem u7:Meets Tryz.prog 36 lK:=by
 refine aG Tryz.func36 YN 2 (by rw [Tryz.ntmps36]; decide) (aA oG (aA FE (aA m7 (aB _)))) (fun av H K h=>by obtain ⟨_,_,_,_,rfl,_⟩:=h; rfl) ?_
 rintro av H K ⟨c,o,ts,⟨b,a,n⟩,rfl,rfl,ht,hn,hK⟩
 have hK:K (iS .i64 (gL c ts ⟨b,a,n⟩)) (pH o ts (gK c ts ⟨b,a,n⟩)):=hK
 have bad:i7 c ts ⟨b,a,n⟩=false->K (iS .i64 0) (pH o ts (dF ts ⟨b,a,n⟩)):=fun h=>by
  unfold gL gK at hK; rw [h] at hK; exact hK
 have good:i7 c ts ⟨b,a,n⟩=true->K (iS .i64 (aU ts n).n) (pH o ts ⟨false,a,dE ts n⟩):=fun h=>by
  unfold gL gK at hK; rw [h] at hK; exact hK
 clear hK
 simp (maxSteps:=9^6) -dsimp only [go_sem,S3,UM]
 refine k9 ht.e hn ?_
 simp (maxSteps:=9^6) -dsimp only [go_sem,gV]
 refine aW rfl (.done ?_)
 simp (maxSteps:=9^6) -dsimp only [go_sem,A8]
 refine ⟨fun h1 h2=>by rw [h1,h2]; rfl,fun h=>?_,fun h=>?_⟩
 · refine hJ (z:=⟨b,a,n⟩) ht hn ?_
   simp (maxSteps:=9^6) -dsimp only [go_sem]
   refine .sel [0,1,2,3] (by simp) (by simp) rfl (.done ?_)
   simp (maxSteps:=9^6) -dsimp only [go_sem]
   exact bad (UU h)
 · refine aW rfl (.done ?_)
   simp (maxSteps:=9^6) -dsimp only [go_sem,CZ]
   refine CR ht.e hn ?_
   simp (maxSteps:=9^6) -dsimp only [go_sem]
   refine .sel [0,1,2,3] (by simp) (by simp) rfl (.done ?_)
   simp (maxSteps:=9^6) -dsimp only [go_sem]
   have g:=TE (a:=a) h
   obtain ⟨g,rfl⟩:=g
   exact good g
theorem N5 {t:Tk} (h:Gtk t.k t.x t.n) (hk:t.k=1):t.x ≠ []:=by
 have:=h.o (by rw [hk]; decide)
 rw [hk] at this
 have h2:bU t.x=true:=by
  have h3:(t.n == 0 && bU t.x)=true:=this
  rw [Bool.and_eq_true] at h3; exact h3.2
 intro e
 rw [e] at h2
 cases h2
theorem VM {c b:Bool} {ts:List Tk} {a:Int} {n:Nat} {c1 c2:UInt8} (h1:(!(b || (aU ts n).k != 1) && c)=true->(aU ts n).x[0]? = some c1)
 (h2:(!(b || (aU ts n).k != 1) && c && !decide ((c1.toNat:Int) < 65))=true->(aU ts n).x[0]? = some c2)
 (h:(b || (aU ts n).k != 1 || c && (decide ((c1.toNat:Int) < 65) || decide (90 < (c2.toNat:Int))))=true):f7 c ts ⟨b,a,n⟩=false:=by
 unfold f7
 simp only
 cases b
 · cases hk:(aU ts n).k == 1
   · rfl
   · rw [bne,hk] at h h1 h2
     cases c
     · cases h
     · have g1:=h1 rfl
       cases hx:(aU ts n).x with
       | nil=>rfl
       | cons d r=>
        rw [hx] at g1 h2
        have e1:d=c1:=aZ g1
        subst e1
        have h64:∀ m:Nat,(m:Int) < 65->m < 65:=fun m=>by omega
        by_cases hd:(d.toNat:Int) < 65
        · have:¬ (65:UInt8)<=d:=fun hh=>by
           have:=UInt8.le_iff_toNat_le.1 hh
           simp at this; omega
          simp [this]
        · have e2:d=c2:=aZ (h2 (by simpa using hd))
          subst e2
          have:90 < (d.toNat:Int):=by
           simp [hd] at h; exact h
          have:¬ d<=(90:UInt8):=fun hh=>by
           have:=UInt8.le_iff_toNat_le.1 hh
           simp at this; omega
          simp [this]
 · rfl
theorem TJ {c b:Bool} {ts:List Tk} {a:Int} {n:Nat} {c1 c2:UInt8} (h1:(!(b || (aU ts n).k != 1) && c)=true->(aU ts n).x[0]? = some c1)
 (h2:(!(b || (aU ts n).k != 1) && c && !decide ((c1.toNat:Int) < 65))=true->(aU ts n).x[0]? = some c2)
 (h:(b || (aU ts n).k != 1 || c && (decide ((c1.toNat:Int) < 65) || decide (90 < (c2.toNat:Int))))=false):f7 c ts ⟨b,a,n⟩=true/\b=false:=by
 unfold f7
 simp only
 cases b
 · refine ⟨?_,rfl⟩
   cases hk:(aU ts n).k == 1
   · rw [bne,hk] at h; cases h
   · rw [bne,hk] at h h1 h2
     cases c
     · rfl
     · have g1:=h1 rfl
       cases hx:(aU ts n).x with
       | nil=>rw [hx] at g1; cases g1
       | cons d r=>
        rw [hx] at g1 h2
        have e1:d=c1:=aZ g1
        subst e1
        have hd:¬ (d.toNat:Int) < 65:=fun hd=>by simp [hd] at h
        have e2:d=c2:=aZ (h2 (by simpa using hd))
        subst e2
        have h90:¬ 90 < (d.toNat:Int):=fun hd=>by simp [hd] at h
        have q1:(65:UInt8)<=d:=UInt8.le_iff_toNat_le.2 (by simp; omega)
        have q2:d<=(90:UInt8):=UInt8.le_iff_toNat_le.2 (by simp; omega)
        simp [q1,q2]
 · cases h
theorem z8:Meets Tryz.prog 83 qS:=by
 refine aG Tryz.func83 aAF 2 (by rw [Tryz.ntmps83]; decide) (aA oG (aA FE (aA m7 (aB _)))) (fun av H K h=>by obtain ⟨_,_,_,_,rfl,_⟩:=h; rfl) ?_
 rintro av H K ⟨c,o,ts,⟨b,a,n⟩,rfl,rfl,ht,hn,hK⟩
 have hK:K (tS (cW c ts ⟨b,a,n⟩)) (pH o ts (b7 c ts ⟨b,a,n⟩)):=hK
 have bad:f7 c ts ⟨b,a,n⟩=false->K (tS (mk [])) (pH o ts (dF ts ⟨b,a,n⟩)):=fun h=>by
  unfold cW b7 at hK; rw [h] at hK; exact hK
 have good:f7 c ts ⟨b,a,n⟩=true->K (tS (mk (aU ts n).x)) (pH o ts ⟨false,a,dE ts n⟩):=fun h=>by
  unfold cW b7 at hK; rw [h] at hK; exact hK
 clear hK
 simp (maxSteps:=9^6) -dsimp only [go_sem,QY,UH]
 refine k9 ht.e hn ?_
 simp (maxSteps:=9^6) -dsimp only [go_sem,gV]
 refine aW rfl (.done ?_)
 simp (maxSteps:=9^6) -dsimp only [go_sem,B0]
 have ne:((!(b || (aU ts n).k != 1) && c)=true)->(0:Int)<=0/\(0:Int) < ((aU ts n).x.length:Int):=fun h=>by
  have hk:(aU ts n).k=1:=by
   cases b
   · cases hk:(aU ts n).k == 1
     · rw [bne,hk] at h; cases c<;>cases h
     · exact eq_of_beq hk
   · cases h
  have this:(aU ts n).x ≠ []:=N5 (ht.g _ (sV hn)) hk
  have:=List.length_pos_iff.2 this
  omega
 refine ⟨ne,fun c1 h1=>⟨fun h=>ne (by rw [Bool.and_eq_true] at h; exact h.1),fun c2 h2=>⟨fun hA hB=>by rw [hA,hB]; rfl,fun hA hB=>by rw [hA,hB]; rfl,fun h=>?_,fun h=>?_⟩⟩⟩
 · refine hJ (z:=⟨b,a,n⟩) ht hn ?_
   simp (maxSteps:=9^6) -dsimp only [go_sem]
   refine .sel [0,1,2,3] (by simp) (by simp) rfl (.done ?_)
   simp (maxSteps:=9^6) -dsimp only [go_sem]
   exact bad (VM h1 h2 h)
 · refine aW rfl (.done ?_)
   simp (maxSteps:=9^6) -dsimp only [go_sem,AP]
   refine CR ht.e hn ?_
   simp (maxSteps:=9^6) -dsimp only [go_sem]
   refine .sel [0,1,2,3] (by simp) (by simp) rfl (.done ?_)
   simp (maxSteps:=9^6) -dsimp only [go_sem]
   have g:=TJ (a:=a) h1 h2 h
   obtain ⟨g,rfl⟩:=g
   exact good g
theorem M6:Meets Tryz.prog 36 lK->Meets Tryz.prog 97 G3:=by
 intro hnum
 refine aG Tryz.func97 ZV 1 (by rw [Tryz.ntmps97]; decide) (aA tL (aA hnum (aB _))) (fun av H K h=>by obtain ⟨_,_,_,rfl,_⟩:=h; rfl) ?_
 rintro av H K ⟨o,ts,z,rfl,rfl,ht,hn,hK⟩
 have hK:K (iS .i64 (jP ts z)) (pH o ts (jL ts z)):=hK
 unfold jL jP at hK
 simp (maxSteps:=9^6) -dsimp only [go_sem,TH,RG]
 refine fK ht hn ?_
 have h1:=cA (w:=[91]) hn
 have e1:bK (bl (mk [91])) ts z=bK [91] ts z:=rfl
 rw [e1]
 generalize bK [91] ts z=z1 at *
 simp (maxSteps:=9^6) -dsimp only [go_sem]
 refine rH ht h1.2 ?_
 have h2:=kO (c:=true) h1.2
 simp (maxSteps:=9^6) -dsimp only [go_sem]
 refine fK ht h2.2 ?_
 simp (maxSteps:=9^6) -dsimp only [go_sem]
 exact .done hK
end Go.Proofs.YtgogpogophflhaaGreatDoor
namespace Go.Proofs.YtgogpogophflhaaGreatDoor
open Go.W
attribute [-go_sem] eC fV dX iC eK
def szs:List Int:=[8,16,32,64]
def nX (n:Int):List UInt8:=[105,110,116] ++ bX n
def kJ (n:Int):List UInt8:=[117,105,110,116] ++ bX n
def jU:List UInt8:=[98,111,111,108]
def wText:List UInt8:=[116,101,120,116]
def gR (ts:List Tk) (z:Fs):List Int->Ty × Fs
 | []=>(.mk 6 0 (cW true ts z) [],b7 true ts z)
 | s :: r=>bif aP 1 (nX s) ts z then (.mk 2 s (mk []) [],bB 1 (nX s) ts z) else bif decide (s < 64) && aP 1 (kJ s) ts z then (.mk 3 s (mk []) [],bB 1 (kJ s) ts z) else gR ts z r
def gS (ts:List Tk) (z:Fs):Ty × Fs:=
 bif aP 1 jU ts z then (.mk 1 0 (mk []) [],bB 1 jU ts z)
 else bif aP 1 wText ts z then (.mk 4 (jP ts (bB 1 wText ts z)) (mk []) [],jL ts (bB 1 wText ts z))
 else gR ts z szs
def F7 (F:List Tk->Fs->Ty × Fs):W.Spec:=lN [] (fun ts z=>.va (.gs (aX (F ts z).1))) fun ts z=>(F ts z).2
theorem IX {F:List Tk->Fs->Ty × Fs} {o:Po} {ts:List Tk} {z:Fs} {K:S->Hp->Prop} (h1:Tks ts) (h2:z.n < ts.length) (hK:K (.va (.gs (aX (F ts z).1))) (pH o ts (F ts z).2)):F7 F [.va (.c1 (.pt 0 0))] (pH o ts z) K:=gQ (V:=fun ts z=>.va (.gs (aX (F ts z).1))) (F:=fun ts z=>(F ts z).2) h1 h2 hK
theorem fA {k:Int} {w:List UInt8} {ts:List Tk} {z:Fs} (h:aP k w ts z=false):bB k w ts z=z:=by unfold bB; rw [h]; rfl
theorem OS:Meets Tryz.prog 98 (F7 gS):=by
 refine aG Tryz.func98 Z7 1 (by rw [Tryz.ntmps98]; decide) (aA CT (aA (M6 u7) (aA z8 (aK zP (aB _))))) (fun av H K h=>by obtain ⟨_,_,_,rfl,_⟩:=h; rfl) ?_
 rintro av H K ⟨o,ts,z,rfl,rfl,ht,hn,hK⟩
 have hK:K (.va (.gs (aX (gS ts z).1))) (pH o ts (gS ts z).2):=hK
 have fin:∀ (t:Ty) (z':Fs) (R:Hp),gS ts z=(t,z')->W.Fin 4 K (.va (.gs [.vl (.int .i64 t.k),.vl (.int .i64 t.s),.vl (.string t.n),.fz (t.e.map aX)])) (pH o ts z' ++ R):=fun t z' R h=>by
  rw [h] at hK
  refine .sel [0,1,2,3] (by simp) (by simp) rfl (.done ?_)
  rw [bO] at hK
  simpa [go_sem] using hK
 unfold gS at fin
 simp (maxSteps:=9^6) -dsimp only [go_sem,RY,SB]
 refine fT ht hn ?_
 rw [show bl (mk [98,111,111,108])=jU from rfl]
 cases h1:aP 1 jU ts z with
 | true=>
  rw [h1] at fin
  simp (maxSteps:=9^6) -dsimp only [go_sem]
  exact fin _ _ _ rfl
 | false=>
 rw [h1] at fin
 rw [fA h1]
 simp (maxSteps:=9^6) -dsimp only [go_sem]
 refine fT ht hn ?_
 rw [show bl (mk [116,101,120,116])=wText from rfl]
 have hn1:=eD (k:=1) (w:=wText) hn
 cases h2:aP 1 wText ts z with
 | true=>
  rw [h2] at fin
  simp (maxSteps:=9^6) -dsimp only [go_sem]
  refine EG ht hn1.2 ?_
  simp (maxSteps:=9^6) -dsimp only [go_sem]
  exact fin _ _ _ rfl
 | false=>
 rw [h2] at fin
 rw [fA h2]
 simp (maxSteps:=9^6) -dsimp only [go_sem]
 refine aW rfl (.done ?_)
 simp (maxSteps:=9^6) -dsimp only [go_sem,BV]
 refine a6 (α:=Nat) (fun i=>[(0,.va (.c1 (.pt 0 0))),(2,.va (.c1 (.pt 4 0))),(15,.va (.c1 (.sl 5 4))),(16,iS .i64 4),(17,iS .i64 i)]) (fun _=>[pB o z.bad z.off,d9 123 ts z.n,.row o.es 62 3,.row o.ss 56 2,.cells [.vl (.int .i64 0),.vl (.int .i64 0),.vl (.string (mk [])),.vl (.slice none 0 0)] 37,.row (szs.map gM) 3 1])
  (fun i=>i<=4/\gR ts z (szs.drop i)=gR ts z szs) (fun i=>4 - i) 0 6 ⟨Nat.zero_le _,rfl⟩ ?_ ?_ ?_
 · simp -dsimp only [go_sem]<;>simp
 · simp -dsimp only [go_sem,szs,List.map_cons,List.map_nil]<;>simp
 rintro i ⟨hi,ho⟩
 have hl4:szs.length=4:=rfl
 rcases bQ i 4 with hlt | hge
 · have hg:decide ((i:Int) < 4)=true:=by simp; omega
   obtain ⟨s,hx⟩:∃ s,szs[i]? = some s:=⟨_,aT (by omega)⟩
   have hd:szs.drop i=s :: szs.drop (i + 1):=List.drop_eq_getElem_cons (by omega) |>.trans (by rw [(aY.1 hx).2])
   have hs:8<=s/\s<=64:=by
    have:=bH hx
    simp only [szs,List.mem_cons,List.not_mem_nil,or_false] at this
    omega
   have hsl:=fR (n:=s) (by omega) (by omega)
   rw [hd,gR] at ho
   simp (maxSteps:=9^6) -dsimp only [go_sem,hg,List.length_map,hl4]
   refine ⟨⟨by omega,by omega⟩,by omega,fun x hx'=>?_⟩
   obtain rfl:s=x:=aZ (hx.symm.trans hx')
   refine ⟨⟨by omega,by omega⟩,by omega,fT ht hn ?_⟩
   rw [show bl (mk (105 :: 110 :: 116 :: bX s))=nX s from rfl]
   cases h3:aP 1 (nX s) ts z with
   | true=>
    rw [h3] at ho
    rw [aH,aH,<-ho] at fin
    simp (maxSteps:=9^6) -dsimp only [go_sem]
    exact fin _ _ _ rfl
   | false=>
   rw [h3,aH] at ho
   rw [fA h3]
   simp (maxSteps:=9^6) -dsimp only [go_sem]
   cases h4:decide (s < 64) with
   | false=>
    rw [h4] at ho
    refine aW rfl (.done ?_)
    simp (maxSteps:=9^6) -dsimp only [go_sem,qO,h4]
    refine ⟨by omega,aD (i + 1) 6 ⟨by omega,ho⟩ (by omega) ?_ ?_⟩
    · simp -dsimp only [go_sem]<;>simp
    · simp -dsimp only [go_sem]<;>simp
   | true=>
   rw [h4,Bool.true_and] at ho
   refine aW rfl (.done ?_)
   simp (maxSteps:=9^6) -dsimp only [go_sem,qO,h4]
   refine ⟨⟨by omega,by omega⟩,by omega,fT ht hn ?_⟩
   rw [show bl (mk (117 :: 105 :: 110 :: 116 :: bX s))=kJ s from rfl]
   cases h5:aP 1 (kJ s) ts z with
   | true=>
    rw [h5] at ho
    rw [aH,aH,<-ho] at fin
    simp (maxSteps:=9^6) -dsimp only [go_sem]
    exact fin _ _ _ rfl
   | false=>
   rw [h5,aH] at ho
   rw [fA h5]
   simp (maxSteps:=9^6) -dsimp only [go_sem]
   refine ⟨by omega,aD (i + 1) 6 ⟨by omega,ho⟩ (by omega) ?_ ?_⟩
   · simp -dsimp only [go_sem]<;>simp
   · simp -dsimp only [go_sem]<;>simp
 · have hg:decide ((i:Int) < 4)=false:=by simp; omega
   obtain rfl:i=4:=by omega
   rw [aH,aH,<-ho] at fin
   simp (maxSteps:=9^6) -dsimp only [go_sem,hg]
   refine aW rfl (.done ?_)
   simp (maxSteps:=9^6) -dsimp only [go_sem,xA]
   refine lG ht hn ?_
   simp (maxSteps:=9^6) -dsimp only [go_sem]
   exact fin _ _ _ rfl
end Go.Proofs.YtgogpogophflhaaGreatDoor
namespace Go.Proofs.YtgogpogophflhaaGreatDoor
open Go.W
attribute [-go_sem] eC fV dX iC eK
def eJ:List UInt8:=[108,105,115,116]
def DK:List UInt8:=[111,102]
def oV (ts:List Tk) (z:Fs):Fs:=bif aP 1 DK ts z then ⟨false,z.off,dE ts z.n⟩ else dF ts z
def iM (ts:List Tk):Nat->List Int->Fs->List Int × Fs
 | 0,d,z=>(d,z)
 | f + 1,d,z=>bif aP 1 eJ ts z then iM ts f (d ++ [jP ts (bB 1 eJ ts z)]) (oV ts (jL ts (bB 1 eJ ts z))) else (d,z)
def cB (d:List Int) (t:Ty):Ty:=d.foldr (fun s t=>.mk 5 s (mk []) [t]) t
def jC (ts:List Tk) (z:Fs):Ty × Fs:=(cB (iM ts (ts.length + 1) [] z).1 (gS ts (iM ts (ts.length + 1) [] z).2).1,(gS ts (iM ts (ts.length + 1) [] z).2).2)
theorem kZ (ts:List Tk) (f:Nat) (d:List Int) (z:Fs):iM ts (f + 1) d z=bif aP 1 eJ ts z then iM ts f (d ++ [jP ts (bB 1 eJ ts z)]) (oV ts (jL ts (bB 1 eJ ts z))) else (d,z):=rfl
theorem qW {k:Int} {w:List UInt8} {ts:List Tk} {z:Fs} (hk0:k ≠ 0) (he:Ends ts) (hn:z.n < ts.length) (h:aP k w ts z=true):dE ts z.n=z.n + 1/\z.n + 1 < ts.length/\z.bad=false:=by
 unfold aP at h
 rw [Bool.and_eq_true] at h
 obtain ⟨h1,h2⟩:=h
 have hb:z.bad=false:=by cases hb:z.bad with
  | false=>rfl
  | true=>rw [hb] at h1; cases h1
 have hk:(aU ts z.n).k=k:=by
  unfold eR at h2
  rw [Bool.and_eq_true] at h2
  exact eq_of_beq h2.1
 have hne:¬ (z.n + 1=ts.length):=fun e=>by
  have:=(he.last _ _ (jJ hn)).2 e
  rw [hk] at this; exact hk0 this
 have hlt:z.n + 1 < ts.length:=by omega
 exact ⟨if_pos hlt,hlt,hb⟩
theorem LO {ts:List Tk} {z:Fs} (h:z.n < ts.length):z.n<=(oV ts z).n/\(oV ts z).n < ts.length:=by
 unfold oV
 cases aP 1 DK ts z
 · rw [aH,iH]; exact ⟨Nat.le_refl _,h⟩
 · exact lV h
theorem LZ {ts:List Tk} {z:Fs} (h:z.n < ts.length):∀ l:List Int,z.n<=(gR ts z l).2.n/\(gR ts z l).2.n < ts.length
 | []=>d5 h
 | s :: r=>by
  rw [gR]
  cases aP 1 (nX s) ts z
  · cases decide (s < 64) && aP 1 (kJ s) ts z
    · exact LZ h r
    · exact eD h
  · exact eD h
theorem WB {ts:List Tk} {z:Fs} (h:z.n < ts.length):z.n<=(gS ts z).2.n/\(gS ts z).2.n < ts.length:=by
 unfold gS
 cases aP 1 jU ts z
 · cases aP 1 wText ts z
   · exact LZ h _
   · have h1:=eD (k:=1) (w:=wText) h
     have h2:=uO h1.2
     exact ⟨Nat.le_trans h1.1 h2.1,h2.2⟩
 · exact eD h
theorem GB {ts:List Tk}:∀ (f:Nat) (d:List Int) (z:Fs),z.n < ts.length->z.n<=(iM ts f d z).2.n/\(iM ts f d z).2.n < ts.length
 | 0,d,z,h=>⟨Nat.le_refl _,h⟩
 | f + 1,d,z,h=>by
  rw [kZ]
  cases aP 1 eJ ts z
  · exact ⟨Nat.le_refl _,h⟩
  · have h1:=eD (k:=1) (w:=eJ) h
    have h2:=uO h1.2
    have h3:=LO h2.2
    have h4:=GB f (d ++ [jP ts (bB 1 eJ ts z)]) _ h3.2
    rw [aN]
    omega
theorem MQ {ts:List Tk} {z:Fs} (h:z.n < ts.length):z.n<=(jC ts z).2.n/\(jC ts z).2.n < ts.length:=by
 have h1:=GB (ts.length + 1) [] z h
 have h2:=WB h1.2
 exact ⟨Nat.le_trans h1.1 h2.1,h2.2⟩
theorem FG (d:List Int) (s:Int) (t:Ty):cB (d ++ [s]) t=cB d (.mk 5 s (mk []) [t]):=by simp [cB]
theorem QS:Meets Tryz.prog 55 (F7 jC):=by
 refine aG Tryz.func55 aAB 1 (by rw [Tryz.ntmps55]; decide) (aA CT (aA (M6 u7) (aA m7 (aA OS (aB _))))) (fun av H K h=>by obtain ⟨_,_,_,rfl,_⟩:=h; rfl) ?_
 rintro av H K ⟨o,ts,z0,rfl,rfl,ht,hn0,hK⟩
 have hK:K (.va (.gs (aX (jC ts z0).1))) (pH o ts (jC ts z0).2):=hK
 have hle:=ht.e.le
 unfold jC at hK
 simp (maxSteps:=9^6) -dsimp only [go_sem,TQ,QN]
 refine cI (α:=Nat × List Int × Fs) (fun x=>[(0,.va (.c1 (.pt 0 0))),(2,.va (.c1 (.pt 4 0))),(3,.va (.c1 (.pt 5 0))),(4,.va (.c1 (.sl 6 x.2.1.length)))])
  (fun x=>[pB o x.2.2.bad x.2.2.off,d9 123 ts x.2.2.n,.row o.es 62 3,.row o.ss 56 2,.cells [.vl (.int .i64 0),.vl (.int .i64 0),.vl (.string (mk [])),.vl (.slice none 0 0)] 37,.cells [.vl (.int .i64 0),.vl (.int .i64 0),.vl (.string (mk [])),.vl (.slice none 0 0)] 37,.row (x.2.1.map gM) 3 1])
  (fun x=>x.2.2.n < ts.length/\x.2.1.length + x.1<=ts.length + 1/\ts.length < x.2.2.n + x.1/\iM ts x.1 x.2.1 x.2.2=iM ts (ts.length + 1) [] z0)
  (fun x=>x.1) (.nil 4 3 1 rfl (gZ (ts.length + 1,[],z0) 7 ⟨hn0,by simp,by simp only; omega,rfl⟩ ?_ ?_)) ?_
 · simp -dsimp only [go_sem]<;>simp
 · simp -dsimp only [go_sem]<;>simp
 rintro ⟨f,d,z⟩ ⟨h1,h2,h3,h4⟩
 simp only at h1 h2 h3 h4
 obtain ⟨f,rfl⟩:∃ g,f=g + 1:=⟨f - 1,by omega⟩
 rw [kZ] at h4
 simp (maxSteps:=9^6) -dsimp only [go_sem]
 refine fT ht h1 ?_
 rw [show bl (mk [108,105,115,116])=eJ from rfl]
 cases hl:aP 1 eJ ts z with
 | true=>
  rw [hl,aN] at h4
  obtain ⟨g1,g2,g3⟩:=qW (by decide) ht.e h1 hl
  have e1:bB 1 eJ ts z=⟨false,z.off,z.n + 1⟩:=by unfold bB; rw [hl,g1]; rfl
  rw [e1] at h4 ⊢
  simp (maxSteps:=9^6) -dsimp only [go_sem]
  have hb:=uO (z:=⟨false,z.off,z.n + 1⟩) g2
  refine EG (z:=⟨false,z.off,z.n + 1⟩) ht g2 ?_
  generalize jP ts ⟨false,z.off,z.n + 1⟩=v at *
  generalize jL ts ⟨false,z.off,z.n + 1⟩=z1 at *
  simp only at hb
  simp (maxSteps:=9^6) -dsimp only [go_sem]
  have nxtl:∀ z2:Fs,z1.n<=z2.n->z2.n < ts.length->oV ts z1=z2->z2.n < ts.length/\(d ++ [v]).length + f<=ts.length + 1/\ts.length < z2.n + f/\iM ts f (d ++ [v]) z2=iM ts (ts.length + 1) [] z0:=fun z2 q1 q2 q3=>by
   subst q3
   refine ⟨q2,?_,by omega,h4⟩
   rw [List.length_append,List.length_singleton]; omega
  clear h4
  refine ⟨by omega,aW rfl (.done ?_)⟩
  obtain ⟨b1,o1,n1⟩:=z1
  simp only at hb nxtl
  cases b1 with
  | true=>
   simp (maxSteps:=9^6) -dsimp only [go_sem,wC]
   refine aD (f,d ++ [v],⟨true,o1,n1⟩) 7 (nxtl _ (Nat.le_refl _) hb.2 (by simp [oV,aP,dF])) (by simp) ?_ ?_
   · simp -dsimp only [go_sem]<;>simp
   · simp -dsimp only [go_sem]<;>simp
  | false=>
  simp (maxSteps:=9^6) -dsimp only [go_sem,wC]
  refine fT (z:=⟨false,o1,n1⟩) ht hb.2 ?_
  rw [show bl (mk [111,102])=DK from rfl]
  cases hw:aP 1 DK ts ⟨false,o1,n1⟩ with
  | true=>
   have e2:bB 1 DK ts ⟨false,o1,n1⟩=⟨false,o1,dE ts n1⟩:=by unfold bB; rw [hw]; rfl
   rw [e2]
   have g4:=lV hb.2
   simp (maxSteps:=9^6) -dsimp only [go_sem]
   refine aD (f,d ++ [v],⟨false,o1,dE ts n1⟩) 7 (nxtl _ g4.1 g4.2 (by simp [oV,hw])) (by simp) ?_ ?_
   · simp -dsimp only [go_sem]<;>simp
   · simp -dsimp only [go_sem]<;>simp
  | false=>
   rw [fA hw]
   simp (maxSteps:=9^6) -dsimp only [go_sem]
   refine hJ (z:=⟨false,o1,n1⟩) ht hb.2 ?_
   simp (maxSteps:=9^6) -dsimp only [go_sem]
   refine aD (f,d ++ [v],dF ts ⟨false,o1,n1⟩) 7 (nxtl _ (by rw [iH]; exact Nat.le_refl _) (by rw [iH]; exact hb.2) (by simp [oV,hw])) (by simp) ?_ ?_
   · simp -dsimp only [go_sem]<;>simp
   · simp -dsimp only [go_sem]<;>simp
 | false=>
  rw [hl,aH] at h4
  rw [<-h4] at hK
  rw [fA hl]
  simp (maxSteps:=9^6) -dsimp only [go_sem]
  refine aW rfl (.done ?_)
  simp (maxSteps:=9^6) -dsimp only [go_sem,BI]
  refine IX ht h1 ?_
  simp only at hK
  generalize gS ts z=r at *
  obtain ⟨t,z'⟩:=r
  simp only at hK
  simp (maxSteps:=9^6) -dsimp only [go_sem,bO t]
  refine aW rfl (.done ?_)
  simp (maxSteps:=9^6) -dsimp only [go_sem,BD]
  refine ⟨by omega,?_⟩
  refine a6 (α:=Nat × Ty) (fun x=>[(2,.va (.c1 (.pt 4 0))),(3,.va (.c1 (.pt 5 0))),(4,.va (.c1 (.sl 6 d.length))),(5,iS .i64 ((x.1:Int) - 1))])
   (fun x=>[pB o z'.bad z'.off,d9 123 ts z'.n,.row o.es 62 3,.row o.ss 56 2,.cells [.vl (.int .i64 0),.vl (.int .i64 0),.vl (.string (mk [])),.vl (.slice none 0 0)] 37,.cells [.vl (.int .i64 x.2.k),.vl (.int .i64 x.2.s),.vl (.string x.2.n),.fz (x.2.e.map aX)] 37,.row (d.map gM) 3 1])
   (fun x=>x.1<=d.length/\cB (d.take x.1) x.2=cB d t) (fun x=>x.1) (d.length,t) 7 ⟨Nat.le_refl _,by rw [List.take_length]⟩ ?_ ?_ ?_
  · simp -dsimp only [go_sem]<;>simp
  · simp -dsimp only [go_sem]<;>simp
  rintro ⟨m,u⟩ ⟨hm,hu⟩
  simp only at hm hu
  cases m with
  | zero=>
   have g0:decide ((0:Int)<=((0:Nat):Int) - 1)=false:=rfl
   simp (maxSteps:=9^6) -dsimp only [go_sem,g0]
   refine aW rfl (.done ?_)
   simp (maxSteps:=9^6) -dsimp only [go_sem,xH]
   refine .sel [0,1,2,3] (by simp) (by simp) rfl (.done ?_)
   simp (maxSteps:=9^6) -dsimp only [go_sem]
   have e:u=cB d t:=hu
   rw [bO,<-e] at hK
   exact hK
  | succ m=>
   have g0:decide ((0:Int)<=(m:Int))=true:=decide_eq_true (by omega)
   have em:((m + 1:Nat):Int) - 1=(m:Int):=by omega
   obtain ⟨s,hx⟩:∃ s,d[m]? = some s:=⟨_,aT (by omega)⟩
   have htk:d.take (m + 1)=d.take m ++ [s]:=by rw [List.take_add_one,hx]; rfl
   rw [htk,FG] at hu
   simp (maxSteps:=9^6) -dsimp only [go_sem,g0,em]
   refine ⟨⟨by omega,by omega⟩,by omega,fun x hx'=>?_⟩
   obtain rfl:s=x:=aZ (hx.symm.trans hx')
   refine aW rfl (.pub 7 _ _ _ rfl (.done ?_))
   simp (maxSteps:=9^6) -dsimp only [go_sem,wG,dO]
   refine ⟨by omega,aD (m,.mk 5 s (mk []) [u]) 7 ⟨by omega,hu⟩ (by simp) ?_ ?_⟩
   · simp -dsimp only [go_sem,em]<;>simp
   · simp -dsimp only [go_sem,Ty.k,Ty.s,Ty.n,Ty.e,List.map_cons,List.map_nil,bO u]<;>simp
end Go.Proofs.YtgogpogophflhaaGreatDoor
namespace Go.Proofs.YtgogpogophflhaaGreatDoor
open Go.W
attribute [-go_sem] eC fV dX iC eK
def lB (ts:List Tk) (z:Fs):Fs:=gK false ts (bK [61] ts (b7 false ts z))
def iY (ts:List Tk):Nat->List ByteArray->List Int->Fs->(List ByteArray × List Int) × Fs
 | 0,a,b,z=>((a,b),z)
 | f + 1,a,b,z=>bif z.bad then ((a,b),z) else
  bif aP 4 [44] ts (lB ts z) then iY ts f (a ++ [cW false ts z]) (b ++ [gL false ts (bK [61] ts (b7 false ts z))]) (bB 4 [44] ts (lB ts z))
  else ((a ++ [cW false ts z],b ++ [gL false ts (bK [61] ts (b7 false ts z))]),lB ts z)
theorem lD (ts:List Tk) (f:Nat) (a:List ByteArray) (b:List Int) (z:Fs):iY ts (f + 1) a b z=bif z.bad then ((a,b),z) else
 bif aP 4 [44] ts (lB ts z) then iY ts f (a ++ [cW false ts z]) (b ++ [gL false ts (bK [61] ts (b7 false ts z))]) (bB 4 [44] ts (lB ts z))
 else ((a ++ [cW false ts z],b ++ [gL false ts (bK [61] ts (b7 false ts z))]),lB ts z):=rfl
def fB (ts:List Tk) (z:Fs):En × Fs:=
 (⟨cW true ts z,(iY ts (ts.length + 1) [] [] (bK [123] ts (b7 true ts z))).1.1,(iY ts (ts.length + 1) [] [] (bK [123] ts (b7 true ts z))).1.2⟩,bK [125] ts (iY ts (ts.length + 1) [] [] (bK [123] ts (b7 true ts z))).2)
theorem M1 {ts:List Tk} {z:Fs} (h:z.n < ts.length):z.n<=(lB ts z).n/\(lB ts z).n < ts.length:=by
 have h1:=d5 (c:=false) h
 have h2:=cA (w:=[61]) h1.2
 have h3:=kO (c:=false) h2.2
 unfold lB
 omega
theorem M5 {ts:List Tk}:∀ (f:Nat) (a:List ByteArray) (b:List Int) (z:Fs),z.n < ts.length->z.n<=(iY ts f a b z).2.n/\(iY ts f a b z).2.n < ts.length
 | 0,a,b,z,h=>⟨Nat.le_refl _,h⟩
 | f + 1,a,b,z,h=>by
  rw [lD]
  cases z.bad
  · have h1:=M1 h
    cases aP 4 [44] ts (lB ts z)
    · exact h1
    · have h2:=eD (k:=4) (w:=[44]) h1.2
      have h3:=M5 f (a ++ [cW false ts z]) (b ++ [gL false ts (bK [61] ts (b7 false ts z))]) _ h2.2
      rw [aH,aN]
      omega
  · exact ⟨Nat.le_refl _,h⟩
theorem NE {ts:List Tk} {z:Fs} (h:z.n < ts.length):z.n<=(fB ts z).2.n/\(fB ts z).2.n < ts.length:=by
 have h1:=d5 (c:=true) h
 have h2:=cA (w:=[123]) h1.2
 have h3:=M5 (ts.length + 1) [] [] _ h2.2
 have h4:=cA (w:=[125]) h3.2
 unfold fB
 simp only
 omega
def FB:W.Spec:=lN [] (fun ts z=>.va (.gs (aQ (fB ts z).1))) fun ts z=>(fB ts z).2
theorem RQ {o:Po} {ts:List Tk} {z:Fs} {K:S->Hp->Prop} (h1:Tks ts) (h2:z.n < ts.length) (hK:K (.va (.gs (aQ (fB ts z).1))) (pH o ts (fB ts z).2)):FB [.va (.c1 (.pt 0 0))] (pH o ts z) K:=gQ (V:=fun ts z=>.va (.gs (aQ (fB ts z).1))) (F:=fun ts z=>(fB ts z).2) h1 h2 hK
theorem TD:Meets Tryz.prog 39 FB:=by
 refine aG Tryz.func39 ZX 1 (by rw [Tryz.ntmps39]; decide) (aA z8 (aA tL (aA u7 (aA MM (aB _))))) (fun av H K h=>by obtain ⟨_,_,_,rfl,_⟩:=h; rfl) ?_
 rintro av H K ⟨o,ts,z0,rfl,rfl,ht,hn0,hK⟩
 have hK:K (.va (.gs (aQ (fB ts z0).1))) (pH o ts (fB ts z0).2):=hK
 have hle:=ht.e.le
 unfold fB at hK
 simp (maxSteps:=9^6) -dsimp only [go_sem,TW,GJ]
 refine lG ht hn0 ?_
 have hn1:=(d5 (c:=true) hn0).2
 simp only at hK
 generalize cW true ts z0=nm at *
 generalize b7 true ts z0=z1 at *
 simp (maxSteps:=9^6) -dsimp only [go_sem]
 refine fK ht hn1 ?_
 rw [show bl (mk [123])=[123] from rfl]
 have hn2:=(cA (w:=[123]) hn1).2
 generalize bK [123] ts z1=z2 at *
 simp (maxSteps:=9^6) -dsimp only [go_sem]
 refine cI (α:=Nat × Bool × List ByteArray × List Int × Fs) (fun x=>[(0,.va (.c1 (.pt 0 0))),(2,.va (.c1 (.pt 4 0))),(3,.va (.c1 (.pt 5 0))),(4,bS x.2.1)])
  (fun x=>[pB o x.2.2.2.2.bad x.2.2.2.2.off,d9 123 ts x.2.2.2.2.n,.row o.es 62 3,.row o.ss 56 2,.cells [.vl (.string (mk [])),.vl (.slice none 0 0),.vl (.slice none 0 0)] 62,.cells [.vl (.string nm),.sl 6 x.2.2.1.length,.sl 7 x.2.2.2.1.length] 62,.row (x.2.2.1.map cC) 9 1,.row (x.2.2.2.1.map gM) 3 1])
  (fun x=>x.2.2.2.2.n < ts.length/\x.2.2.1.length + x.1<=ts.length + 1/\x.2.2.2.1.length + x.1<=ts.length + 1/\(x.2.1=true->ts.length < x.2.2.2.2.n + x.1)/\(bif x.2.1 then iY ts x.1 x.2.2.1 x.2.2.2.1 x.2.2.2.2 else ((x.2.2.1,x.2.2.2.1),x.2.2.2.2))=iY ts (ts.length + 1) [] [] z2)
  (fun x=>x.1) (.nilc 5 1 9 1 _ _ rfl rfl (.nilc 5 2 3 1 _ _ rfl rfl (gZ (ts.length + 1,true,[],[],z2) 8 ⟨hn2,by simp,by simp,fun _=>by simp only; omega,rfl⟩ ?_ ?_))) ?_
 · simp -dsimp only [go_sem]<;>simp
 · simp -dsimp only [go_sem]<;>simp
 rintro ⟨f,m,a,b,z⟩ ⟨h1,h2,h2',h3,h4⟩
 simp only at h1 h2 h2' h3 h4
 have fin:iY ts (ts.length + 1) [] [] z2=((a,b),z)->vc [(83,Entry.s qS),(37,Entry.s kX),(36,Entry.s lK),(84,Entry.s tX)] 4 pc39_9.ungh
  (cZ [(0,.va (.c1 (.pt 0 0))),(2,.va (.c1 (.pt 4 0))),(3,.va (.c1 (.pt 5 0)))]) [pB o z.bad z.off,d9 123 ts z.n,.row o.es 62 3,.row o.ss 56 2,.cells [.vl (.string (mk [])),.vl (.slice none 0 0),.vl (.slice none 0 0)] 62,.cells [.vl (.string nm),.sl 6 a.length,.sl 7 b.length] 62,.row (a.map cC) 9 1,.row (b.map gM) 3 1] (eV 4 GJ K):=fun e=>by
  rw [e] at hK
  simp (maxSteps:=9^6) -dsimp only [go_sem,pc39_9,GJ]
  refine fK ht h1 ?_
  rw [show bl (mk [125])=[125] from rfl]
  simp (maxSteps:=9^6) -dsimp only [go_sem]
  refine .pub 6 _ _ _ rfl (.pub 7 _ _ _ rfl (.sel [0,1,2,3] (by simp) (by simp [dO]) rfl (.done ?_)))
  simp (maxSteps:=9^6) -dsimp only [go_sem,dO]
  exact hK
 cases m with
 | false=>
  rw [aH] at h4
  simp (maxSteps:=9^6) -dsimp only [go_sem]
  refine cJ 8 (fin h4.symm) ?_ ?_
  · simp -dsimp only [go_sem]<;>simp
  · simp -dsimp only [go_sem]<;>simp
 | true=>
  rw [aN] at h4
  have h3:=h3 rfl
  obtain ⟨f,rfl⟩:∃ g,f=g + 1:=⟨f - 1,by omega⟩
  rw [lD] at h4
  obtain ⟨bb,oo,n⟩:=z
  cases bb with
  | true=>
   rw [aN] at h4
   simp (maxSteps:=9^6) -dsimp only [go_sem]
   refine cJ 8 (fin h4.symm) ?_ ?_
   · simp -dsimp only [go_sem]<;>simp
   · simp -dsimp only [go_sem]<;>simp
  | false=>
   clear fin
   rw [aH] at h4
   simp (maxSteps:=9^6) -dsimp only [go_sem]
   refine lG (z:=⟨false,oo,n⟩) ht h1 ?_
   have g1:=d5 (c:=false) (z:=⟨false,oo,n⟩) h1
   unfold lB at h4
   generalize cW false ts ⟨false,oo,n⟩=w at *
   generalize b7 false ts ⟨false,oo,n⟩=y1 at *
   simp (maxSteps:=9^6) -dsimp only [go_sem]
   refine ⟨by omega,aW rfl (.done ?_)⟩
   simp (maxSteps:=9^6) -dsimp only [go_sem,AE]
   refine fK ht g1.2 ?_
   rw [show bl (mk [61])=[61] from rfl]
   have g2:=cA (w:=[61]) g1.2
   generalize bK [61] ts y1=y2 at *
   simp (maxSteps:=9^6) -dsimp only [go_sem]
   refine Gh.done ?_
   simp (maxSteps:=9^6) -dsimp only [go_sem]
   refine rH ht g2.2 ?_
   have g3:=kO (c:=false) g2.2
   generalize gL false ts y2=v at *
   generalize gK false ts y2=y3 at *
   simp (maxSteps:=9^6) -dsimp only [go_sem]
   refine ⟨by omega,aW rfl (.done ?_)⟩
   simp (maxSteps:=9^6) -dsimp only [go_sem,BK]
   refine wP ht g3.2 ?_
   rw [show bl (mk [44])=[44] from rfl]
   cases hc:aP 4 [44] ts y3 with
   | true=>
    obtain ⟨q1,q2,q3⟩:=qW (by decide) ht.e g3.2 hc
    have e1:bB 4 [44] ts y3=⟨false,y3.off,y3.n + 1⟩:=by unfold bB; rw [hc,q1]; rfl
    rw [hc,aN,e1] at h4
    rw [e1]
    simp (maxSteps:=9^6) -dsimp only [go_sem]
    refine aD (f,true,a ++ [w],b ++ [v],⟨false,y3.off,y3.n + 1⟩) 8 ⟨q2,?_,?_,?_,h4⟩ (by simp) ?_ ?_
    · simp only [List.length_append,List.length_singleton]; omega
    · simp only [List.length_append,List.length_singleton]; omega
    · intro _
      simp only at g1 h3 ⊢
      omega
    · simp -dsimp only [go_sem]<;>simp
    · simp -dsimp only [go_sem]<;>simp
   | false=>
    rw [hc,aH] at h4
    rw [fA hc]
    simp (maxSteps:=9^6) -dsimp only [go_sem]
    refine aD (f,false,a ++ [w],b ++ [v],y3) 8 ⟨g3.2,?_,?_,fun h=>(by cases h),h4⟩ (by simp) ?_ ?_
    · simp only [List.length_append,List.length_singleton]; omega
    · simp only [List.length_append,List.length_singleton]; omega
    · simp -dsimp only [go_sem]<;>simp
    · simp -dsimp only [go_sem]<;>simp
end Go.Proofs.YtgogpogophflhaaGreatDoor
namespace Go.Proofs.YtgogpogophflhaaGreatDoor
open Go.W
attribute [-go_sem] eC fV dX iC eK
def DI (ts:List Tk) (z:Fs):Fs:=bK [58] ts (b7 false ts (gK false ts z))
def EL (ts:List Tk) (z:Fs):Fs:=(jC ts (DI ts z)).2
def kH (ts:List Tk) (z:Fs):Fl × Fs:=(⟨gL false ts z,cW false ts (gK false ts z),(jC ts (DI ts z)).1,aP 4 [63] ts (EL ts z)⟩,bK [59] ts (bB 4 [63] ts (EL ts z)))
def kE (ts:List Tk):Nat->List Fl->Fs->List Fl × Fs
 | 0,l,z=>(l,z)
 | f + 1,l,z=>bif z.bad then (l,z) else bif aP 4 [125] ts z then (l,bB 4 [125] ts z) else bif (aU ts z.n).k != 2 then (l,dF ts z) else kE ts f (l ++ [(kH ts z).1]) (kH ts z).2
theorem lC (ts:List Tk) (f:Nat) (l:List Fl) (z:Fs):kE ts (f + 1) l z=bif z.bad then (l,z) else bif aP 4 [125] ts z then (l,bB 4 [125] ts z) else bif (aU ts z.n).k != 2 then (l,dF ts z) else kE ts f (l ++ [(kH ts z).1]) (kH ts z).2:=rfl
def fU (ts:List Tk) (z:Fs):St × Fs:=(⟨cW true ts z,(kE ts (ts.length + 1) [] (bK [123] ts (b7 true ts z))).1⟩,(kE ts (ts.length + 1) [] (bK [123] ts (b7 true ts z))).2)
theorem RS {c:Bool} {ts:List Tk} {z:Fs} (he:Ends ts) (hn:z.n < ts.length) (h:i7 c ts z=true):dE ts z.n=z.n + 1/\z.n + 1 < ts.length/\z.bad=false:=by
 unfold i7 at h
 rw [Bool.and_eq_true,Bool.and_eq_true] at h
 obtain ⟨h1,h2,_⟩:=h
 have hb:z.bad=false:=by cases hb:z.bad with
  | false=>rfl
  | true=>rw [hb] at h1; cases h1
 have hne:¬ (z.n + 1=ts.length):=fun e=>by
  have:=(he.last _ _ (jJ hn)).2 e
  rw [eq_of_beq h2] at this; cases this
 have hlt:z.n + 1 < ts.length:=by omega
 exact ⟨if_pos hlt,hlt,hb⟩
theorem GV {ts:List Tk} {z:Fs} (h:z.n < ts.length):(gK false ts z).n<=(kH ts z).2.n/\(kH ts z).2.n < ts.length:=by
 have h1:=kO (c:=false) h
 have h2:=d5 (c:=false) h1.2
 have h3:=cA (w:=[58]) h2.2
 have h4:=MQ h3.2
 have h5:=eD (k:=4) (w:=[63]) h4.2
 have h6:=cA (w:=[59]) h5.2
 unfold kH EL DI
 simp only
 omega
theorem LE {ts:List Tk}:∀ (f:Nat) (l:List Fl) (z:Fs),z.n < ts.length->z.n<=(kE ts f l z).2.n/\(kE ts f l z).2.n < ts.length
 | 0,l,z,h=>⟨Nat.le_refl _,h⟩
 | f + 1,l,z,h=>by
  rw [lC]
  cases z.bad
  · cases aP 4 [125] ts z
    · cases (aU ts z.n).k != 2
      · have h1:=GV h
        have h0:=kO (c:=false) h
        have h3:=LE f (l ++ [(kH ts z).1]) _ h1.2
        rw [aH,aH,aH]
        omega
      · rw [aN,aH,aH,iH]; exact ⟨Nat.le_refl _,h⟩
    · exact eD h
  · exact ⟨Nat.le_refl _,h⟩
theorem MO {ts:List Tk} {z:Fs} (h:z.n < ts.length):z.n<=(fU ts z).2.n/\(fU ts z).2.n < ts.length:=by
 have h1:=d5 (c:=true) h
 have h2:=cA (w:=[123]) h1.2
 have h3:=LE (ts.length + 1) [] _ h2.2
 unfold fU
 simp only
 omega
def F8:W.Spec:=lN [] (fun ts z=>.va (.gs (aO (fU ts z).1))) fun ts z=>(fU ts z).2
theorem Q3 {o:Po} {ts:List Tk} {z:Fs} {K:S->Hp->Prop} (h1:Tks ts) (h2:z.n < ts.length) (hK:K (.va (.gs (aO (fU ts z).1))) (pH o ts (fU ts z).2)):F8 [.va (.c1 (.pt 0 0))] (pH o ts z) K:=gQ (V:=fun ts z=>.va (.gs (aO (fU ts z).1))) (F:=fun ts z=>(fU ts z).2) h1 h2 hK
theorem JM:Meets Tryz.prog 40 F8:=by
 refine aG Tryz.func40 XZ 1 (by rw [Tryz.ntmps40]; decide) (aA z8 (aA tL (aA u7 (aA MM (aA oG (aA m7 (aA QS (aB _)))))))) (fun av H K h=>by obtain ⟨_,_,_,rfl,_⟩:=h; rfl) ?_
 rintro av H K ⟨o,ts,z0,rfl,rfl,ht,hn0,hK⟩
 have hK:K (.va (.gs (aO (fU ts z0).1))) (pH o ts (fU ts z0).2):=hK
 have hle:=ht.e.le
 unfold fU at hK
 simp (maxSteps:=9^6) -dsimp only [go_sem,TU,GS]
 refine lG ht hn0 ?_
 have hn1:=(d5 (c:=true) hn0).2
 simp only at hK
 generalize cW true ts z0=nm at *
 generalize b7 true ts z0=z1 at *
 simp (maxSteps:=9^6) -dsimp only [go_sem]
 refine fK ht hn1 ?_
 rw [show bl (mk [123])=[123] from rfl]
 have hn2:=(cA (w:=[123]) hn1).2
 generalize bK [123] ts z1=z2 at *
 simp (maxSteps:=9^6) -dsimp only [go_sem]
 refine cI (α:=Nat × List Fl × Fs) (fun x=>[(0,.va (.c1 (.pt 0 0))),(2,.va (.c1 (.pt 4 0))),(3,.va (.c1 (.pt 5 0)))])
  (fun x=>[pB o x.2.2.bad x.2.2.off,d9 123 ts x.2.2.n,.row o.es 62 3,.row o.ss 56 2,.cells [.vl (.string (mk [])),.vl (.slice none 0 0)] 56,.cells [.vl (.string nm),.sl 6 x.2.1.length] 56,.row (x.2.1.map bI) 64 7])
  (fun x=>x.2.2.n < ts.length/\x.2.1.length + x.1<=ts.length + 1/\ts.length < x.2.2.n + x.1/\kE ts x.1 x.2.1 x.2.2=kE ts (ts.length + 1) [] z2)
  (fun x=>x.1) (.nilc 5 1 64 7 _ _ rfl rfl (gZ (ts.length + 1,[],z2) 7 ⟨hn2,by simp,by simp only; omega,rfl⟩ ?_ ?_)) ?_
 · simp -dsimp only [go_sem]<;>simp
 · simp -dsimp only [go_sem]<;>simp
 rintro ⟨f,l,z⟩ ⟨h1,h2,h3,h4⟩
 simp only at h1 h2 h3 h4
 obtain ⟨f,rfl⟩:∃ g,f=g + 1:=⟨f - 1,by omega⟩
 rw [lC] at h4
 have fin:∀ z',kE ts (ts.length + 1) [] z2=(l,z')->vc [(83,Entry.s qS),(37,Entry.s kX),(36,Entry.s lK),(84,Entry.s tX),(38,Entry.s (eC 123)),(35,Entry.s nH),(55,Entry.s (F7 jC))] 4 pc40_12.ungh
  (cZ [(0,.va (.c1 (.pt 0 0))),(2,.va (.c1 (.pt 4 0))),(3,.va (.c1 (.pt 5 0)))]) [pB o z'.bad z'.off,d9 123 ts z'.n,.row o.es 62 3,.row o.ss 56 2,.cells [.vl (.string (mk [])),.vl (.slice none 0 0)] 56,.cells [.vl (.string nm),.sl 6 l.length] 56,.row (l.map bI) 64 7] (eV 4 GS K):=fun z' e=>by
  rw [e] at hK
  simp (maxSteps:=9^6) -dsimp only [go_sem,pc40_12,GS]
  refine .pub 6 _ _ _ rfl (.sel [0,1,2,3] (by simp) (by simp [dO]) rfl (.done ?_))
  simp (maxSteps:=9^6) -dsimp only [go_sem,dO]
  exact hK
 obtain ⟨bb,oo,n⟩:=z
 cases bb with
 | true=>
  rw [aN] at h4
  simp (maxSteps:=9^6) -dsimp only [go_sem]
  refine cJ 7 (fin _ h4.symm) ?_ ?_
  · simp -dsimp only [go_sem]<;>simp
  · simp -dsimp only [go_sem]<;>simp
 | false=>
 rw [aH] at h4
 simp (maxSteps:=9^6) -dsimp only [go_sem]
 refine wP (z:=⟨false,oo,n⟩) ht h1 ?_
 rw [show bl (mk [125])=[125] from rfl]
 cases hh:aP 4 [125] ts ⟨false,oo,n⟩ with
 | true=>
  rw [hh,aN] at h4
  simp (maxSteps:=9^6) -dsimp only [go_sem]
  refine cJ 7 (fin _ h4.symm) ?_ ?_
  · simp -dsimp only [go_sem]<;>simp
  · simp -dsimp only [go_sem]<;>simp
 | false=>
 rw [hh,aH] at h4
 rw [fA hh]
 simp (maxSteps:=9^6) -dsimp only [go_sem]
 refine aW rfl (.done ?_)
 simp (maxSteps:=9^6) -dsimp only [go_sem,BH]
 refine k9 ht.e h1 ?_
 simp only at h4
 cases hk:(aU ts n).k != 2 with
 | true=>
  rw [hk,aN] at h4
  simp (maxSteps:=9^6) -dsimp only [go_sem,gV,hk]
  refine hJ (z:=⟨false,oo,n⟩) ht h1 ?_
  simp (maxSteps:=9^6) -dsimp only [go_sem]
  refine cJ 7 (fin _ h4.symm) ?_ ?_
  · simp -dsimp only [go_sem]<;>simp
  · simp -dsimp only [go_sem]<;>simp
 | false=>
 rw [hk,aH] at h4
 clear fin
 simp (maxSteps:=9^6) -dsimp only [go_sem,gV,hk]
 refine aW rfl (.done ?_)
 simp (maxSteps:=9^6) -dsimp only [go_sem,CQ]
 have hnu:i7 false ts ⟨false,oo,n⟩=true:=by unfold i7; rw [bne_eq_false_iff_eq] at hk; simp [hk]
 obtain ⟨q1,q2,_⟩:=RS ht.e h1 hnu
 have q1:dE ts n=n + 1:=q1
 have hz1:gK false ts ⟨false,oo,n⟩=⟨false,oo,n + 1⟩:=by unfold gK; rw [hnu]; simp [q1]
 have hgo:=GV h1
 rw [hz1] at hgo
 simp only at hgo
 unfold kH EL DI at h4 hgo
 rw [hz1] at h4 hgo
 refine rH (z:=⟨false,oo,n⟩) ht h1 ?_
 rw [hz1]
 generalize gL false ts ⟨false,oo,n⟩=v at *
 simp (maxSteps:=9^6) -dsimp only [go_sem]
 refine lG (z:=⟨false,oo,n + 1⟩) ht q2 ?_
 have g1:=d5 (c:=false) (z:=⟨false,oo,n + 1⟩) q2
 generalize cW false ts ⟨false,oo,n + 1⟩=w at *
 generalize b7 false ts ⟨false,oo,n + 1⟩=y1 at *
 simp (maxSteps:=9^6) -dsimp only [go_sem]
 refine aW rfl (.done ?_)
 simp (maxSteps:=9^6) -dsimp only [go_sem,CD]
 refine fK ht g1.2 ?_
 rw [show bl (mk [58])=[58] from rfl]
 have g2:=cA (w:=[58]) g1.2
 generalize bK [58] ts y1=y2 at *
 simp (maxSteps:=9^6) -dsimp only [go_sem]
 refine aW rfl (.done ?_)
 simp (maxSteps:=9^6) -dsimp only [go_sem,BW]
 refine IX ht g2.2 ?_
 have g3:=MQ g2.2
 generalize jC ts y2=r at *
 obtain ⟨t,y3⟩:=r
 simp only at h4 hgo g3 ⊢
 simp (maxSteps:=9^6) -dsimp only [go_sem,bO t]
 refine aW rfl (.done ?_)
 simp (maxSteps:=9^6) -dsimp only [go_sem,AN]
 refine wP ht g3.2 ?_
 rw [show bl (mk [63])=[63] from rfl]
 have g4:=eD (k:=4) (w:=[63]) g3.2
 generalize aP 4 [63] ts y3=op at *
 generalize bB 4 [63] ts y3=y4 at *
 simp (maxSteps:=9^6) -dsimp only [go_sem]
 refine aW rfl (.done ?_)
 simp (maxSteps:=9^6) -dsimp only [go_sem,xB]
 refine fK ht g4.2 ?_
 rw [show bl (mk [59])=[59] from rfl]
 have g5:=cA (w:=[59]) g4.2
 generalize bK [59] ts y4=y5 at *
 simp (maxSteps:=9^6) -dsimp only [go_sem]
 refine aW rfl (.done ?_)
 simp (maxSteps:=9^6) -dsimp only [go_sem,wU]
 refine ⟨by omega,aD (f,l ++ [⟨v,w,t,op⟩],y5) 7 ⟨g5.2,?_,?_,h4⟩ (by simp) ?_ ?_⟩
 · simp only [List.length_append,List.length_singleton]; omega
 · simp only at g1 h3 ⊢; omega
 · simp -dsimp only [go_sem]<;>simp
 · simp -dsimp only [go_sem,bI]<;>simp
end Go.Proofs.YtgogpogophflhaaGreatDoor
namespace Go.W
open Go.RowKit
structure Stay (w w':World):Prop where
 os:w'.os=w.os
 out:w'.output=w.output
 size:w.heap.size<=w'.heap.size
 keep:∀ b:Nat,b < w.heap.size->w'.heap[b]? = w.heap[b]?
theorem Stay.kept {w w':World} (h:Stay w w') (may:MemPlace->Prop):w.keptBut w' may:=by
 refine ⟨h.os,h.out,fun i hi=>?_⟩
 rw [h.keep i hi]
 split
 · rename_i h1 h2; rw [h1] at h2; cases h2; exact ⟨rfl,rfl,rfl,fun _ _=>rfl⟩
 · rename_i h1 h2; rw [h1] at h2; cases h2; exact Or.inr ⟨rfl,rfl⟩
 · rfl
theorem Stay.frozen {w w':World} (h:Stay w w') {a:Addr} (ha:a.block < w.heap.size):w'.frozen? a=w.frozen? a:=by
 unfold World.frozen?; rw [h.keep _ ha]
theorem Stay.cell {w w':World} (h:Stay w w') {a:Addr} (ha:a.block < w.heap.size):w'.cell? a=w.cell? a:=by
 unfold World.cell?; rw [h.keep _ ha]
theorem PI {w:World} {ro:RO} (h:∀ (b off:Nat) (v:Value),ro b off=some v->w.cell? ⟨b,off,none⟩=some v) (hz:∀ b,ro.st b=0):Rel ⟨w,cQ [],ro,gm []⟩ [] ro w where
 own:=fun n g blk h=>by simp at h
 inj:=fun n m gn gm bn bm b h=>by simp at h
 apart:=fun b off v _ n g blk h=>by simp at h
 rd:=fun b off v hv=>⟨h b off v hv,fun q=>absurd (hz b) q⟩
 ro0:=fun _ _ _ h=>⟨h,rfl⟩
 rob:=fun b off v h=>.inl h
 par:=fun n b g blk h=>by simp at h
 gx:=.refl _
 sz:=Nat.le_refl _
 keep:=fun b _ _=>rfl
 os:=rfl
 tape:=rfl
 output:=rfl
theorem Meets.run {P:Program} {f:FuncId} {s:Fun} (hm:Meets P f s.sp) {av:List S} {vs:List Value} {ro:RO} {w:World} {x:A} (hpre:s.pre av) (hval:s.val av=x) (hl:av.length=vs.length)
 (hrel:∀ (i:Nat) (x:S) (v:Value),av[i]? = some x->vs[i]? = some v->x.rel (gm []) ro v) (hro:∀ (b off:Nat) (v:Value),ro b off=some v->w.cell? ⟨b,off,none⟩=some v) (hG:GR P ro w) (hz:∀ b,ro.st b=0:=by intro _; rfl) :
 Calls P f vs.toArray w fun e w'=>∃ v γ ro',e=.returned v/\S.rel γ ro' (.va x) v/\Stay w w':=by
 subst hval
 refine (hm.2 av vs [] ro w (fun r H=>r=.va (s.val av)/\H=[]) hl hrel (PI hro hz) ⟨⟨hpre,rfl⟩,rfl,rfl⟩ hG).mono ?_
 rintro e w' ⟨r,v,E',ro',rfl,h1,⟨rfl,h2⟩,h3⟩
 exact ⟨v,_,ro',rfl,h1,h3.os,h3.output,h3.sz,fun b hb=>h3.keep b hb (by simp [cQ])⟩
theorem Meets.yes {P:Program} {f:FuncId} {s:Fun} (hm:Meets P f s.sp) {av:List S} {vs:List Value} {ro:RO} {w:World} (hpre:s.pre av) (hval:s.val av=.c1 (.vl (.bool true))) (hl:av.length=vs.length)
 (hrel:∀ (i:Nat) (x:S) (v:Value),av[i]? = some x->vs[i]? = some v->x.rel (gm []) ro v) (hro:∀ (b off:Nat) (v:Value),ro b off=some v->w.cell? ⟨b,off,none⟩=some v) (hG:GR P ro w) (hz:∀ b,ro.st b=0:=by intro _; rfl) :
 Calls P f vs.toArray w fun e w'=>e=.returned (.bool true)/\Stay w w':=by
 refine (hm.run hpre hval hl hrel hro hG hz).mono ?_
 rintro e w' ⟨v,γ,ro',rfl,h1,h2⟩
 have:v=.bool true:=h1
 exact ⟨by rw [this],h2⟩
section
variable {H:Type} {enc:TypeId × Value->H} {P:Program}
theorem A4 {f:Func} {s:ChangeSpec} {apart fresh handsOn again:Bool} {W W':World} {args:Array Value} {v:Value} {ds gs:List (DataW H)} {before pa pv:List MemPlace}
 (hW:DataW.Whole enc P f.params.toList s.vars apart W args.toList ds gs before)
 (hres:∀ (b:Nat) (sp:Nat->Bool) (hd:Bool),DataW.TrodAll enc P W' b sp hd f.resultTypes.toList (v.resultList f.resultTypes.size) (s.fn H (ds ++ gs)).results [])
 (hargs:∀ sp:Nat->Bool,(∀ p ∈ before,sp p.block=true)->DataW.TrodAll enc P W' 0 sp true f.params.toList args.toList (s.fn H (ds ++ gs)).args pa)
 (hvars:∀ sp:Nat->Bool,(∀ p ∈ before,sp p.block=true)->DataW.TrodVars enc P W' sp s.vars (s.fn H (ds ++ gs)).vars pv)
 (hps:before=pa ++ pv) (hs:Stay W W')
 (hok:∀ (j:Nat) (t:TypeId) (r:Value),f.resultTypes[j]? = some t->(v.resultList f.resultTypes.size)[j]? = some r->Value.okWide P W' .any 0 t r) :
 s.post enc P f apart fresh handsOn again W args v W':=by
 have hlt:∀ p ∈ before,p.block < W.heap.size:=fun p hp=>hW.lt p hp
 have hsp:∀ p ∈ before,(fun b=>decide (b < W.heap.size)) p.block=true:=fun p hp=>by simpa using hlt p hp
 have hall:∀ p ∈ before,(fun _:Nat=>true) p.block=true:=fun _ _=>rfl
 obtain ⟨_,_,_,_,_,hz,hn⟩:=id hW
 refine ⟨ds,gs,before,[],pa,pv,hW,hres _ _ _,hargs _ hsp,hvars _ hsp,World.keptBut_mono (fun p hp=>⟨hp,.inr ?_⟩) (hs.kept (· ∈ before)),fun _=>⟨hok,_,_,([] ++ pa) ++ pv,
  ⟨[] ++ pa,pv,ChangeShapes.trodAll_append (hargs _ hall) (hres _ _ _),hvars _ hall,rfl,fun b off hp=>?_,fun ha=>?_⟩,fun p hp _=>?_⟩⟩
 · rw [hps,List.mem_append] at hp; exact hp
 · have hb:MemPlace.cell b off ∈ before:=by rw [hps]; simpa using hp
   rw [hs.frozen (hlt _ hb)]
   exact hz b off hb
 · have:=hn ha
   rw [hps] at this
   simpa using this
 · rw [hps]
   simpa using hp
end
def oZ:Nat->Code->Option (Code × Code)
 | 0,.seq x y=>some (x,y)
 | n + 1,.seq _ y=>oZ n y
 | _,_=>none
def qU:Nat->PC->Option (PC × PC)
 | 0,.seq _ y=>some (.skip,y)
 | n + 1,.seq x y=>(qU n y).map fun t=>(.seq x t.1,t.2)
 | _,_=>none
def pP (Mid:Fr->Hp->Prop) (K:Ex->Fr->Hp->Prop):Ex->Fr->Hp->Prop
 | .n,fr,H=>Mid fr H
 | ex,fr,H=>K ex fr H
section
variable {P:Program} {N:Nat} {nw:Bool} {X:Ctx} {Γ:cF}
theorem G2 {h:Hint} {x y:Code} {pc:PC} (hpc:tr P nw N h (.seq x y)=some pc):∃ px py,tr P nw N h x=some px/\tr P nw N h y=some py/\pc=.seq px py:=by
 simp only [tr] at hpc
 split at hpc
 · rename_i px py hx hy; exact ⟨px,py,hx,hy,(aZ hpc).symm⟩
 · cases hpc
theorem AL (hm:MeetsIn P X Γ) {h:Hint} {k0:Nat} (hk0:X.g0.length=k0) {K:Ex->Fr->Hp->Prop} {Mid:Fr->Hp->Prop} {Q:Exit->Act->World->Prop}
 (hQ:∀ ex fr' E' ro' a' w',ex ≠ .n->K ex fr' (hp E')->FRel N (gm E') ro' fr' a'->Rel X E' ro' w'->Q ex.to a' w') :
 ∀ (n:Nat) (c:Code) (pc pre post:PC) (r c2:Code),tr P nw N h c=some pc->oZ n c=some (r,c2)->qU n pc=some (pre,post)->
 tr P nw N h c2=some post/\∀ (fr:Fr) (E:Es) (ro:RO) (a:Act) (w:World),FRel N (gm E) ro fr a->Rel X E ro w->vc Γ k0 pre fr (hp E) (pP Mid K)->
  (∀ fr' E' ro' a' w',Mid fr' (hp E')->FRel N (gm E') ro' fr' a'->Rel X E' ro' w'->r.wp P (Exit.then (c2.wp P Q) Q) a' w')->c.wp P Q a w
 | 0,.seq x y,pc,pre,post,r,c2,hpc,hc,hp=>by
  obtain ⟨px,py,hx,hy,rfl⟩:=G2 hpc
  simp only [oZ,aC,Prod.mk.injEq] at hc
  simp only [qU,aC,Prod.mk.injEq] at hp
  obtain ⟨rfl,rfl⟩:=hc
  obtain ⟨rfl,rfl⟩:=hp
  refine ⟨hy,fun fr E ro a w hf hr hv hmid=>?_⟩
  simp only [vc] at hv
  exact wp_seq (hmid fr E ro a w hv hf hr)
 | n + 1,.seq x y,pc,pre,post,r,c2,hpc,hc,hp=>by
  obtain ⟨px,py,hx,hy,rfl⟩:=G2 hpc
  simp only [oZ] at hc
  simp only [qU,Option.map_eq_some_iff,Prod.mk.injEq] at hp
  obtain ⟨⟨t1,t2⟩,ht,rfl,rfl⟩:=hp
  obtain ⟨h1,h2⟩:=AL hm hk0 hQ n y py t1 t2 r c2 hy hc ht
  refine ⟨h1,fun fr E ro a w hf hr hv hmid=>?_⟩
  simp only [vc] at hv
  refine wp_seq (n5 hm hk0 x px hx fr E ro a w _ hf hr hv _ ?_)
  intro ex fr' E' ro' a' w' hK hf' hr'
  cases ex with
  | n=>exact h2 fr' E' ro' a' w' hf' hr' hK hmid
  | e id=>exact hQ (.e id) _ _ _ _ _ (by simp) hK hf' hr'
  | r=>exact hQ .r _ _ _ _ _ (by simp) hK hf' hr'
theorem OH {f:FuncId} {o1 o2:Oper} {ME:Array TypeId} {id s d:Nat} {a:Act} {w:World} {v:Value} {Q:Exit->Act->World->Prop} {R:Ending->World->Prop} (h1:o1.op=.move (.tmp s)) (g1:o1.guard=none) (d1:o1.dst=some d)
 (h2:o2.op=.call { callee:=.value (.func f),args:=#[.tmp d],argTypes:=ME }) (g2:o2.guard=none) (hs:a.tmps.getD s undef=v) (hd:d < a.tmps.size) (he:j4 P f=true)
 (hc:Calls P f #[v] w R) (hR:∀ e w',R e w'->∃ u,e=.returned u/\Q .normal ((a.put o1.dst v).put o2.dst u) w'):(Code.region id #[o1,o2] false).wp P Q a w:=by
 refine wp_region_list ?_
 simp only [wpList]
 rw [if_pos (cP g1 _)]
 refine .inl ?_
 have r1:(execOp a.eval o1).run P w=.ok (.value v) w:=by simp [execOp,h1,Act.eval,hs]
 unfold Oper.wp
 rw [r1,Oper.upon_value,if_pos (cP g2 _)]
 refine .inl ?_
 have hv:(a.put o1.dst v).tmps.getD d undef=v:=by
  simp only [Act.put,d1]
  rw [Array.getD_eq_getD_getElem?,Array.getElem?_setIfInBounds_self_of_lt hd]; rfl
 have he':=j1 he #[v] w
 have r2:(execOp (a.put o1.dst v).eval o2).run P w=.ok (.enter f #[v]) w:=by
  simp [execOp,h2,resolve,Act.eval,hv,Deferred.ofValue,invoke,he']
 rw [r2,Oper.upon_enter]
 refine hc.mono fun e w' he=>?_
 obtain ⟨u,rfl,hq⟩:=hR e w' he
 exact hq
end
open Classical in
noncomputable def roG (P:Program) (ro:RO):RO:=⟨fun b off=>if off=0/\∃ x ∈ zS,P.globalNamed x.1=some b then ro b off else none,ro.st⟩
theorem EZ (P:Program) (ro:RO):Ext (roG P ro) ro:=fun b off v h=>by
 simp only [roG] at h
 split at h
 · exact ⟨h,rfl⟩
 · cases h
theorem PE {P:Program} {ro:RO} {b off:Nat} {v:Value} (h:roG P ro b off=some v):off=0:=by
 simp only [roG] at h
 split at h
 · rename_i hc; exact hc.1
 · cases h
theorem GR.roG {P:Program} {ro:RO} {w:World} (h:GR P ro w):GR P (roG P ro) w:=fun x hx g hg=>⟨by
 obtain ⟨v,hv⟩:=(h x hx g hg).1
 refine ⟨v,?_⟩
 exact (if_pos ⟨rfl,x,hx,hg⟩).trans hv,(h x hx g hg).2⟩
theorem Rel.nilRo {w:World} {ro ro1:RO} {pb:List Nat} (h:Rel ⟨w,pb,ro,[]⟩ [] ro w) (he:Ext ro1 ro):Rel ⟨w,[],ro1,[]⟩ [] ro1 w where
 own:=fun n g blk h=>by simp at h
 inj:=fun n m gn gm bn bm b h=>by simp at h
 apart:=fun b off v _ n g blk h=>by simp at h
 rd:=fun b off v hv=>by
  have h1:=he b off v hv
  rw [<-h1.2]
  exact h.rd b off v h1.1
 ro0:=.refl _
 rob:=fun b off v h=>.inl h
 par:=fun n b g blk h=>by simp at h
 gx:=.refl _
 sz:=Nat.le_refl _
 keep:=fun b _ _=>rfl
 os:=rfl
 tape:=rfl
 output:=rfl
def yM (w:World) (ro ro':RO):RO:=⟨fun b off=>if b < w.heap.size then ro b off else ro' b off,fun b=>if b < w.heap.size then ro.st b else ro'.st b⟩
theorem Rel.widen {w w':World} {ro ro1 ro':RO} {E':Es} (h:Rel ⟨w,[],ro,[]⟩ [] ro w) (he:Ext ro1 ro) (k:Rel ⟨w,[],ro1,[]⟩ E' ro' w'):Ext ro' (yM w ro ro')/\Rel ⟨w,[],ro,[]⟩ E' (yM w ro ro') w':=by
 have hx:Ext ro' (yM w ro ro'):=fun b off v hv=>by
  simp only [yM]
  rcases k.rob b off v hv with h1 | ⟨h1 | h1,_⟩
  · have h2:=he b off v h1
    have hlt:=h.cell_lt h2.1
    rw [if_pos hlt,if_pos hlt]
    exact ⟨h2.1,h2.2.trans (k.ro0 b off v h1).2.symm⟩
  · have hlt:¬ b < w.heap.size:=Nat.not_lt.2 h1
    rw [if_neg hlt,if_neg hlt]; exact ⟨hv,rfl⟩
  · cases h1
 have hpar:∀ (n b:Nat) (g:Gb) (blk:B),E'[n]? = some (g,blk)->g.ob=some b->blk.live=true->¬ b < w.heap.size:=fun n b g blk h1 h2 h3=>by
  rcases k.par n b g blk h1 h2 h3 with q | q
  · exact Nat.not_lt.2 q
  · cases q
 refine ⟨hx,⟨fun n g blk hn=>?_,k.inj,fun b off v hv n g blk hn hb=>?_,fun b off v hv=>?_,fun b off v hv=>?_,fun b off v hv=>?_,k.par,k.gx,k.sz,k.keep,k.os,k.tape,k.output⟩⟩
 · by_cases hl:blk.live=true
   · exact (k.own n g blk hn).same (.refl _) hx fun _ _=>rfl
   · cases blk<;>simp [B.live] at hl; trivial
 · by_cases hl:blk.live=true
   · have hlt:=hpar n b g blk hn hb hl
     simp only [yM] at hv
     rw [if_neg hlt] at hv
     exact k.apart b off v hv n g blk hn hb
   · simpa using hl
 · simp only [yM] at hv ⊢
   split at hv
   · rename_i hlt
     rw [if_pos hlt]
     exact (h.rd b off v hv).same (k.keep b hlt (by simp))
   · rename_i hlt
     rw [if_neg hlt]
     exact k.rd b off v hv
 · have hlt:=h.cell_lt hv
   simp only [yM]
   rw [if_pos hlt,if_pos hlt]; exact ⟨hv,rfl⟩
 · simp only [yM] at hv ⊢
   split at hv
   · exact .inl hv
   · rename_i hlt
     rw [if_neg hlt]
     rcases k.rob b off v hv with h1 | ⟨_,h2⟩
     · exact absurd (h.cell_lt (he b off v h1).1) hlt
     · exact .inr ⟨.inl (Nat.not_lt.1 hlt),h2⟩
theorem IN {P:Program} {nw:Bool} {Γ:cF} {f:FuncId} {fn:Func} {c r c2:Code} {n:Nat} {pc pre post:PC} {rs:List RV} {h:Hint} (hf:P.funcs[f]? = some fn) (hb:fn.body=some c) (hpc:aV P nw h fn=some (pc,rs))
 (hcut:oZ n c=some (r,c2)) (hcp:qU n pc=some (pre,post)) (hm:eQ P Γ) {s:Spec} (hlen:∀ az H K,s az H K->az.length<=fn.ntmps) (hH:∀ az H K,s az H K->H=[]/\∀ x ∈ az,∃ v,x=.va (.c1 (.vl v)))
 {Mid:(S->Hp->Prop)->Fr->Hp->Prop} (hs:∀ az K,s az [] K->vc Γ 0 pre (rJ az) [] (pP (Mid K) (eV 0 rs K)))
 (hr:∀ (K:S->Hp->Prop) (w0:World) (ro0:RO) (fr:Fr) (E:Es) (ro:RO) (a:Act) (w:World),(∀ b off v,ro0 b off=some v->off=0/\b < w0.heap.size)->Mid K fr (hp E)->FRel fn.ntmps (gm E) ro fr a->Rel ⟨w0,[],ro0,[]⟩ E ro w->GR P ro w->
   ∀ Q:Exit->Act->World->Prop,(∀ fr' E' ro' a' w',vc Γ 0 post fr' (hp E') (eV 0 rs K)->FRel fn.ntmps (gm E') ro' fr' a'->Rel ⟨w0,[],ro0,[]⟩ E' ro' w'->Q .normal a' w')->r.wp P Q a w):Meets P f s:=by
 unfold aV at hpc
 split at hpc
 · cases hpc
 rename_i hnm
 rw [hb] at hpc
 simp only at hpc
 obtain ⟨hpc,hrs⟩:tr P nw fn.ntmps h c=some pc/\l5 P fn.results.toList=some rs:=by
  cases h1:tr P nw fn.ntmps h c with
  | none=>rw [h1] at hpc; cases hpc
  | some p1=>
   cases h2:l5 P fn.results.toList with
   | none=>rw [h1,h2] at hpc; cases hpc
   | some r1=>
    rw [h1,h2] at hpc
    simp only [aC,Prod.mk.injEq] at hpc
    exact ⟨congrArg some hpc.1,congrArg some hpc.2⟩
 refine ⟨by simp [j4,hf,hb,hnm],?_⟩
 intro az vs E ro w K hl hrel hr0 hsp hG
 obtain ⟨hE,hflat⟩:=hH az (hp E) K hsp
 have hE0:E=[]:=by cases E with
  | nil=>rfl
  | cons x r=>simp [hp] at hE
 subst hE0
 have hlN:=hlen az _ K hsp
 have hG1:=hG.roG
 have hr1:Rel ⟨w,[],roG P ro,[]⟩ [] (roG P ro) w:=hr0.nilRo (EZ P ro)
 refine calls_of_wp hf hb ?_
 have hfr:FRel fn.ntmps (gm []) (roG P ro) (rJ az) { tmps:=vs.toArray ++ Array.replicate (fn.ntmps - vs.toArray.size) undef,defers:=[] }:=by
  refine ⟨by simp; omega,fun i=>?_,rfl⟩
  unfold rJ
  rw [List.getD_eq_getElem?_getD]
  cases hi:az[i]? with
  | none=>trivial
  | some x=>
   have hlt:i < vs.length:=by rw [<-hl]; exact (aY.1 hi).1
   have hv:vs[i]? = some vs[i]:=aT hlt
   have:=hrel i x _ hi hv
   simp only [Option.getD_some]
   have he:(vs.toArray ++ Array.replicate (fn.ntmps - vs.toArray.size) undef).getD i undef=vs[i]:=by
    rw [Array.getD_eq_getD_getElem?,Array.getElem?_append_left (by simpa using hlt)]
    simp [hlt]
   simp only [he]
   obtain ⟨u,rfl⟩:=hflat x (bH hi)
   exact this
 have fin:∀ fr' E' ro' a' w',qE fr' (hp E') rs (fun l=>Fin 0 K (x4 l).nf (hp E'))->FRel fn.ntmps (gm E') ro' fr' a'->Rel ⟨w,[],roG P ro,[]⟩ E' ro' w'->
  a'.defers=[]/\∃ v,(results fn a'.tmps).run P w'=.ok v w'/\∃ r v' E'' ro'',Ending.returned v=.returned v'/\S.rel (gm E'') ro'' r v'/\K r (hp E'')/\Rel ⟨w,cQ [],ro,gm []⟩ E'' ro'' w':=by
  intro fr' E' ro' a' w' h1 h4 h5
  obtain ⟨l,us,h3,hrun,hus⟩:=pE h4 h5 hrs h1
  refine ⟨h4.defers,(if h:us.toArray.size=1 then us.toArray[0] else .tuple us.toArray),?_,?_⟩
  · simp only [rR,Array.mapM_eq_mapM_toList,Sem.run_bind,Sem.run_map,hrun,Result.andThen_ok,Sem.run_pure]
  · have hrel:(x4 l).rel (gm E') ro' (if h:us.toArray.size=1 then us.toArray[0] else .tuple us.toArray):=by
     match l,us,hus with
     | [],us,hus=>have:=hus.nil_inv; subst this; exact ⟨[],rfl,.nil⟩
     | [y],us,hus=>
      obtain ⟨u,m',rfl,hy,hm'⟩:=hus.cons_inv
      have:=hm'.nil_inv
      subst this
      exact hy
     | y :: z :: r,us,hus=>
      have:¬ us.toArray.size=1:=by have:=hus.1; simp at this ⊢; omega
      rw [dif_neg this]
      exact ⟨us,rfl,hus⟩
    obtain ⟨r',E'',ro'',hK,hr',hR⟩:=yP (X:=⟨w,[],roG P ro,[]⟩) rfl h3 rfl (S.rel_nf hrel) h5
    obtain ⟨g1,g2⟩:=hr0.widen (EZ P ro) hR
    exact ⟨r',_,E'',_,rfl,S.rel_mono (.refl _) g1 hr',hK,g2⟩
 have hmI:MeetsIn P ⟨w,[],roG P ro,[]⟩ Γ:=⟨hG1,fun x hx g hg hb=>(by cases hb),hm⟩
 have hQ:∀ ex fr' E' ro' a' w',eV 0 rs K ex fr' (hp E')->FRel fn.ntmps (gm E') ro' fr' a'->Rel ⟨w,[],roG P ro,[]⟩ E' ro' w'->bodyPost P fn (fun e w'=>∃ r v E' ro',e=.returned v/\S.rel (gm E') ro' r v/\K r (hp E')/\Rel ⟨w,cQ [],ro,gm []⟩ E' ro' w') ex.to a' w':=by
  intro ex fr' E' ro' a' w' hK h4 h5
  cases ex with
  | n=>exact fin fr' E' ro' a' w' hK h4 h5
  | r=>exact fin fr' E' ro' a' w' hK h4 h5
  | e id=>exact hK.elim
 obtain ⟨q1,q2⟩:=AL hmI (X:=⟨w,[],roG P ro,[]⟩) rfl (K:=eV 0 rs K) (Mid:=Mid K) (Q:=bodyPost P fn _) (fun ex fr' E' ro' a' w' _ hK h4 h5=>hQ ex fr' E' ro' a' w' hK h4 h5) n c pc pre post r c2 hpc hcut hcp
 refine q2 _ [] _ _ _ hfr hr1 (hs az K hsp) fun fr' E' ro' a' w' h1 h2 h3=>?_
 refine hr K w (roG P ro) fr' E' ro' a' w' (fun b off v hv=>⟨PE hv,hr1.cell_lt hv⟩) h1 h2 h3 (hmI.at h3) _ fun fr2 E2 ro2 a2 w2 k1 k2 k3=>?_
 exact n5 hmI (X:=⟨w,[],roG P ro,[]⟩) rfl c2 post q1 fr2 E2 ro2 a2 w2 _ k2 k3 k1 _ hQ
end Go.W
namespace Go.Proofs.YtgogpogophflhaaGreatDoor
open Go.W
theorem wH {ro:RO} {xs:List (List C)} {v:Value} (h:FzR ro xs v) {i sz:Nat} {r:List C} (hr:xs[i]? = some r) (hz:r.length=sz) (hs:0 < sz) :
 ∃ b off cap,v=.slice (some ⟨b,off,none⟩) xs.length cap/\(ro.st b=0\/(ro.st b=sz/\off % sz=0))/\∀ k c,r[k]? = some c->∃ u,ro b (off + i * sz + k)=some u/\c.fv ro u:=by
 obtain ⟨b,off,cap,rfl,h2⟩:=HV h hr hz
 refine ⟨b,off,cap,rfl,?_,h2⟩
 generalize hv:Value.slice (some ⟨b,off,none⟩) xs.length cap=v at h
 obtain ⟨_,sz',ob,oa,koa,cap',vs,k1,k2,k3,k4,k5,k6,k7,k8⟩:=h
 have hi:i < xs.length:=(aY.1 hr).1
 have hne:xs ≠ []:=fun e=>by subst e; simp at hi
 have hob:=k3 hne
 obtain rfl:=koa hne
 have hmem:=bH hr
 have hs':sz'=sz:=by rw [<-k1 r hmem,hz]
 subst hs'
 cases ob with
 | none=>simp at hob
 | some y=>
  simp only [oS,Option.map_some,Nat.add_zero,Value.slice.injEq,aC,Addr.mk.injEq] at hv
  obtain ⟨⟨rfl,rfl,_⟩,_,_⟩:=hv
  have hk:0 < r.length:=by omega
  have hfl:xs.flatten[i * sz' + 0]? = some r[0]:=by rw [fP k1 hi hs,hr]; exact aT hk
  exact k8 _ _ hfl
theorem wB {ro ro2:RO} {xs ys:List (List C)} {v:Value} (h:FzR ro xs v) (hl:ys.length=xs.length) (hst:ro2.st=ro.st)
 (hy:∀ (i:Nat) (x y:List C),xs[i]? = some x->ys[i]? = some y->y.length=x.length/\∀ b off cap,v=.slice (some ⟨b,off,none⟩) xs.length cap->(ro.st b=0\/(ro.st b=x.length/\off % x.length=0))->
   ∀ (j:Nat) (c c':C) (u:Value),x[j]? = some c->y[j]? = some c'->ro b (off + i * x.length + j)=some u->c.fv ro u->∃ u',ro2 b (off + i * x.length + j)=some u'/\c'.fv ro2 u'/\c'.shut=true):FzR ro2 ys v:=by
 have hrow:∀ (i:Nat) (x:List C),xs[i]? = some x->0 < x.length->∃ b off cap,v=.slice (some ⟨b,off,none⟩) xs.length cap/\(ro.st b=0\/(ro.st b=x.length/\off % x.length=0))/\∀ k c,x[k]? = some c->∃ u,ro b (off + i * x.length + k)=some u/\c.fv ro u:=
  fun i x hx hp=>wH h hx rfl hp
 generalize hv:v=v' at h
 obtain ⟨_,sz,ob,oa,koa,cap,vs,k1,k2,k3,k4,k5,k6,k7,k8⟩:=h
 subst hv
 have hz:∀ y ∈ ys,y.length=sz:=fun y hm=>by
  obtain ⟨i,hi⟩:=List.mem_iff_getElem?.1 hm
  have hlt:=(aY.1 hi).1
  have hx:xs[i]? = some xs[i]:=aT (by omega)
  rw [(hy i _ y hx hi).1]
  exact k1 _ (List.getElem_mem _)
 have hcell:∀ (k:Nat) (c':C),ys.flatten[k]? = some c'->∃ u,ro2 (ob.getD (0,0)).1 ((ob.getD (0,0)).2 + k)=some u/\c'.fv ro2 u/\c'.shut=true:=fun k c' hk=>by
  have hkl:k < ys.length * sz:=by
   have h1:=(aY.1 hk).1
   rwa [hZ _ hz] at h1
  have hsz:0 < sz:=Nat.pos_of_ne_zero fun e=>by subst e; omega
  have hi:k / sz < ys.length:=(Nat.div_lt_iff_lt_mul hsz).2 hkl
  have hj:=Nat.mod_lt k hsz
  have hg:=fP hz hi hj
  rw [Nat.mul_comm,Nat.div_add_mod,hk] at hg
  have hyi:ys[k / sz]? = some ys[k / sz]:=aT hi
  have hi':k / sz < xs.length:=by rw [<-hl]; exact hi
  have hxi:xs[k / sz]? = some xs[k / sz]:=aT hi'
  rw [hyi,Option.bind_some] at hg
  have hxl:(xs[k / sz]).length=sz:=k1 _ (List.getElem_mem _)
  obtain ⟨q1,q2⟩:=hy _ _ _ hxi hyi
  have hxp:0 < (xs[k / sz]).length:=by rw [hxl]; exact hsz
  obtain ⟨b,off,cp,e1,e2,e3⟩:=hrow _ _ hxi hxp
  have hjx:k % sz < (xs[k / sz]).length:=by rw [hxl]; exact hj
  have hxj:(xs[k / sz])[k % sz]? = some ((xs[k / sz])[k % sz]):=aT hjx
  obtain ⟨u,e4,e5⟩:=e3 _ _ hxj
  obtain ⟨u',f1,f2,f3⟩:=q2 b off cp e1 e2 _ _ _ u hxj hg.symm e4 e5
  have hne:xs ≠ []:=fun e=>by
   rw [e] at hi'
   exact Nat.not_lt_zero _ hi'
  have hob:=k3 hne
  have hoa:=koa hne
  cases ob with
  | none=>simp at hob
  | some y=>
   rw [hoa] at e1
   simp only [oS,Option.map_some,Nat.add_zero,Value.slice.injEq,aC,Addr.mk.injEq] at e1
   obtain ⟨⟨e6,e7,_⟩,_,_⟩:=e1
   refine ⟨u',?_,f2,f3⟩
   simp only [Option.getD_some]
   rw [hxl,Nat.add_assoc,Nat.mul_comm,Nat.div_add_mod] at f1
   rw [e6,e7]; exact f1
 rw [<-hl]
 refine .mk ys sz ob oa (fun hne=>koa fun e=>hne (List.eq_nil_of_length_eq_zero (by rw [hl,e]; rfl))) cap (fun k=>(ro2 (ob.getD (0,0)).1 ((ob.getD (0,0)).2 + k)).getD undef) hz (by rw [hl]; exact k2) (fun hne=>k3 fun e=>hne (List.eq_nil_of_length_eq_zero (by rw [hl,e]; rfl)))
  (fun k c hk=>?_) (fun k u hk=>?_) (fun k zs hk=>?_) (fun c hc=>?_) (fun k c hk=>?_)
 · obtain ⟨u,h1,_,_⟩:=hcell k c hk
   rw [h1]; rfl
 · obtain ⟨u',h1,h2,_⟩:=hcell k _ hk
   have h2:u'=u:=h2
   simp only [h1,Option.getD_some]; exact h2
 · obtain ⟨u',h1,h2,_⟩:=hcell k _ hk
   have h2:FzR ro2 zs u':=h2
   simp only [h1,Option.getD_some]; exact h2
 · obtain ⟨k,hk⟩:=List.mem_iff_getElem?.1 hc
   exact (hcell k c hk).choose_spec.2.2
 · rw [hst]
   have hkl:k < xs.flatten.length:=by
    have h1:=(aY.1 hk).1
    rw [hZ _ hz] at h1
    rw [hZ _ k1,<-hl]; exact h1
   exact k8 k _ (aT hkl)
structure TyAt (ro:RO) (b off:Nat) (t:Ty):Prop where
 k:ro b off=some (.int .i64 t.k)
 s:ro b (off + 1)=some (.int .i64 t.s)
 n:ro b (off + 2)=some (.string t.n)
 e:∃ v,ro b (off + 3)=some v/\FzR ro (t.e.map aX) v
 st:ro.st b=0\/(ro.st b=4/\off % 4=0)\/(ro.st b=7/\off % 7=2)
theorem G6 {ro:RO} {l:List Ty} {v:Value} {i:Nat} {t:Ty} (h:FzR ro (l.map aX) v) (hi:l[i]? = some t):∃ b off cap,v=.slice (some ⟨b,off,none⟩) l.length cap/\TyAt ro b (off + i * 4) t:=by
 obtain ⟨b,off,cap,h1,h2,h3⟩:=wH h (i:=i) (sz:=4) (r:=aX t) (by rw [List.getElem?_map,hi]; rfl) (by rw [bO]; rfl) (by decide)
 rw [List.length_map] at h1
 rw [bO] at h3
 obtain ⟨u0,a0,b0⟩:=h3 0 _ rfl
 obtain ⟨u1,a1,b1⟩:=h3 1 _ rfl
 obtain ⟨u2,a2,b2⟩:=h3 2 _ rfl
 obtain ⟨u3,a3,b3⟩:=h3 3 _ rfl
 have b0:u0=_:=b0
 have b1:u1=_:=b1
 have b2:u2=_:=b2
 subst b0 b1 b2
 refine ⟨b,off,cap,h1,a0,a1,a2,⟨u3,a3,b3⟩,?_⟩
 rcases h2 with h2 | ⟨h2,h4⟩
 · exact .inl h2
 · exact .inr (.inl ⟨h2,by omega⟩)
theorem R6 {ro:RO} {l:List Fl} {v:Value} {i:Nat} {f:Fl} (h:FzR ro (l.map bI) v) (hi:l[i]? = some f):∃ b off cap,v=.slice (some ⟨b,off,none⟩) l.length cap/\TyAt ro b (off + i * 7 + 2) f.ty:=by
 obtain ⟨b,off,cap,h1,h2,h3⟩:=wH h (i:=i) (sz:=7) (r:=bI f) (by rw [List.getElem?_map,hi]; rfl) rfl (by decide)
 rw [List.length_map] at h1
 obtain ⟨u0,a0,b0⟩:=h3 2 _ rfl
 obtain ⟨u1,a1,b1⟩:=h3 3 _ rfl
 obtain ⟨u2,a2,b2⟩:=h3 4 _ rfl
 obtain ⟨u3,a3,b3⟩:=h3 5 _ rfl
 have b0:u0=_:=b0
 have b1:u1=_:=b1
 have b2:u2=_:=b2
 subst b0 b1 b2
 refine ⟨b,off,cap,h1,a0,a1,a2,⟨u3,a3,b3⟩,?_⟩
 rcases h2 with h2 | ⟨h2,h4⟩
 · exact .inl h2
 · exact .inr (.inr ⟨h2,by omega⟩)
def wL (ns:List ByteArray) (n:ByteArray):Bool:=ns.any fun m=>decide (m=n)
mutual
def m8 (ns:List ByteArray):Ty->Ty
 | .mk k s n e=>bif k == 5 then .mk k s n (GC ns e) else bif k == 6 && wL ns n then .mk 7 s n e else .mk k s n e
def GC (ns:List ByteArray):List Ty->List Ty
 | []=>[]
 | t :: r=>m8 ns t :: GC ns r
end
def K5 (ns:List ByteArray) (f:Fl):Fl:=⟨f.num,f.nm,m8 ns f.ty,f.opt⟩
def mP (ns:List ByteArray) (s:St):St:=⟨s.nm,s.fs.map (K5 ns)⟩
def yS (d:List Int) (t0 t:Ty):Prop:=t=cB d t0/\t0.k ≠ 5/\t0.e=[]
theorem sH {ns:List ByteArray} {t0:Ty}:∀ d:List Int,m8 ns (cB d t0)=cB d (m8 ns t0)
 | []=>rfl
 | s :: d=>by
  show m8 ns (.mk 5 s (mk []) [cB d t0])=.mk 5 s (mk []) [cB d (m8 ns t0)]
  rw [m8,GC,GC,sH d]; rfl
theorem A6 {ns:List ByteArray} {t:Ty} (h:t.k ≠ 5):m8 ns t=bif t.k == 6 && wL ns t.n then .mk 7 t.s t.n t.e else t:=by
 cases t with
 | mk k s n e=>
  have h:k ≠ 5:=h
  rw [m8,beq_eq_false_iff_ne.2 h]; rfl
def InA (ro:RO) (t0:Ty):List Int->Nat->Nat->Nat->Nat->Prop
 | [],b,off,b',o'=>(b=b'/\off=o')/\TyAt ro b off t0
 | s :: d,b,off,b',o'=>TyAt ro b off (cB (s :: d) t0)/\∃ b1 o1 cap,ro b (off + 3)=some (.slice (some ⟨b1,o1,none⟩) 1 cap)/\InA ro t0 d b1 o1 b' o'
theorem AT {ro:RO} {t0:Ty}:∀ (d:List Int) (b off:Nat),TyAt ro b off (cB d t0)->∃ b' o',InA ro t0 d b off b' o'
 | [],b,off,h=>⟨b,off,⟨rfl,rfl⟩,h⟩
 | s :: d,b,off,h=>by
  obtain ⟨v,h1,h2⟩:=h.e
  have h2:FzR ro ([cB d t0].map aX) v:=h2
  obtain ⟨b1,o1,cap,rfl,h3⟩:=G6 h2 (i:=0) rfl
  obtain ⟨b',o',h4⟩:=AT d b1 (o1 + 0 * 4) h3
  rw [Nat.zero_mul,Nat.add_zero] at h4
  exact ⟨b',o',h,b1,o1,cap,h1,h4⟩
theorem InA.at {ro:RO} {t0:Ty}:∀ {d:List Int} {b off b' o':Nat},InA ro t0 d b off b' o'->TyAt ro b' o' t0
 | [],b,off,b',o',⟨⟨h1,h2⟩,h⟩=>by subst h1 h2; exact h
 | s :: d,b,off,b',o',⟨_,b1,o1,cap,_,h⟩=>h.at
theorem InA.fst {ro:RO} {t0:Ty}:∀ {d:List Int} {b off b' o':Nat},InA ro t0 d b off b' o'->TyAt ro b off (cB d t0)
 | [],b,off,b',o',⟨⟨h1,h2⟩,h⟩=>h
 | s :: d,b,off,b',o',⟨h,_⟩=>h
theorem InA.uniq {ro:RO} {t0:Ty}:∀ {d:List Int} {b off b' o' b2 o2:Nat},InA ro t0 d b off b' o'->InA ro t0 d b off b2 o2->b'=b2/\o'=o2
 | [],b,off,b',o',b2,o2,⟨⟨h1,h2⟩,_⟩,⟨⟨h3,h4⟩,_⟩=>⟨h1.symm.trans h3,h2.symm.trans h4⟩
 | s :: d,b,off,b',o',b2,o2,⟨_,b1,o1,cap,e1,h⟩,⟨_,b3,o3,cap3,e2,h2⟩=>by
  rw [e1] at e2
  simp only [aC,Value.slice.injEq,Addr.mk.injEq] at e2
  obtain ⟨⟨rfl,rfl,_⟩,_,_⟩:=e2
  exact h.uniq h2
def iT (ns:List ByteArray) (ro:RO) (a:Nat × Nat):Prop:=
 ro a.1 a.2=some (.int .i64 6)/\(∃ m ∈ ns,ro a.1 (a.2 + 2)=some (.string m))/\((ro.st a.1=4/\a.2 % 4=0)\/(ro.st a.1=7/\a.2 % 7=2))
def l9 (L:List (Nat × Nat)) (ro:RO):RO:=⟨fun b off=>if (b,off) ∈ L then some (.int .i64 7) else ro b off,ro.st⟩
theorem c7 {L:List (Nat × Nat)} {ro:RO} {b off:Nat} (h:(b,off) ∉ L):l9 L ro b off=ro b off:=if_neg h
theorem GY {L:List (Nat × Nat)} {ro:RO} {b off:Nat} (h:(b,off) ∈ L):l9 L ro b off=some (.int .i64 7):=if_pos h
section
variable {ns:List ByteArray} {ro:RO} {L:List (Nat × Nat)}
theorem BU {n:ByteArray}:wL ns n=true ↔ n ∈ ns:=by
 unfold wL
 rw [List.any_eq_true]
 constructor
 · rintro ⟨m,h1,h2⟩
   rw [<-of_decide_eq_true h2]; exact h1
 · exact fun h=>⟨n,h,decide_eq_true rfl⟩
theorem D7 {xs:List (List C)} {v:Value} (hL:∀ a ∈ L,iT ns ro a) (h:FzR ro xs v) (hz:∀ x ∈ xs,x.length=1) (hv:∀ x ∈ xs,∀ c ∈ x,∃ u,c=.vl u):FzR (l9 L ro) xs v:=by
 refine wB h rfl rfl fun i x y hx hy=>?_
 rw [hx] at hy
 obtain rfl:=aZ hy
 refine ⟨rfl,fun b off cap _ hst j c c' u h1 h2 h3 h4=>?_⟩
 rw [h1] at h2
 obtain rfl:=aZ h2
 have hxm:=bH hx
 obtain ⟨w,rfl⟩:=hv x hxm c (bH h1)
 refine ⟨u,?_,h4,rfl⟩
 rw [c7 fun hin=>?_]
 · exact h3
 · have:=(hL _ hin).2.2
   rw [hz x hxm] at hst
   simp only at this
   omega
theorem DD {v:Value} (h:FzR ro [] v):FzR (l9 L ro) [] v:=wB h rfl rfl fun i x y hx=>by simp at hx
structure Ty4 (ro:RO) (b off:Nat) (t:Ty):Prop where
 k:ro b off=some (.int .i64 t.k)
 s:ro b (off + 1)=some (.int .i64 t.s)
 n:ro b (off + 2)=some (.string t.n)
 e:∃ v,ro b (off + 3)=some v/\FzR ro (t.e.map aX) v
theorem Ty4.cell {b off:Nat} {t:Ty} (h:Ty4 ro b off t) {j:Nat} {c:C} (hc:(aX t)[j]? = some c):∃ u,ro b (off + j)=some u/\c.fv ro u/\c.shut=true:=by
 rw [bO] at hc
 match j,hc with
 | 0,hc=>cases hc; exact ⟨_,h.k,rfl,rfl⟩
 | 1,hc=>cases hc; exact ⟨_,h.s,rfl,rfl⟩
 | 2,hc=>cases hc; exact ⟨_,h.n,rfl,rfl⟩
 | 3,hc=>cases hc; obtain ⟨v,h1,h2⟩:=h.e; exact ⟨v,h1,h2,rfl⟩
 | j + 4,hc=>cases hc
theorem tG {b off:Nat} {t:Ty} (hL:∀ a ∈ L,iT ns ro a) (h:TyAt ro b off t):(b,off + 1) ∉ L/\(b,off + 2) ∉ L/\(b,off + 3) ∉ L:=by
 have hs:=h.st
 refine ⟨fun hin=>?_,fun hin=>?_,fun hin=>?_⟩<;>(have:=(hL _ hin).2.2; simp only at this; omega)
theorem HB {t0:Ty} (hL:∀ a ∈ L,iT ns ro a) (h5:t0.k ≠ 5) (he:t0.e=[]):∀ (d:List Int) (b off b' o':Nat),InA ro t0 d b off b' o'->(t0.k=6->t0.n ∈ ns->(b',o') ∈ L)->Ty4 (l9 L ro) b off (cB d (m8 ns t0))
 | [],b,off,b',o',⟨⟨h1,h2⟩,h⟩,hc=>by
  subst h1 h2
  obtain ⟨n1,n2,n3⟩:=tG hL h
  obtain ⟨v,hv,hf⟩:=h.e
  rw [he] at hf
  show Ty4 (l9 L ro) b off (m8 ns t0)
  rw [A6 h5]
  cases hk:t0.k == 6 && wL ns t0.n with
  | true=>
   rw [Bool.and_eq_true] at hk
   have hin:=hc (eq_of_beq hk.1) (BU.1 hk.2)
   exact ⟨GY hin,by rw [c7 n1]; exact h.s,by rw [c7 n2]; exact h.n,v,by rw [c7 n3]; exact hv,by
    show FzR _ (t0.e.map aX) v
    rw [he]; exact DD hf⟩
  | false=>
   have n0:(b,off) ∉ L:=fun hin=>by
    obtain ⟨m1,⟨m,hm,m2⟩,_⟩:=hL _ hin
    simp only at m1 m2
    rw [h.k] at m1
    rw [h.n] at m2
    have e1:t0.k=6:=by simpa using m1
    have e2:t0.n=m:=by simpa using m2
    rw [e1,e2] at hk
    rw [BU.2 hm] at hk
    cases hk
   exact ⟨by rw [c7 n0]; exact h.k,by rw [c7 n1]; exact h.s,by rw [c7 n2]; exact h.n,v,by rw [c7 n3]; exact hv,by
    show FzR _ (t0.e.map aX) v
    rw [he]; exact DD hf⟩
 | s :: d,b,off,b',o',⟨h,b1,o1,cap,h1,h2⟩,hc=>by
  obtain ⟨n1,n2,n3⟩:=tG hL h
  have n0:(b,off) ∉ L:=fun hin=>by
   have m1:=(hL _ hin).1
   simp only at m1
   rw [h.k] at m1
   have e1:(5:Int)=6:=by
    have:(cB (s :: d) t0).k=6:=by simpa using m1
    exact this
   cases e1
  have ih:=HB hL h5 he d b1 o1 b' o' h2 hc
  obtain ⟨v,hv,hf⟩:=h.e
  rw [h1] at hv
  obtain rfl:=aZ hv
  refine ⟨by rw [c7 n0]; exact h.k,by rw [c7 n1]; exact h.s,by rw [c7 n2]; exact h.n,_,by rw [c7 n3]; exact h1,?_⟩
  have hf:FzR ro [aX (cB d t0)] (.slice (some ⟨b1,o1,none⟩) 1 cap):=hf
  show FzR (l9 L ro) [aX (cB d (m8 ns t0))] _
  refine wB hf rfl rfl fun i x y hx hy=>?_
  match i,hx,hy with
  | 0,hx,hy=>
   obtain rfl:=aZ hx
   obtain rfl:=aZ hy
   refine ⟨by rw [bO,bO]; rfl,fun b2 o2 cap2 e2 _ j c c' u k1 k2 k3 k4=>?_⟩
   simp only [Value.slice.injEq,aC,Addr.mk.injEq] at e2
   obtain ⟨⟨rfl,rfl,_⟩,_,_⟩:=e2
   have:=ih.cell k2
   rwa [Nat.zero_mul,Nat.add_zero]
  | i + 1,hx,hy=>cases hx
def FlOk (ns:List ByteArray) (L:List (Nat × Nat)) (ro:RO) (f:Fl) (b off:Nat):Prop:=∃ d t0,yS d t0 f.ty/\∀ b' o',InA ro t0 d b off b' o'->t0.k=6->t0.n ∈ ns->(b',o') ∈ L
theorem U1 {fs:List Fl} {v:Value} (hL:∀ a ∈ L,iT ns ro a) (h:FzR ro (fs.map bI) v) (hc:∀ (i:Nat) (f:Fl) (b off cap:Nat),fs[i]? = some f->v=.slice (some ⟨b,off,none⟩) fs.length cap->FlOk ns L ro f b (off + i * 7 + 2)):FzR (l9 L ro) ((fs.map (K5 ns)).map bI) v:=by
 refine wB h (by simp) rfl fun i x y hx hy=>?_
 rw [List.getElem?_map] at hx
 rw [List.map_map,List.getElem?_map] at hy
 cases hf:fs[i]? with
 | none=>rw [hf] at hx; cases hx
 | some f=>
  rw [hf] at hx hy
  obtain rfl:=aZ hx
  obtain rfl:=aZ hy
  refine ⟨rfl,fun b off cap e hst j c c' u k1 k2 k3 k4=>?_⟩
  rw [List.length_map] at e
  have hst:ro.st b=0\/(ro.st b=7/\off % 7=0):=hst
  obtain ⟨b9,o9,c9,e9,hat⟩:=R6 h hf
  rw [e] at e9
  simp only [Value.slice.injEq,aC,Addr.mk.injEq] at e9
  obtain ⟨⟨rfl,rfl,_⟩,_,_⟩:=e9
  obtain ⟨d,t0,⟨w1,w2,w3⟩,hin⟩:=hc i f b off cap hf e
  rw [w1] at hat
  obtain ⟨b',o',hA⟩:=AT d _ _ hat
  have h4:=HB hL w2 w3 d _ _ _ _ hA (hin b' o' hA)
  rw [<-sH,<-w1] at h4
  have e7:(bI f).length=7:=rfl
  rw [e7] at k3 ⊢
  have no:∀ m,m ≠ 2->m < 7->(b,off + i * 7 + m) ∉ L:=fun m hm hm7 hin=>by
   have:=(hL _ hin).2.2
   simp only at this
   omega
  match j,k1,k2,k3 with
  | 0,k1,k2,k3=>cases k1; cases k2; exact ⟨u,by rw [c7 (no 0 (by decide) (by decide))]; exact k3,k4,rfl⟩
  | 1,k1,k2,k3=>cases k1; cases k2; exact ⟨u,by rw [c7 (no 1 (by decide) (by decide))]; exact k3,k4,rfl⟩
  | 2,k1,k2,k3=>exact h4.cell (j:=0) (c:=c') (by rw [bO]; exact k2)
  | 3,k1,k2,k3=>exact h4.cell (j:=1) (c:=c') (by rw [bO]; exact k2)
  | 4,k1,k2,k3=>exact h4.cell (j:=2) (c:=c') (by rw [bO]; exact k2)
  | 5,k1,k2,k3=>exact h4.cell (j:=3) (c:=c') (by rw [bO]; exact k2)
  | 6,k1,k2,k3=>cases k1; cases k2; exact ⟨u,by rw [c7 (no 6 (by decide) (by decide))]; exact k3,k4,rfl⟩
  | j + 7,k1,k2,k3=>cases k1
end
structure Cu (w:World) (L:List (Nat × Nat)) (wr:World):Prop where
 sz:w.heap.size<=wr.heap.size
 cell:∀ b off,b < w.heap.size->wr.cell? ⟨b,off,none⟩=if (b,off) ∈ L then some (.int .i64 7) else w.cell? ⟨b,off,none⟩
 fz:∀ b off,b < w.heap.size->wr.frozen? ⟨b,off,none⟩=w.frozen? ⟨b,off,none⟩
 keep:∀ b,b < w.heap.size->(∀ off,(b,off) ∉ L)->wr.heap[b]? = w.heap[b]?
 os:wr.os=w.os
 tape:wr.tape=w.tape
 output:wr.output=w.output
theorem Cu.refl (w:World):Cu w [] w:=⟨Nat.le_refl _,fun b off _=>by simp,fun _ _ _=>rfl,fun _ _ _=>rfl,rfl,rfl,rfl⟩
theorem Cu.alloc {w wr:World} {L:List (Nat × Nat)} (h:Cu w L wr) (o:Obj):Cu w L (wr.alloc o) where
 sz:=Nat.le_trans h.sz (by simp)
 cell:=fun b off hb=>by rw [World.cell?_alloc_lt wr o ⟨b,off,none⟩ (Nat.lt_of_lt_of_le hb h.sz)]; exact h.cell b off hb
 fz:=fun b off hb=>by
  have hlt:b < wr.heap.size:=Nat.lt_of_lt_of_le hb h.sz
  rw [<-h.fz b off hb]
  unfold World.frozen?
  rw [RowKit.Below.heap_alloc wr o b hlt]
 keep:=fun b hb hl=>by rw [RowKit.Below.heap_alloc wr o b (Nat.lt_of_lt_of_le hb h.sz)]; exact h.keep b hb hl
 os:=h.os
 tape:=h.tape
 output:=h.output
theorem Cu.set {w wr:World} {L:List (Nat × Nat)} (h:Cu w L wr) {b off:Nat} {u:Value} (hb:b < w.heap.size) (hc:w.cell? ⟨b,off,none⟩=some u):Cu w ((b,off) :: L) (wr.setCell ⟨b,off,none⟩ (.int .i64 7)) where
 sz:=by simpa using h.sz
 cell:=fun b' o' hb'=>by
  by_cases e:(b',o')=(b,off)
  · cases e
    have:∃ u',wr.cell? ⟨b,off,none⟩=some u':=by
     rw [h.cell b off hb]
     split
     · exact ⟨_,rfl⟩
     · exact ⟨u,hc⟩
    obtain ⟨u',hu'⟩:=this
    rw [World.cell?_setCell_same wr _ _ hu',if_pos (List.mem_cons_self ..)]
  · rw [World.cell?_setCell_other wr _ _ _ (fun e2=>e (by cases e2; rfl)),h.cell b' o' hb']
    by_cases hin:(b',o') ∈ L
    · rw [if_pos hin,if_pos (List.mem_cons_of_mem _ hin)]
    · rw [if_neg hin,if_neg (fun hm=>by rcases List.mem_cons.1 hm with h1 | h1; exact e h1; exact hin h1)]
 fz:=fun b' o' hb'=>by rw [World.frozen?_setCell]; exact h.fz b' o' hb'
 keep:=fun b' hb' hl=>by
  have hne:b' ≠ b:=fun e=>hl off (by rw [e]; exact List.mem_cons_self ..)
  rw [<-h.keep b' hb' fun o hin=>hl o (List.mem_cons_of_mem _ hin)]
  unfold World.setCell
  simp only [Array.getElem?_modify]
  rw [if_neg (fun e=>hne e.symm)]
 os:=h.os
 tape:=h.tape
 output:=h.output
theorem Cu.no {w wr:World} {L:List (Nat × Nat)} (h:Cu w L wr) {b off:Nat} {u:Value} (hb:b < w.heap.size) (hc:w.cell? ⟨b,off,none⟩=some u) (hn:(b,off) ∉ L):wr.cell? ⟨b,off,none⟩=some u:=by
 rw [h.cell b off hb,if_neg hn]; exact hc
structure Rs (ns:List ByteArray) (ro:RO) (w:World) (es:List En) (ss:List St) (aE aS:Option Nat):Prop where
 rd:∀ b off v,ro b off=some v->b < w.heap.size/\Rd (ro.st b) w b off v
 fr:∀ b off v,ro b off=some v->off ≠ 0->ro.st b ≠ 0
 e:∀ j e,es[j]? = some e->∃ b u1 u2,aE=some b/\b < w.heap.size/\(∀ v off,ro b off ≠ some v)/\w.cell? ⟨b,j * 3,none⟩=some (.string e.nm)/\w.cell? ⟨b,j * 3 + 1,none⟩=some u1/\w.cell? ⟨b,j * 3 + 2,none⟩=some u2/\(∃ o n c,u1=.slice o n c)/\∃ o n c,u2=.slice o n c
 s:∀ i s,ss[i]? = some s->∃ b u,aS=some b/\b < w.heap.size/\(∀ v off,ro b off ≠ some v)/\w.cell? ⟨b,i * 2 + 1,none⟩=some u/\FzR ro (s.fs.map bI) u
 w:∀ s ∈ ss,∀ f ∈ s.fs,∃ d t0,yS d t0 f.ty
 n:ns=es.map En.nm
def DnF (ns:List ByteArray) (ro:RO) (L:List (Nat × Nat)) (s:St) (u:Value) (m:Nat):Prop:=∀ (k:Nat) (f:Fl) (b off cap:Nat),k < m->s.fs[k]? = some f->u=.slice (some ⟨b,off,none⟩) s.fs.length cap->FlOk ns L ro f b (off + k * 7 + 2)
def DnS (ns:List ByteArray) (ro:RO) (w:World) (L:List (Nat × Nat)) (ss:List St) (aS:Option Nat) (m:Nat):Prop:=∀ (i:Nat) (s:St) (b:Nat) (u:Value),i < m->ss[i]? = some s->aS=some b->w.cell? ⟨b,i * 2 + 1,none⟩=some u->DnF ns ro L s u s.fs.length
theorem FlOk.mono {ns:List ByteArray} {ro:RO} {L L':List (Nat × Nat)} {f:Fl} {b off:Nat} (h:FlOk ns L ro f b off) (hL:∀ a ∈ L,a ∈ L'):FlOk ns L' ro f b off:=by
 obtain ⟨d,t0,h1,h2⟩:=h
 exact ⟨d,t0,h1,fun b' o' k1 k2 k3=>hL _ (h2 b' o' k1 k2 k3)⟩
theorem DnF.mono {ns:List ByteArray} {ro:RO} {L L':List (Nat × Nat)} {s:St} {u:Value} {m:Nat} (h:DnF ns ro L s u m) (hL:∀ a ∈ L,a ∈ L'):DnF ns ro L' s u m:=fun k f b off cap h1 h2 h3=>(h k f b off cap h1 h2 h3).mono hL
theorem DnS.mono {ns:List ByteArray} {ro:RO} {w:World} {L L':List (Nat × Nat)} {ss:List St} {aS:Option Nat} {m:Nat} (h:DnS ns ro w L ss aS m) (hL:∀ a ∈ L,a ∈ L'):DnS ns ro w L' ss aS m:=fun i s b u h1 h2 h3 h4=>(h i s b u h1 h2 h3 h4).mono hL
theorem sJ (b k:Nat):aR (some b) k=some ⟨b,k,none⟩:=rfl
theorem QF {ro:RO} {xs:List (List C)} {v:Value} (h:FzR ro xs v):∃ o c,v=.slice o xs.length c:=by cases h; exact ⟨_,_,rfl⟩
theorem Cu.loc {w w1 wr:World} {L:List (Nat × Nat)} {cs:Array Value} {T:TypeId} (h1:w1=w.alloc (.cells cs T)) (hL:∀ a ∈ L,a.1 < w.heap.size) (h:Cu w1 L wr) {j:Nat} {u:Value} (hc:cs[j]? = some u):wr.cell? ⟨w.heap.size,j,none⟩=some u:=by
 subst h1
 refine h.no (by simp) ?_ fun hin=>Nat.lt_irrefl _ (hL _ hin)
 rw [World.cell?_alloc_new]; exact hc
theorem Cu.old {w w1 wr:World} {L:List (Nat × Nat)} {o:Obj} (h1:w1=w.alloc o) (h:Cu w1 L wr):Cu w L wr where
 sz:=by subst h1; exact Nat.le_trans (by simp) h.sz
 cell:=fun b off hb=>by subst h1; rw [h.cell b off (by simp; omega),World.cell?_alloc_lt w o ⟨b,off,none⟩ hb]
 fz:=fun b off hb=>by
  subst h1
  rw [h.fz b off (by simp; omega)]
  unfold World.frozen?
  rw [RowKit.Below.heap_alloc w o b hb]
 keep:=fun b hb hl=>by subst h1; rw [h.keep b (by simp; omega) hl,RowKit.Below.heap_alloc w o b hb]
 os:=by subst h1; exact h.os
 tape:=by subst h1; exact h.tape
 output:=by subst h1; exact h.output
theorem Rs.lt {ns:List ByteArray} {ro:RO} {w:World} {es:List En} {ss:List St} {aE aS:Option Nat} (H:Rs ns ro w es ss aE aS) {L:List (Nat × Nat)} (hL:∀ a ∈ L,iT ns ro a):∀ a ∈ L,a.1 < w.heap.size:=fun a ha=>(H.rd _ _ _ (hL a ha).1).1
theorem Rs.outer {ns:List ByteArray} {ro:RO} {w w1 wr:World} {es:List En} {ss:List St} {aE aS:Option Nat} {L:List (Nat × Nat)} {m cE cS:Nat} {ver:Int} (H:Rs ns ro w es ss aE aS)
 (h1:w1=w.alloc (.cells #[.int .i64 ver,.slice (aR aE 0) es.length cE,.slice (aR aS 0) ss.length cS] 25)) (hL:∀ a ∈ L,iT ns ro a) (hC:Cu w1 L wr) (hm:m < ss.length) :
 ∃ s b o c,ss[m]? = some s/\aS=some b/\wr.cell? ⟨w.heap.size,2,none⟩=some (.slice (aR aS 0) ss.length cS)/\wr.cell? ⟨b,m * 2 + 1,none⟩=some (.slice o s.fs.length c)/\FzR ro (s.fs.map bI) (.slice o s.fs.length c)/\w.cell? ⟨b,m * 2 + 1,none⟩=some (.slice o s.fs.length c):=by
 obtain ⟨s,hs⟩:∃ s,ss[m]? = some s:=⟨_,aT hm⟩
 obtain ⟨b,u,e1,e2,e3,e4,e5⟩:=H.s m s hs
 obtain ⟨o,c,rfl⟩:=QF e5
 rw [List.length_map] at e4 e5
 exact ⟨s,b,o,c,hs,e1,hC.loc h1 (H.lt hL) rfl,(hC.old h1).no e2 e4 fun hin=>e3 _ _ (hL _ hin).1,e5,e4⟩
theorem Rs.inner {ns:List ByteArray} {ro:RO} {w w1 wr:World} {es:List En} {ss:List St} {aE:Option Nat} {b:Nat} {L:List (Nat × Nat)} {m q cE cS c:Nat} {ver:Int} {o:Option Addr} {s:St} (H:Rs ns ro w es ss aE (some b))
 (h1:w1=w.alloc (.cells #[.int .i64 ver,.slice (aR aE 0) es.length cE,.slice (aR (some b) 0) ss.length cS] 25)) (hL:∀ a ∈ L,iT ns ro a) (hC:Cu w1 L wr) (hm:ss[m]? = some s) (hS:w.cell? ⟨b,m * 2 + 1,none⟩=some (.slice o s.fs.length c))
 (hF:FzR ro (s.fs.map bI) (.slice o s.fs.length c)) (hq:q < s.fs.length) :
 ∃ f bF oF d t0 b' o',s.fs[q]? = some f/\o=some ⟨bF,oF,none⟩/\wr.cell? ⟨w.heap.size,2,none⟩=some (.slice (aR (some b) 0) ss.length cS)/\wr.cell? ⟨b,m * 2 + 1,none⟩=some (.slice o s.fs.length c)/\yS d t0 f.ty/\InA ro t0 d bF (oF + q * 7 + 2) b' o':=by
 obtain ⟨f,hf⟩:∃ f,s.fs[q]? = some f:=⟨_,aT hq⟩
 obtain ⟨b2,u,e1,e2,e3,e4,e5⟩:=H.s m s hm
 cases e1
 obtain ⟨d,t0,hw⟩:=H.w s (bH hm) f (bH hf)
 obtain ⟨bF,oF,cap,h2,h3⟩:=R6 hF hf
 simp only [Value.slice.injEq] at h2
 rw [hw.1] at h3
 obtain ⟨b',o',h4⟩:=AT d _ _ h3
 exact ⟨f,bF,oF,d,t0,b',o',hf,h2.1,hC.loc h1 (H.lt hL) rfl,(hC.old h1).no e2 hS fun hin=>e3 _ _ (hL _ hin).1,hw,h4⟩
theorem Rs.step {ns:List ByteArray} {ro:RO} {w w1 wr:World} {es:List En} {ss:List St} {aE aS:Option Nat} {L:List (Nat × Nat)} {o:Obj} {t0:Ty} {x:Int} {d:List Int} {b1 o1 b' o':Nat} (H:Rs ns ro w es ss aE aS)
 (h1:w1=w.alloc o) (hL:∀ a ∈ L,iT ns ro a) (hC:Cu w1 L wr) (hI:InA ro t0 (x :: d) b1 o1 b' o') :
 ∃ b3 o3 cap,wr.cell? ⟨b1,o1,none⟩=some (.int .i64 5)/\wr.cell? ⟨b1,o1 + 3,none⟩=some (.slice (some ⟨b3,o3,none⟩) 1 cap)/\InA ro t0 d b3 o3 b' o':=by
 obtain ⟨hT,b3,o3,cap,h2,h3⟩:=hI
 have hk:=hT.k
 have hlt:=(H.rd _ _ _ hk).1
 refine ⟨b3,o3,cap,(hC.old h1).no hlt (H.rd _ _ _ hk).2.1 fun hin=>?_,(hC.old h1).no hlt (H.rd _ _ _ h2).2.1 fun hin=>?_,h3⟩
 · have:=(hL _ hin).1
   simp only at this
   rw [hk] at this
   have h5:(cB (x :: d) t0).k=5:=rfl
   rw [h5] at this
   cases this
 · have:=(hL _ hin).1
   simp only at this
   rw [h2] at this
   cases this
theorem Rs.last {ns:List ByteArray} {ro:RO} {w w1 wr:World} {es:List En} {ss:List St} {aE:Option Nat} {b cE cS:Nat} {ver:Int} {L:List (Nat × Nat)} {t0:Ty} {b1 o1 b' o':Nat} (H:Rs ns ro w es ss aE (some b))
 (h1:w1=w.alloc (.cells #[.int .i64 ver,.slice (aR aE 0) es.length cE,.slice (aR (some b) 0) ss.length cS] 25)) (hL:∀ a ∈ L,iT ns ro a) (hC:Cu w1 L wr) (h5:t0.k ≠ 5) (hI:InA ro t0 [] b1 o1 b' o') :
 ∃ kk,wr.cell? ⟨b1,o1,none⟩=some (.int .i64 kk)/\kk ≠ 5/\(b1=b'/\o1=o')/\wr.cell? ⟨w.heap.size,1,none⟩=some (.slice (aR aE 0) es.length cE)/\TyAt ro b' o' t0/\True:=by
 obtain ⟨⟨e1,e2⟩,hT⟩:=hI
 subst e1 e2
 have hlt:=(H.rd _ _ _ hT.k).1
 have hcell:=(hC.old h1).cell b1 o1 hlt
 by_cases hin:(b1,o1) ∈ L
 · rw [if_pos hin] at hcell
   exact ⟨7,hcell,by decide,⟨rfl,rfl⟩,hC.loc h1 (H.lt hL) rfl,hT,trivial⟩
 · rw [if_neg hin,(H.rd _ _ _ hT.k).2.1] at hcell
   exact ⟨t0.k,hcell,h5,⟨rfl,rfl⟩,hC.loc h1 (H.lt hL) rfl,hT,trivial⟩
def DnT (es:List En) (L:List (Nat × Nat)) (t0:Ty) (b o m:Nat):Prop:=∀ (j:Nat) (e:En),j < m->es[j]? = some e->t0.k=6->e.nm=t0.n->(b,o) ∈ L
theorem DnF.succ {ns:List ByteArray} {ro:RO} {L L':List (Nat × Nat)} {s:St} {m bF oF b' o' c:Nat} {f:Fl} {d:List Int} {t0:Ty} {es:List En} (h:DnF ns ro L s (.slice (some ⟨bF,oF,none⟩) s.fs.length c) m) (hL:∀ a ∈ L,a ∈ L') (hf:s.fs[m]? = some f) (hw:yS d t0 f.ty)
 (hI:InA ro t0 d bF (oF + m * 7 + 2) b' o') (hn:ns=es.map En.nm) (hT:DnT es L' t0 b' o' es.length):DnF ns ro L' s (.slice (some ⟨bF,oF,none⟩) s.fs.length c) (m + 1):=by
 intro k g b off cap hk hg he
 rcases bQ k m with h1 | h1
 · exact (h k g b off cap h1 hg he).mono hL
 · obtain rfl:k=m:=by omega
   rw [hf] at hg
   obtain rfl:=aZ hg
   simp only [Value.slice.injEq,aC,Addr.mk.injEq] at he
   obtain ⟨⟨rfl,rfl,_⟩,_⟩:=he
   refine ⟨d,t0,hw,fun b2 o2 hI2 hk6 hnm=>?_⟩
   obtain ⟨rfl,rfl⟩:=hI.uniq hI2
   rw [hn] at hnm
   obtain ⟨e,hm,hen⟩:=List.mem_map.1 hnm
   obtain ⟨j,hj⟩:=List.mem_iff_getElem?.1 hm
   exact hT j e (aY.1 hj).1 hj hk6 hen
theorem DnS.succ {ns:List ByteArray} {ro:RO} {w:World} {L':List (Nat × Nat)} {ss:List St} {b m c:Nat} {o:Option Addr} {s:St} (h:DnS ns ro w L' ss (some b) m) (hs:ss[m]? = some s) (hc:w.cell? ⟨b,m * 2 + 1,none⟩=some (.slice o s.fs.length c))
 (hF:DnF ns ro L' s (.slice o s.fs.length c) s.fs.length):DnS ns ro w L' ss (some b) (m + 1):=by
 intro i s2 b2 u hi hs2 hb hu
 rcases bQ i m with h1 | h1
 · exact h i s2 b2 u h1 hs2 hb hu
 · obtain rfl:i=m:=by omega
   cases hb
   rw [hs] at hs2
   obtain rfl:=aZ hs2
   rw [hc] at hu
   obtain rfl:=aZ hu
   exact hF
theorem Rs.each {ns:List ByteArray} {ro:RO} {w w1 wr:World} {es:List En} {ss:List St} {aE:Option Nat} {b cE cS:Nat} {ver:Int} {L:List (Nat × Nat)} {t0:Ty} {b1 o1 j:Nat} (H:Rs ns ro w es ss aE (some b))
 (h1:w1=w.alloc (.cells #[.int .i64 ver,.slice (aR aE 0) es.length cE,.slice (aR (some b) 0) ss.length cS] 25)) (hL:∀ a ∈ L,iT ns ro a) (hC:Cu w1 L wr) (hT:TyAt ro b1 o1 t0) (hj:j < es.length) :
 ∃ e bE,∃ _:Unit,∃ o2 n2 c2 o3 n3 c3 kk,es[j]? = some e/\aE=some bE/\wr.cell? ⟨bE,j * 3,none⟩=some (.string e.nm)/\wr.cell? ⟨bE,j * 3 + 1,none⟩=some (.slice o2 n2 c2)/\wr.cell? ⟨bE,j * 3 + 2,none⟩=some (.slice o3 n3 c3)/\
  wr.cell? ⟨b1,o1,none⟩=some (.int .i64 kk)/\wr.cell? ⟨b1,o1 + 2,none⟩=some (.string t0.n)/\b1 < wr.heap.size/\wr.frozen? ⟨b1,o1,none⟩=false/\(((b1,o1) ∈ L/\kk=7)\/((b1,o1) ∉ L/\kk=t0.k)):=by
 obtain ⟨e,he⟩:∃ e,es[j]? = some e:=⟨_,aT hj⟩
 obtain ⟨bE,u1,u2,e1,e2,e3,e4,e5,e6,⟨o2,n2,c2,rfl⟩,o3,n3,c3,rfl⟩:=H.e j e he
 have hO:=hC.old h1
 have no:∀ off,(bE,off) ∉ L:=fun off hin=>e3 _ _ (hL _ hin).1
 have hlt:=(H.rd _ _ _ hT.k).1
 have hst:ro.st b1 ≠ 0:=H.fr _ _ _ hT.s (by omega)
 have hfz:wr.frozen? ⟨b1,o1,none⟩=false:=by rw [hO.fz b1 o1 hlt]; exact (H.rd _ _ _ hT.k).2.2 hst
 have hnm:=hO.no hlt (H.rd _ _ _ hT.n).2.1 (tG hL hT).2.1
 have hcell:=hO.cell b1 o1 hlt
 have hsz:b1 < wr.heap.size:=Nat.lt_of_lt_of_le hlt hO.sz
 by_cases hin:(b1,o1) ∈ L
 · rw [if_pos hin] at hcell
   exact ⟨e,bE,(),o2,n2,c2,o3,n3,c3,7,he,e1,hO.no e2 e4 (no _),hO.no e2 e5 (no _),hO.no e2 e6 (no _),hcell,hnm,hsz,hfz,.inl ⟨hin,rfl⟩⟩
 · rw [if_neg hin,(H.rd _ _ _ hT.k).2.1] at hcell
   exact ⟨e,bE,(),o2,n2,c2,o3,n3,c3,t0.k,he,e1,hO.no e2 e4 (no _),hO.no e2 e5 (no _),hO.no e2 e6 (no _),hcell,hnm,hsz,hfz,.inr ⟨hin,rfl⟩⟩
theorem Cu.drewN {w wr:World} {L:List (Nat × Nat)} (h:Cu w L wr) (n:Nat):Cu w L (wr.drewN n):=⟨h.sz,h.cell,h.fz,h.keep,h.os,h.tape,h.output⟩
theorem VW {a b:ByteArray} (h:(a.toList == b.toList)=true):a=b:=by
 have h1:=eq_of_beq h
 rw [jZ,jZ] at h1
 rw [<-jT a,h1,jT]
theorem V1 {a b:ByteArray} (h:(a.toList == b.toList)=false):a ≠ b:=fun e=>by
 rw [e,beq_self_eq_true] at h; cases h
theorem kk6 {p:Prop} {q:Prop} {t0:Ty} (h:(p/\(6:Int)=7)\/(q/\(6:Int)=t0.k)):t0.k=6:=by
 rcases h with ⟨_,h⟩ | ⟨_,h⟩
 · cases h
 · exact h.symm
theorem DnT.skip {es:List En} {L:List (Nat × Nat)} {t0:Ty} {b o m:Nat} {e:En} (h:DnT es L t0 b o m) (he:es[m]? = some e) (hn:t0.k=6->e.nm=t0.n->False):DnT es L t0 b o (m + 1):=by
 intro j e2 hj he2 hk hnm
 rcases bQ j m with h1 | h1
 · exact h j e2 h1 he2 hk hnm
 · obtain rfl:j=m:=by omega
   rw [he] at he2
   obtain rfl:=aZ he2
   exact (hn hk hnm).elim
theorem DnT.other {es:List En} {L:List (Nat × Nat)} {t0:Ty} {b o m:Nat} {kk:Int} (h:DnT es L t0 b o m) (hk:(((b,o) ∈ L/\kk=7)\/((b,o) ∉ L/\kk=t0.k))) (h6:¬ kk=6):DnT es L t0 b o (m + 1):=by
 intro j e2 hj he2 hk6 hnm
 rcases hk with ⟨hin,_⟩ | ⟨_,hk⟩
 · exact hin
 · exact absurd (hk.trans hk6) h6
theorem Rs.mark {ns:List ByteArray} {ro:RO} {w w1 wr:World} {es:List En} {ss:List St} {aE aS:Option Nat} {L:List (Nat × Nat)} {o:Obj} {t0:Ty} {b1 o1 j:Nat} {e:En} (H:Rs ns ro w es ss aE aS) (h1:w1=w.alloc o) (hL:∀ a ∈ L,iT ns ro a) (hC:Cu w1 L wr)
 (hT:TyAt ro b1 o1 t0) (he:es[j]? = some e) (hk:t0.k=6) (hn:t0.n=e.nm):(∀ a ∈ (b1,o1) :: L,iT ns ro a)/\Cu w1 ((b1,o1) :: L) (wr.setCell ⟨b1,o1,none⟩ (.int .i64 7)):=by
 have hst:ro.st b1 ≠ 0:=H.fr _ _ _ hT.s (by omega)
 have hlt:=(H.rd _ _ _ hT.k).1
 refine ⟨fun a ha=>?_,?_⟩
 · rcases List.mem_cons.1 ha with rfl | ha
   · refine ⟨by rw [<-hk]; exact hT.k,⟨e.nm,?_,by rw [<-hn]; exact hT.n⟩,?_⟩
     · rw [H.n]; exact List.mem_map.2 ⟨e,bH he,rfl⟩
     · rcases hT.st with h | h | h
       · exact absurd h hst
       · exact .inl h
       · exact .inr h
   · exact hL a ha
 · subst h1
   refine hC.set (u:=.int .i64 t0.k) (by simp; omega) ?_
   rw [World.cell?_alloc_lt w o ⟨b1,o1,none⟩ hlt]
   exact (H.rd _ _ _ hT.k).2.1
theorem BG (w:World) (bp:Nat) (ver:Int) (aE aS:Option Nat) (cE cS:Nat) (es:List En) (ss:List St) (ns:List ByteArray) (ro:RO) (H:Rs ns ro w es ss aE aS) (hlE:es.length<=1000000) (hlS:ss.length<=1000000) (hlF:∀ s ∈ ss,s.fs.length<=1000000) (h3:w.cell? ⟨bp,3,none⟩=some (.int .i64 ver)) (h4:w.cell? ⟨bp,4,none⟩=some (.slice (aR aE 0) es.length cE)) (h5:w.cell? ⟨bp,5,none⟩=some (.slice (aR aS 0) ss.length cS)) :
 Calls Tryz.prog 41 #[.pointer (some ⟨bp,0,none⟩)] w fun e w'=>e=.returned (.tuple #[])/\∃ L,(∀ a ∈ L,iT ns ro a)/\Cu w L w'/\DnS ns ro w L ss aS ss.length:=by
 go_enter Tryz.func41,Tryz.ntmps41
 have A:Aside (Rs ns ro w es ss aE aS/\∀ s ∈ ss,s.fs.length<=1000000):=⟨H,hlF⟩
 clear H hlF
 go_wp2
 obtain ⟨w1,hw1⟩:∃ w1,w1=w.alloc (.cells #[.int .i64 ver,.slice (aR aE 0) es.length cE,.slice (aR aS 0) ss.length cS] 25):=⟨_,rfl⟩
 rw [<-hw1]
 have A1:Aside (w1=w.alloc (.cells #[.int .i64 ver,.slice (aR aE 0) es.length cE,.slice (aR aS 0) ss.length cS] 25)):=hw1
 clear hw1
 go_loopg [15] ss.length (fun k i wr=>∃ m L,i=.int .i64 (m:Nat)/\m + k=ss.length/\Aside ((∀ a ∈ L,iT ns ro a)/\Cu w1 L wr/\DnS ns ro w L ss aS m))
 case atStart=>exact ⟨0,[],rfl,by simp,fun a h=>(by cases h),Cu.refl _,fun i s b u h=>(by omega)⟩
 case round=>
  obtain ⟨m,L,rfl,hm,hR⟩:=hrel
  by_cases hlt:m < ss.length
  · have B:=A.out.1.outer A1.out hR.out.1 hR.out.2.1 hlt
    obtain ⟨s,b,o,c,hx,rfl,q1,q2,q3,q4⟩:=B
    rw [sJ] at q1 ⊢
    have q3':Aside (FzR ro (s.fs.map bI) (.slice o s.fs.length c)):=q3
    have hx':Aside (ss[m]? = some s):=hx
    have hlf:s.fs.length<=1000000:=A.out.2 s (bH hx)
    clear hx q3
    have hcS:Aside (w.cell? ⟨b,m * 2 + 1,none⟩=some (.slice o s.fs.length c)):=q4
    clear q4
    go_wp2
    obtain ⟨wo,rfl⟩:∃ wo:World,wo=wr:=⟨_,rfl⟩
    go_loopg [25] s.fs.length (fun k i wr=>∃ q L',i=.int .i64 (q:Nat)/\q + k=s.fs.length/\Aside ((∀ a ∈ L',iT ns ro a)/\Cu w1 L' wr/\DnS ns ro w L' ss (some b) m/\DnF ns ro L' s (.slice o s.fs.length c) q))
    case atStart=>exact ⟨0,L,rfl,by simp,hR.out.1,hR.out.2.1,hR.out.2.2,fun k f b off cap h=>(by omega)⟩
    case round=>
     obtain ⟨q,L',rfl,hq,hR'⟩:=hrel
     by_cases hlq:q < s.fs.length
     · have B:=A.out.1.inner A1.out hR'.out.1 hR'.out.2.1 hx'.out hcS.out q3'.out hlq
       obtain ⟨f,bF,oF,d,t0,b',o',hf,rfl,q5,q6,q7,q8⟩:=B
       have q8':Aside (s.fs[q]? = some f/\yS d t0 f.ty/\InA ro t0 d bF (oF + q * 7 + 2) b' o'):=⟨hf,q7,q8⟩
       clear hf q7 q8 q1 q2
       rw [sJ] at q5
       go_wp2
       obtain ⟨wi,rfl⟩:∃ wi:World,wi=wr:=⟨_,rfl⟩
       go_loopg [5] d.length (fun k v wr=>∃ d' b1 o1,v=.pointer (some ⟨b1,o1,none⟩)/\Aside (d'.length=k)/\Aside (InA ro t0 d' b1 o1 b' o')/\wr=wi)
       case atStart=>exact ⟨d,bF,_,rfl,rfl,q8'.out.2.2,rfl⟩
       case round=>
        obtain ⟨d',b1,o1,rfl,hd,hI,rfl⟩:=hrel
        match d',hd,hI with
        | x :: d2,hd,hI=>
         have B:=A.out.1.step A1.out hR'.out.1 hR'.out.2.1 hI.out
         obtain ⟨b3,o3,cap,q9,q10,q11⟩:=B
         have hI2:Aside (InA ro t0 d2 b3 o3 b' o'):=q11
         clear q11
         go_wp2
         go_roundg d2.length
         case rel=>exact ⟨d2,b3,o3,rfl,rfl,hI2.out,rfl⟩
         case measure=>have:=hd.out; simp only [List.length_cons] at this; omega
        | [],hd,hI=>
         have B:=A.out.1.last A1.out hR'.out.1 hR'.out.2.1 q8'.out.2.1.2.1 hI.out
         obtain ⟨kk,q9,q10,⟨rfl,rfl⟩,q12,q13,_⟩:=B
         have q13':Aside (TyAt ro b1 o1 t0):=q13
         clear q13
         go_wp2
         clear q9 q10 q12
         obtain ⟨wj,rfl⟩:∃ wj:World,wj=wr:=⟨_,rfl⟩
         go_loopg [50] es.length (fun k i wr=>∃ j L2,i=.int .i64 (j:Nat)/\j + k=es.length/\Aside ((∀ a ∈ L2,iT ns ro a)/\Cu w1 L2 wr/\(∀ a ∈ L',a ∈ L2)/\DnT es L2 t0 b1 o1 j))
         case atStart=>exact ⟨0,L',rfl,by simp,hR'.out.1,hR'.out.2.1,fun _ h=>h,fun i e h=>(by omega)⟩
         case round=>
          obtain ⟨j,L2,rfl,hj,hR2⟩:=hrel
          by_cases hlj:j < es.length
          · have B:=A.out.1.each A1.out hR2.out.1 hR2.out.2.1 q13'.out hlj
            obtain ⟨e,bE,u1,o2,n2,c2,o3,n3,c3,kk,hx2,rfl,r1,r2,r3,r4,r5,r6,r7,r8⟩:=B
            rw [sJ]
            have hx2':Aside (es[j]? = some e/\(((b1,o1) ∈ L2/\kk=7)\/((b1,o1) ∉ L2/\kk=t0.k))):=⟨hx2,r8⟩
            clear hx2 r8
            by_cases h6:kk=6
            · subst h6
              go_wp2
              go_quiet (fail)
              go_wp2
              · rename_i hnm
                go_roundg (es.length - (j + 1))
                case rel=>
                 have e1:=kk6 hx2'.out.2
                 have e2:=VW hnm
                 exact ⟨j + 1,(b1,o1) :: L2,by simp,by omega,(A.out.1.mark A1.out hR2.out.1 hR2.out.2.1 q13'.out hx2'.out.1 e1 e2).1,(A.out.1.mark A1.out hR2.out.1 ((hR2.out.2.1.alloc _).drewN _) q13'.out hx2'.out.1 e1 e2).2,fun a h=>List.mem_cons_of_mem _ (hR2.out.2.2.1 a h),fun _ _ _ _ _ _=>List.mem_cons_self ..⟩
                case measure=>omega
              · rename_i hnm
                go_roundg (es.length - (j + 1))
                case rel=>exact ⟨j + 1,L2,by simp,by omega,hR2.out.1,(hR2.out.2.1.alloc _).drewN _,hR2.out.2.2.1,hR2.out.2.2.2.skip hx2'.out.1 fun _ e=>V1 hnm e.symm⟩
                case measure=>omega
            · have hd:decide (kk=6)=false:=decide_eq_false h6
              have hd2:(kk == 6)=false:=beq_eq_false_iff_ne.2 h6
              go_wp2
              go_quiet (fail)
              go_wp2
              go_roundg (es.length - (j + 1))
              case rel=>exact ⟨j + 1,L2,by simp,by omega,hR2.out.1,(hR2.out.2.1.alloc _).drewN _,hR2.out.2.2.1,hR2.out.2.2.2.other hx2'.out.2 h6⟩
              case measure=>omega
          · obtain rfl:j=es.length:=by omega
            go_wp2
            go_roundg (s.fs.length - (q + 1))
            case rel=>exact ⟨q + 1,L2,by simp,by omega,hR2.out.1,hR2.out.2.1,hR'.out.2.2.1.mono hR2.out.2.2.1,hR'.out.2.2.2.succ hR2.out.2.2.1 q8'.out.1 q8'.out.2.1 q8'.out.2.2 A.out.1.n hR2.out.2.2.2⟩
            case measure=>omega
     · obtain rfl:q=s.fs.length:=by omega
       go_wp2
       go_roundg (ss.length - (m + 1))
       case rel=>exact ⟨m + 1,L',by simp,by omega,hR'.out.1,hR'.out.2.1,hR'.out.2.2.1.succ hx'.out hcS.out hR'.out.2.2.2⟩
       case measure=>omega
  · obtain rfl:m=ss.length:=by omega
    go_wp2
    exact bodyPost_end (results_none rfl _ _ _) rfl ⟨rfl,L,hR.out.1,hR.out.2.1.old A1.out,hR.out.2.2⟩
theorem AA {α β:Type} {R S:α->β->Prop} {l:List α} {m:List β} (h:All2 R l m) (hi:∀ x ∈ l,∀ y,R x y->S x y):All2 S l m:=⟨h.1,fun i x y hx hy=>hi x (bH hx) y (h.2 i x y hx hy)⟩
def ind:C->Bool
 | .fz _ | .fp _ _ | .fn _ _ | .fm _ _=>false
 | _=>true
theorem PD {γ:List Gb} {ro ro2:RO} {c:C} {v:Value} (hc:ind c=true) (h:c.rel γ ro v):c.rel γ ro2 v:=by
 cases c<;>first | exact h | cases hc
theorem AZ {γ:List Gb} {ro ro2:RO} {cs:List C} {vs:List Value} (hc:cs.all ind=true) (h:All2 (C.rel γ ro) cs vs):All2 (C.rel γ ro2) cs vs:=
 AA h fun x hx y hr=>PD (List.all_eq_true.1 hc x hx) hr
theorem EX {l:List St} {i:Nat} {s:St} (h:l[i]? = some s) (j:Nat) (hj:j < 2):(l.map aO).flatten[i * 2 + j]? = (aO s)[j]?:=by
 rw [fP (sz:=2) (fun x hx=>by obtain ⟨y,_,rfl⟩:=List.mem_map.1 hx; rfl) (by rw [List.length_map]; exact (aY.1 h).1) hj,List.getElem?_map,h]; rfl
theorem xF {l:List En} {i:Nat} {e:En} (h:l[i]? = some e) (j:Nat) (hj:j < 3):(l.map aQ).flatten[i * 3 + j]? = (aQ e)[j]?:=by
 rw [fP (sz:=3) (fun x hx=>by obtain ⟨y,_,rfl⟩:=List.mem_map.1 hx; rfl) (by rw [List.length_map]; exact (aY.1 h).1) hj,List.getElem?_map,h]; rfl
theorem EM {ns:List ByteArray} {ro:RO} {L:List (Nat × Nat)} (hL:∀ a ∈ L,iT ns ro a):∀ (ss:List St) (vs:List Value),All2 (C.fv ro) (ss.map aO).flatten vs->(∀ (i:Nat) (s:St) (u:Value),ss[i]? = some s->vs[i * 2 + 1]? = some u->DnF ns ro L s u s.fs.length)->
 All2 (C.fv (l9 L ro)) ((ss.map (mP ns)).map aO).flatten vs
 | [],vs,h,_=>by
  have h:All2 (C.fv ro) [] vs:=h
  obtain rfl:=h.nil_inv
  exact .nil
 | s :: ss,vs,h,hc=>by
  have h:All2 (C.fv ro) (.vl (.string s.nm) :: .fz (s.fs.map bI) :: (ss.map aO).flatten) vs:=h
  obtain ⟨v0,vs',rfl,a0,h⟩:=h.cons_inv
  obtain ⟨v1,vs',rfl,a1,h⟩:=h.cons_inv
  have a1:FzR ro (s.fs.map bI) v1:=a1
  have hd:=hc 0 s v1 rfl rfl
  refine All2.cons a0 (All2.cons ?_ (EM hL ss vs' h fun i s' u h1 h2=>hc (i + 1) s' u (by simpa using h1) (by rw [show (i + 1) * 2 + 1=i * 2 + 1 + 1 + 1 by omega]; simpa using h2)))
  show FzR (l9 L ro) ((s.fs.map (K5 ns)).map bI) v1
  exact U1 hL a1 fun i f b off cap h1 h2=>hd i f b off cap (aY.1 h1).1 h1 h2
theorem OQ {ns:List ByteArray} {ro:RO} {L:List (Nat × Nat)} (hL:∀ a ∈ L,iT ns ro a) {es:List En} {vs:List Value} (h:All2 (C.fv ro) (es.map aQ).flatten vs):All2 (C.fv (l9 L ro)) (es.map aQ).flatten vs:=by
 refine AA h fun x hx y hr=>?_
 obtain ⟨r,hr1,hr2⟩:=List.mem_flatten.1 hx
 obtain ⟨e,_,rfl⟩:=List.mem_map.1 hr1
 simp only [aQ,List.mem_cons,List.not_mem_nil,or_false] at hr2
 rcases hr2 with rfl | rfl | rfl
 · exact hr
 · have hr:FzR ro (e.ns.map cC) y:=hr
   refine D7 hL hr (fun x hx=>by obtain ⟨z,_,rfl⟩:=List.mem_map.1 hx; rfl) fun x hx c hc=>?_
   obtain ⟨z,_,rfl⟩:=List.mem_map.1 hx
   exact ⟨_,List.mem_singleton.1 hc⟩
 · have hr:FzR ro (e.vs.map gM) y:=hr
   refine D7 hL hr (fun x hx=>by obtain ⟨z,_,rfl⟩:=List.mem_map.1 hx; rfl) fun x hx c hc=>?_
   obtain ⟨z,_,rfl⟩:=List.mem_map.1 hx
   exact ⟨_,List.mem_singleton.1 hc⟩
theorem pG {X:Ctx} {E:Es} {ro:RO} {w:World} (h:Rel X E ro w) {n:Nat} {g:Gb} {xs:List (List C)} {T sz:Nat} (hn:E[n]? = some (g,.row xs T sz)) {k:Nat} {c:C} (hk:xs.flatten[k]? = some c) :
 ∃ b u,g.ob=some b/\b < w.heap.size/\(∀ v off,ro b off ≠ some v)/\g.vs[k]? = some u/\w.cell? ⟨b,k,none⟩=some u/\c.fv ro u:=by
 have hon:=h.own n g _ hn
 obtain ⟨h1,h2,h3,h4,hown,hrel,h7⟩:=hon
 obtain ⟨u,hu,hc⟩:=hrel.get hk
 have hxne:xs.length ≠ 0:=fun e=>by
  rw [List.eq_nil_of_length_eq_zero e] at hk; simp at hk
 cases hb:g.ob with
 | none=>
  exfalso
  rw [hb] at hown
  rcases hown.2 with ⟨_,h0⟩ | ⟨b,cap0,cur,hv,_⟩
  · exact hxne h0
  · simp [aR] at hv
 | some b=>
  refine ⟨b,u,rfl,(h.own n g _ hn).lt rfl hb,fun v off hv=>?_,hu,?_,hc⟩
  · have:=h.apart b off v hv n g _ hn hb
    simp [B.live] at this
  · rw [hb] at hown
    have:=World.ownsRow.cells (h:=hown) (g:=b) rfl k u hu
    rwa [cV,Nat.zero_add] at this
abbrev W9 (ver:Int) (bad:Bool) (at_:Int) (nE nS:Nat):List C:=[.pt 1 0,.vl (.bool bad),.vl (.int .i64 at_),.vl (.int .i64 ver),.sl 3 nE,.sl 4 nS]
section
variable {w0 w:World} {ro0 ro:RO} {g0 g1 g2 g3 g4:Gb} {b1:B} {es:List En} {ss:List St} {ver at_:Int} {bad:Bool} {T0 T2 T3 T4:TypeId} {c0:List C}
abbrev AW (g0 g1 g2 g3 g4:Gb) (b1:B) (c0:List C) (ver:Int) (bad:Bool) (at_:Int) (es:List En) (ss:List St) (T0 T2 T3 T4:TypeId):Es:=
 [(g0,.cells c0 T0),(g1,b1),(g2,.cells (W9 ver bad at_ es.length ss.length) T2),(g3,.row (es.map aQ) T3 3),(g4,.row (ss.map aO) T4 2)]
theorem VP (h:Rel ⟨w0,[],ro0,[]⟩ (AW g0 g1 g2 g3 g4 b1 c0 ver bad at_ es ss T0 T2 T3 T4) ro w) (h0:∀ b off v,ro0 b off=some v->off=0/\b < w0.heap.size) (hw:∀ s ∈ ss,∀ f ∈ s.fs,∃ d t0,yS d t0 f.ty):Rs (es.map En.nm) ro w es ss g3.ob g4.ob where
 rd:=fun b off v hv=>⟨h.cell_lt hv,h.rd b off v hv⟩
 fr:=fun b off v hv ho=>by
  rcases h.rob b off v hv with q | ⟨_,q⟩
  · exact absurd (h0 b off v q).1 ho
  · exact q
 e:=fun j e he=>by
  obtain ⟨b,u0,q1,q2,q3,q4,q5,q6⟩:=pG h (n:=3) rfl (xF he 0 (by decide))
  obtain ⟨b',u1,r1,r2,r3,r4,r5,r6⟩:=pG h (n:=3) rfl (xF he 1 (by decide))
  obtain ⟨b'',u2,s1,s2,s3,s4,s5,s6⟩:=pG h (n:=3) rfl (xF he 2 (by decide))
  rw [q1] at r1 s1
  cases r1
  cases s1
  have q6:u0=.string e.nm:=q6
  subst q6
  have r6:FzR ro (e.ns.map cC) u1:=r6
  have s6:FzR ro (e.vs.map gM) u2:=s6
  exact ⟨b,u1,u2,q1,q2,q3,q5,r5,s5,FzR.slice r6,FzR.slice s6⟩
 s:=fun i s hs=>by
  obtain ⟨b,u,q1,q2,q3,q4,q5,q6⟩:=pG h (n:=4) rfl (EX hs 1 (by decide))
  exact ⟨b,u,q1,q2,q3,q5,q6⟩
 w:=hw
 n:=rfl
theorem KC (h:Rel ⟨w0,[],ro0,[]⟩ (AW g0 g1 g2 g3 g4 b1 c0 ver bad at_ es ss T0 T2 T3 T4) ro w) :
 ∃ bp,g2.ob=some bp/\w.cell? ⟨bp,3,none⟩=some (.int .i64 ver)/\w.cell? ⟨bp,4,none⟩=some (.slice (aR g3.ob 0) es.length g3.cap)/\w.cell? ⟨bp,5,none⟩=some (.slice (aR g4.ob 0) ss.length g4.cap):=by
 obtain ⟨h1,bp,h2,h3,h4⟩:=h.own 2 g2 _ rfl
 have l3:=(h.own 3 g3 _ rfl).2.1
 have l4:=(h.own 4 g4 _ rfl).2.1
 rw [List.length_map] at l3 l4
 obtain ⟨u3,a3,r3⟩:=h4.get (i:=3) rfl
 obtain ⟨u4,a4,r4⟩:=h4.get (i:=4) rfl
 obtain ⟨u5,a5,r5⟩:=h4.get (i:=5) rfl
 have r3:u3=.int .i64 ver:=r3
 obtain ⟨k4,e4,_,_,_,f4⟩:=r4
 obtain ⟨k5,e5,_,_,_,f5⟩:=r5
 obtain rfl:g3=k4:=aZ e4
 obtain rfl:g4=k5:=aZ e5
 have cell:∀ (j:Nat) (u:Value),g2.vs[j]? = some u->w.cell? ⟨bp,j,none⟩=some u:=fun j u hu=>by
  unfold World.cell?
  rw [h3]
  simpa using hu
 refine ⟨bp,h2,cell 3 _ (by rw [a3,r3]),cell 4 _ (by rw [a4,f4 l3.symm]),cell 5 _ (by rw [a5,f5 l4.symm])⟩
theorem YU {L:List (Nat × Nat)} {w':World} (h:Rel ⟨w0,[],ro0,[]⟩ (AW g0 g1 g2 g3 g4 b1 c0 ver bad at_ es ss T0 T2 T3 T4) ro w) (h0:∀ b off v,ro0 b off=some v->off=0/\b < w0.heap.size) (hc0:c0.all ind=true)
 (hL:∀ a ∈ L,iT (es.map En.nm) ro a) (hC:Cu w L w') (hD:DnS (es.map En.nm) ro w L ss g4.ob ss.length) :
 Rel ⟨w0,[],ro0,[]⟩ (AW g0 g1 g2 g3 g4 .dead c0 ver bad at_ es (ss.map (mP (es.map En.nm))) T0 T2 T3 T4) (l9 L ro) w':=by
 have hfresh:∀ a ∈ L,w0.heap.size<=a.1:=fun a ha=>by
  obtain ⟨_,⟨m,_,h2⟩,_⟩:=hL a ha
  rcases h.rob _ _ _ h2 with q | ⟨q | q,_⟩
  · have:=(h0 _ _ _ q).1; omega
  · exact q
  · cases q
 have hro:∀ b off v,l9 L ro b off=some v->∃ v',ro b off=some v':=fun b off v hv=>by
  by_cases hin:(b,off) ∈ L
  · exact ⟨_,(hL _ hin).1⟩
  · rw [c7 hin] at hv; exact ⟨v,hv⟩
 have hblk:∀ (n:Nat) (g:Gb) (blk:B) (b:Nat),(AW g0 g1 g2 g3 g4 b1 c0 ver bad at_ es ss T0 T2 T3 T4)[n]? = some (g,blk)->g.ob=some b->blk.live=true->w'.heap[b]? = w.heap[b]?:=fun n g blk b hn hb hl=>by
  refine hC.keep b ((h.own n g blk hn).lt hl hb) fun off hin=>?_
  have:=h.apart b off _ (hL _ hin).1 n g blk hn hb
  rw [hl] at this; cases this
 have hlen:(ss.map (mP (es.map En.nm))).length=ss.length:=by rw [List.length_map]
 have old:∀ (n:Nat) (g:Gb) (blk:B),(AW g0 g1 g2 g3 g4 .dead c0 ver bad at_ es (ss.map (mP (es.map En.nm))) T0 T2 T3 T4)[n]? = some (g,blk)->blk.live=true->∃ blk0,(AW g0 g1 g2 g3 g4 b1 c0 ver bad at_ es ss T0 T2 T3 T4)[n]? = some (g,blk0)/\blk0.live=true:=fun n g blk hn hl=>by
  match n,hn with
  | 0,hn=>cases hn; exact ⟨_,rfl,rfl⟩
  | 1,hn=>cases hn; cases hl
  | 2,hn=>cases hn; exact ⟨_,rfl,rfl⟩
  | 3,hn=>cases hn; exact ⟨_,rfl,rfl⟩
  | 4,hn=>cases hn; exact ⟨_,rfl,rfl⟩
  | n + 5,hn=>cases hn
 refine ⟨fun n g blk hn=>?_,fun n m gn gm bn bm b hn hm en em ln lm=>?_,fun b off v hv n g blk hn hb=>?_,fun b off v hv=>?_,fun b off v hv=>?_,fun b off v hv=>?_,fun n b g blk hn hb hl=>?_,fun n g hn=>by simp at hn,Nat.le_trans h.sz hC.sz,fun b hb hp=>?_,hC.os.trans h.os,hC.tape.trans h.tape,hC.output.trans h.output⟩
 · match n,hn with
   | 0,hn=>
    cases hn
    obtain ⟨k1,b,k2,k3,k4⟩:=h.own 0 g0 _ rfl
    exact ⟨k1,b,k2,by rw [hblk 0 g0 _ b rfl k2 rfl]; exact k3,AZ hc0 k4⟩
   | 1,hn=>cases hn; trivial
   | 2,hn=>
    cases hn
    obtain ⟨k1,b,k2,k3,k4⟩:=h.own 2 g2 _ rfl
    refine ⟨k1,b,k2,by rw [hblk 2 g2 _ b rfl k2 rfl]; exact k3,?_⟩
    rw [hlen]
    exact AZ rfl k4
   | 3,hn=>
    cases hn
    obtain ⟨k1,k2,k3,k4,k5,k6,k7⟩:=h.own 3 g3 _ rfl
    refine ⟨k1,k2,k3,k4,?_,OQ hL k6,k7⟩
    have hs:=B.On.same (w':=w') (h.own 3 g3 _ rfl) (.refl _) (.refl _) fun b hb=>hblk 3 g3 _ b rfl hb rfl
    exact hs.2.2.2.2.1
   | 4,hn=>
    cases hn
    have hs:=B.On.same (w':=w') (h.own 4 g4 _ rfl) (.refl _) (.refl _) fun b hb=>hblk 4 g4 _ b rfl hb rfl
    obtain ⟨k1,k2,k3,k4,k5,k6,k7⟩:=hs
    rw [List.length_map] at k2 k5
    refine ⟨k1,by rw [List.length_map,hlen]; exact k2,fun x hx=>?_,fun c hc=>?_,by rw [List.length_map,hlen]; exact k5,?_,k7⟩
    · obtain ⟨y,_,rfl⟩:=List.mem_map.1 hx; rfl
    · obtain ⟨r,hr1,hr2⟩:=List.mem_flatten.1 hc
      obtain ⟨y,_,rfl⟩:=List.mem_map.1 hr1
      simp only [aO,List.mem_cons,List.not_mem_nil,or_false] at hr2
      rcases hr2 with rfl | rfl<;>rfl
    · refine EM hL ss _ k6 fun i s u h1 h2=>?_
      obtain ⟨b,u',q1,q2,q3,q4,q5,q6⟩:=pG h (n:=4) rfl (EX h1 1 (by decide))
      rw [q4] at h2
      obtain rfl:=aZ h2
      exact hD i s b u' (aY.1 h1).1 h1 q1 q5
   | n + 5,hn=>cases hn
 · obtain ⟨x,hx,lx⟩:=old n gn bn hn ln
   obtain ⟨y,hy,ly⟩:=old m gm bm hm lm
   exact h.inj n m gn gm x y b hx hy en em lx ly
 · by_cases hl:blk.live=true
   · obtain ⟨x,hx,lx⟩:=old n g blk hn hl
     obtain ⟨v',hv'⟩:=hro b off v hv
     have:=h.apart b off v' hv' n g x hx hb
     rw [lx] at this; cases this
   · simpa using hl
 · obtain ⟨v',hv'⟩:=hro b off v hv
   have hlt:=h.cell_lt hv'
   have hrd:=h.rd b off v' hv'
   refine ⟨?_,fun hst=>?_⟩
   · rw [hC.cell b off hlt]
     by_cases hin:(b,off) ∈ L
     · rw [GY hin] at hv; rw [if_pos hin]; exact hv
     · rw [c7 hin] at hv; rw [if_neg hin]; exact (h.rd b off v hv).1
   · rw [hC.fz b off hlt]; exact hrd.2 hst
 · have hno:(b,off) ∉ L:=fun hin=>Nat.lt_irrefl _ (Nat.lt_of_lt_of_le (h0 b off v hv).2 (hfresh _ hin))
   rw [c7 hno]
   exact h.ro0 b off v hv
 · by_cases hin:(b,off) ∈ L
   · refine .inr ⟨.inl (hfresh _ hin),?_⟩
     have:=(hL _ hin).2.2
     show ro.st b ≠ 0
     simp only at this
     omega
   · rw [c7 hin] at hv
     exact h.rob b off v hv
 · obtain ⟨x,hx,lx⟩:=old n g blk hn hl
   exact h.par n b g x hx hb lx
 · rw [hC.keep b (Nat.lt_of_lt_of_le hb h.sz) fun off hin=>Nat.lt_irrefl _ (Nat.lt_of_lt_of_le hb (hfresh _ hin))]
   exact h.keep b hb hp
end
theorem G4:cH 0:=⟨by decide,by decide⟩
theorem p5 {c:Bool} {ts:List Tk} {z:Fs} (h:Tks ts) (hn:z.n < ts.length):cH (gL c ts z):=by
 unfold gL
 cases i7 c ts z
 · exact G4
 · exact (h.g _ (sV hn)).i
theorem lI {c:Bool} {ts:List Tk} {z:Fs} (h:Tks ts) (hn:z.n < ts.length):(cW c ts z).size<=200:=by
 unfold cW
 cases f7 c ts z
 · exact Nat.zero_le _
 · have:=(h.g _ (sV hn)).len
   rw [aN,eY]
   exact this
def TyP (t:Ty):Prop:=∃ d t0,t=cB d t0/\cH t0.k/\t0.k ≠ 5/\t0.e=[]/\t0.n.size<=200/\cH t0.s/\d.length<=4002/\∀ s ∈ d,cH s
structure FlP (f:Fl):Prop where
 n:cH f.num
 m:f.nm.size<=200
 t:TyP f.ty
structure StP (s:St):Prop where
 n:s.nm.size<=200
 l:s.fs.length<=4002
 f:∀ f ∈ s.fs,FlP f
structure EnP (e:En):Prop where
 n:e.nm.size<=200
 l:e.ns.length<=4002
 v:e.vs.length<=4002
 a:∀ n ∈ e.ns,n.size<=200
 b:∀ n ∈ e.vs,cH n
structure ScP (s:Sc):Prop where
 v:cH s.ver
 e:s.es.length<=4002
 l:s.ss.length<=4002
 a:∀ e ∈ s.es,EnP e
 b:∀ t ∈ s.ss,StP t
theorem E7 {ts:List Tk} {z:Fs} (h:Tks ts) (hn:z.n < ts.length):∀ l:List Int,(∀ s ∈ l,cH s)->TyP (gR ts z l).1
 | [],_=>⟨[],_,rfl,⟨by show (_:Int)<=6; decide,by show (6:Int)<=_; decide⟩,by show (6:Int) ≠ 5; decide,rfl,lI h hn,G4,by decide,fun s h=>by cases h⟩
 | s :: r,hl=>by
  rw [gR]
  cases aP 1 (nX s) ts z
  · cases decide (s < 64) && aP 1 (kJ s) ts z
    · exact E7 h hn r fun s hs=>hl s (List.mem_cons_of_mem _ hs)
    · exact ⟨[],_,rfl,⟨by show (_:Int)<=3; decide,by show (3:Int)<=_; decide⟩,by show (3:Int) ≠ 5; decide,rfl,Nat.zero_le _,hl s (List.mem_cons_self ..),by decide,fun s h=>by cases h⟩
  · exact ⟨[],_,rfl,⟨by show (_:Int)<=2; decide,by show (2:Int)<=_; decide⟩,by show (2:Int) ≠ 5; decide,rfl,Nat.zero_le _,hl s (List.mem_cons_self ..),by decide,fun s h=>by cases h⟩
theorem ET {ts:List Tk} {z:Fs} (h:Tks ts) (hn:z.n < ts.length):cH (jP ts z):=p5 h (cA hn).2
theorem OY {ts:List Tk} {z:Fs} (h:Tks ts) (hn:z.n < ts.length):TyP (gS ts z).1:=by
 unfold gS
 cases aP 1 jU ts z
 · cases aP 1 wText ts z
   · exact E7 h hn szs (by unfold szs cH; decide)
   · exact ⟨[],_,rfl,⟨by show (_:Int)<=4; decide,by show (4:Int)<=_; decide⟩,by show (4:Int) ≠ 5; decide,rfl,Nat.zero_le _,ET h (eD hn).2,by decide,fun s h=>by cases h⟩
 · exact ⟨[],_,rfl,⟨by show (_:Int)<=1; decide,by show (1:Int)<=_; decide⟩,by show (1:Int) ≠ 5; decide,rfl,Nat.zero_le _,⟨by show (_:Int)<=0; decide,by show (0:Int)<=_; decide⟩,by decide,fun s h=>by cases h⟩
theorem LG {ts:List Tk} (h:Tks ts):∀ (f:Nat) (d:List Int) (z:Fs),z.n < ts.length->(∀ s ∈ d,cH s)->(∀ s ∈ (iM ts f d z).1,cH s)/\(iM ts f d z).1.length<=d.length + f
 | 0,d,z,_,hd=>⟨hd,Nat.le_refl _⟩
 | f + 1,d,z,hn,hd=>by
  rw [kZ]
  cases aP 1 eJ ts z
  · exact ⟨hd,by show d.length<=_; omega⟩
  · have h1:=eD (k:=1) (w:=eJ) hn
    have h2:=uO h1.2
    have h3:=LO h2.2
    have ih:=LG h f (d ++ [jP ts (bB 1 eJ ts z)]) _ h3.2 fun s hs=>by
     rcases List.mem_append.1 hs with hs | hs
     · exact hd s hs
     · rw [List.mem_singleton.1 hs]; exact ET h h1.2
    rw [aN]
    refine ⟨ih.1,?_⟩
    have:=ih.2
    rw [List.length_append,List.length_singleton] at this
    omega
theorem K6 {ts:List Tk} {z:Fs}:(gS ts z).1.k ≠ 5/\(gS ts z).1.e=[]:=by
 have hS:∀ l:List Int,(gR ts z l).1.k ≠ 5/\(gR ts z l).1.e=[]:=fun l=>by
  induction l with
  | nil=>exact ⟨by show (6:Int) ≠ 5; decide,rfl⟩
  | cons s r ih=>
   rw [gR]
   cases aP 1 (nX s) ts z
   · cases decide (s < 64) && aP 1 (kJ s) ts z
     · exact ih
     · exact ⟨by show (3:Int) ≠ 5; decide,rfl⟩
   · exact ⟨by show (2:Int) ≠ 5; decide,rfl⟩
 unfold gS
 cases aP 1 jU ts z
 · cases aP 1 wText ts z
   · exact hS szs
   · exact ⟨by show (4:Int) ≠ 5; decide,rfl⟩
 · exact ⟨by show (1:Int) ≠ 5; decide,rfl⟩
theorem TyP.leaf {t:Ty} (h:TyP t) (h5:t.k ≠ 5):cH t.k/\t.n.size<=200/\cH t.s:=by
 obtain ⟨d,t0,rfl,h1,h2,h3,h4,h6,_⟩:=h
 cases d with
 | nil=>exact ⟨h1,h4,h6⟩
 | cons s d=>exact absurd rfl h5
theorem PL {ts:List Tk} {z:Fs} (h:Tks ts) (hn:z.n < ts.length):TyP (jC ts z).1:=by
 have h1:=GB (ts.length + 1) [] z hn
 have h2:=LG h (ts.length + 1) [] z hn fun s hs=>by cases hs
 have h3:=K6 (ts:=ts) (z:=(iM ts (ts.length + 1) [] z).2)
 have h4:=(OY h h1.2).leaf h3.1
 have h5:=h.e.le
 have h6:=h2.2
 simp only [List.length_nil] at h6
 exact ⟨_,_,rfl,h4.1,h3.1,h3.2,h4.2.1,h4.2.2,by omega,h2.1⟩
theorem V8 {ts:List Tk} {z:Fs} (h:Tks ts) (hn:z.n < ts.length):FlP (kH ts z).1:=by
 have h1:=kO (c:=false) hn
 have h2:=d5 (c:=false) h1.2
 have h3:=cA (w:=[58]) h2.2
 exact ⟨p5 h hn,lI h h1.2,PL h h3.2⟩
theorem MX {ts:List Tk} (h:Tks ts):∀ (f:Nat) (l:List Fl) (z:Fs),z.n < ts.length->(∀ x ∈ l,FlP x)->(∀ x ∈ (kE ts f l z).1,FlP x)/\(kE ts f l z).1.length<=l.length + f
 | 0,l,z,_,hl=>⟨hl,Nat.le_refl _⟩
 | f + 1,l,z,hn,hl=>by
  rw [lC]
  cases z.bad
  · cases aP 4 [125] ts z
    · cases (aU ts z.n).k != 2
      · have ih:=MX h f (l ++ [(kH ts z).1]) _ (GV hn).2 fun x hx=>by
         rcases List.mem_append.1 hx with hx | hx
         · exact hl x hx
         · rw [List.mem_singleton.1 hx]; exact V8 h hn
        rw [aH,aH,aH]
        refine ⟨ih.1,?_⟩
        have:=ih.2
        rw [List.length_append,List.length_singleton] at this
        omega
      · exact ⟨hl,by simp only [aN,aH]; omega⟩
    · exact ⟨hl,by simp only [aN,aH]; omega⟩
  · exact ⟨hl,by simp only [aN]; omega⟩
theorem WM {ts:List Tk} {z:Fs} (h:Tks ts) (hn:z.n < ts.length):StP (fU ts z).1:=by
 have h1:=d5 (c:=true) hn
 have h2:=cA (w:=[123]) h1.2
 have h3:=MX h (ts.length + 1) [] _ h2.2 fun x hx=>by cases hx
 have h5:=h.e.le
 have h6:=h3.2
 simp only [List.length_nil] at h6
 refine ⟨lI h hn,?_,h3.1⟩
 unfold fU
 simp only
 omega
theorem MR {ts:List Tk} (h:Tks ts):∀ (f:Nat) (a:List ByteArray) (b:List Int) (z:Fs),z.n < ts.length->(∀ x ∈ a,x.size<=200)->(∀ x ∈ b,cH x)->
 ((∀ x ∈ (iY ts f a b z).1.1,x.size<=200)/\∀ x ∈ (iY ts f a b z).1.2,cH x)/\(iY ts f a b z).1.1.length<=a.length + f/\(iY ts f a b z).1.2.length<=b.length + f
 | 0,a,b,z,_,ha,hb=>⟨⟨ha,hb⟩,Nat.le_refl _,Nat.le_refl _⟩
 | f + 1,a,b,z,hn,ha,hb=>by
  have h1:=d5 (c:=false) hn
  have h2:=cA (w:=[61]) h1.2
  have ha':∀ x ∈ a ++ [cW false ts z],x.size<=200:=fun x hx=>by
   rcases List.mem_append.1 hx with hx | hx
   · exact ha x hx
   · rw [List.mem_singleton.1 hx]; exact lI h hn
  have hb':∀ x ∈ b ++ [gL false ts (bK [61] ts (b7 false ts z))],cH x:=fun x hx=>by
   rcases List.mem_append.1 hx with hx | hx
   · exact hb x hx
   · rw [List.mem_singleton.1 hx]; exact p5 h h2.2
  rw [lD]
  cases z.bad
  · cases aP 4 [44] ts (lB ts z)
    · refine ⟨⟨ha',hb'⟩,?_,?_⟩<;>(simp only [aH,List.length_append,List.length_singleton]; omega)
    · have ih:=MR h f _ _ _ (eD (k:=4) (w:=[44]) (M1 hn).2).2 ha' hb'
      rw [aH,aN]
      refine ⟨ih.1,?_,?_⟩
      · have:=ih.2.1; rw [List.length_append,List.length_singleton] at this; omega
      · have:=ih.2.2; rw [List.length_append,List.length_singleton] at this; omega
  · exact ⟨⟨ha,hb⟩,by simp only [aN]; omega,by simp only [aN]; omega⟩
theorem WO {ts:List Tk} {z:Fs} (h:Tks ts) (hn:z.n < ts.length):EnP (fB ts z).1:=by
 have h1:=d5 (c:=true) hn
 have h2:=cA (w:=[123]) h1.2
 have h3:=MR h (ts.length + 1) [] [] _ h2.2 (fun x hx=>by cases hx) fun x hx=>by cases hx
 have h5:=h.e.le
 have h6:=h3.2
 simp only [List.length_nil] at h6
 exact ⟨lI h hn,by unfold fB; simp only; omega,by unfold fB; simp only; omega,h3.1.1,h3.1.2⟩
theorem TyP.wrp {t:Ty} (h:TyP t):∃ d t0,yS d t0 t:=by
 obtain ⟨d,t0,h1,_,h2,h3,_⟩:=h
 exact ⟨d,t0,h1,h2,h3⟩
theorem TyP.rs {t:Ty} (h:TyP t) (ns:List ByteArray):TyP (m8 ns t):=by
 obtain ⟨d,t0,rfl,h1,h2,h3,h4,h5,h6,h7⟩:=h
 rw [sH,A6 h2]
 cases t0.k == 6 && wL ns t0.n
 · exact ⟨d,t0,rfl,h1,h2,h3,h4,h5,h6,h7⟩
 · exact ⟨d,_,rfl,⟨by show (_:Int)<=7; decide,by show (7:Int)<=_; decide⟩,by show (7:Int) ≠ 5; decide,h3,h4,h5,h6,h7⟩
theorem StP.rs {s:St} (h:StP s) (ns:List ByteArray):StP (mP ns s):=
 ⟨h.n,by show (s.fs.map _).length<=_; rw [List.length_map]; exact h.l,fun f hf=>by
  obtain ⟨g,hg,rfl⟩:=List.mem_map.1 hf
  have:=h.f g hg
  exact ⟨this.n,this.m,this.t.rs ns⟩⟩
theorem TyP.ok {t:Ty} (h:TyP t):TyOk t/\TySm t/\(cL t).1<=4002:=by
 obtain ⟨d,t0,rfl,h1,h2,h3,h4,h5,h6,h7⟩:=h
 have key:∀ d:List Int,(∀ s ∈ d,cH s)->TyOk (cB d t0)/\TySm (cB d t0)/\(cL (cB d t0)).1<=d.length:=fun d=>by
  induction d with
  | nil=>
   intro _
   cases t0 with
   | mk k s n e=>
    have h3:e=[]:=h3
    subst h3
    have h2:k ≠ 5:=h2
    have h4:n.size<=200:=h4
    refine ⟨.mk h1 h5 (by omega) (by simp) (fun u hu=>by cases hu),.mk (by simp) (fun u hu=>by cases hu),?_⟩
    show (cL (.mk k s n [])).1<=0
    rw [cL,beq_eq_false_iff_ne.2 h2]; exact Nat.le_refl _
  | cons s d ih=>
   intro hd
   obtain ⟨i1,i2,i3⟩:=ih fun s hs=>hd s (List.mem_cons_of_mem _ hs)
   show TyOk (.mk 5 s (mk []) [cB d t0])/\TySm (.mk 5 s (mk []) [cB d t0])/\(cL (.mk 5 s (mk []) [cB d t0])).1<=d.length + 1
   refine ⟨.mk ⟨by decide,by decide⟩ (hd s (List.mem_cons_self ..)) (by decide) (by simp) (fun u hu=>by rw [List.mem_singleton.1 hu]; exact i1),.mk (by simp) (fun u hu=>by rw [List.mem_singleton.1 hu]; exact i2),?_⟩
   rw [cL]
   show (cL (cB d t0)).1 + 1<=d.length + 1
   omega
 have:=key d h7
 exact ⟨this.1,this.2.1,by omega⟩
theorem ScP.fit {s:Sc} (h:ScP s):s.fit where
 ok:=⟨h.v,by have:=h.e; omega,by have:=h.l; omega,fun e he=>by
  have q:=h.a e he
  exact ⟨by have:=q.n; omega,by have:=q.l; omega,by have:=q.v; omega,fun n hn=>by have:=q.a n hn; omega,q.b⟩,fun t ht=>by
  have q:=h.b t ht
  refine ⟨by have:=q.n; omega,by have:=q.l; omega,fun f hf=>?_⟩
  have r:=q.f f hf
  exact ⟨r.n,by have:=r.m; omega,r.t.ok.1⟩⟩
 lv:=fun t ht f hf=>by have:=((h.b t ht).f f hf).t.ok.2.2; omega
 sm:=fun t ht=>⟨by have:=(h.b t ht).l; omega,fun f hf=>((h.b t ht).f f hf).t.ok.2.1⟩
 en:=fun e he=>⟨by have:=(h.a e he).l; omega,by have:=(h.a e he).v; omega⟩
def wInt:List UInt8:=[105,110,116]
def wUint:List UInt8:=[117,105,110,116]
def BO (x:List UInt8):Bool:=match x with | b :: _=>decide (65<=b) && decide (b<=90) | []=>false
def SO (t:Ty):List UInt8:=bif bl t.n == [] && (t.s == 8 || t.s == 16 || t.s == 32 || (t.s == 64 && t.k == 2)) then wInt ++ bX t.s else []
def L7 (t:Ty):List UInt8:=bif t.s == 0 && bU (bl t.n) && BO (bl t.n) then bl t.n else []
theorem RD {A:Bool} {x:List UInt8} {c1 c2:UInt8} (h1:A=true->x[0]? = some c1) (h2:(A && decide (65<=(c1.toNat:Int)))=true->x[0]? = some c2):(A && decide (65<=(c1.toNat:Int)) && decide ((c2.toNat:Int)<=90))=(A && BO x):=by
 cases A
 · rfl
 have h1:=h1 rfl
 match x,h1 with
 | b :: r,h1=>
  obtain rfl:b=c1:=aZ h1
  have e1:decide (65<=(b.toNat:Int))=decide (65<=b):=decide_eq_decide.2 (by rw [UInt8.le_iff_toNat_le]; exact Int.ofNat_le (m:=65))
  rw [e1] at h2 ⊢
  unfold BO
  cases h3:decide (65<=b)
  · simp only [h3]; rfl
  · rw [h3] at h2
    obtain rfl:b=c2:=aZ (h2 rfl)
    simp only [Bool.true_and,h3]
    exact decide_eq_decide.2 (show ((b.toNat:Int)<=((90:Nat):Int)) ↔ b<=90 from Int.ofNat_le.trans (UInt8.le_iff_toNat_le (b:=90)).symm)
theorem CX {x:List UInt8} {A:Bool} (h:(A && bU x)=true):0 < x.length:=by
 rw [Bool.and_eq_true] at h
 match x,h.2 with
 | _ :: _,_=>simp
def oM (t:Ty):List UInt8:=
 bif decide (0 < (t.e.length:Int)) then [] else
 bif t.k == 1 then bif t.s == 0 && bl t.n == [] then jU else [] else
 bif t.k == 3 then bif bl t.n == [] && (t.s == 8 || t.s == 16 || t.s == 32 || (t.s == 64 && t.k == 2)) then wUint ++ bX t.s else [] else
 bif t.k == 2 then SO t else
 bif t.k == 4 then bif decide (0<=t.s) && bl t.n == [] then wText ++ [91] ++ bX t.s ++ [93] else [] else
 bif t.k == 6 || t.k == 7 then L7 t else []
noncomputable def pxFn:Fun:=rP iQ C.ty fun t=>.string (mk (oM t))
attribute [go_sem] pxFn
theorem GD:Meets Tryz.prog 53 pxFn.sp:=by
 refine aG Tryz.func53 YZ 1 (by rw [Tryz.ntmps53]; decide) (aK zP (aK m4 (aB _))) kS ?_
 rintro av H K ⟨⟨h,rfl⟩,hK⟩
 obtain ⟨_,rfl,t,rfl,hs⟩:=fG h
 have hK:K (tS (mk (oM t))) []:=by
  have:pxFn.val [.va (.gs (aX t))]=tA (mk (oM t)):=by simp -dsimp only [go_sem]
  rw [this] at hK; exact hK
 clear h
 have fin:∀ (x:List UInt8) (R:Hp),oM t=x->W.Fin 0 K (tS (mk x)) R:=fun x R h1=>by
  rw [h1] at hK
  exact .z (hK)
 simp (maxSteps:=9^6) -dsimp only [go_sem,TB,TG,bO t]
 have hsn:cH t.s:=hs.s
 have hln:(bl t.n).length<=9223372036854775807:=hs.n
 have hd:(bX t.s).length<=21:=fR hsn.1 hsn.2
 repeat' first | (intro _) | (refine And.intro ?_ ?_)
 all_goals first
  | exact hsn.1
  | exact hsn.2
  | omega
  | exact Int.ofNat_lt.2 (CX ‹(t.s == 0 && bU (bl t.n))=true›)
  | exact Int.ofNat_lt.2 (CX (Bool.and_eq_true_iff.1 ‹(t.s == 0 && bU (bl t.n) && _)=true›).1)
  | (refine fin _ _ ?_; unfold oM; simp only [*,aN,aH,Bool.or_true,Bool.true_or]; done)
  | (refine fin _ _ ?_; unfold oM; simp only [*,aN,aH,Bool.or_true,Bool.true_or]; rfl)
  | (refine fin _ _ ?_; unfold oM; simp only [*,aN,aH,Bool.or_true,Bool.true_or]; unfold SO; rename_i h; rw [h]; rfl)
  | (refine fin _ _ ?_; unfold oM; simp only [*,aN,aH,Bool.or_true,Bool.true_or]; unfold L7; rename_i q1 _ q2 q; rw [<-RD q1 q2,q]; rfl)
  | (simp [*]; done)
  | (simp_all; done)
  | skip
def wOfs:List UInt8:=[93,32,111,102,32]
def vK (s:Int):List UInt8:=[108,105,115,116,91] ++ (bX s ++ wOfs)
def fF:Nat->Ty->List UInt8
 | f,t=>bif t.k == 5 then (match f with
  | 0=>[]
  | f + 1=>bif decide (t.s < 0) || !(bl t.n == []) || (t.e.length:Int) != 1 then [] else
   bif fF f (t.e.headD default) == [] then [] else vK t.s ++ fF f (t.e.headD default)) else oM t
noncomputable def txFn:Fun:=rP iQ C.ty fun t=>.string (mk (fF 6 t))
attribute [go_sem] txFn
theorem AX {f:Nat} {t:Ty} (h:(t.k == 5)=false):fF f t=oM t:=by unfold fF; rw [h]; rfl
theorem LT {t:Ty} (h:(t.k == 5)=true):fF 0 t=[]:=by unfold fF; rw [h]; rfl
theorem tJ {f:Nat} {t:Ty} (h:(t.k == 5)=true):fF (f + 1) t=bif decide (t.s < 0) || !(bl t.n == []) || (t.e.length:Int) != 1 then [] else
 bif fF f (t.e.headD default) == [] then [] else vK t.s ++ fF f (t.e.headD default):=by rw [fF,h]; rfl
theorem eZ {b:Bool} {x y:List UInt8} {n:Nat} (hx:x.length<=n) (hy:y.length<=n):(bif b then x else y).length<=n:=by cases b<;>assumption
theorem NR (t:Ty):(L7 t).length<=30:=by
 unfold L7
 cases h:t.s == 0 && bU (bl t.n) && BO (bl t.n)
 · exact Nat.zero_le _
 · rw [Bool.and_eq_true,Bool.and_eq_true] at h
   have:=jH h.1.2
   rw [aN]; omega
theorem w5 {t:Ty} (h:cH t.s):(oM t).length<=30:=by
 have hd:(bX t.s).length<=21:=fR h.1 h.2
 have h0:([]:List UInt8).length<=30:=by decide
 unfold oM SO
 refine eZ h0 (eZ (eZ (by decide) h0) (eZ (eZ ?_ h0) (eZ (eZ ?_ h0) (eZ (eZ ?_ h0) (eZ (NR t) h0)))))
 · rw [List.length_append,show wUint.length=4 from rfl]; omega
 · rw [List.length_append,show wInt.length=3 from rfl]; omega
 · rw [List.length_append,List.length_append,List.length_append,show wText.length=4 from rfl]; simp only [List.length_singleton]; omega
theorem IB:Meets Tryz.prog 16 txFn.sp:=by
 refine aG Tryz.func16 aAU 1 (by rw [Tryz.ntmps16]; decide) (aK zP (aK GD (aB _))) kS ?_
 rintro av H K ⟨⟨h,rfl⟩,hK⟩
 obtain ⟨_,rfl,t,rfl,hs⟩:=fG h
 have hK:K (tS (mk (fF 6 t))) []:=by
  have:txFn.val [.va (.gs (aX t))]=tA (mk (fF 6 t)):=by simp -dsimp only [go_sem]
  rw [this] at hK; exact hK
 clear h
 have fin:∀ (x:List UInt8) (R:Hp),fF 6 t=x->W.Fin 0 K (tS (mk x)) R:=fun x R h1=>by
  rw [h1] at hK
  exact .z (hK)
 simp (maxSteps:=9^6) -dsimp only [go_sem,TZ,QA,bO t]
 refine cI (α:=Nat × List UInt8 × Ty) (fun x=>[(1,.va (.c1 (.pt 0 0))),(2,tS (mk [])),(3,tS (mk x.2.1)),(4,iS .i64 (6 - x.1:Int))])
  (fun x=>[.cells (aX x.2.2) 37])
  (fun x=>x.1<=6/\x.2.1.length + 31 * x.1<=186/\TyOk x.2.2/\fF 6 t=bif fF x.1 x.2.2 == [] then [] else x.2.1 ++ fF x.1 x.2.2)
  (fun x=>x.1) (gZ (6,[],t) 1 ⟨by simp,by simp,hs,?_⟩ ?_ ?_) ?_
 · show _=bif fF 6 t == [] then [] else [] ++ fF 6 t
   cases h:fF 6 t == []
   · rfl
   · exact eq_of_beq h
 · simp -dsimp only [go_sem]<;>simp
 · simp -dsimp only [go_sem]<;>simp [bO t]
 rintro ⟨f,out,u⟩ ⟨h1,h2,h3,h4⟩
 simp only at h1 h2 h3 h4
 have hsn:=h3.s
 have hd:(bX u.s).length<=21:=fR hsn.1 hsn.2
 simp (maxSteps:=9^6) -dsimp only [go_sem,bO u]
 have hplen:=w5 hsn
 refine ⟨fun hk=>⟨fun hc=>?_,fun hc=>⟨⟨hsn.1,hsn.2⟩,by omega,by omega,by omega,⟨⟨by omega,?_⟩,fun x hx=>dP x⟩,fun x hx=>⟨by rw [dP]; decide,⟨fun c hc=>(S2 _ c hc).2,dP _⟩,by rw [dP]; decide,?_⟩⟩⟩,fun hk=>?_⟩
 · refine fin _ _ ?_
   match f,h1,h2,h4,hc with
   | 0,_,_,h4,_=>rw [h4,LT hk]; rfl
   | f + 1,h1,_,h4,hc=>
    rw [show ((6 - ((f + 1:Nat):Int)) == 6)=false from beq_eq_false_iff_ne.2 (by omega),Bool.or_false] at hc
    rw [h4,tJ hk,hc]; rfl
 · simp only [Bool.or_eq_false_iff] at hc
   have:=hc.1.2
   rw [bne_eq_false_iff_eq] at this
   omega
 · match f,h1,h2,h4,hc with
   | 0,_,_,_,hc=>simp at hc
   | f + 1,h1,h2,h4,hc=>
    rw [show ((6 - ((f + 1:Nat):Int)) == 6)=false from beq_eq_false_iff_ne.2 (by omega),Bool.or_false] at hc
    rw [tJ hk,hc,aH] at h4
    have he:u.e.headD default=x:=by
     cases hu:u.e with
     | nil=>rw [hu] at hx; cases hx
     | cons a r=>rw [hu] at hx; exact aZ hx
    rw [he] at h4
    refine ⟨by omega,?_⟩
    refine aD (f,out ++ vK u.s,x) 1 ⟨by omega,?_,h3.e x (bH hx),?_⟩ (by simp) ?_ ?_
    · simp only [vK,List.length_append,show wOfs.length=5 from rfl,List.length_cons,List.length_nil] at h2 ⊢
      omega
    · rw [h4]
      cases hq:fF f x == []
      · rw [aH,aH,List.append_assoc]
        rw [show (vK u.s ++ fF f x == [])=false by simp [vK]]
        rfl
      · rw [aN,aN]; rfl
    · simp -dsimp only [go_sem,vK,wOfs]<;>simp [vK,wOfs]
      omega
    · simp -dsimp only [go_sem]<;>simp [bO x]
 · rw [AX hk] at h4
   rw [show C.ty [C.vl (Value.int IntKind.i64 u.k),C.vl (Value.int IntKind.i64 u.s),C.vl (Value.string u.n),C.fz (List.map aX u.e)]=u by rw [<-bO u]; exact pC u]
   refine ⟨⟨u,(bO u).symm,h3⟩,fun hc=>fin _ _ ?_,fun hc=>⟨by omega,fin _ _ ?_⟩⟩
   · rw [h4,hc]; rfl
   · rw [h4,hc]; rfl
end Go.Proofs.YtgogpogophflhaaGreatDoor
