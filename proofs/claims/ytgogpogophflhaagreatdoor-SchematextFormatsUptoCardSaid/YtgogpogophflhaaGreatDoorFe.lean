/- Lemmas and walks for the proof. -/
import Derived.Test.YtgogpogophflhaaGreatDoorFd
import Derived.Test.YtgogpogophflhaaGreatDoorProg
import Derived.ChangeStays
import Derived.Deep.Slices
import Derived.JoinedCond
import Derived.KernelRfl
import Derived.Test.YtgogpogophflhaaGreatDoorRows
set_option maxRecDepth 100000
set_option maxHeartbeats 8000000
namespace Go.Proofs.YtgogpogophflhaaGreatDoor
open Go.W
structure EnG (e:En):Prop where
 n:fW (bl e.nm)=true
 p:0 < e.ns.length
 l:e.ns.length=e.vs.length
 m:e.ns.length<=16
 a:∀ n ∈ e.ns,bQ (bl n)=true
 b:∀ v ∈ e.vs,0<=v/\v<=127
structure StG (ss:List St) (es:List En) (t:St):Prop where
 n:fW (bl t.nm)=true
 m:t.fs.length<=16
 f:∀ f ∈ t.fs,(1<=f.num/\f.num<=127)/\bQ (bl f.nm)=true/\valF ss es f.ty=true
structure ScG (s:Sc):Prop where
 v:1<=s.ver/\s.ver<=999
 l:s.es.length<=16/\s.ss.length<=16
 a:∀ e ∈ s.es,EnG e
 b:∀ t ∈ s.ss,StG s.ss s.es t
theorem MS {e:En} {k:Nat} {n:ByteArray} {v:Int} (h1:e.ns[k]? = some n) (h2:e.vs[k]? = some v) (h:eU e k=0):bQ (bl n)=true/\0<=v/\v<=127:=by
 unfold eU at h
 rw [h1,h2] at h
 simp only at h
 cases c1:bQ (bl n) with
 | false=>rw [c1] at h; simp at h
 | true=>
 rw [c1] at h
 simp only [Bool.not_true,aJ] at h
 cases c2:bU (e.ns.take k) n with
 | true=>rw [c2] at h; simp at h
 | false=>
 rw [c2,aJ] at h
 cases c3:decide (v < 0) || decide (127 < v) with
 | true=>rw [c3] at h; simp at h
 | false=>
 simp only [Bool.or_eq_false_iff,decide_eq_false_iff_not] at c3
 exact ⟨rfl,by omega,by omega⟩
theorem NJ {e:En} (h:j3 e=0):0 < e.ns.length/\e.ns.length=e.vs.length/\∀ i < e.ns.length,eU e i=0:=by
 unfold j3 at h
 cases c:decide (e.ns.length=0) || decide (e.ns.length ≠ e.vs.length) with
 | true=>rw [c] at h; simp at h
 | false=>
 rw [c,aJ] at h
 simp only [Bool.or_eq_false_iff,decide_eq_false_iff_not,Decidable.not_not] at c
 exact ⟨by omega,c.2,nK (m:=e.ns.length) h⟩
theorem C7 {s:Sc} (hf:s.fit) (h:cN s=0):ScG s:=by
 obtain ⟨_,_,h2,h3,h4,h5,h6,_⟩:=EW hf h
 obtain ⟨l1,l2,l3,l4⟩:=r9 h4
 refine ⟨⟨h5,h6⟩,⟨l1,by omega⟩,fun e he=>?_,fun t ht=>?_⟩
 · obtain ⟨i,hi⟩:=List.mem_iff_getElem?.1 he
   obtain ⟨n1,_,n3⟩:=N7 hi (nK h2 i (aW.1 hi).1)
   obtain ⟨g1,g2,g3⟩:=NJ n3
   refine ⟨n1,g1,g2,l3 e he,fun n hn=>?_,fun v hv=>?_⟩
   · obtain ⟨k,hk⟩:=List.mem_iff_getElem?.1 hn
     have hl:=(aW.1 hk).1
     exact (MS hk (aU (l:=e.vs) (i:=k) (by omega)) (g3 k hl)).1
   · obtain ⟨k,hk⟩:=List.mem_iff_getElem?.1 hv
     have hl:=(aW.1 hk).1
     exact (MS (aU (l:=e.ns) (i:=k) (by omega)) hk (g3 k (by omega))).2
 · obtain ⟨i,hi⟩:=List.mem_iff_getElem?.1 ht
   obtain ⟨n1,n2⟩:=CW hi (nK h3 i (aW.1 hi).1)
   exact ⟨(DM n1).1,l4 t ht,fun f hf=>DE n2 f hf⟩
theorem uF {x:List UInt8} (h:fW x=true):bQ x=true:=by unfold fW at h; rw [Bool.and_eq_true] at h; exact h.1
def oU:Nat->List ByteArray->List Int->List UInt8
 | k,n :: ns,v :: vs=>(bif decide (0 < (k:Int)) then [44,32] else []) ++ (bl n ++ ([32,61,32] ++ bR v)) ++ oU (k + 1) ns vs
 | _,_,_=>[]
def wEnumB:List UInt8:=[101,110,117,109,32]
def wStB:List UInt8:=[115,116,114,117,99,116,32]
def wVerB:List UInt8:=[118,101,114,115,105,111,110,32]
def oS (e:En):List UInt8:=wEnumB ++ (bl e.nm ++ [32,123,32]) ++ (oU 0 e.ns e.vs ++ [32,125,10])
def jD (f:Fl):List UInt8:=[32,32] ++ (bR f.num ++ ([32] ++ (bl f.nm ++ ([58,32] ++ dI 6 f.ty)))) ++ ((bif f.opt then [63] else []) ++ [59,10])
def l5 (t:St):List UInt8:=wStB ++ (bl t.nm ++ [32,123,10]) ++ (t.fs.flatMap jD ++ [125,10])
def gK (s:Sc):List UInt8:=bif cN s != 0 then [] else wVerB ++ (bR s.ver ++ [59,10]) ++ (s.es.flatMap oS ++ s.ss.flatMap l5)
noncomputable def fmFn:Fun:=lD iC C.sc fun s=>.string (mk (gK s))
attribute [go_sem] fmFn
theorem qU:∀ (f:Nat) (t:Ty),TyOk t->(dI f t).length<=30 + 31 * f:=fun f=>by
 induction f with
 | zero=>
  intro t ht
  cases h:t.k == 5
  · rw [uC h]; exact wY ht.s
  · rw [E6 h]; exact Nat.zero_le _
 | succ f ih=>
  intro t ht
  cases h:t.k == 5
  · rw [uC h]; have:=wY ht.s; omega
  · rw [oL h]
    cases c:decide (t.s < 0) || !(bl t.n == []) || (t.e.length:Int) != 1
    · rw [aJ]
      refine fR (Nat.zero_le _) ?_
      have hd:(bR t.s).length<=21:=dV ht.s.1 ht.s.2
      have hu:TyOk (t.e.headD default):=by
       simp only [Bool.or_eq_false_iff,bne_eq_false_iff_eq] at c
       match he:t.e with
       | []=>rw [he] at c; simp at c
       | a :: r=>exact ht.e a (by rw [he]; exact List.mem_cons_self ..)
      have:=ih _ hu
      simp only [o8,List.length_append,show wOfs.length=5 from rfl,List.length_cons,List.length_nil]
      omega
    · exact Nat.zero_le _
theorem sS (k:Nat) (n:ByteArray) (ns:List ByteArray) (v:Int) (vs:List Int):oU k (n :: ns) (v :: vs)=(bif decide (0 < (k:Int)) then [44,32] else []) ++ (bl n ++ ([32,61,32] ++ bR v)) ++ oU (k + 1) ns vs:=rfl
theorem DW:Meets Tryz.prog 10 fmFn.sp:=by
 refine aG Tryz.func10 YC 1 (by rw [Tryz.ntmps10]; decide) (aI zB (aI HP (aI HE (aB _)))) eY ?_
 rintro av H K ⟨⟨h,rfl⟩,hK⟩
 obtain ⟨_,rfl,s,rfl,hs⟩:=cW h
 have hK:K (tS (mk (gK s))) []:=by
  have:fmFn.val [.va (.gs (aA s))]=tA (mk (gK s)):=by simp -dsimp only [go_sem]
  rw [this] at hK; exact hK
 clear h
 have fin:∀ (x:List UInt8) (R:Hp),gK s=x->W.Fin 0 K (tS (mk x)) R:=fun x R h1=>by
  rw [h1] at hK
  exact .z (hK)
 simp (maxSteps:=9^6) -dsimp only [go_sem,aA,PD,TL]
 rw [show C.sc [C.vl (Value.int IntKind.i64 s.ver),C.fz (List.map aN s.es),C.fz (List.map aK s.ss)]=s from eC s]
 refine ⟨⟨_,rfl,hs⟩,fun hc=>fin _ _ (by unfold gK; rw [hc]; rfl),fun hc=>?_⟩
 have g:=C7 hs (bne_eq_false_iff_eq.1 hc)
 have hfm:gK s=wVerB ++ (bR s.ver ++ [59,10]) ++ (s.es.flatMap oS ++ s.ss.flatMap l5):=by unfold gK; rw [hc]; rfl
 have hvi:=hs.ok.ver
 have hdv:(bR s.ver).length<=21:=dV hvi.1 hvi.2
 have hl16:=g.l
 refine ⟨⟨hvi.1,hvi.2⟩,by omega,by omega,?_⟩
 refine bP (α:=Nat × List UInt8) (fun z=>[(1,.va (.c1 (.pt 0 0))),(2,tS (mk [])),(3,tS (mk z.2)),(21,.va (.c1 (.fz (s.es.map aN)))),(22,iS .i64 s.es.length),(23,iS .i64 z.1)]) (fun z=>[.cells (aA s) 25])
  (fun z=>z.1<=s.es.length/\gK s=z.2 ++ ((s.es.drop z.1).flatMap oS ++ s.ss.flatMap l5)/\z.2.length<=40 + 1000 * z.1) (fun z=>s.es.length - z.1) (eJ (0,wVerB ++ (bR s.ver ++ [59,10])) 1 ⟨Nat.zero_le _,hfm,?_⟩ ?_ ?_) ?_
 · simp only [List.length_append,show wVerB.length=8 from rfl,List.length_cons,List.length_nil]; omega
 · simp -dsimp only [go_sem,wVerB]<;>simp
 · simp -dsimp only [go_sem,aA]<;>simp
 rintro ⟨i,out⟩ ⟨hi,ho,hol⟩
 simp only at hi ho hol
 rcases bH i s.es.length with hlt | hge
 · have hg:decide ((i:Int) < (s.es.length:Int))=true:=by simp; omega
   obtain ⟨e,he⟩:∃ a,s.es[i]? = some a:=⟨_,aU hlt⟩
   have ge:=g.a e (bI he)
   have q1:=aR (row:=aN) he
   have hnl:=fH (uF ge.n)
   have hnl':=ge.m
   have hvl:=ge.l
   rw [List.drop_eq_getElem_cons hlt,show s.es[i]=e from (aW.1 he).2,List.flatMap_cons] at ho
   simp (maxSteps:=9^6) -dsimp only [go_sem,aA,hg,↓q1,aN]
   refine ⟨by omega,by omega,by omega,by omega,?_⟩
   have hg0:=hg
   refine bP (α:=Nat × List UInt8) (fun z=>[(1,.va (.c1 (.pt 0 0))),(2,tS (mk [])),(3,tS (mk z.2)),(21,.va (.c1 (.fz (s.es.map aN)))),(22,iS .i64 s.es.length),(23,iS .i64 i),(5,.va (.c1 (.pt 1 0))),(34,.va (.c1 (.fz (e.ns.map a8)))),(35,iS .i64 e.ns.length),(36,iS .i64 z.1)]) (fun z=>[.cells (aA s) 25,.cells (aN e) 62])
    (fun z=>z.1<=e.ns.length/\gK s=z.2 ++ (oU z.1 (e.ns.drop z.1) (e.vs.drop z.1) ++ ([32,125,10] ++ ((s.es.drop (i + 1)).flatMap oS ++ s.ss.flatMap l5)))/\z.2.length<=100 + 1000 * i + 50 * z.1) (fun z=>e.ns.length - z.1) (eJ (0,out ++ (wEnumB ++ (bl e.nm ++ [32,123,32]))) 2 ⟨Nat.zero_le _,?_,?_⟩ ?_ ?_) ?_
   · rw [ho]; simp [oS]
   · simp only [List.length_append,show wEnumB.length=5 from rfl,List.length_cons,List.length_nil]; omega
   · simp -dsimp only [go_sem,wEnumB]<;>simp
   · simp -dsimp only [go_sem,aA,aN]<;>simp
   clear ho hol
   rintro ⟨k,out⟩ ⟨hk,ho,hol⟩
   simp only at hk ho hol
   rcases bH k e.ns.length with hkt | hkg
   · have hg:decide ((k:Int) < (e.ns.length:Int))=true:=by simp; omega
     obtain ⟨n,hn⟩:∃ a,e.ns[k]? = some a:=⟨_,aU hkt⟩
     obtain ⟨v,hv⟩:∃ a,e.vs[k]? = some a:=⟨_,aU (by omega)⟩
     have q1:=aR (row:=a8) hn
     have q2:=aR (row:=c7) hv
     have hnn:=fH (ge.a n (bI hn))
     have hvv:=ge.b v (bI hv)
     have hdl:(bR v).length<=21:=dV (by omega) (by omega)
     rw [List.drop_eq_getElem_cons hkt,show e.ns[k]=n from (aW.1 hn).2,List.drop_eq_getElem_cons (show k < e.vs.length by omega),show e.vs[k]=v from (aW.1 hv).2,sS] at ho
     simp (maxSteps:=9^6) -dsimp only [go_sem,aA,hg,↓q1,↓q2,aN]
     have hE:∀ (o:List UInt8),(k=0->o=out)->(0 < k->o=out ++ [44,32])->gK s=o ++ (bl n ++ ([32,61,32] ++ bR v)) ++ (oU (k + 1) (e.ns.drop (k + 1)) (e.vs.drop (k + 1)) ++ ([32,125,10] ++ ((s.es.drop (i + 1)).flatMap oS ++ s.ss.flatMap l5))):=fun o h0 h1=>by
      rw [ho]
      rcases Nat.eq_zero_or_pos k with hz | hz
      · rw [h0 hz,decide_eq_false (show ¬ 0 < (k:Int) by omega)]; simp
      · rw [h1 hz,decide_eq_true (show 0 < (k:Int) by omega)]; simp
     refine ⟨by omega,fun hc=>⟨by omega,by omega,by omega,by omega,by omega,by omega,by omega,?_⟩,fun hc=>⟨by omega,by omega,by omega,by omega,by omega,by omega,?_⟩⟩
     · have hk0:0 < k:=by have:=of_decide_eq_true hc; omega
       refine aC (k + 1,(out ++ [44,32]) ++ (bl n ++ ([32,61,32] ++ bR v))) 2 ⟨hkt,hE _ (fun h=>by omega) fun _=>rfl,?_⟩ (by simp only; omega) ?_ ?_
       · simp only [List.length_append,List.length_cons,List.length_nil]; omega
       · simp -dsimp only [go_sem]<;>simp
       · simp -dsimp only [go_sem,aA,aN]<;>simp
     · have hk0:k=0:=by have:=of_decide_eq_false hc; omega
       refine aC (k + 1,out ++ (bl n ++ ([32,61,32] ++ bR v))) 2 ⟨hkt,hE _ (fun _=>rfl) fun h=>by omega,?_⟩ (by simp only; omega) ?_ ?_
       · simp only [List.length_append,List.length_cons,List.length_nil]; omega
       · simp -dsimp only [go_sem]<;>simp
       · simp -dsimp only [go_sem,aA,aN]<;>simp
   · obtain rfl:k=e.ns.length:=by omega
     have hg:decide ((e.ns.length:Int) < (e.ns.length:Int))=false:=by simp
     simp (maxSteps:=9^6) -dsimp only [go_sem,aA,hg,aN]
     rw [List.drop_length,show oU e.ns.length [] (e.vs.drop e.ns.length)=[] by unfold oU; rfl] at ho
     refine ⟨by omega,by omega,?_⟩
     refine aC (i + 1,out ++ [32,125,10]) 1 ⟨hlt,by rw [ho]; simp,?_⟩ (by simp only; omega) ?_ ?_
     · simp only [List.length_append,List.length_cons,List.length_nil]; omega
     · simp -dsimp only [go_sem]<;>simp
     · simp -dsimp only [go_sem,aA,aN]<;>simp
 · obtain rfl:i=s.es.length:=by omega
   have hg:decide ((s.es.length:Int) < (s.es.length:Int))=false:=by simp
   simp (maxSteps:=9^6) -dsimp only [go_sem,aA,hg]
   rw [List.drop_length,List.flatMap_nil,List.nil_append] at ho
   refine bP (α:=Nat × List UInt8) (fun z=>[(1,.va (.c1 (.pt 0 0))),(2,tS (mk [])),(3,tS (mk z.2)),(61,.va (.c1 (.fz (s.ss.map aK)))),(62,iS .i64 s.ss.length),(63,iS .i64 z.1)]) (fun z=>[.cells (aA s) 25])
    (fun z=>z.1<=s.ss.length/\gK s=z.2 ++ (s.ss.drop z.1).flatMap l5/\z.2.length<=20000 + 10000 * z.1) (fun z=>s.ss.length - z.1) (eJ (0,out) 1 ⟨Nat.zero_le _,ho,?_⟩ ?_ ?_) ?_
   · simp only; omega
   · simp -dsimp only [go_sem]<;>simp
   · simp -dsimp only [go_sem,aA]<;>simp
   clear ho hol
   rintro ⟨i,out⟩ ⟨hi,ho,hol⟩
   simp only at hi ho hol
   rcases bH i s.ss.length with hlt | hge
   · have hg:decide ((i:Int) < (s.ss.length:Int))=true:=by simp; omega
     obtain ⟨t,ht⟩:∃ a,s.ss[i]? = some a:=⟨_,aU hlt⟩
     have gt:=g.b t (bI ht)
     have hok:=hs.ok.ss t (bI ht)
     have q1:=aR (row:=aK) ht
     have hnl:=fH (uF gt.n)
     have hml:=gt.m
     rw [List.drop_eq_getElem_cons hlt,show s.ss[i]=t from (aW.1 ht).2,List.flatMap_cons] at ho
     simp (maxSteps:=9^6) -dsimp only [go_sem,aA,hg,↓q1,aK]
     refine ⟨by omega,by omega,by omega,by omega,?_⟩
     refine bP (α:=Nat × List UInt8) (fun z=>[(1,.va (.c1 (.pt 0 0))),(2,tS (mk [])),(3,tS (mk z.2)),(61,.va (.c1 (.fz (s.ss.map aK)))),(62,iS .i64 s.ss.length),(63,iS .i64 i),(9,.va (.c1 (.pt 1 0))),(74,.va (.c1 (.fz (t.fs.map aZ)))),(75,iS .i64 t.fs.length),(76,iS .i64 z.1)]) (fun z=>[.cells (aA s) 25,.cells (aK t) 56])
      (fun z=>z.1<=t.fs.length/\gK s=z.2 ++ ((t.fs.drop z.1).flatMap jD ++ ([125,10] ++ (s.ss.drop (i + 1)).flatMap l5))/\z.2.length<=20100 + 10000 * i + 500 * z.1) (fun z=>t.fs.length - z.1) (eJ (0,out ++ (wStB ++ (bl t.nm ++ [32,123,10]))) 2 ⟨Nat.zero_le _,?_,?_⟩ ?_ ?_) ?_
     · rw [ho]; simp [l5]
     · simp only [List.length_append,show wStB.length=7 from rfl,List.length_cons,List.length_nil]; omega
     · simp -dsimp only [go_sem,wStB]<;>simp
     · simp -dsimp only [go_sem,aA,aK]<;>simp
     clear ho hol
     rintro ⟨k,out⟩ ⟨hk,ho,hol⟩
     simp only at hk ho hol
     rcases bH k t.fs.length with hkt | hkg
     · have hg:decide ((k:Int) < (t.fs.length:Int))=true:=by simp; omega
       obtain ⟨f,hf⟩:∃ a,t.fs[k]? = some a:=⟨_,aU hkt⟩
       have q1:=aR (row:=aZ) hf
       obtain ⟨gf1,gf2,gf3⟩:=gt.f f (bI hf)
       have hfo:=hok.fs f (bI hf)
       have hnn:=fH gf2
       have hdl:(bR f.num).length<=21:=dV (by omega) (by omega)
       have htl:=qU 6 f.ty hfo.ty
       rw [List.drop_eq_getElem_cons hkt,show t.fs[k]=f from (aW.1 hf).2,List.flatMap_cons] at ho
       simp (maxSteps:=9^6) -dsimp only [go_sem,aA,hg,↓q1,aK,aZ,gX]
       refine ⟨by omega,by omega,by omega,by omega,by omega,by omega,⟨_,rfl,hfo.ty⟩,by omega,by omega,fun hc=>⟨by omega,by omega,by omega,?_⟩,fun hc=>⟨by omega,by omega,?_⟩⟩
       · refine aC (k + 1,out ++ jD f) 2 ⟨hkt,by rw [ho]; simp,?_⟩ (by simp only; omega) ?_ ?_
         · unfold jD; rw [hc]; simp only [aO,List.length_append,List.length_cons,List.length_nil]; omega
         · simp -dsimp only [go_sem,jD,hc]<;>simp [jD,hc]
         · simp -dsimp only [go_sem,aA,aK]<;>simp
       · refine aC (k + 1,out ++ jD f) 2 ⟨hkt,by rw [ho]; simp,?_⟩ (by simp only; omega) ?_ ?_
         · unfold jD; rw [hc]; simp only [aJ,List.length_append,List.length_cons,List.length_nil]; omega
         · simp -dsimp only [go_sem,jD,hc]<;>simp [jD,hc]
         · simp -dsimp only [go_sem,aA,aK]<;>simp
     · obtain rfl:k=t.fs.length:=by omega
       have hg:decide ((t.fs.length:Int) < (t.fs.length:Int))=false:=by simp
       simp (maxSteps:=9^6) -dsimp only [go_sem,aA,hg,aK]
       rw [List.drop_length,List.flatMap_nil,List.nil_append] at ho
       refine ⟨by omega,by omega,?_⟩
       refine aC (i + 1,out ++ [125,10]) 1 ⟨hlt,by rw [ho]; simp,?_⟩ (by simp only; omega) ?_ ?_
       · simp only [List.length_append,List.length_cons,List.length_nil]; omega
       · simp -dsimp only [go_sem]<;>simp
       · simp -dsimp only [go_sem,aA,aK]<;>simp
   · obtain rfl:i=s.ss.length:=by omega
     have hg:decide ((s.ss.length:Int) < (s.ss.length:Int))=false:=by simp
     simp (maxSteps:=9^6) -dsimp only [go_sem,aA,hg]
     refine fin _ _ ?_
     rw [ho,List.drop_length,List.flatMap_nil,List.append_nil]
def RL:PC:=.seq (.reg [.e 1 (.bx 25 (.t 0)),.q 2 (.mv (.k (.string (mk []))))]) (.seq (.seq (.reg [.l 10 (.ldn 3 (.t 1)),.a 11 (.cq 9 [(.t 10)]),.q 12 (.bin .neq true (.t 11) (.i 0))]) (.cond (.t 12) (.seq (.reg [.q 2 (.mv (.k (.string (mk []))))]) .ret) .skip)) (.seq (.reg [.q 13 (.fa 0 (.t 1)),.l 14 (.ld1 (.t 13)),.a 15 (.cq 44 [(.t 14)]),.q 16 (.bin .add true (.k (.string (mk [118,101,114,115,105,111,110,32]))) (.t 15)),.q 17 (.bin .add true (.t 16) (.k (.string (mk [59,10])))),.v 3 17]) (.seq (.seq (.reg [.q 4 (.mv (.i 0))]) (.block 0 (.loop (.seq (.seq (.reg [.v 18 4,.q 19 (.fa 1 (.t 1)),.l 20 (.ld1 (.t 19)),.q 21 (.lnL (.t 20)),.q 22 (.bin .lss true (.t 18) (.t 21))]) (.cond (.t 22) .skip (.exit 0))) (.seq (.block 1 (.seq (.reg [.q 25 (.fa 1 (.t 1)),.l 26 (.ld1 (.t 25)),.v 27 4,.l 28 (.ia 3 (.t 26) (.t 27)),.l 29 (.ldn 3 (.t 28)),.e 5 (.al (.agg #[(.string (mk [])),(.slice none 0 0),(.slice none 0 0)]) 62),.s (.st 3 (.t 5) (.t 29))]) (.seq (.reg [.v 30 3,.q 31 (.bin .add true (.t 30) (.k (.string (mk [101,110,117,109,32])))),.q 32 (.fa 0 (.t 5)),.l 33 (.ld1 (.t 32)),.q 34 (.bin .add true (.t 31) (.t 33)),.q 35 (.bin .add true (.t 34) (.k (.string (mk [32,123])))),.v 3 35]) (.seq (.seq (.reg [.q 6 (.mv (.i 0))]) (.block 2 (.loop (.seq (.seq (.reg [.v 36 6,.q 37 (.fa 1 (.t 5)),.l 38 (.ld1 (.t 37)),.q 39 (.lnL (.t 38)),.q 40 (.bin .lss true (.t 36) (.t 39))]) (.cond (.t 40) .skip (.exit 2))) (.seq (.block 3 (.seq (.seq (.reg [.v 43 6,.q 44 (.bin .gtr true (.t 43) (.i 0))]) (.cond (.t 44) (.reg [.v 45 3,.q 46 (.bin .add true (.t 45) (.k (.string (mk [44])))),.v 3 46]) .skip)) (.reg [.v 47 3,.q 48 (.bin .add true (.t 47) (.k (.string (mk [32])))),.q 49 (.fa 1 (.t 5)),.l 50 (.ld1 (.t 49)),.v 51 6,.l 52 (.ia 1 (.t 50) (.t 51)),.l 53 (.ld1 (.t 52)),.q 54 (.bin .add true (.t 48) (.t 53)),.q 55 (.bin .add true (.t 54) (.k (.string (mk [32,61,32])))),.q 56 (.fa 2 (.t 5)),.l 57 (.ld1 (.t 56)),.v 58 6,.l 59 (.ia 1 (.t 57) (.t 58)),.l 60 (.ld1 (.t 59)),.a 61 (.cq 44 [(.t 60)]),.q 62 (.bin .add true (.t 55) (.t 61)),.v 3 62]))) (.reg [.v 41 6,.q 42 (.bin .add true (.t 41) (.i 1)),.v 6 42])))))) (.reg [.v 63 3,.q 64 (.bin .add true (.t 63) (.k (.string (mk [32,125,10])))),.v 3 64]))))) (.reg [.v 23 4,.q 24 (.bin .add true (.t 23) (.i 1)),.v 4 24])))))) (.seq (.seq (.reg [.q 7 (.mv (.i 0))]) (.block 4 (.loop (.seq (.seq (.reg [.v 65 7,.q 66 (.fa 2 (.t 1)),.l 67 (.ld1 (.t 66)),.q 68 (.lnL (.t 67)),.q 69 (.bin .lss true (.t 65) (.t 68))]) (.cond (.t 69) .skip (.exit 4))) (.seq (.block 5 (.seq (.reg [.v 72 3,.q 73 (.bin .add true (.t 72) (.k (.string (mk [115,116,114,117,99,116,32])))),.q 74 (.fa 2 (.t 1)),.l 75 (.ld1 (.t 74)),.v 76 7,.l 77 (.ia 2 (.t 75) (.t 76)),.q 78 (.fa 0 (.t 77)),.l 79 (.ld1 (.t 78)),.q 80 (.bin .add true (.t 73) (.t 79)),.q 81 (.bin .add true (.t 80) (.k (.string (mk [32,123,10])))),.v 3 81]) (.seq (.seq (.reg [.q 8 (.mv (.i 0))]) (.block 6 (.loop (.seq (.seq (.reg [.v 82 8,.q 83 (.fa 2 (.t 1)),.l 84 (.ld1 (.t 83)),.v 85 7,.l 86 (.ia 2 (.t 84) (.t 85)),.q 87 (.fa 1 (.t 86)),.l 88 (.ld1 (.t 87)),.q 89 (.lnL (.t 88)),.q 90 (.bin .lss true (.t 82) (.t 89))]) (.cond (.t 90) .skip (.exit 6))) (.seq (.block 7 (.seq (.reg [.q 93 (.fa 2 (.t 1)),.l 94 (.ld1 (.t 93)),.v 95 7,.l 96 (.ia 2 (.t 94) (.t 95)),.q 97 (.fa 1 (.t 96)),.l 98 (.ld1 (.t 97)),.v 99 8,.l 100 (.ia 7 (.t 98) (.t 99)),.l 101 (.ldn 7 (.t 100)),.e 9 (.al (.agg #[(.int .i64 0),(.string (mk [])),(.int .i64 0),(.int .i64 0),(.string (mk [])),(.slice none 0 0),(.bool false)]) 64),.s (.st 7 (.t 9) (.t 101))]) (.seq (.reg [.v 102 3,.q 103 (.bin .add true (.t 102) (.k (.string (mk [32,32])))),.q 104 (.fa 0 (.t 9)),.l 105 (.ld1 (.t 104)),.a 106 (.cq 44 [(.t 105)]),.q 107 (.bin .add true (.t 103) (.t 106)),.q 108 (.bin .add true (.t 107) (.k (.string (mk [32])))),.q 109 (.fa 1 (.t 9)),.l 110 (.ld1 (.t 109)),.q 111 (.bin .add true (.t 108) (.t 110)),.q 112 (.bin .add true (.t 111) (.k (.string (mk [58,32])))),.q 113 (.fa 2 (.t 9)),.l 114 (.ldn 4 (.t 113)),.a 115 (.cq 17 [(.t 114)]),.q 116 (.bin .add true (.t 112) (.t 115)),.v 3 116]) (.seq (.seq (.reg [.q 117 (.fa 6 (.t 9)),.l 118 (.ld1 (.t 117))]) (.cond (.t 118) (.reg [.v 119 3,.q 120 (.bin .add true (.t 119) (.k (.string (mk [63])))),.v 3 120]) .skip)) (.reg [.v 121 3,.q 122 (.bin .add true (.t 121) (.k (.string (mk [59,10])))),.v 3 122]))))) (.reg [.v 91 8,.q 92 (.bin .add true (.t 91) (.i 1)),.v 8 92])))))) (.reg [.v 123 3,.q 124 (.bin .add true (.t 123) (.k (.string (mk [125,10])))),.v 3 124])))) (.reg [.v 70 7,.q 71 (.bin .add true (.t 70) (.i 1)),.v 7 71])))))) (.seq (.reg [.v 125 3,.v 2 125]) .ret)))))
def R4:List RV:=[.mv (.t 2)]
theorem Z1:aV Tryz.prog true ⟨fun r k=>if r=1/\k=1 then .q else if r=3/\k=2 then .q else if r=14/\k=14 then .q else if r=24/\k=4 then .q else if r=24/\k=13 then .q else .own [],fun _=>false⟩ Tryz.f14=some (RL,R4):=by kernel_rfl
def Q4:PC:=.seq (.reg [.e 1 (.bx 37 (.t 0)),.q 2 (.mv (.k (.string (mk []))))]) (.seq (.reg [.l 3 (.ldn 4 (.t 1)),.a 4 (.cq 54 [(.t 3),(.i 6)]),.v 2 4]) .ret)
def PZ:List RV:=[.mv (.t 2)]
theorem ZQ:aV Tryz.prog true ⟨fun r k=>if r=1/\k=1 then .q else .own [],fun _=>false⟩ Tryz.f17=some (Q4,PZ):=by kernel_rfl
def O9:PC:=.seq (.reg [.q 2 (.mv (.k (.string (mk []))))]) (.seq (.seq (.reg [.v 3 0,.q 4 (.bin .lss true (.t 3) (.i 0))]) (.cond (.t 4) (.seq (.reg [.v 5 0,.q 6 (.bin .add true (.t 5) (.i 1)),.q 7 (.neg false (.t 6)),.q 8 (.cvt .u64 (.t 7)),.q 9 (.bin .add true (.t 8) (.k (.int .u64 1))),.a 10 (.cq 85 [(.t 9)]),.q 11 (.bin .add true (.k (.string (mk [45]))) (.t 10)),.v 2 11]) .ret) .skip)) (.seq (.reg [.v 12 0,.q 13 (.cvt .u64 (.t 12)),.a 14 (.cq 85 [(.t 13)]),.v 2 14]) .ret))
def S7:List RV:=[.mv (.t 2)]
theorem Z7:aV Tryz.prog true ⟨fun r k=>if r=2/\k=5 then .q else if r=3/\k=2 then .q else .own [],fun _=>false⟩ Tryz.f44=some (O9,S7):=by kernel_rfl
def KF:PC:=.seq (.reg [.e 2 (.bx 37 (.t 0)),.q 4 (.mv (.k (.string (mk []))))]) (.seq (.seq (.reg [.q 6 (.fa 0 (.t 2)),.l 7 (.ld1 (.t 6)),.q 8 (.bin .neq true (.t 7) (.i 5)),.v 9 8,⟨some 10,(some (9,true)),.q (.fa 3 (.t 2))⟩,⟨some 11,(some (9,true)),.l (.ld1 (.t 10))⟩,⟨some 12,(some (9,true)),.q (.lnL (.t 11))⟩,⟨some 13,(some (9,true)),.q (.bin .gtr true (.t 12) (.i 0))⟩,.a 14 (.pick (.t 9) (.t 13) (.k (.bool false))),.v 15 14,⟨some 16,(some (15,false)),.q (.fa 0 (.t 2))⟩,⟨some 17,(some (15,false)),.l (.ld1 (.t 16))⟩,⟨some 18,(some (15,false)),.q (.bin .neq true (.t 17) (.i 6))⟩,⟨some 19,(some (15,false)),.q (.mv (.t 18))⟩,⟨some 20,(some (19,true)),.q (.fa 0 (.t 2))⟩,⟨some 21,(some (19,true)),.l (.ld1 (.t 20))⟩,⟨some 22,(some (19,true)),.q (.bin .neq true (.t 21) (.i 7))⟩,⟨some 23,(some (15,false)),.pick (.t 19) (.t 22) (.k (.bool false))⟩,⟨some 24,(some (15,false)),.q (.mv (.t 23))⟩,⟨some 25,(some (24,true)),.q (.fa 2 (.t 2))⟩,⟨some 26,(some (24,true)),.l (.ld1 (.t 25))⟩,⟨some 27,(some (24,true)),.q (.bin .neq true (.t 26) (.k (.string (mk []))))⟩,⟨some 28,(some (15,false)),.pick (.t 24) (.t 27) (.k (.bool false))⟩,.a 29 (.pick (.t 15) (.k (.bool true)) (.t 28))]) (.cond (.t 29) (.seq (.reg [.q 4 (.mv (.k (.string (mk []))))]) .ret) .skip)) (.seq (.seq (.reg [.q 30 (.fa 0 (.t 2)),.l 31 (.ld1 (.t 30))]) (.block 0 (.seq (.reg [.q 33 (.bin .eql true (.t 31) (.i 1)),.v 32 33]) (.cond (.t 32) (.seq (.reg [.q 34 (.fa 1 (.t 2)),.l 35 (.ld1 (.t 34)),.q 36 (.bin .eql true (.t 35) (.i 0))]) (.cond (.t 36) (.seq (.reg [.q 4 (.mv (.k (.string (mk [98,111,111,108]))))]) .ret) .skip)) (.seq (.reg [.q 38 (.bin .eql true (.t 31) (.i 2)),.v 37 38]) (.cond (.t 37) (.seq (.reg [.q 39 (.fa 1 (.t 2)),.l 40 (.ld1 (.t 39)),.q 41 (.bin .eql true (.t 40) (.i 8)),.v 42 41,⟨some 43,(some (42,false)),.q (.fa 1 (.t 2))⟩,⟨some 44,(some (42,false)),.l (.ld1 (.t 43))⟩,⟨some 45,(some (42,false)),.q (.bin .eql true (.t 44) (.i 16))⟩,.a 46 (.pick (.t 42) (.k (.bool true)) (.t 45)),.v 47 46,⟨some 48,(some (47,false)),.q (.fa 1 (.t 2))⟩,⟨some 49,(some (47,false)),.l (.ld1 (.t 48))⟩,⟨some 50,(some (47,false)),.q (.bin .eql true (.t 49) (.i 32))⟩,.a 51 (.pick (.t 47) (.k (.bool true)) (.t 50)),.v 52 51,⟨some 53,(some (52,false)),.q (.fa 1 (.t 2))⟩,⟨some 54,(some (52,false)),.l (.ld1 (.t 53))⟩,⟨some 55,(some (52,false)),.q (.bin .eql true (.t 54) (.i 64))⟩,.a 56 (.pick (.t 52) (.k (.bool true)) (.t 55))]) (.cond (.t 56) (.seq (.reg [.q 57 (.fa 1 (.t 2)),.l 58 (.ld1 (.t 57)),.a 59 (.cq 44 [(.t 58)]),.q 60 (.bin .add true (.k (.string (mk [105,110,116]))) (.t 59)),.v 4 60]) .ret) .skip)) (.seq (.reg [.q 62 (.bin .eql true (.t 31) (.i 3)),.v 61 62]) (.cond (.t 61) (.seq (.reg [.q 63 (.fa 1 (.t 2)),.l 64 (.ld1 (.t 63)),.q 65 (.bin .eql true (.t 64) (.i 8)),.v 66 65,⟨some 67,(some (66,false)),.q (.fa 1 (.t 2))⟩,⟨some 68,(some (66,false)),.l (.ld1 (.t 67))⟩,⟨some 69,(some (66,false)),.q (.bin .eql true (.t 68) (.i 16))⟩,.a 70 (.pick (.t 66) (.k (.bool true)) (.t 69)),.v 71 70,⟨some 72,(some (71,false)),.q (.fa 1 (.t 2))⟩,⟨some 73,(some (71,false)),.l (.ld1 (.t 72))⟩,⟨some 74,(some (71,false)),.q (.bin .eql true (.t 73) (.i 32))⟩,.a 75 (.pick (.t 71) (.k (.bool true)) (.t 74))]) (.cond (.t 75) (.seq (.reg [.q 76 (.fa 1 (.t 2)),.l 77 (.ld1 (.t 76)),.a 78 (.cq 44 [(.t 77)]),.q 79 (.bin .add true (.k (.string (mk [117,105,110,116]))) (.t 78)),.v 4 79]) .ret) .skip)) (.seq (.reg [.q 81 (.bin .eql true (.t 31) (.i 4)),.v 80 81]) (.cond (.t 80) (.seq (.reg [.q 82 (.fa 1 (.t 2)),.l 83 (.ld1 (.t 82)),.q 84 (.bin .geq true (.t 83) (.i 0))]) (.cond (.t 84) (.seq (.reg [.q 85 (.fa 1 (.t 2)),.l 86 (.ld1 (.t 85)),.a 87 (.cq 44 [(.t 86)]),.q 88 (.bin .add true (.k (.string (mk [116,101,120,116,91]))) (.t 87)),.q 89 (.bin .add true (.t 88) (.k (.string (mk [93])))),.v 4 89]) .ret) .skip)) (.seq (.reg [.q 91 (.bin .eql true (.t 31) (.i 5)),.v 90 91]) (.cond (.t 90) (.seq (.seq (.reg [.q 92 (.fa 1 (.t 2)),.l 93 (.ld1 (.t 92)),.q 94 (.bin .lss true (.t 93) (.i 0)),.v 95 94,⟨some 96,(some (95,false)),.q (.fa 3 (.t 2))⟩,⟨some 97,(some (95,false)),.l (.ld1 (.t 96))⟩,⟨some 98,(some (95,false)),.q (.lnL (.t 97))⟩,⟨some 99,(some (95,false)),.q (.bin .neq true (.t 98) (.i 1))⟩,.a 100 (.pick (.t 95) (.k (.bool true)) (.t 99)),.v 101 100,⟨some 102,(some (101,false)),.q (.mv (.t 1))⟩,⟨some 103,(some (101,false)),.q (.bin .eql true (.t 102) (.i 0))⟩,.a 104 (.pick (.t 101) (.k (.bool true)) (.t 103))]) (.cond (.t 104) (.seq (.reg [.q 4 (.mv (.k (.string (mk []))))]) .ret) .skip)) (.seq (.reg [.q 105 (.fa 3 (.t 2)),.l 106 (.ld1 (.t 105)),.l 107 (.ia 4 (.t 106) (.i 0)),.l 108 (.ldn 4 (.t 107)),.v 109 1,.q 110 (.bin .sub true (.t 109) (.i 1)),.a 111 (.cq 54 [(.t 108),(.t 110)]),.v 5 111]) (.seq (.reg [.v 112 5,.q 113 (.bin .neq true (.t 112) (.k (.string (mk []))))]) (.cond (.t 113) (.seq (.reg [.q 114 (.fa 1 (.t 2)),.l 115 (.ld1 (.t 114)),.a 116 (.cq 44 [(.t 115)]),.q 117 (.bin .add true (.k (.string (mk [108,105,115,116,91]))) (.t 116)),.q 118 (.bin .add true (.t 117) (.k (.string (mk [93,32,111,102,32])))),.v 119 5,.q 120 (.bin .add true (.t 118) (.t 119)),.v 4 120]) .ret) .skip)))) (.seq (.seq (.reg [.q 122 (.bin .eql true (.t 31) (.i 6)),.v 121 122]) (.cond (.t 121) .skip (.reg [.q 123 (.bin .eql true (.t 31) (.i 7)),.v 121 123]))) (.cond (.t 121) (.seq (.reg [.q 124 (.fa 1 (.t 2)),.l 125 (.ld1 (.t 124)),.q 126 (.bin .eql true (.t 125) (.i 0)),.v 127 126,⟨some 128,(some (127,true)),.q (.fa 2 (.t 2))⟩,⟨some 129,(some (127,true)),.l (.ld1 (.t 128))⟩,⟨some 130,(some (127,true)),.cq 96 [(.t 129)]⟩,.a 131 (.pick (.t 127) (.t 130) (.k (.bool false)))]) (.cond (.t 131) (.seq (.reg [.q 132 (.fa 2 (.t 2)),.l 133 (.ld1 (.t 132)),.v 4 133]) .ret) .skip)) .skip)))))))))))))) (.seq (.reg [.q 4 (.mv (.k (.string (mk []))))]) .ret)))
def I1:List RV:=[.mv (.t 4)]
theorem Q5:aV Tryz.prog true ⟨fun r k=>if r=9/\k=2 then .q else if r=12/\k=2 then .q else if r=15/\k=2 then .q else if r=19/\k=6 then .q else if r=21/\k=2 then .q else if r=24/\k=6 then .q else .own [],fun _=>false⟩ Tryz.f54=some (KF,I1):=by kernel_rfl
def TS:PC:=.seq (.reg [.q 2 (.mv (.k (.string (mk []))))]) (.seq (.reg [.v 4 0,.q 5 (.bin .rem true (.t 4) (.k (.int .u64 10))),.q 6 (.bin .add true (.k (.int .u64 48)) (.t 5)),.q 7 (.cvt .u8 (.t 6)),.e 8 (.bsl 5 1 [(.t 7)]),.q 9 (.b2s (.t 8)),.v 3 9]) (.seq (.seq (.reg [.v 10 0,.q 11 (.bin .quo true (.t 10) (.k (.int .u64 10))),.v 0 11]) (.block 0 (.loop (.seq (.seq (.reg [.v 12 0,.q 13 (.bin .gtr true (.t 12) (.k (.int .u64 0)))]) (.cond (.t 13) .skip (.exit 0))) (.seq (.block 1 (.reg [.v 16 0,.q 17 (.bin .rem true (.t 16) (.k (.int .u64 10))),.q 18 (.bin .add true (.k (.int .u64 48)) (.t 17)),.q 19 (.cvt .u8 (.t 18)),.e 20 (.bsl 5 1 [(.t 19)]),.q 21 (.b2s (.t 20)),.v 22 3,.q 23 (.bin .add true (.t 21) (.t 22)),.v 3 23])) (.reg [.v 14 0,.q 15 (.bin .quo true (.t 14) (.k (.int .u64 10))),.v 0 15])))))) (.seq (.reg [.v 24 3,.v 2 24]) .ret)))
def SJ:List RV:=[.mv (.t 2)]
theorem YR:aV Tryz.prog true ⟨fun _ _=>.own [],fun _=>false⟩ Tryz.f85=some (TS,SJ):=by kernel_rfl
def SI:PC:=.seq (.reg [.q 2 (.mv (.k (.bool false)))]) (.seq (.seq (.reg [.v 5 0,.q 6 (.lnS (.t 5)),.q 7 (.bin .lss true (.t 6) (.i 1)),.v 8 7,⟨some 9,(some (8,false)),.q (.mv (.t 0))⟩,⟨some 10,(some (8,false)),.q (.lnS (.t 9))⟩,⟨some 11,(some (8,false)),.q (.bin .gtr true (.t 10) (.i 16))⟩,.a 12 (.pick (.t 8) (.k (.bool true)) (.t 11)),.v 13 12,⟨some 14,(some (13,false)),.q (.mv (.t 0))⟩,⟨some 15,(some (13,false)),.ix (.t 14) (.i 0)⟩,⟨some 16,(some (13,false)),.q (.bin .lss true (.t 15) (.k (.int .u8 65)))⟩,.a 17 (.pick (.t 13) (.k (.bool true)) (.t 16)),.v 18 17,⟨some 19,(some (18,false)),.q (.mv (.t 0))⟩,⟨some 20,(some (18,false)),.ix (.t 19) (.i 0)⟩,⟨some 21,(some (18,false)),.q (.bin .gtr true (.t 20) (.k (.int .u8 90)))⟩,.a 22 (.pick (.t 18) (.k (.bool true)) (.t 21))]) (.cond (.t 22) (.seq (.reg [.q 2 (.mv (.k (.bool false)))]) .ret) .skip)) (.seq (.seq (.reg [.q 3 (.mv (.i 0))]) (.block 0 (.loop (.seq (.seq (.reg [.v 23 3,.v 24 0,.q 25 (.lnS (.t 24)),.q 26 (.bin .lss true (.t 23) (.t 25))]) (.cond (.t 26) .skip (.exit 0))) (.seq (.block 1 (.seq (.reg [.v 29 0,.v 30 3,.a 31 (.ix (.t 29) (.t 30)),.v 4 31]) (.seq (.reg [.v 32 4,.q 33 (.bin .geq true (.t 32) (.k (.int .u8 97))),.v 34 33,⟨some 35,(some (34,true)),.q (.mv (.t 4))⟩,⟨some 36,(some (34,true)),.q (.bin .leq true (.t 35) (.k (.int .u8 122)))⟩,.a 37 (.pick (.t 34) (.t 36) (.k (.bool false))),.v 38 37,⟨some 39,(some (38,false)),.q (.mv (.t 4))⟩,⟨some 40,(some (38,false)),.q (.bin .geq true (.t 39) (.k (.int .u8 65)))⟩,⟨some 41,(some (38,false)),.q (.mv (.t 40))⟩,⟨some 42,(some (41,true)),.q (.mv (.t 4))⟩,⟨some 43,(some (41,true)),.q (.bin .leq true (.t 42) (.k (.int .u8 90)))⟩,⟨some 44,(some (38,false)),.pick (.t 41) (.t 43) (.k (.bool false))⟩,.a 45 (.pick (.t 38) (.k (.bool true)) (.t 44)),.v 46 45,⟨some 47,(some (46,false)),.q (.mv (.t 4))⟩,⟨some 48,(some (46,false)),.q (.bin .geq true (.t 47) (.k (.int .u8 48)))⟩,⟨some 49,(some (46,false)),.q (.mv (.t 48))⟩,⟨some 50,(some (49,true)),.q (.mv (.t 4))⟩,⟨some 51,(some (49,true)),.q (.bin .leq true (.t 50) (.k (.int .u8 57)))⟩,⟨some 52,(some (46,false)),.pick (.t 49) (.t 51) (.k (.bool false))⟩,.a 53 (.pick (.t 46) (.k (.bool true)) (.t 52)),.v 54 53,⟨some 55,(some (54,false)),.q (.mv (.t 4))⟩,⟨some 56,(some (54,false)),.q (.bin .eql true (.t 55) (.k (.int .u8 95)))⟩,.a 57 (.pick (.t 54) (.k (.bool true)) (.t 56)),.q 58 (.not (.t 57))]) (.cond (.t 58) (.seq (.reg [.q 2 (.mv (.k (.bool false)))]) .ret) .skip)))) (.reg [.v 27 3,.q 28 (.bin .add true (.t 27) (.i 1)),.v 3 28])))))) (.seq (.reg [.q 2 (.mv (.k (.bool true)))]) .ret)))
def RH:List RV:=[.mv (.t 2)]
theorem X4:aV Tryz.prog true ⟨fun _ _=>.own [],fun _=>false⟩ Tryz.f96=some (SI,RH):=by kernel_rfl
def uY:List S->Prop:=fun av=>match av with
 | [.va (.c1 (.vl (.int .u64 n)))]=>0<=n/\n<=18446744073709551615
 | _=>False
theorem mY {av:List S} (h:uY av):∃ n:Nat,av=[iS .u64 n]/\n<=18446744073709551615:=by
 unfold uY at h
 split at h
 · rename_i n
   exact ⟨n.toNat,by rw [Int.toNat_of_nonneg h.1],by omega⟩
 · exact h.elim
def ID:List S->A:=fun av=>match av with
 | [.va (.c1 (.vl (.int .u64 n)))]=>tA (mk (digs n.toNat))
 | _=>.gs []
def dgFn8:Fun:=⟨uY,ID,fun av h=>by obtain ⟨_,rfl,_⟩:=mY h; trivial⟩
theorem HY:∀ av H K,dgFn8.sp av H K->av.length=1:=fun av H K h=>by obtain ⟨_,rfl,_⟩:=mY h.1.1; rfl
attribute [go_sem] dgFn8 uY ID
theorem J3 (n:Nat):(n:Int).tmod 10=((n % 10:Nat):Int):=rfl
theorem wD (n:Nat):(n:Int).tdiv 10=((n / 10:Nat):Int):=rfl
theorem TF (n:Nat):jO [[C.vl (Value.int IntKind.u8 (IntKind.u8.wrap (48 + (n:Int).tmod 10)))]]=[(48 + n % 10).toUInt8]:=by
 have hm:=Nat.mod_lt n (show 0 < 10 by decide)
 rw [J3]
 have hw:IntKind.u8.wrap (48 + ((n % 10:Nat):Int))=48 + ((n % 10:Nat):Int):=lL (by simp [inr,IntKind.min,IntKind.max,IntKind.signed,IntKind.bits]; omega)
 rw [hw]
 show [UInt8.ofNat (48 + ((n % 10:Nat):Int)).toNat]=_
 rw [show (48 + ((n % 10:Nat):Int)).toNat=48 + n % 10 by omega]
theorem IY:Meets Tryz.prog 85 dgFn8.sp:=by
 refine aG Tryz.func85 YR 1 (by rw [Tryz.ntmps85]; decide) (aB _) HY ?_
 rintro av H K ⟨⟨h,rfl⟩,hK⟩
 obtain ⟨n,rfl,hn⟩:=mY h
 have hK:K (tS (mk (digs n))) []:=hK
 clear h
 have fin:∀ (x:List UInt8) (R:Hp),digs n=x->W.Fin 0 K (tS (mk x)) R:=fun x R h=>by
  rw [h] at hK
  exact .z (hK)
 simp (maxSteps:=9^6) -dsimp only [go_sem,TS,SJ]
 refine ⟨by decide,by rw [J3]; omega,rfl,⟨by decide,by rw [wD]; omega,by rw [wD]; omega⟩,?_⟩
 refine bP (α:=Nat × List UInt8) (fun z=>[(0,iS .u64 z.1),(2,tS (mk [])),(3,tS (mk z.2))]) (fun _=>[]) (fun z=>z.1<=18446744073709551615/\rC false z.1 ++ z.2=digs n) (fun z=>z.1) (eJ (n / 10,[(48 + n % 10).toUInt8]) 0 ⟨by simp only; omega,?_⟩ ?_ rfl) ?_
 · have:=v6 (f:=true) (u:=n) rfl
   simp only [rC,Bool.true_or,aO] at this ⊢
   exact this.symm
 · simp -dsimp only [go_sem,wD,TF]<;>simp
 rintro ⟨u,acc⟩ ⟨hu,hr⟩
 simp only at hu hr
 have hl:=oK 19 n (by omega)
 rw [<-hr,List.length_append] at hl
 simp (maxSteps:=9^6) -dsimp only [go_sem]
 rcases Nat.eq_zero_or_pos u with h0 | h0
 · subst h0
   refine ⟨fun h=>(by simp at h),fun _=>fin _ _ ?_⟩
   rw [<-hr]; simp [rC]
 · refine ⟨fun _=>⟨by decide,by rw [J3]; omega,rfl,by simp [jO]; omega,⟨by decide,by rw [wD]; omega,by rw [wD]; omega⟩,?_⟩,fun h=>(by have:=of_decide_eq_false h; omega)⟩
   rw [v6 (f:=false) (u:=u) (by simp; omega),List.append_assoc] at hr
   refine aC (u / 10,[(48 + u % 10).toUInt8] ++ acc) 0 ⟨by simp only; omega,hr⟩ (by simp only; omega) ?_ rfl
   simp -dsimp only [go_sem,wD,TF]<;>simp
theorem pF:Meets Tryz.prog 44 itFn.sp:=by
 refine aG Tryz.func44 Z7 1 (by rw [Tryz.ntmps44]; decide) (aI IY (aB _)) (fun av H K h=>by obtain ⟨_,rfl,_⟩:=kV h.1.1; rfl) ?_
 rintro av H K ⟨⟨h,rfl⟩,hK⟩
 obtain ⟨n,rfl,h0,h1⟩:=kV h
 have hK:K (tS (mk (bR n))) []:=hK
 clear h
 have fin:∀ (x:List UInt8) (R:Hp),bR n=x->W.Fin 0 K (tS (mk x)) R:=fun x R h=>by
  rw [h] at hK
  exact .z (hK)
 have w:∀ m:Int,IntKind.u64.wrap m=m % 18446744073709551616:=fun m=>by simp [IntKind.wrap,IntKind.signed,IntKind.bits]
 have hl:=oK 19 n.natAbs (by omega)
 simp (maxSteps:=9^6) -dsimp only [go_sem,O9,S7,w]
 refine ⟨fun hc=>?_,fun hc=>?_⟩
 · have hn:=of_decide_eq_true hc
   have hw:IntKind.i64.wrap (0 - (n + 1))=0 - (n + 1):=lL (by simp [inr,IntKind.min,IntKind.max,IntKind.signed,IntKind.bits]; omega)
   have e:(0 - (n + 1)) % 18446744073709551616 + 1=(n.natAbs:Int):=by omega
   rw [hw,e]
   refine ⟨by omega,by omega,by omega,?_,fin _ _ ?_⟩
   · rw [Int.toNat_natCast]; omega
   · unfold bR; rw [hc,Int.toNat_natCast]; rfl
 · have hn:=of_decide_eq_false hc
   have e:n % 18446744073709551616=(n.natAbs:Int):=by omega
   rw [e]
   refine ⟨by omega,fin _ _ ?_⟩
   unfold bR; rw [hc,Int.toNat_natCast]; rfl
theorem pW (l:List UInt8):fW l=(bQ l && pY l):=by
 unfold fW
 cases l with
 | nil=>rfl
 | cons c r=>
  have e1:decide (65<=(c.toNat:Int))=decide (65<=c):=decide_eq_decide.2 (by rw [UInt8.le_iff_toNat_le]; exact Int.ofNat_le (m:=65))
  have e2:decide ((c.toNat:Int)<=90)=decide (c<=90):=decide_eq_decide.2 (show ((c.toNat:Int)<=((90:Nat):Int)) ↔ c<=90 from Int.ofNat_le.trans (UInt8.le_iff_toNat_le (b:=90)).symm)
  simp only [e1,e2,pY]
theorem CY:Meets Tryz.prog 96 (nO fun l=>.bool (fW l)).sp:=by
 refine aG Tryz.func96 X4 1 (by rw [Tryz.ntmps96]; decide) (aB _) kE ?_
 rintro xs H K ⟨⟨h,rfl⟩,hK⟩
 obtain ⟨s,rfl⟩:=fF h
 have hK':K (bS (fW (bl s))) []:=hK
 clear hK h
 have fin:∀ (x:Bool) (R:Hp),fW (bl s)=x->W.Fin 0 K (bS x) R:=fun x R h=>by
  rw [h] at hK'
  exact .z (hK')
 simp (maxSteps:=9^6) -dsimp only [go_sem,SI,RH]
 generalize hg:(decide (((bl s).length:Int) < 1) || decide (16 < ((bl s).length:Int)))=g
 cases g with
 | true=>
  have hf:fW (bl s)=false:=by
   rw [pW]
   rw [Bool.or_eq_true] at hg
   rcases hg with h | h
   · have:=of_decide_eq_true h
     have:bl s=[]:=List.eq_nil_of_length_eq_zero (by omega)
     rw [this]; rfl
   · have:=of_decide_eq_true h
     rw [mJ (by omega)]; rfl
  exact ⟨fun h=>(by cases h),fun c _=>⟨fun h=>(by simp at h),fun c1 _=>⟨fun _=>fin _ _ hf,fun h=>(by simp at h)⟩⟩⟩
 | false=>
 simp only [Bool.or_eq_false_iff,decide_eq_false_iff_not] at hg
 refine ⟨fun _=>by omega,fun c hc=>?_⟩
 have hc:=hc rfl
 have hcap:pY (bl s)=(decide (65<=c) && decide (c<=90)):=by
  cases hl:bl s with
  | nil=>rw [hl] at hc; cases hc
  | cons d r=>rw [hl] at hc; obtain rfl:=a7 hc; rfl
 have e1:decide ((c.toNat:Int) < 65)=!decide (65<=c):=by
  have:(65<=c) ↔ 65<=c.toNat:=UInt8.le_iff_toNat_le
  rw [Bool.eq_iff_iff]; simp [this]; omega
 have e2:decide (90 < (c.toNat:Int))=!decide (c<=90):=by
  have:(c<=90) ↔ c.toNat<=90:=UInt8.le_iff_toNat_le
  rw [Bool.eq_iff_iff]; simp [this]; omega
 refine ⟨fun _=>by omega,fun c1 hc1=>⟨fun h=>fin _ _ ?_,fun h=>?_⟩⟩
 · rw [pW,hcap]
   rw [e1,Bool.false_or] at h hc1
   cases h65:decide (65<=c)
   · simp
   · rw [h65] at h hc1
     obtain rfl:c=c1:=by rw [hc] at hc1; exact a7 (hc1 rfl)
     rw [e2] at h
     simp at h
     simp [h]
 have hcc:pY (bl s)=true:=by
  rw [hcap]
  rw [e1,Bool.false_or] at h hc1
  cases h65:decide (65<=c)
  · rw [h65] at h; simp at h
  · rw [h65] at h hc1
    obtain rfl:c=c1:=by rw [hc] at hc1; exact a7 (hc1 rfl)
    rw [e2] at h
    simp at h
    simp [h]
 have hlet:bL c.toNat=true:=by
  rw [hcap,Bool.and_eq_true] at hcc
  have h1:65<=c.toNat:=UInt8.le_iff_toNat_le.1 (of_decide_eq_true hcc.1)
  have h2:c.toNat<=90:=UInt8.le_iff_toNat_le.1 (of_decide_eq_true hcc.2)
  unfold bL
  simp; omega
 have htn:fW (bl s)=bQ (bl s):=by rw [pW,hcc,Bool.and_true]
 clear h hc1
 refine aQ (α:=Nat) (fun i=>[(0,tS s),(3,iS .i64 i)]) (fun i=>[]) (fun i=>i<=(bl s).length/\∀ (j:Nat) (x:UInt8),j < i->(bl s)[j]? = some x->aY x=true) (fun i=>(bl s).length - i) 0 0 ⟨by omega,by omega⟩ ?_ ?_ ?_
 · simp -dsimp only [go_sem]; simp
 · simp [go_sem]
 rintro i ⟨hi,ha⟩
 rcases bH i (bl s).length with hlt | hge
 · have hgd:decide ((i:Int) < ((bl s).length:Int))=true:=by simp; omega
   obtain ⟨d,hd⟩:∃ d,(bl s)[i]? = some d:=⟨_,aU hlt⟩
   simp (maxSteps:=9^6) -dsimp only [go_sem,hgd]
   refine ⟨by omega,fun x hx=>⟨fun h1 h2=>by rw [h1,h2]; rfl,fun h1 h2=>by rw [h1,h2]; rfl,fun h=>fin _ _ (by rw [htn]; exact xC hx h),fun h=>⟨by omega,?_⟩⟩⟩
   refine aC (i + 1) 0 ⟨by omega,fun j y hj hy=>?_⟩ (by omega) ?_ rfl
   · rcases bH j i with h4 | h4
     · exact ha j y h4 hy
     · obtain rfl:j=i:=by omega
       rw [hx] at hy; obtain rfl:=a7 hy
       rw [Bool.not_eq_false'] at h
       exact h
   · simp -dsimp only [go_sem]<;>simp
 · have hgd:decide ((i:Int) < ((bl s).length:Int))=false:=by simp; omega
   simp (maxSteps:=9^6) -dsimp only [go_sem,hgd]
   refine fin _ _ ?_
   rw [htn]
   exact qQ hc (by omega) hlet fun j x hx=>ha j x (by have:=(aW.1 hx).1; omega) hx
def zF (N:Nat):List S->Prop:=fun av=>match av with
 | [.va (.gs r),.va (.c1 (.vl (.int .i64 n)))]=>gI r/\0<=n/\n<=N
 | _=>False
theorem kM {N:Nat} {av:List S} (h:zF N av):∃ (t:Ty) (n:Nat),av=[.va (.gs (aP t)),iS .i64 n]/\TyOk t/\n<=N:=by
 unfold zF at h
 split at h
 · rename_i n
   obtain ⟨⟨t,rfl,ht⟩,h1,h2⟩:=h
   exact ⟨t,n.toNat,by rw [Int.toNat_of_nonneg h1],ht,by omega⟩
 · exact h.elim
noncomputable def LN:List S->A:=fun av=>match av with
 | [.va (.gs r),.va (.c1 (.vl (.int .i64 n)))]=>tA (mk (dI n.toNat (C.ty r)))
 | _=>.gs []
noncomputable def B6 (N:Nat):Fun:=⟨zF N,LN,fun av h=>by obtain ⟨_,_,rfl,_⟩:=kM h; trivial⟩
theorem zZ {N:Nat}:∀ av H K,(B6 N).sp av H K->av.length=2:=fun av H K h=>by obtain ⟨_,_,rfl,_⟩:=kM h.1.1; rfl
attribute [go_sem] B6 zF LN
def mG (t:Ty) (r:List UInt8):List UInt8:=
 bif t.k != 5 && decide (0 < (t.e.length:Int)) || t.k != 6 && t.k != 7 && !(bl t.n == []) then [] else
 bif t.k == 1 then bif t.s == 0 then kT else [] else
 bif t.k == 2 then bif t.s == 8 || t.s == 16 || t.s == 32 || t.s == 64 then wInt ++ bR t.s else [] else
 bif t.k == 3 then bif t.s == 8 || t.s == 16 || t.s == 32 then wUint ++ bR t.s else [] else
 bif t.k == 4 then bif decide (0<=t.s) then wText ++ [91] ++ bR t.s ++ [93] else [] else
 bif t.k == 5 then r else
 bif t.k == 6 || t.k == 7 then bif t.s == 0 && fW (bl t.n) then bl t.n else [] else []
theorem RS {t:Ty} {r:List UInt8} (h:(t.k == 5)=false):mG t r=l8 t:=by
 have h5:(t.k != 5)=true:=by rw [bne,h]; rfl
 unfold mG l8 LS G6
 rw [h,h5,Bool.true_and]
 cases c0:decide (0 < (t.e.length:Int))
 · rw [Bool.false_or,aJ]
   by_cases k1:t.k=1
   · rw [k1]; cases bl t.n == []<;>simp
   by_cases k2:t.k=2
   · rw [k2]; cases bl t.n == []<;>simp
   by_cases k3:t.k=3
   · rw [k3]; cases bl t.n == []<;>simp
   by_cases k4:t.k=4
   · rw [k4]; cases bl t.n == []<;>simp
   by_cases k6:t.k=6
   · rw [k6,pW,<-Bool.and_assoc]; rfl
   by_cases k7:t.k=7
   · rw [k7,pW,<-Bool.and_assoc]; rfl
   rw [beq_eq_false_iff_ne.2 k1,beq_eq_false_iff_ne.2 k2,beq_eq_false_iff_ne.2 k3,beq_eq_false_iff_ne.2 k4,beq_eq_false_iff_ne.2 k6,beq_eq_false_iff_ne.2 k7]
   cases bl t.n == []<;>simp
 · rfl
theorem G9 {n:Nat} {t:Ty}:mG t (bif decide (t.s < 0) || (t.e.length:Int) != 1 || (n:Int) == 0 then [] else bif dI (n - 1) (t.e.headD default) == [] then [] else o8 t.s ++ dI (n - 1) (t.e.headD default))=dI n t:=by
 cases h:t.k == 5
 · rw [RS h,uC h]
 · have hk:t.k=5:=eq_of_beq h
   unfold mG
   rw [hk]
   cases n with
   | zero=>
    rw [E6 h]
    cases bl t.n == []<;>simp
   | succ n=>
    rw [oL h,show (((n + 1:Nat):Int) == 0)=false from beq_eq_false_iff_ne.2 (by omega),Bool.or_false,Nat.add_sub_cancel]
    cases bl t.n == []<;>cases decide (t.s < 0)<;>simp
theorem I4:∀ N,N<=6->Meets Tryz.prog 54 (B6 N).sp:=fun N=>by
 induction N with
 | zero=>
  intro _
  refine aG Tryz.func54 Q5 2 (by rw [Tryz.ntmps54]; decide) (aI pF (aI CY (aB _))) zZ ?_
  rintro av H K ⟨⟨h,rfl⟩,hK⟩
  obtain ⟨t,n,rfl,hs,hn⟩:=kM h
  have hK:K (tS (mk (dI n t))) []:=by
   have:(B6 0).val [.va (.gs (aP t)),iS .i64 n]=tA (mk (dI n t)):=by simp -dsimp only [go_sem]
   rw [this] at hK; exact hK
  clear h
  have fin:∀ (x:List UInt8) (R:Hp),dI n t=x->W.Fin 0 K (tS (mk x)) R:=fun x R h1=>by
   rw [h1] at hK
   exact .z (hK)
  have hsn:bX t.s:=hs.s
  have hd:(bR t.s).length<=21:=dV hsn.1 hsn.2
  rw [<-G9] at fin
  have hel:∀ x,t.e[0]? = some x->t.e.headD default=x:=fun x hx=>by
   cases hu:t.e with
   | nil=>rw [hu] at hx; cases hx
   | cons a r=>rw [hu] at hx; exact a7 hx
  have hnn:((n:Int) - 1).toNat=n - 1:=by omega
  have htl:∀ x,t.e[0]? = some x->(dI (n - 1) x).length<=30 + 31 * (n - 1):=fun x hx=>qU _ _ (hs.e _ (bI hx))
  simp (maxSteps:=9^6) -dsimp only [go_sem,KF,I1,bJ t]
  repeat' first | (intro _) | (refine And.intro ?_ ?_)
  all_goals first
   | exact hsn.1
   | exact hsn.2
   | omega
   | (refine fin _ _ ?_; unfold mG; simp only [*,aO,aJ,Bool.or_true,Bool.true_or,Bool.or_false]; done)
   | (refine fin _ _ ?_; unfold mG; simp only [*,aO,aJ,Bool.or_true,Bool.true_or,Bool.or_false]; rfl)
   | exact cG _
   | exact (BS _ _ (by assumption)).2
   | (rw [cG]; decide)
   | (rename_i a b; rw [a,b]; rfl)
   | (rename_i hc; simp only [Bool.or_eq_false_iff,bne_eq_false_iff_eq] at hc; omega)
   | exact fO (hs.e _ (bI ‹t.e[0]? = some _›))
   | (have hc:=‹(_ || _ || (n:Int) == 0)=false›; simp only [Bool.or_eq_false_iff,beq_eq_false_iff_ne] at hc; omega)
   | (rw [hnn]; have hc:=htl _ ‹t.e[0]? = some _›; omega)
   | (rw [hnn] at *; refine fin _ _ ?_; unfold mG; rw [hel _ ‹t.e[0]? = some _›]; simp only [*,aO,aJ,Bool.or_true,Bool.true_or,Bool.or_false,o8,wOfs]; simp; done)
   | (rw [hnn,Bool.not_eq_false'] at *; refine fin _ _ ?_; unfold mG; rw [hel _ ‹t.e[0]? = some _›]; simp only [*,aO,aJ,Bool.or_true,Bool.true_or,Bool.or_false]; done)
   | (have hq:=‹(!_)=false›; rw [hnn,Bool.not_eq_false'] at hq; refine fin _ _ ?_; unfold mG; rw [hel _ ‹t.e[0]? = some _›]; simp only [*,aO,aJ,Bool.or_true,Bool.true_or,Bool.or_false]; done)
   | (simp_all; done)
   | skip
 | succ N ih=>
  intro hN
  refine aG Tryz.func54 Q5 2 (by rw [Tryz.ntmps54]; decide) (aI (ih (by omega)) (aI pF (aI CY (aB _)))) zZ ?_
  rintro av H K ⟨⟨h,rfl⟩,hK⟩
  obtain ⟨t,n,rfl,hs,hn⟩:=kM h
  have hK:K (tS (mk (dI n t))) []:=by
   have:(B6 (N + 1)).val [.va (.gs (aP t)),iS .i64 n]=tA (mk (dI n t)):=by simp -dsimp only [go_sem]
   rw [this] at hK; exact hK
  clear h
  have fin:∀ (x:List UInt8) (R:Hp),dI n t=x->W.Fin 0 K (tS (mk x)) R:=fun x R h1=>by
   rw [h1] at hK
   exact .z (hK)
  have hsn:bX t.s:=hs.s
  have hd:(bR t.s).length<=21:=dV hsn.1 hsn.2
  rw [<-G9] at fin
  have hel:∀ x,t.e[0]? = some x->t.e.headD default=x:=fun x hx=>by
   cases hu:t.e with
   | nil=>rw [hu] at hx; cases hx
   | cons a r=>rw [hu] at hx; exact a7 hx
  have hnn:((n:Int) - 1).toNat=n - 1:=by omega
  have htl:∀ x,t.e[0]? = some x->(dI (n - 1) x).length<=30 + 31 * (n - 1):=fun x hx=>qU _ _ (hs.e _ (bI hx))
  simp (maxSteps:=9^6) -dsimp only [go_sem,KF,I1,bJ t]
  repeat' first | (intro _) | (refine And.intro ?_ ?_)
  all_goals first
   | exact hsn.1
   | exact hsn.2
   | omega
   | (refine fin _ _ ?_; unfold mG; simp only [*,aO,aJ,Bool.or_true,Bool.true_or,Bool.or_false]; done)
   | (refine fin _ _ ?_; unfold mG; simp only [*,aO,aJ,Bool.or_true,Bool.true_or,Bool.or_false]; rfl)
   | exact cG _
   | exact (BS _ _ (by assumption)).2
   | (rw [cG]; decide)
   | (rename_i a b; rw [a,b]; rfl)
   | (rename_i hc; simp only [Bool.or_eq_false_iff,bne_eq_false_iff_eq] at hc; omega)
   | exact fO (hs.e _ (bI ‹t.e[0]? = some _›))
   | (have hc:=‹(_ || _ || (n:Int) == 0)=false›; simp only [Bool.or_eq_false_iff,beq_eq_false_iff_ne] at hc; omega)
   | (rw [hnn]; have hc:=htl _ ‹t.e[0]? = some _›; omega)
   | (rw [hnn] at *; refine fin _ _ ?_; unfold mG; rw [hel _ ‹t.e[0]? = some _›]; simp only [*,aO,aJ,Bool.or_true,Bool.true_or,Bool.or_false,o8,wOfs]; simp; done)
   | (rw [hnn,Bool.not_eq_false'] at *; refine fin _ _ ?_; unfold mG; rw [hel _ ‹t.e[0]? = some _›]; simp only [*,aO,aJ,Bool.or_true,Bool.true_or,Bool.or_false]; done)
   | (have hq:=‹(!_)=false›; rw [hnn,Bool.not_eq_false'] at hq; refine fin _ _ ?_; unfold mG; rw [hel _ ‹t.e[0]? = some _›]; simp only [*,aO,aJ,Bool.or_true,Bool.true_or,Bool.or_false]; done)
   | (simp_all; done)
   | skip
theorem tF:Meets Tryz.prog 65 (nO fun l=>.bool (bQ l)).sp:=by
 refine aG Tryz.func65 ZK 1 (by rw [Tryz.ntmps65]; decide) (aB _) kE ?_
 rintro xs H K ⟨⟨h,rfl⟩,hK⟩
 obtain ⟨s,rfl⟩:=fF h
 simp -dsimp only [go_sem,P3,PP] at hK ⊢
 refine ⟨fun h1=>?_,fun h1=>?_⟩
 · refine dH hK ?_
   have:bQ (bl s)=false:=by
    simp at h1
    rcases h1 with h1 | h1
    · have:bl s=[]:=List.length_eq_zero_iff.1 (by omega)
      rw [this]; rfl
    · exact mJ (by omega)
   rw [this]
 · have hlen:0 < (bl s).length/\(bl s).length<=16:=by simp at h1; omega
   obtain ⟨hl0,hl⟩:=hlen
   refine aQ (α:=Nat) (fun i=>[(0,tS s),(3,iS .i64 i)]) (fun i=>[]) (fun i=>i<=(bl s).length/\(∀ (j:Nat) (x:UInt8),j < i->(bl s)[j]? = some x->aY x=true)/\(0 < i->∀ x,(bl s)[0]? = some x->bL x.toNat=true)) (fun i=>(bl s).length - i) 0 0 ⟨by omega,by omega,by omega⟩ ?_ ?_ ?_
   · simp -dsimp only [go_sem]; simp
   · simp [go_sem]
   rintro i ⟨hi,ha,hb⟩
   rcases bH i (bl s).length with hlt | hge
   · have hg:decide ((i:Int) < ((bl s).length:Int))=true:=by simp; omega
     obtain ⟨c,hc⟩:∃ c,(bl s)[i]? = some c:=⟨_,aU hlt⟩
     have bad:(i=0/\bL c.toNat=false)\/aY c=false->W.Fin 0 K (bS false) []:=fun h=>dH hK (by
      rcases h with ⟨rfl,h⟩ | h
      · rw [uB hc h]
      · rw [xC hc h])
     have cD:aY c=true->(i=0->bL c.toNat=true)->(i + 1<=(bl s).length/\(∀ (j:Nat) (x:UInt8),j < i + 1->(bl s)[j]? = some x->aY x=true)/\(0 < i + 1->∀ x,(bl s)[0]? = some x->bL x.toNat=true)):=fun h1 h2=>⟨by omega,fun j x hj hx=>by
      rcases bH j i with h4 | h4
      · exact ha j x h4 hx
      · obtain rfl:j=i:=by omega
        rw [hc] at hx; obtain rfl:=a7 hx; exact h1,fun _ x hx=>by
      rcases Nat.eq_zero_or_pos i with h0 | h0
      · subst h0; rw [hc] at hx; obtain rfl:=a7 hx; exact h2 rfl
      · exact hb h0 x hx⟩
     have hb255:=c.toNat_lt
     have hcs:(0<=(c.toNat:Int)/\(c.toNat:Int)<=47)\/(48<=(c.toNat:Int)/\(c.toNat:Int)<=57)\/(58<=(c.toNat:Int)/\(c.toNat:Int)<=64)\/(65<=(c.toNat:Int)/\(c.toNat:Int)<=90)\/(91<=(c.toNat:Int)/\(c.toNat:Int)<=94)\/(95<=(c.toNat:Int)/\(c.toNat:Int)<=95)\/(96<=(c.toNat:Int)/\(c.toNat:Int)<=96)\/(97<=(c.toNat:Int)/\(c.toNat:Int)<=122)\/(123<=(c.toNat:Int)/\(c.toNat:Int)<=255):=by omega
     rcases hcs with h2 | h2 | h2 | h2 | h2 | h2 | h2 | h2 | h2
     · have d1:decide (97<=(c.toNat:Int))=false:=decide_eq_false (by omega)
       have d2:decide ((c.toNat:Int)<=122)=true:=decide_eq_true (by omega)
       have d3:decide (65<=(c.toNat:Int))=false:=decide_eq_false (by omega)
       have d4:decide ((c.toNat:Int)<=90)=true:=decide_eq_true (by omega)
       have d5:((c.toNat:Int) == 95)=false:=by simp; omega
       have d6:decide (48<=(c.toNat:Int))=false:=decide_eq_false (by omega)
       have d7:decide ((c.toNat:Int)<=57)=true:=decide_eq_true (by omega)
       have hL:bL c.toNat=false:=by unfold bL; rw [d1,d2,d3,d4]; rfl
       have hW:aY c=false:=by unfold aY gQ gN; rw [hL,d5,d6,d7]; rfl
       rcases Nat.eq_zero_or_pos i with h0 | h0
       · have hz:((i:Int) == 0)=true:=by simp; omega
         simp (maxSteps:=9^6) -dsimp only [go_sem,hg,hc,aF,forall_eq',Int.toNat_natCast,d1,d3,d5,d6,hz,Bool.true_and,Bool.and_true,Bool.false_and,Bool.and_false,Bool.not_true,Bool.not_false]
         repeat' first | intro _ | apply And.intro
         all_goals first | omega | (rename_i h9; simp at h9; done) | skip
         all_goals exact bad (by rw [hL,hW]; exact .inl ⟨h0,rfl⟩)
       · have hz:((i:Int) == 0)=false:=by simp; omega
         simp (maxSteps:=9^6) -dsimp only [go_sem,hg,hc,aF,forall_eq',Int.toNat_natCast,d1,d3,d5,d6,hz,Bool.true_and,Bool.and_true,Bool.false_and,Bool.not_false]
         repeat' first | intro _ | apply And.intro
         all_goals first | omega | (rename_i h9; simp at h9; done) | skip
         all_goals exact bad (by rw [hL,hW]; exact .inr rfl)
     · have d1:decide (97<=(c.toNat:Int))=false:=decide_eq_false (by omega)
       have d2:decide ((c.toNat:Int)<=122)=true:=decide_eq_true (by omega)
       have d3:decide (65<=(c.toNat:Int))=false:=decide_eq_false (by omega)
       have d4:decide ((c.toNat:Int)<=90)=true:=decide_eq_true (by omega)
       have d5:((c.toNat:Int) == 95)=false:=by simp; omega
       have d6:decide (48<=(c.toNat:Int))=true:=decide_eq_true (by omega)
       have d7:decide ((c.toNat:Int)<=57)=true:=decide_eq_true (by omega)
       have hL:bL c.toNat=false:=by unfold bL; rw [d1,d2,d3,d4]; rfl
       have hW:aY c=true:=by unfold aY gQ gN; rw [hL,d5,d6,d7]; rfl
       rcases Nat.eq_zero_or_pos i with h0 | h0
       · have hz:((i:Int) == 0)=true:=by simp; omega
         simp (maxSteps:=9^6) -dsimp only [go_sem,hg,hc,aF,forall_eq',Int.toNat_natCast,d1,d3,d5,d6,hz,Bool.true_and,Bool.and_true,Bool.false_and,Bool.and_false,Bool.not_true,Bool.not_false]
         repeat' first | intro _ | apply And.intro
         all_goals first | omega | (rename_i h9; simp at h9; done) | skip
         all_goals exact bad (by rw [hL,hW]; exact .inl ⟨h0,rfl⟩)
       · have hz:((i:Int) == 0)=false:=by simp; omega
         simp (maxSteps:=9^6) -dsimp only [go_sem,hg,hc,aF,forall_eq',Int.toNat_natCast,d1,d3,d5,d6,d7,hz,Bool.true_and,Bool.and_true,Bool.false_and,Bool.not_false]
         repeat' first | intro _ | apply And.intro
         all_goals first | omega | (rename_i h9; simp at h9; done) | skip
         all_goals exact aC (i + 1) 0 (cD (by rw [hW]) (fun h3=>by omega)) (by omega) (by simp -dsimp only [go_sem]; simp) (by simp [go_sem])
     · have d1:decide (97<=(c.toNat:Int))=false:=decide_eq_false (by omega)
       have d2:decide ((c.toNat:Int)<=122)=true:=decide_eq_true (by omega)
       have d3:decide (65<=(c.toNat:Int))=false:=decide_eq_false (by omega)
       have d4:decide ((c.toNat:Int)<=90)=true:=decide_eq_true (by omega)
       have d5:((c.toNat:Int) == 95)=false:=by simp; omega
       have d6:decide (48<=(c.toNat:Int))=true:=decide_eq_true (by omega)
       have d7:decide ((c.toNat:Int)<=57)=false:=decide_eq_false (by omega)
       have hL:bL c.toNat=false:=by unfold bL; rw [d1,d2,d3,d4]; rfl
       have hW:aY c=false:=by unfold aY gQ gN; rw [hL,d5,d6,d7]; rfl
       rcases Nat.eq_zero_or_pos i with h0 | h0
       · have hz:((i:Int) == 0)=true:=by simp; omega
         simp (maxSteps:=9^6) -dsimp only [go_sem,hg,hc,aF,forall_eq',Int.toNat_natCast,d1,d3,d5,d6,hz,Bool.true_and,Bool.and_true,Bool.false_and,Bool.and_false,Bool.not_true,Bool.not_false]
         repeat' first | intro _ | apply And.intro
         all_goals first | omega | (rename_i h9; simp at h9; done) | skip
         all_goals exact bad (by rw [hL,hW]; exact .inl ⟨h0,rfl⟩)
       · have hz:((i:Int) == 0)=false:=by simp; omega
         simp (maxSteps:=9^6) -dsimp only [go_sem,hg,hc,aF,forall_eq',Int.toNat_natCast,d1,d3,d5,d6,d7,hz,Bool.true_and,Bool.and_true,Bool.false_and,Bool.not_false]
         repeat' first | intro _ | apply And.intro
         all_goals first | omega | (rename_i h9; simp at h9; done) | skip
         all_goals exact bad (by rw [hL,hW]; exact .inr rfl)
     · have d1:decide (97<=(c.toNat:Int))=false:=decide_eq_false (by omega)
       have d2:decide ((c.toNat:Int)<=122)=true:=decide_eq_true (by omega)
       have d3:decide (65<=(c.toNat:Int))=true:=decide_eq_true (by omega)
       have d4:decide ((c.toNat:Int)<=90)=true:=decide_eq_true (by omega)
       have d5:((c.toNat:Int) == 95)=false:=by simp; omega
       have d6:decide (48<=(c.toNat:Int))=true:=decide_eq_true (by omega)
       have d7:decide ((c.toNat:Int)<=57)=false:=decide_eq_false (by omega)
       have hL:bL c.toNat=true:=by unfold bL; rw [d1,d2,d3,d4]; rfl
       have hW:aY c=true:=by unfold aY gQ gN; rw [hL,d5,d6,d7]; rfl
       rcases Nat.eq_zero_or_pos i with h0 | h0
       · have hz:((i:Int) == 0)=true:=by simp; omega
         simp (maxSteps:=9^6) -dsimp only [go_sem,hg,hc,aF,forall_eq',Int.toNat_natCast,d1,d3,d4,d5,d6,hz,Bool.true_and,Bool.and_true,Bool.false_and,Bool.and_false,Bool.not_true,Bool.not_false]
         repeat' first | intro _ | apply And.intro
         all_goals first | omega | (rename_i h9; simp at h9; done) | skip
         all_goals exact aC (i + 1) 0 (cD (by rw [hW]) (fun h3=>by rw [hL])) (by omega) (by simp -dsimp only [go_sem]; simp) (by simp [go_sem])
       · have hz:((i:Int) == 0)=false:=by simp; omega
         simp (maxSteps:=9^6) -dsimp only [go_sem,hg,hc,aF,forall_eq',Int.toNat_natCast,d1,d3,d4,d5,d6,d7,hz,Bool.true_and,Bool.and_true,Bool.false_and,Bool.not_false]
         repeat' first | intro _ | apply And.intro
         all_goals first | omega | (rename_i h9; simp at h9; done) | skip
         all_goals exact aC (i + 1) 0 (cD (by rw [hW]) (fun h3=>by rw [hL])) (by omega) (by simp -dsimp only [go_sem]; simp) (by simp [go_sem])
     · have d1:decide (97<=(c.toNat:Int))=false:=decide_eq_false (by omega)
       have d2:decide ((c.toNat:Int)<=122)=true:=decide_eq_true (by omega)
       have d3:decide (65<=(c.toNat:Int))=true:=decide_eq_true (by omega)
       have d4:decide ((c.toNat:Int)<=90)=false:=decide_eq_false (by omega)
       have d5:((c.toNat:Int) == 95)=false:=by simp; omega
       have d6:decide (48<=(c.toNat:Int))=true:=decide_eq_true (by omega)
       have d7:decide ((c.toNat:Int)<=57)=false:=decide_eq_false (by omega)
       have hL:bL c.toNat=false:=by unfold bL; rw [d1,d2,d3,d4]; rfl
       have hW:aY c=false:=by unfold aY gQ gN; rw [hL,d5,d6,d7]; rfl
       rcases Nat.eq_zero_or_pos i with h0 | h0
       · have hz:((i:Int) == 0)=true:=by simp; omega
         simp (maxSteps:=9^6) -dsimp only [go_sem,hg,hc,aF,forall_eq',Int.toNat_natCast,d1,d3,d4,d5,d6,hz,Bool.true_and,Bool.and_true,Bool.false_and,Bool.and_false,Bool.not_true,Bool.not_false]
         repeat' first | intro _ | apply And.intro
         all_goals first | omega | (rename_i h9; simp at h9; done) | skip
         all_goals exact bad (by rw [hL,hW]; exact .inl ⟨h0,rfl⟩)
       · have hz:((i:Int) == 0)=false:=by simp; omega
         simp (maxSteps:=9^6) -dsimp only [go_sem,hg,hc,aF,forall_eq',Int.toNat_natCast,d1,d3,d4,d5,d6,d7,hz,Bool.true_and,Bool.and_true,Bool.false_and,Bool.not_false]
         repeat' first | intro _ | apply And.intro
         all_goals first | omega | (rename_i h9; simp at h9; done) | skip
         all_goals exact bad (by rw [hL,hW]; exact .inr rfl)
     · have d1:decide (97<=(c.toNat:Int))=false:=decide_eq_false (by omega)
       have d2:decide ((c.toNat:Int)<=122)=true:=decide_eq_true (by omega)
       have d3:decide (65<=(c.toNat:Int))=true:=decide_eq_true (by omega)
       have d4:decide ((c.toNat:Int)<=90)=false:=decide_eq_false (by omega)
       have d5:((c.toNat:Int) == 95)=true:=by simp; omega
       have d6:decide (48<=(c.toNat:Int))=true:=decide_eq_true (by omega)
       have d7:decide ((c.toNat:Int)<=57)=false:=decide_eq_false (by omega)
       have hL:bL c.toNat=false:=by unfold bL; rw [d1,d2,d3,d4]; rfl
       have hW:aY c=true:=by unfold aY gQ gN; rw [hL,d5,d6,d7]; rfl
       rcases Nat.eq_zero_or_pos i with h0 | h0
       · have hz:((i:Int) == 0)=true:=by simp; omega
         simp (maxSteps:=9^6) -dsimp only [go_sem,hg,hc,aF,forall_eq',Int.toNat_natCast,d1,d3,d4,d5,hz,Bool.true_and,Bool.and_true,Bool.false_and,Bool.and_false,Bool.not_true,Bool.not_false]
         repeat' first | intro _ | apply And.intro
         all_goals first | omega | (rename_i h9; simp at h9; done) | skip
         all_goals exact bad (by rw [hL,hW]; exact .inl ⟨h0,rfl⟩)
       · have hz:((i:Int) == 0)=false:=by simp; omega
         simp (maxSteps:=9^6) -dsimp only [go_sem,hg,hc,aF,forall_eq',Int.toNat_natCast,d1,d3,d4,d5,hz,Bool.true_and,Bool.and_true,Bool.false_and,Bool.not_true,Bool.not_false]
         repeat' first | intro _ | apply And.intro
         all_goals first | omega | (rename_i h9; simp at h9; done) | skip
         all_goals exact aC (i + 1) 0 (cD (by rw [hW]) (fun h3=>by omega)) (by omega) (by simp -dsimp only [go_sem]; simp) (by simp [go_sem])
     · have d1:decide (97<=(c.toNat:Int))=false:=decide_eq_false (by omega)
       have d2:decide ((c.toNat:Int)<=122)=true:=decide_eq_true (by omega)
       have d3:decide (65<=(c.toNat:Int))=true:=decide_eq_true (by omega)
       have d4:decide ((c.toNat:Int)<=90)=false:=decide_eq_false (by omega)
       have d5:((c.toNat:Int) == 95)=false:=by simp; omega
       have d6:decide (48<=(c.toNat:Int))=true:=decide_eq_true (by omega)
       have d7:decide ((c.toNat:Int)<=57)=false:=decide_eq_false (by omega)
       have hL:bL c.toNat=false:=by unfold bL; rw [d1,d2,d3,d4]; rfl
       have hW:aY c=false:=by unfold aY gQ gN; rw [hL,d5,d6,d7]; rfl
       rcases Nat.eq_zero_or_pos i with h0 | h0
       · have hz:((i:Int) == 0)=true:=by simp; omega
         simp (maxSteps:=9^6) -dsimp only [go_sem,hg,hc,aF,forall_eq',Int.toNat_natCast,d1,d3,d4,d5,d6,hz,Bool.true_and,Bool.and_true,Bool.false_and,Bool.and_false,Bool.not_true,Bool.not_false]
         repeat' first | intro _ | apply And.intro
         all_goals first | omega | (rename_i h9; simp at h9; done) | skip
         all_goals exact bad (by rw [hL,hW]; exact .inl ⟨h0,rfl⟩)
       · have hz:((i:Int) == 0)=false:=by simp; omega
         simp (maxSteps:=9^6) -dsimp only [go_sem,hg,hc,aF,forall_eq',Int.toNat_natCast,d1,d3,d4,d5,d6,d7,hz,Bool.true_and,Bool.and_true,Bool.false_and,Bool.not_false]
         repeat' first | intro _ | apply And.intro
         all_goals first | omega | (rename_i h9; simp at h9; done) | skip
         all_goals exact bad (by rw [hL,hW]; exact .inr rfl)
     · have d1:decide (97<=(c.toNat:Int))=true:=decide_eq_true (by omega)
       have d2:decide ((c.toNat:Int)<=122)=true:=decide_eq_true (by omega)
       have d3:decide (65<=(c.toNat:Int))=true:=decide_eq_true (by omega)
       have d4:decide ((c.toNat:Int)<=90)=false:=decide_eq_false (by omega)
       have d5:((c.toNat:Int) == 95)=false:=by simp; omega
       have d6:decide (48<=(c.toNat:Int))=true:=decide_eq_true (by omega)
       have d7:decide ((c.toNat:Int)<=57)=false:=decide_eq_false (by omega)
       have hL:bL c.toNat=true:=by unfold bL; rw [d1,d2,d3,d4]; rfl
       have hW:aY c=true:=by unfold aY gQ gN; rw [hL,d5,d6,d7]; rfl
       rcases Nat.eq_zero_or_pos i with h0 | h0
       · have hz:((i:Int) == 0)=true:=by simp; omega
         simp (maxSteps:=9^6) -dsimp only [go_sem,hg,hc,aF,forall_eq',Int.toNat_natCast,d1,d2,d5,d6,hz,Bool.true_and,Bool.and_true,Bool.false_and,Bool.and_false,Bool.not_true,Bool.not_false]
         repeat' first | intro _ | apply And.intro
         all_goals first | omega | (rename_i h9; simp at h9; done) | skip
         all_goals exact aC (i + 1) 0 (cD (by rw [hW]) (fun h3=>by rw [hL])) (by omega) (by simp -dsimp only [go_sem]; simp) (by simp [go_sem])
       · have hz:((i:Int) == 0)=false:=by simp; omega
         simp (maxSteps:=9^6) -dsimp only [go_sem,hg,hc,aF,forall_eq',Int.toNat_natCast,d1,d2,d5,d6,d7,hz,Bool.true_and,Bool.and_true,Bool.false_and,Bool.not_true,Bool.not_false]
         repeat' first | intro _ | apply And.intro
         all_goals first | omega | (rename_i h9; simp at h9; done) | skip
         all_goals exact aC (i + 1) 0 (cD (by rw [hW]) (fun h3=>by rw [hL])) (by omega) (by simp -dsimp only [go_sem]; simp) (by simp [go_sem])
     · have d1:decide (97<=(c.toNat:Int))=true:=decide_eq_true (by omega)
       have d2:decide ((c.toNat:Int)<=122)=false:=decide_eq_false (by omega)
       have d3:decide (65<=(c.toNat:Int))=true:=decide_eq_true (by omega)
       have d4:decide ((c.toNat:Int)<=90)=false:=decide_eq_false (by omega)
       have d5:((c.toNat:Int) == 95)=false:=by simp; omega
       have d6:decide (48<=(c.toNat:Int))=true:=decide_eq_true (by omega)
       have d7:decide ((c.toNat:Int)<=57)=false:=decide_eq_false (by omega)
       have hL:bL c.toNat=false:=by unfold bL; rw [d1,d2,d3,d4]; rfl
       have hW:aY c=false:=by unfold aY gQ gN; rw [hL,d5,d6,d7]; rfl
       rcases Nat.eq_zero_or_pos i with h0 | h0
       · have hz:((i:Int) == 0)=true:=by simp; omega
         simp (maxSteps:=9^6) -dsimp only [go_sem,hg,hc,aF,forall_eq',Int.toNat_natCast,d1,d2,d3,d4,d5,d6,hz,Bool.true_and,Bool.and_true,Bool.and_false,Bool.not_true,Bool.not_false]
         repeat' first | intro _ | apply And.intro
         all_goals first | omega | (rename_i h9; simp at h9; done) | skip
         all_goals exact bad (by rw [hL,hW]; exact .inl ⟨h0,rfl⟩)
       · have hz:((i:Int) == 0)=false:=by simp; omega
         simp (maxSteps:=9^6) -dsimp only [go_sem,hg,hc,aF,forall_eq',Int.toNat_natCast,d1,d2,d3,d4,d5,d6,d7,hz,Bool.true_and,Bool.and_true,Bool.not_false]
         repeat' first | intro _ | apply And.intro
         all_goals first | omega | (rename_i h9; simp at h9; done) | skip
         all_goals exact bad (by rw [hL,hW]; exact .inr rfl)
   · have hg:decide ((i:Int) < ((bl s).length:Int))=false:=by simp; omega
     obtain rfl:i=(bl s).length:=by omega
     obtain ⟨c,hc⟩:∃ c,(bl s)[0]? = some c:=⟨_,aU hl0⟩
     simp (maxSteps:=9^6) -dsimp only [go_sem,hg]
     refine dH hK ?_
     rw [qQ hc hl (hb hl0 c hc) fun j x hx=>ha j x (aW.1 hx).1 hx]
theorem B3:Meets Tryz.prog 64 (nO fun l=>.bool (fW l)).sp:=by
 refine aG Tryz.func64 YK 1 (by rw [Tryz.ntmps64]; decide) (aI tF (aB _)) kE ?_
 rintro xs H K ⟨⟨h,rfl⟩,hK⟩
 obtain ⟨s,rfl⟩:=fF h
 have hK':K (.va (.c1 (.vl (.bool (fW (bl s)))))) []:=hK
 clear hK h
 unfold fW at hK'
 cases hn:bQ (bl s) with
 | false=>
  rw [hn] at hK'
  simp -dsimp only [go_sem,JC,JG,hn]
  exact .done hK'
 | true=>
  cases hl:bl s with
  | nil=>rw [hl] at hn; cases hn
  | cons c r=>
   rw [hl] at hn hK'
   rw [hn] at hK'
   simp -dsimp only [go_sem,JC,JG,hl,hn]
   refine ⟨by omega,fun d hd=>⟨fun _=>by omega,fun e he=>?_⟩⟩
   subst hd
   cases hc:decide (65<=(c.toNat:Int)) with
   | false=>simp only [hc,Bool.true_and,Bool.false_and] at hK'; exact .done hK'
   | true=>
    obtain rfl:=he hc
    simp only [hc,Bool.true_and] at hK'; exact .done hK'
theorem O1:Meets Tryz.prog 110 (lD gI C.ty fun t=>.bool ((t.e.length:Int) == 0)).sp:=by
 refine aG Tryz.func110 UV 1 (by rw [Tryz.ntmps110]; decide) (aB _) eY ?_
 rintro av H K ⟨⟨h,rfl⟩,hK⟩
 obtain ⟨_,rfl,t,rfl,ht⟩:=cW h
 have hK:K (bS ((t.e.length:Int) == 0)) []:=by
  have:(lD gI C.ty fun t=>.bool ((t.e.length:Int) == 0)).val [.va (.gs (aP t))]=bA ((t.e.length:Int) == 0):=by simp -dsimp only [go_sem]
  rw [this] at hK; exact hK
 simp (maxSteps:=9^6) -dsimp only [go_sem,bJ,K5,L8]
 exact .z ((by simpa [go_sem] using hK))
def yY:List S->Prop:=fun av=>match av with
 | [.va (.c1 (.fz rs)),.va (.c1 (.vl (.int .i64 k))),.va (.c1 (.vl (.string _)))]=>oE rs/\0<=k/\k<=9223372036854775807
 | _=>False
theorem nP {av:List S} (h:yY av):∃ (l:List ByteArray) (n:Nat) (x:ByteArray),av=[.va (.c1 (.fz (l.map a8))),iS .i64 n,tS x]/\l.length<=9223372036854775807/\(n:Int)<=9223372036854775807:=by
 unfold yY at h
 split at h
 · obtain ⟨⟨l,rfl,h1⟩,h2,h3⟩:=h
   rename_i k x
   exact ⟨l,k.toNat,x,by rw [Int.toNat_of_nonneg h2],h1,by omega⟩
 · exact h.elim
noncomputable def MY:List S->A:=fun av=>match av with
 | [.va (.c1 (.fz rs)),.va (.c1 (.vl (.int .i64 k))),.va (.c1 (.vl (.string x)))]=>bA (bU ((rs.map C.bs).take k.toNat) x)
 | _=>.gs []
noncomputable def inFn:Fun:=⟨yY,MY,fun av h=>by obtain ⟨l,n,x,rfl,_⟩:=nP h; trivial⟩
theorem IT:∀ av H K,inFn.sp av H K->av.length=3:=fun av H K h=>by obtain ⟨l,n,x,rfl,_⟩:=nP h.1.1; rfl
attribute [go_sem] inFn yY MY
theorem IV:Meets Tryz.prog 29 inFn.sp:=by
 refine aG Tryz.func29 ZL 3 (by rw [Tryz.ntmps29]; decide) (aB _) IT ?_
 rintro av H K ⟨⟨h,rfl⟩,hK⟩
 obtain ⟨l,n,x,rfl,hl,hn⟩:=nP h
 have hK:K (bS (bU (l.take n) x)) []:=by
  have:inFn.val [.va (.c1 (.fz (l.map a8))),iS .i64 n,tS x]=bA (bU (l.take n) x):=by simp -dsimp only [go_sem,Int.toNat_natCast]
  rw [this] at hK; exact hK
 clear h
 simp (maxSteps:=9^6) -dsimp only [go_sem,TR,R3]
 refine aQ (α:=Nat) (fun i=>[(0,.va (.c1 (.fz (l.map a8)))),(1,iS .i64 n),(2,tS x),(7,iS .i64 i)]) (fun _=>[])
  (fun i=>i<=(l.take n).length/\bU ((l.take n).drop i) x=bU (l.take n) x) (fun i=>l.length - i) 0 0 ⟨Nat.zero_le _,rfl⟩ ?_ ?_ ?_
 · simp [go_sem]
 · simp [go_sem]
 rintro i ⟨hi,ho⟩
 have hlt0:(l.take n).length=min n l.length:=by simp
 rcases bH i (l.take n).length with hlt | hge
 · have g1:decide ((i:Int) < (n:Int))=true:=by simp; omega
   have g2:decide ((i:Int) < (l.length:Int))=true:=by simp; omega
   obtain ⟨y,hx⟩:∃ y,l[i]? = some y:=⟨_,aU (by omega)⟩
   have hx':(l.take n)[i]? = some y:=by rw [List.getElem?_take,if_pos (by omega)]; exact hx
   have q2:=aR (row:=a8) hx
   rw [bU,cH hx'] at ho
   simp (maxSteps:=9^6) -dsimp only [go_sem,g1,g2,↓q2,dU]
   have hsy:decide (y=x)=decide (x=y):=by simp [eq_comm]
   refine ⟨by omega,fun hc=>?_,fun hc=>⟨by omega,aC (i + 1) 0 ⟨by omega,?_⟩ (by omega) ?_ ?_⟩⟩
   · rw [<-hsy,hc,Bool.true_or] at ho
     rw [<-ho] at hK
     exact .done hK
   · rw [<-hsy,hc,Bool.false_or] at ho
     exact ho
   · simp [go_sem]
   · simp [go_sem]
 · obtain rfl:i=(l.take n).length:=by omega
   rw [bU,dZ] at ho
   rw [<-ho] at hK
   generalize hm:(l.take n).length=m at *
   rcases bH m n with h1 | h1
   · have g1:decide ((m:Int) < (n:Int))=true:=by simp; omega
     have g2:decide ((m:Int) < (l.length:Int))=false:=by simp; omega
     simp (maxSteps:=9^6) -dsimp only [go_sem,g1,g2]
     exact .done hK
   · have g1:decide ((m:Int) < (n:Int))=false:=by simp; omega
     simp (maxSteps:=9^6) -dsimp only [go_sem,g1]
     exact .done hK
theorem z8:Meets Tryz.prog 68 KR:=by
 refine aG Tryz.func68 aAD 2 (by rw [Tryz.ntmps68]; decide) (aB _) (fun av H K h=>by obtain ⟨_,_,rfl,_⟩:=h; rfl) ?_
 rintro av H K ⟨s,n,rfl,rfl,hs,hK⟩
 rw [<-AS] at hK
 have hl:=hs.ok.ls
 simp -dsimp only [go_sem,aA,TA,R8]
 refine aQ (α:=Nat) (fun i=>[(1,tS n),(2,.va (.c1 (.pt 0 0))),(4,.va (.c1 (.pt 1 0))),(6,iS .i64 i)]) (fun _=>[.cells (aA s) 25,.cells [.vl (.string (mk [])),.vl (.slice none 0 0)] 56])
  (fun i=>i<=s.ss.length/\fS (s.ss.drop i) n=fS s.ss n) (fun i=>s.ss.length - i) 0 2 ⟨Nat.zero_le _,rfl⟩ ?_ ?_ ?_
 · simp [go_sem]
 · simp [go_sem,aA]
 rintro i ⟨hi,ho⟩
 rcases bH i s.ss.length with hlt | hge
 · have hg:decide ((i:Int) < (s.ss.length:Int))=true:=by simp; omega
   obtain ⟨t,hx⟩:∃ e,s.ss[i]? = some e:=⟨_,aU hlt⟩
   have q2:=aR (row:=aK) hx
   rw [fS,BE hx] at ho
   cases hc:decide (t.nm=n) with
   | true=>
    rw [hc,aO] at ho
    rw [<-ho] at hK
    simp (maxSteps:=9^6) -dsimp only [go_sem,hg,↓q2,aK,aA,dU,hc]
    refine ⟨by omega,by omega,.z ((by simpa [go_sem,aK] using hK))⟩
   | false=>
    rw [hc,aJ] at ho
    simp (maxSteps:=9^6) -dsimp only [go_sem,hg,↓q2,aK,aA,dU,hc]
    refine ⟨by omega,by omega,aC (i + 1) 2 ⟨by omega,ho⟩ (by omega) ?_ ?_⟩
    · simp [go_sem]
    · simp [go_sem,aA]
 · have hg:decide ((i:Int) < (s.ss.length:Int))=false:=by simp; omega
   obtain rfl:i=s.ss.length:=by omega
   rw [List.drop_length] at ho
   rw [<-ho] at hK
   simp -dsimp only [go_sem,hg,aA]
   exact .z ((by simpa [go_sem,fS,M6] using hK))
def LM:W.Spec:=fun av H K=>∃ (s:Sc) (n:ByteArray),av=[.va (.gs (aA s)),tS n]/\H=[]/\s.fit/\K (.tu [.gs (aN ((l0 s.es n).getD default)),bA (dM s.es n)]) []
theorem DT {s:Sc} {n:ByteArray} {K:S->Hp->Prop} (h:s.fit) (hK:K (.tu [.gs (aN ((l0 s.es n).getD default)),bA (dM s.es n)]) []):LM [.va (.gs (aA s)),tS n] [] K:=⟨s,n,rfl,rfl,h,hK⟩
theorem OU:aN default=[.vl (.string (mk [])),.fz [],.fz []]:=rfl
theorem HG:Meets Tryz.prog 66 LM:=by
 refine aG Tryz.func66 ZM 2 (by rw [Tryz.ntmps66]; decide) (aB _) (fun av H K h=>by obtain ⟨_,_,rfl,_⟩:=h; rfl) ?_
 rintro av H K ⟨s,n,rfl,rfl,hs,hK⟩
 rw [<-D6] at hK
 have hl:=hs.ok.le
 simp -dsimp only [go_sem,aA,TJ,QW]
 refine aQ (α:=Nat) (fun i=>[(1,tS n),(2,.va (.c1 (.pt 0 0))),(4,.va (.c1 (.pt 1 0))),(6,iS .i64 i)]) (fun _=>[.cells (aA s) 25,.cells [.vl (.string (mk [])),.vl (.slice none 0 0),.vl (.slice none 0 0)] 62])
  (fun i=>i<=s.es.length/\l0 (s.es.drop i) n=l0 s.es n) (fun i=>s.es.length - i) 0 2 ⟨Nat.zero_le _,rfl⟩ ?_ ?_ ?_
 · simp [go_sem]
 · simp [go_sem,aA]
 rintro i ⟨hi,ho⟩
 rcases bH i s.es.length with hlt | hge
 · have hg:decide ((i:Int) < (s.es.length:Int))=true:=by simp; omega
   obtain ⟨t,hx⟩:∃ e,s.es[i]? = some e:=⟨_,aU hlt⟩
   have q2:=aR (row:=aN) hx
   rw [l0,BE hx] at ho
   cases hc:decide (t.nm=n) with
   | true=>
    rw [hc,aO] at ho
    rw [<-ho] at hK
    simp (maxSteps:=9^6) -dsimp only [go_sem,hg,↓q2,aN,aA,dU,hc]
    refine ⟨by omega,by omega,.z ((by simpa [go_sem,aN] using hK))⟩
   | false=>
    rw [hc,aJ] at ho
    simp (maxSteps:=9^6) -dsimp only [go_sem,hg,↓q2,aN,aA,dU,hc]
    refine ⟨by omega,by omega,aC (i + 1) 2 ⟨by omega,ho⟩ (by omega) ?_ ?_⟩
    · simp [go_sem]
    · simp [go_sem,aA]
 · have hg:decide ((i:Int) < (s.es.length:Int))=false:=by simp; omega
   obtain rfl:i=s.es.length:=by omega
   rw [List.drop_length] at ho
   rw [<-ho] at hK
   simp -dsimp only [go_sem,hg,aA]
   exact .z ((by simpa [go_sem,l0,OU] using hK))
noncomputable def eqB {α:Type} (a b:α):Bool:=@decide (a=b) (Classical.propDecidable _)
theorem RU:Meets Tryz.prog 25 (lD pS C.sc fun s=>.bool (cC s)).sp:=by
 refine aG Tryz.func25 aAY 1 (by rw [Tryz.ntmps25]; decide) (aB _) eY ?_
 rintro av H K ⟨⟨h,rfl⟩,hK⟩
 obtain ⟨_,rfl,s,rfl,hs⟩:=cW h
 have hK:K (bS (cC s)) []:=by
  have:(lD pS C.sc fun s=>.bool (cC s)).val [.va (.gs (aA s))]=bA (cC s):=by simp -dsimp only [go_sem]
  rw [this] at hK; exact hK
 obtain ⟨hv,hle,hls,hes,hss⟩:=hs
 have big:cC s=true->∀ R:Hp,W.Fin 0 K (bS true) R:=fun h R=>by
  rw [h] at hK
  exact .z ((by simpa [go_sem] using hK))
 cases d1:decide (16 < (s.es.length:Int)) with
 | true=>
  simp (maxSteps:=9^6) -dsimp only [go_sem,aA,CM,AH,d1]
  exact big (by unfold cC; rw [show decide (16 < s.es.length)=true by simp at d1 ⊢; omega]; simp) _
 | false=>
 cases d2:decide (16 < (s.ss.length:Int)) with
 | true=>
  simp (maxSteps:=9^6) -dsimp only [go_sem,aA,CM,AH,d1,d2]
  exact big (by unfold cC; rw [show decide (16 < s.es.length + s.ss.length)=true by simp at d2 ⊢; omega]; simp) _
 | false=>
 cases d3:decide (16 < (s.es.length:Int) + (s.ss.length:Int)) with
 | true=>
  simp (maxSteps:=9^6) -dsimp only [go_sem,aA,CM,AH,d1,d2,d3]
  exact ⟨by simp at d1 d2; omega,big (by unfold cC; rw [show decide (16 < s.es.length + s.ss.length)=true by simp at d3 ⊢; omega]; simp) _⟩
 | false=>
 simp (maxSteps:=9^6) -dsimp only [go_sem,aA,CM,AH,d1,d2,d3]
 simp only [decide_eq_false_iff_not] at d1 d2 d3
 refine ⟨by omega,?_⟩
 have hL:cC s=(s.es.any (fun e=>decide (16 < e.ns.length)) || s.ss.any (fun t=>decide (16 < t.fs.length))):=by
  unfold cC; rw [decide_eq_false (by omega),decide_eq_false (by omega)]; rfl
 refine aQ (α:=Nat) (fun i=>[(1,.va (.c1 (.pt 0 0))),(3,iS .i64 i)]) (fun _=>[.cells (aA s) 25])
  (fun i=>i<=s.es.length/\(s.es.drop i).any (fun e=>decide (16 < e.ns.length))=s.es.any (fun e=>decide (16 < e.ns.length))) (fun i=>s.es.length - i) 0 1 ⟨Nat.zero_le _,rfl⟩ ?_ ?_ ?_
 · simp [go_sem]
 · simp [go_sem,aA]
 rintro i ⟨hi,ho⟩
 rcases bH i s.es.length with hlt | hge
 · have hg:decide ((i:Int) < (s.es.length:Int))=true:=by simp; omega
   obtain ⟨e,hx⟩:∃ e,s.es[i]? = some e:=⟨_,aU hlt⟩
   have q2:=aR (row:=aN) hx
   rw [cH hx] at ho
   simp (maxSteps:=9^6) -dsimp only [go_sem,hg,↓q2,aN,aA]
   and_intros
   all_goals first
    | omega
    | skip
   · intro hc
     have hc':decide (16 < e.ns.length)=true:=by simp at hc; simp; omega
     have:cC s=true:=by simp only [hL,<-ho,hc',Bool.true_or]
     rw [this] at hK
     exact .z ((by simpa [go_sem] using hK))
   · intro hc
     refine ⟨by omega,aC (i + 1) 1 ⟨by omega,?_⟩ (by omega) ?_ ?_⟩
     · have hc':decide (16 < e.ns.length)=false:=by simp at hc; simp; omega
       rw [<-ho,hc',Bool.false_or]
     · simp [go_sem]
     · simp [go_sem,aA]
 · have hg:decide ((i:Int) < (s.es.length:Int))=false:=by simp; omega
   obtain rfl:i=s.es.length:=by omega
   rw [dZ] at ho
   rw [<-ho,Bool.false_or] at hL
   simp (maxSteps:=9^6) -dsimp only [go_sem,hg,aA]
   refine aQ (α:=Nat) (fun i=>[(1,.va (.c1 (.pt 0 0))),(4,iS .i64 i)]) (fun _=>[.cells (aA s) 25])
    (fun i=>i<=s.ss.length/\(s.ss.drop i).any (fun e=>decide (16 < e.fs.length))=s.ss.any (fun e=>decide (16 < e.fs.length))) (fun i=>s.ss.length - i) 0 1 ⟨Nat.zero_le _,rfl⟩ ?_ ?_ ?_
   · simp [go_sem]
   · simp [go_sem,aA]
   clear hi ho hge hg
   rintro i ⟨hi,ho⟩
   rcases bH i s.ss.length with hlt | hge
   · have hg:decide ((i:Int) < (s.ss.length:Int))=true:=by simp; omega
     obtain ⟨e,hx⟩:∃ e,s.ss[i]? = some e:=⟨_,aU hlt⟩
     have q2:=aR (row:=aK) hx
     rw [cH hx] at ho
     simp (maxSteps:=9^6) -dsimp only [go_sem,hg,↓q2,aK,aA]
     and_intros
     all_goals first
      | omega
      | skip
     · intro hc
       have hc':decide (16 < e.fs.length)=true:=by simp at hc; simp; omega
       have:cC s=true:=by simp only [hL,<-ho,hc',Bool.true_or]
       rw [this] at hK
       exact .z ((by simpa [go_sem] using hK))
     · intro hc
       refine ⟨by omega,aC (i + 1) 1 ⟨by omega,?_⟩ (by omega) ?_ ?_⟩
       · have hc':decide (16 < e.fs.length)=false:=by simp at hc; simp; omega
         rw [<-ho,hc',Bool.false_or]
       · simp [go_sem]
       · simp [go_sem,aA]
   · have hg:decide ((i:Int) < (s.ss.length:Int))=false:=by simp; omega
     obtain rfl:i=s.ss.length:=by omega
     rw [dZ] at ho
     simp (maxSteps:=9^6) -dsimp only [go_sem,hg,aA]
     rw [hL,<-ho] at hK
     exact .z ((by simpa [go_sem] using hK))
def zJ (len:Sc->Nat):List S->Prop:=fun av=>match av with
 | [.va (.gs r),.va (.c1 (.vl (.int .i64 i)))]=>iC r/\0<=i/\i < (len (C.sc r):Int)
 | _=>False
theorem kR {len:Sc->Nat} {av:List S} (h:zJ len av):∃ (s:Sc) (i:Nat),av=[.va (.gs (aA s)),iS .i64 i]/\s.fit/\i < len s:=by
 unfold zJ at h
 split at h
 · obtain ⟨⟨a,rfl,ha⟩,h1,h2⟩:=h
   rw [eC] at h2
   rename_i i
   exact ⟨a,i.toNat,by rw [Int.toNat_of_nonneg h1],ha,by omega⟩
 · exact h.elim
noncomputable def KU (f:Sc->Nat->Int):List S->A:=fun av=>match av with
 | [.va (.gs r),.va (.c1 (.vl (.int .i64 i)))]=>iA .i64 (f (C.sc r) i.toNat)
 | _=>.gs []
noncomputable def wJ (len:Sc->Nat) (f:Sc->Nat->Int):Fun:=⟨zJ len,KU f,fun av h=>by obtain ⟨a,b,rfl,_⟩:=kR h; trivial⟩
theorem BG {len:Sc->Nat} {f:Sc->Nat->Int}:∀ av H K,(wJ len f).sp av H K->av.length=2:=fun av H K h=>by obtain ⟨a,b,rfl,_⟩:=kR h.1.1; rfl
attribute [go_sem] wJ zJ KU
theorem NT:Meets Tryz.prog 26 (wJ (fun s=>s.es.length) eX).sp:=by
 refine aG Tryz.func26 aA4 2 (by rw [Tryz.ntmps26]; decide) (aI B3 (aI tF (aI IV (aB _)))) BG ?_
 rintro av H K ⟨⟨h,rfl⟩,hK⟩
 obtain ⟨s,i,rfl,hs,hi⟩:=kR (len:=fun s=>s.es.length) h
 have hK:K (iS .i64 (eX s i)) []:=by
  have:(wJ (fun s=>s.es.length) eX).val [.va (.gs (aA s)),iS .i64 i]=iA .i64 (eX s i):=by simp -dsimp only [go_sem,Int.toNat_natCast]
  rw [this] at hK; exact hK
 clear h
 have hle:=hs.ok.le
 have fin:∀ (x:Int) (R:Hp),eX s i=x->W.Fin 0 K (iS .i64 x) R:=fun x R h=>by
  rw [h] at hK
  exact .z ((by simpa [go_sem] using hK))
 obtain ⟨e,hx⟩:∃ e,s.es[i]? = some e:=⟨_,aU hi⟩
 have q1:=aR (row:=aN) hx
 obtain ⟨_,hln,hlv,_,_⟩:=hs.ok.es e (bI hx)
 have hA:eX s i=bif !(fW (bl e.nm)) then 5 else bif dM (s.es.take i) e.nm then 7 else j3 e:=by unfold eX; rw [hx]
 simp (maxSteps:=9^6) -dsimp only [go_sem,aA,R7,TK,↓q1,aN]
 refine ⟨by omega,fun h1=>fin 5 _ (by rw [hA,h1]; rfl),fun h1=>?_⟩
 rw [h1] at hA
 simp only [aJ] at hA
 refine aQ (α:=Nat) (fun j=>[(1,iS .i64 i),(2,.va (.c1 (.pt 0 0))),(5,.va (.c1 (.pt 1 0))),(6,iS .i64 j)]) (fun _=>[.cells (aA s) 25,.cells (aN e) 62])
  (fun j=>j<=i/\dM ((s.es.take i).drop j) e.nm=dM (s.es.take i) e.nm) (fun j=>i - j) 0 2 ⟨Nat.zero_le _,rfl⟩ ?_ ?_ ?_
 · simp [go_sem]
 · simp [go_sem,aA,aN]
 have hti:(s.es.take i).length=i:=by rw [List.length_take]; omega
 rintro j ⟨hj,ho⟩
 rcases bH j i with hlt | hge
 · have hg:decide ((j:Int) < (i:Int))=true:=by simp; omega
   obtain ⟨d,hd⟩:∃ d,s.es[j]? = some d:=⟨_,aU (by omega)⟩
   have hd':(s.es.take i)[j]? = some d:=by rw [List.getElem?_take,if_pos hlt]; exact hd
   have q2:=aR (row:=aN) hd
   rw [dM,cH hd'] at ho
   simp (maxSteps:=9^6) -dsimp only [go_sem,hg,↓q2,aN,aA,dU]
   refine ⟨by omega,fun hc=>?_,fun hc=>?_⟩
   · rw [hc,Bool.true_or] at ho
     exact fin 7 _ (by rw [hA,<-ho]; rfl)
   · rw [hc,Bool.false_or] at ho
     refine ⟨by omega,aC (j + 1) 2 ⟨by omega,ho⟩ (by omega) ?_ ?_⟩
     · simp [go_sem]
     · simp [go_sem,aA,aN]
 · obtain rfl:j=i:=by omega
   have hg:decide ((j:Int) < (j:Int))=false:=by simp
   rw [List.drop_eq_nil_of_le (by omega)] at ho
   rw [<-ho] at hA
   replace hA:eX s j=j3 e:=hA
   clear ho hti
   simp (maxSteps:=9^6) -dsimp only [go_sem,hg,aN,aA]
   refine ⟨fun h1=>?_,fun h1=>?_⟩
   · refine fin 2 _ ?_
     rw [hA]
     unfold j3
     have:(decide (e.ns.length=0) || decide (e.ns.length ≠ e.vs.length))=true:=by
      simp only [Bool.or_eq_true,beq_iff_eq,bne_iff_ne,decide_eq_true_eq] at h1 ⊢; omega
     rw [this]; rfl
   simp only [Bool.or_eq_false_iff,beq_eq_false_iff_ne,bne_eq_false_iff_eq,ne_eq] at h1
   have hl:e.ns.length=e.vs.length:=by omega
   have hF:eX s j=fE (eU e) (e.ns.length - 0) 0:=by
    rw [hA]; unfold j3; rw [decide_eq_false (by omega),decide_eq_false (by omega)]; rfl
   clear hA hg hge hj
   refine aQ (α:=Nat) (fun k=>[(5,.va (.c1 (.pt 1 0))),(7,iS .i64 k)]) (fun _=>[.cells (aA s) 25,.cells (aN e) 62])
    (fun k=>k<=e.ns.length/\fE (eU e) (e.ns.length - k) k=fE (eU e) (e.ns.length - 0) 0) (fun k=>e.ns.length - k) 0 2 ⟨Nat.zero_le _,rfl⟩ ?_ ?_ ?_
   · simp [go_sem]
   · simp [go_sem,aA,aN]
   rintro k ⟨hk,ho⟩
   rcases bH k e.ns.length with hlt | hge
   · have hg:decide ((k:Int) < (e.ns.length:Int))=true:=by simp; omega
     obtain ⟨nm,hx2⟩:∃ nm,e.ns[k]? = some nm:=⟨_,aU hlt⟩
     obtain ⟨n,hy⟩:∃ nm,e.vs[k]? = some nm:=⟨_,aU (by omega)⟩
     have q2:=aR (row:=a8) hx2
     have q3:=aR (row:=c7) hy
     have hbs:oE (e.ns.map a8):=kX hln
     have hk0:(0<=(k:Int))=True:=by simp
     have hk1:((k:Int)<=9223372036854775807)=True:=by simp; omega
     have hA:eU e k=bif !(bQ (bl nm)) then (5:Int) else bif bU (e.ns.take k) nm then 7 else bif decide (n < 0) || decide (127 < n) then 4 else
      bif (decide ((k:Int)=0) && decide (n ≠ 0)) || (decide (0 < (k:Int)) && match e.vs[k - 1]? with | some m=>decide (n<=m) | none=>false) then 2 else 0:=by
      unfold eU; rw [hx2,hy]; rfl
     have fin':∀ (x:Int) (R:Hp),eU e k=x->x ≠ 0->W.Fin 0 K (iS .i64 x) R:=fun x R h1 h2=>fin x R (by
      rw [hF,<-ho,jB hlt (by rw [h1]; exact h2),h1])
     have cD:eU e k=0->fE (eU e) (e.ns.length - (k + 1)) (k + 1)=fE (eU e) (e.ns.length - 0) 0:=fun h1=>by rw [<-ho,kL hlt h1]
     cases hc1:bQ (bl nm) with
     | false=>
      simp (maxSteps:=9^6) -dsimp only [go_sem,hg,↓q2,aN,aA,hc1]
      exact ⟨by omega,fin' 5 _ (by rw [hA,hc1]; rfl) (by decide)⟩
     | true=>
      cases hc2:bU (e.ns.take k) nm with
      | true=>
       simp (maxSteps:=9^6) -dsimp only [go_sem,hg,↓q2,aN,aA,hc1,hc2,hbs,hk0,hk1,Int.toNat_natCast]
       exact ⟨by omega,by omega,fin' 7 _ (by rw [hA,hc1,hc2]; rfl) (by decide)⟩
      | false=>
       cases hc3:decide (n < 0) with
       | true=>
        simp (maxSteps:=9^6) -dsimp only [go_sem,hg,↓q2,↓q3,aN,aA,hc1,hc2,hbs,hk0,hk1,Int.toNat_natCast,hc3]
        exact ⟨by omega,by omega,by omega,fin' 4 _ (by rw [hA,hc1,hc2,hc3]; rfl) (by decide)⟩
       | false=>
       cases hc4:decide (127 < n) with
       | true=>
        simp (maxSteps:=9^6) -dsimp only [go_sem,hg,↓q2,↓q3,aN,aA,hc1,hc2,hbs,hk0,hk1,Int.toNat_natCast,hc3,hc4]
        exact ⟨by omega,by omega,by omega,by omega,fin' 4 _ (by rw [hA,hc1,hc2,hc3,hc4]; rfl) (by decide)⟩
       | false=>
       have hA2:eU e k=bif (decide ((k:Int)=0) && decide (n ≠ 0)) || (decide (0 < (k:Int)) && match e.vs[k - 1]? with | some m=>decide (n<=m) | none=>false) then 2 else 0:=by rw [hA,hc1,hc2,hc3,hc4]; rfl
       clear hA
       rcases Nat.eq_zero_or_pos k with h0 | h0
       · have g0:((k:Int) == 0)=true:=by simp; omega
         have g1:decide (0 < (k:Int))=false:=by simp; omega
         have g2:decide ((k:Int)=0)=true:=g0
         cases hn:(n != 0) with
         | true=>
          simp (maxSteps:=9^6) -dsimp only [go_sem,hg,↓q2,↓q3,aN,aA,hc1,hc2,hbs,hk0,hk1,Int.toNat_natCast,hc3,hc4,g0,g1,hn,Bool.and_false]
          and_intros
          all_goals first
           | omega
           | exact fin' 2 _ (by rw [hA2,g1,g2]; simp at hn; simp [hn]) (by decide)
         | false=>
          simp (maxSteps:=9^6) -dsimp only [go_sem,hg,↓q2,↓q3,aN,aA,hc1,hc2,hbs,hk0,hk1,Int.toNat_natCast,hc3,hc4,g0,g1,hn,Bool.and_false]
          and_intros
          all_goals first
           | omega
           | exact aC (k + 1) 2 ⟨by omega,cD (by rw [hA2,g1]; simp at hn; simp [hn])⟩ (by omega) (by simp [go_sem]) (by simp [go_sem,aA,aN])
       · have g0:((k:Int) == 0)=false:=by simp; omega
         have g1:decide (0 < (k:Int))=true:=by simp; omega
         have g2:decide ((k:Int)=0)=false:=g0
         obtain ⟨m,hm⟩:∃ m,e.vs[k - 1]? = some m:=⟨_,aU (by omega)⟩
         have q4:((k:Int) - 1).toNat=k - 1:=by omega
         have q5:=tW (row:=c7) hm
         cases hn:decide (n<=m) with
         | true=>
          simp (maxSteps:=9^6) -dsimp only [go_sem,hg,↓q2,↓q3,aN,aA,hc1,hc2,hbs,hk0,hk1,Int.toNat_natCast,aF,forall_eq',hc3,hc4,g0,g1,q4,hm,hn,Bool.and_true]
          and_intros
          all_goals first
           | omega
           | exact fin' 2 _ (by rw [hA2,hm,g1]; simp only [hn]; simp) (by decide)
         | false=>
          simp (maxSteps:=9^6) -dsimp only [go_sem,hg,↓q2,↓q3,aN,aA,hc1,hc2,hbs,hk0,hk1,Int.toNat_natCast,aF,forall_eq',hc3,hc4,g0,g1,q4,hm,hn,Bool.and_true]
          and_intros
          all_goals first
           | omega
           | exact aC (k + 1) 2 ⟨by omega,cD (by rw [hA2,hm,g1,g2]; simp only [hn]; rfl)⟩ (by omega) (by simp [go_sem]) (by simp [go_sem,aA,aN])
   · have hg:decide ((k:Int) < (e.ns.length:Int))=false:=by simp; omega
     obtain rfl:k=e.ns.length:=by omega
     rw [j7] at ho
     simp (maxSteps:=9^6) -dsimp only [go_sem,hg,aN]
     exact fin 0 _ (by rw [hF,<-ho])
def zI (N:Nat):List S->Prop:=fun av=>match av with
 | [.va (.gs r),.va (.gs q)]=>iC r/\gI q/\(C.ty q).h<=N
 | _=>False
theorem kS {N:Nat} {av:List S} (h:zI N av):∃ s t,av=[.va (.gs (aA s)),.va (.gs (aP t))]/\s.fit/\TyOk t/\t.h<=N:=by
 unfold zI at h
 split at h
 · obtain ⟨⟨a,rfl,ha⟩,⟨b,rfl,hb⟩,hh⟩:=h
   rw [gP] at hh
   exact ⟨a,b,rfl,ha,hb,hh⟩
 · exact h.elim
noncomputable def FJ:List S->A:=fun av=>match av with
 | [.va (.gs r),.va (.gs q)]=>bA (valF (C.sc r).ss (C.sc r).es (C.ty q))
 | _=>.gs []
noncomputable def F0 (N:Nat):Fun:=⟨zI N,FJ,fun av h=>by obtain ⟨a,b,rfl,_⟩:=kS h; trivial⟩
theorem IL {N:Nat}:∀ av H K,(F0 N).sp av H K->av.length=2:=fun av H K h=>by obtain ⟨a,b,rfl,_⟩:=kS h.1.1; rfl
attribute [go_sem] F0 zI FJ
theorem ZX {ss:List St} {es:List En} {s:Int} {n:ByteArray} {e:List Ty}:valF ss es (.mk 6 s n e)=(eI ss n && s == 0 && (e.length:Int) == 0):=by
 rw [valF]; rfl
theorem Z5 {ss:List St} {es:List En} {s:Int} {n:ByteArray} {e:List Ty}:valF ss es (.mk 7 s n e)=(dM es n && s == 0 && (e.length:Int) == 0):=by
 rw [valF]; rfl
theorem GL:∀ N,Meets Tryz.prog 67 (F0 N).sp
 | 0=>⟨by kernel_rfl,by rintro xs vs E ro w K _ _ _ ⟨⟨h,_⟩,_⟩; obtain ⟨_,a,_,_,_,h⟩:=kS h; have:=a.h_pos; omega⟩
 | N + 1=>by
  refine aG Tryz.func67 aAM 2 (by rw [Tryz.ntmps67]; decide) (aI (GL N) (aI O1 (aD z8 (aD HG (aB _))))) IL ?_
  rintro av H K ⟨⟨h,rfl⟩,hK⟩
  obtain ⟨sc,t,rfl,hs,ht,hh⟩:=kS h
  have hK:K (bS (valF sc.ss sc.es t)) []:=by
   have:(F0 (N + 1)).val [.va (.gs (aA sc)),.va (.gs (aP t))]=bA (valF sc.ss sc.es t):=by simp -dsimp only [go_sem]
   rw [this] at hK; exact hK
  clear h
  have fin:∀ (b:Bool) (R:Hp),valF sc.ss sc.es t=b->W.Fin 0 K (bS b) R:=fun b R h=>by
   rw [h] at hK
   exact .z ((by simp -dsimp only [go_sem]; simpa using hK))
  have hit:gI (aP t):=fO ht
  cases t with
  | mk k s n e=>
  have hcd:=gP (.mk k s n e)
  rw [aP,aT] at hcd hit
  have hcl:(Ty.mk k s n e).e.length=e.length:=rfl
  by_cases k1:(k == 1)=true
  · have hF:=valF.eq_1 sc.ss sc.es k s n e
    rw [k1] at hF
    simp only [aO] at hF
    simp (maxSteps:=9^6) -dsimp only [go_sem,aA,aP,aT,mO,mW,k1,hit,hcd,hcl]
    exact fin _ _ hF
  rw [Bool.not_eq_true] at k1
  by_cases k2:(k == 2)=true
  · have hF:=valF.eq_1 sc.ss sc.es k s n e
    rw [k1,k2] at hF
    simp only [aO,aJ] at hF
    simp (maxSteps:=9^6) -dsimp only [go_sem,aA,aP,aT,mO,mW,k1,k2,hit,hcd,hcl]
    exact fin _ _ hF
  rw [Bool.not_eq_true] at k2
  by_cases k3:(k == 3)=true
  · have hF:=valF.eq_1 sc.ss sc.es k s n e
    rw [k1,k2,k3] at hF
    simp only [aO,aJ,Bool.and_false,Bool.or_false] at hF
    simp (maxSteps:=9^6) -dsimp only [go_sem,aA,aP,aT,mO,mW,k1,k2,k3,hit,hcd,hcl]
    exact fin _ _ hF
  rw [Bool.not_eq_true] at k3
  by_cases k4:(k == 4)=true
  · have hF:=valF.eq_1 sc.ss sc.es k s n e
    rw [k1,k2,k3,k4] at hF
    simp only [aO,aJ] at hF
    simp (maxSteps:=9^6) -dsimp only [go_sem,aA,aP,aT,mO,mW,k1,k2,k3,k4,hit,hcd,hcl]
    exact fin _ _ hF
  rw [Bool.not_eq_true] at k4
  by_cases k5:(k == 5)=true
  · have hF:=valF.eq_1 sc.ss sc.es k s n e
    rw [k1,k2,k3,k4,k5] at hF
    simp only [aO,aJ] at hF
    cases hc:(decide (1<=s) && decide (s<=32) && bl n == [] && (e.length:Int) == 1) with
    | false=>
     have hF':valF sc.ss sc.es (.mk k s n e)=false:=by
      rw [hF]
      cases h0:(decide (1<=s) && decide (s<=32) && bl n == []) with
      | false=>rfl
      | true=>
       rw [h0,Bool.true_and] at hc
       match e,hc with
       | [],_=>rfl
       | [u],hc=>simp at hc
       | u :: v :: r,_=>simp [mC]
     simp (maxSteps:=9^6) -dsimp only [go_sem,aA,aP,aT,mO,mW,k1,k2,k3,k4,k5,hc]
     exact fin _ _ hF'
    | true=>
     obtain ⟨u,rfl⟩:∃ u,e=[u]:=by
      simp only [Bool.and_eq_true,beq_iff_eq] at hc
      exact List.length_eq_one_iff.1 (by omega)
     have h0:(decide (1<=s) && decide (s<=32) && bl n == [])=true:=by
      simp only [Bool.and_eq_true] at hc ⊢; exact hc.1
     have hF':valF sc.ss sc.es (.mk k s n [u])=valF sc.ss sc.es u:=by rw [hF,h0]; simp [mC]
     have hu2:u.h<=N:=by rw [Ty.h,Ty.hs,Ty.hs] at hh; omega
     have hu:gI (aP u):=fO (ht.e u (by simp [Ty.e]))
     have hsf:=gA hs
     rw [aA] at hsf
     have hsd:=eC sc
     rw [aA] at hsd
     have hc':(decide (1<=s) && decide (s<=32) && bl n == [] && ((1:Nat):Int) == 1)=true:=hc
     simp (maxSteps:=9^6) -dsimp only [go_sem,aA,aP,aT,mO,mW,k1,k2,k3,k4,k5,hc']
     refine ⟨⟨by omega,fun r hr=>by subst hr; exact cG u⟩,fun r hr=>?_⟩
     subst hr
     simp (maxSteps:=9^6) -dsimp only [go_sem,hsf,hsd,hu,cG]
     exact ⟨hu2,fin _ _ hF'⟩
  rw [Bool.not_eq_true] at k5
  by_cases k6:(k == 6)=true
  · obtain rfl:k=6:=by simpa using k6
    have hF:=ZX (ss:=sc.ss) (es:=sc.es) (s:=s) (n:=n) (e:=e)
    simp (maxSteps:=9^6) -dsimp only [go_sem,aA,aP,aT,mO,mW,k1,k2,k3,k4,k5,k6]
    refine DY hs ?_
    cases hc:eI sc.ss n with
    | false=>
     rw [hc] at hF
     simp (maxSteps:=9^6) -dsimp only [go_sem,aK,hit,hcd,hcl]
     exact fin _ _ hF
    | true=>
     rw [hc] at hF
     simp (maxSteps:=9^6) -dsimp only [go_sem,aK,hit,hcd,hcl]
     exact fin _ _ hF
  rw [Bool.not_eq_true] at k6
  by_cases k7:(k == 7)=true
  · obtain rfl:k=7:=by simpa using k7
    have hF:=Z5 (ss:=sc.ss) (es:=sc.es) (s:=s) (n:=n) (e:=e)
    simp (maxSteps:=9^6) -dsimp only [go_sem,aA,aP,aT,mO,mW,k1,k2,k3,k4,k5,k6,k7]
    refine DT hs ?_
    cases hc:dM sc.es n with
    | false=>
     rw [hc] at hF
     simp (maxSteps:=9^6) -dsimp only [go_sem,aN,hit,hcd,hcl]
     exact fin _ _ hF
    | true=>
     rw [hc] at hF
     simp (maxSteps:=9^6) -dsimp only [go_sem,aN,hit,hcd,hcl]
     exact fin _ _ hF
  rw [Bool.not_eq_true] at k7
  have hF:=valF.eq_1 sc.ss sc.es k s n e
  rw [k1,k2,k3,k4,k5,k6,k7] at hF
  simp only [aJ] at hF
  simp (maxSteps:=9^6) -dsimp only [go_sem,aA,aP,aT,mO,mW,k1,k2,k3,k4,k5,k6,k7]
  exact fin _ _ hF
def zH:List S->Prop:=fun av=>match av with
 | [.va (.gs r),.va (.gs q)]=>iC r/\gI q
 | _=>False
theorem uH {av:List S} (h:zH av):∃ s t,av=[.va (.gs (aA s)),.va (.gs (aP t))]/\s.fit/\TyOk t:=by
 unfold zH at h
 split at h
 · obtain ⟨⟨a,rfl,ha⟩,⟨b,rfl,hb⟩⟩:=h
   exact ⟨a,b,rfl,ha,hb⟩
 · exact h.elim
noncomputable def r0Fn:Fun:=⟨zH,FJ,fun av h=>by obtain ⟨a,b,rfl,_⟩:=uH h; trivial⟩
attribute [go_sem] r0Fn zH
theorem N9:Meets Tryz.prog 67 r0Fn.sp:=iQ 0 GL fun av H K ⟨⟨h,e⟩,hK⟩=>by
 obtain ⟨a,b,rfl,ha,hb⟩:=uH h
 exact ⟨b.h,⟨⟨⟨gA ha,fO hb,by rw [gP]; exact Nat.le_refl _⟩,e⟩,hK⟩⟩
theorem HD:Meets Tryz.prog 27 (wJ (fun s=>s.ss.length) fJ).sp:=by
 refine aG Tryz.func27 Y9 2 (by rw [Tryz.ntmps27]; decide) (aI B3 (aD HG (aI tF (aI N9 (aB _))))) BG ?_
 rintro av H K ⟨⟨h,rfl⟩,hK⟩
 obtain ⟨s,i,rfl,hs,hi⟩:=kR (len:=fun s=>s.ss.length) h
 have hK:K (iS .i64 (fJ s i)) []:=by
  have:(wJ (fun s=>s.ss.length) fJ).val [.va (.gs (aA s)),iS .i64 i]=iA .i64 (fJ s i):=by simp -dsimp only [go_sem,Int.toNat_natCast]
  rw [this] at hK; exact hK
 clear h
 have hls:=hs.ok.ls
 have fin:∀ (x:Int) (R:Hp),fJ s i=x->W.Fin 0 K (iS .i64 x) R:=fun x R h=>by
  rw [h] at hK
  exact .z ((by simpa [go_sem] using hK))
 obtain ⟨t,hx⟩:∃ e,s.ss[i]? = some e:=⟨_,aU hi⟩
 have q1:=aR (row:=aK) hx
 obtain ⟨_,hlf,hfs⟩:=hs.ok.ss t (bI hx)
 have hA:fJ s i=bif fY s i t.nm != 0 then fY s i t.nm else l6 s.ss s.es t:=by unfold fJ; rw [hx]
 have hsf:=gA hs
 rw [aA] at hsf
 have hsd:=eC s
 rw [aA] at hsd
 simp (maxSteps:=9^6) -dsimp only [go_sem,aA,QC,UD,↓q1,aK]
 refine ⟨by omega,fun h1=>fin 5 _ (by rw [hA]; unfold fY; rw [h1]; rfl),fun h1=>?_⟩
 refine DT hs ?_
 simp (maxSteps:=9^6) -dsimp only [go_sem,aN]
 refine ⟨fun h2=>fin 7 _ (by rw [hA]; unfold fY; rw [h1,h2]; rfl),fun h2=>?_⟩
 have hC:fY s i t.nm=bif eI (s.ss.take i) t.nm then 7 else 0:=by unfold fY; rw [h1,h2]; rfl
 generalize ((l0 s.es t.nm).getD default)=dflt
 refine aQ (α:=Nat) (fun j=>[(1,iS .i64 i),(2,.va (.c1 (.pt 0 0))),(5,.va (.c1 (.pt 1 0))),(8,iS .i64 j)]) (fun _=>[.cells (aA s) 25,.cells (aK t) 56])
  (fun j=>j<=i/\eI ((s.ss.take i).drop j) t.nm=eI (s.ss.take i) t.nm) (fun j=>i - j) 0 2 ⟨Nat.zero_le _,rfl⟩ ?_ ?_ ?_
 · simp [go_sem]
 · simp [go_sem,aA,aK]
 have hti:(s.ss.take i).length=i:=by rw [List.length_take]; omega
 rintro j ⟨hj,ho⟩
 rcases bH j i with hlt | hge
 · have hg:decide ((j:Int) < (i:Int))=true:=by simp; omega
   obtain ⟨d,hd⟩:∃ d,s.ss[j]? = some d:=⟨_,aU (by omega)⟩
   have hd':(s.ss.take i)[j]? = some d:=by rw [List.getElem?_take,if_pos hlt]; exact hd
   have q2:=aR (row:=aK) hd
   rw [eI,cH hd'] at ho
   simp (maxSteps:=9^6) -dsimp only [go_sem,hg,↓q2,aK,aA,dU]
   refine ⟨by omega,fun hc=>?_,fun hc=>?_⟩
   · rw [hc,Bool.true_or] at ho
     exact fin 7 _ (by rw [hA,hC,<-ho]; rfl)
   · rw [hc,Bool.false_or] at ho
     refine ⟨by omega,aC (j + 1) 2 ⟨by omega,ho⟩ (by omega) ?_ ?_⟩
     · simp [go_sem]
     · simp [go_sem,aA,aK]
 · obtain rfl:j=i:=by omega
   have hg:decide ((j:Int) < (j:Int))=false:=by simp
   rw [List.drop_eq_nil_of_le (by omega)] at ho
   have hF:fJ s j=l6 s.ss s.es t:=by rw [hA,hC,<-ho]; rfl
   clear ho hti hA hC q1 hj hge
   simp (maxSteps:=9^6) -dsimp only [go_sem,hg,aK,aA]
   clear hg
   refine aQ (α:=Nat) (fun k=>[(2,.va (.c1 (.pt 0 0))),(5,.va (.c1 (.pt 1 0))),(9,iS .i64 k)]) (fun _=>[.cells (aA s) 25,.cells (aK t) 56])
    (fun k=>k<=t.fs.length/\fE (i6 s.ss s.es t) (t.fs.length - k) k=l6 s.ss s.es t) (fun k=>t.fs.length - k) 0 2 ⟨Nat.zero_le _,rfl⟩ ?_ ?_ ?_
   · simp [go_sem]
   · simp [go_sem,aA,aK]
   rintro k ⟨hk,ho⟩
   rcases bH k t.fs.length with hlt | hge
   · have hg:decide ((k:Int) < (t.fs.length:Int))=true:=by simp; omega
     obtain ⟨f,hx2⟩:∃ nm,t.fs[k]? = some nm:=⟨_,aU hlt⟩
     have q2:=aR (row:=aZ) hx2
     have hf:f.ok:=hfs f (bI hx2)
     have hit:gI (aP f.ty):=fO hf.ty
     have hA:i6 s.ss s.es t k=bif decide (f.num < 1) || decide (127 < f.num) then (4:Int) else bif decide (0 < (k:Int)) && (match t.fs[k - 1]? with | some g=>decide (f.num<=g.num) | none=>false) then 2 else
      bif !(bQ (bl f.nm)) then 5 else bif (t.fs.take k).any (fun g=>decide (g.nm=f.nm)) then 7 else bif !(valF s.ss s.es f.ty) then 13 else 0:=by
      unfold i6; rw [hx2]; rfl
     have fin':∀ (x:Int) (R:Hp),i6 s.ss s.es t k=x->x ≠ 0->W.Fin 0 K (iS .i64 x) R:=fun x R h1 h2=>fin x R (by
      rw [hF,<-ho,jB hlt (by rw [h1]; exact h2),h1])
     have cD:i6 s.ss s.es t k=0->fE (i6 s.ss s.es t) (t.fs.length - (k + 1)) (k + 1)=l6 s.ss s.es t:=fun h1=>by rw [<-ho,kL hlt h1]
     cases c0:decide (f.num < 1) with
     | true=>
      rw [c0] at hA
      simp (maxSteps:=9^6) -dsimp only [go_sem,hg,↓q2,aZ,aK,aA,c0]
      exact ⟨by omega,fin' 4 _ hA (by decide)⟩
     | false=>
     cases c1:decide (127 < f.num) with
     | true=>
      rw [c0,c1] at hA
      simp (maxSteps:=9^6) -dsimp only [go_sem,hg,↓q2,aZ,aK,aA,c0,c1]
      exact ⟨by omega,fin' 4 _ hA (by decide)⟩
     | false=>
     rw [c0,c1] at hA
     simp only [Bool.or_self,aJ] at hA
     rcases Nat.eq_zero_or_pos k with h0 | h0
     · have g1:decide (0 < (k:Int))=false:=by simp; omega
       rw [g1] at hA
       simp only [Bool.false_and,aJ] at hA
       cases c3:bQ (bl f.nm) with
       | false=>
        rw [c3] at hA
        simp (maxSteps:=9^6) -dsimp only [go_sem,hg,↓q2,aZ,aK,aA,c0,c1,c3,g1]
        exact ⟨by omega,fin' 5 _ hA (by decide)⟩
       | true=>
        rw [c3] at hA
        simp only [Bool.not_true,aJ] at hA
        simp (maxSteps:=9^6) -dsimp only [go_sem,hg,↓q2,aZ,aK,aA,c0,c1,c3,g1]
        refine ⟨by omega,?_⟩
        refine aQ (α:=Nat) (fun j=>[(2,.va (.c1 (.pt 0 0))),(5,.va (.c1 (.pt 1 0))),(9,iS .i64 k),(10,.va (.c1 (.pt 2 0))),(11,iS .i64 j)])
         (fun _=>[.cells (aA s) 25,.cells (aK t) 56,.cells (aZ f) 64])
         (fun j=>j<=k/\((t.fs.take k).drop j).any (fun g=>decide (g.nm=f.nm))=(t.fs.take k).any (fun g=>decide (g.nm=f.nm))) (fun j=>k - j) 0 3 ⟨Nat.zero_le _,rfl⟩ ?_ ?_ ?_
        · simp [go_sem]
        · simp [go_sem,aA,aK,aZ]
        have htk:(t.fs.take k).length=k:=by rw [List.length_take]; omega
        rintro j ⟨hj,ho2⟩
        rcases bH j k with hjt | hjg
        · have hgj:decide ((j:Int) < (k:Int))=true:=by simp; omega
          obtain ⟨d,hd⟩:∃ e,t.fs[j]? = some e:=⟨_,aU (by omega)⟩
          have hd':(t.fs.take k)[j]? = some d:=by rw [List.getElem?_take,if_pos hjt]; exact hd
          have q5:=aR (row:=aZ) hd
          rw [cH hd'] at ho2
          simp (maxSteps:=9^6) -dsimp only [go_sem,hgj,↓q5,aZ,aK,aA,dU]
          refine ⟨by omega,fun hc=>?_,fun hc=>?_⟩
          · rw [hc,Bool.true_or] at ho2
            rw [<-ho2] at hA
            exact fin' 7 _ hA (by decide)
          · rw [hc,Bool.false_or] at ho2
            refine ⟨by omega,aC (j + 1) 3 ⟨by omega,ho2⟩ (by omega) ?_ ?_⟩
            · simp [go_sem]
            · simp [go_sem,aA,aK,aZ]
        · obtain rfl:j=k:=by omega
          have hgj:decide ((j:Int) < (j:Int))=false:=by simp
          rw [List.drop_eq_nil_of_le (by omega)] at ho2
          rw [<-ho2] at hA
          simp only [List.any_nil,aJ] at hA
          simp (maxSteps:=9^6) -dsimp only [go_sem,hgj,aZ,aK,aA,gX,hit,hsf,hsd]
          cases c5:valF s.ss s.es f.ty with
          | true=>
           rw [c5] at hA
           simp (maxSteps:=9^6) -dsimp only [go_sem]
           refine ⟨by omega,aC (j + 1) 2 ⟨by omega,cD hA⟩ (by omega) ?_ ?_⟩
           · simp [go_sem]
           · simp [go_sem,aA,aK]
          | false=>
           rw [c5] at hA
           simp (maxSteps:=9^6) -dsimp only [go_sem]
           exact fin' 13 _ hA (by decide)
     · have g1:decide (0 < (k:Int))=true:=by simp; omega
       obtain ⟨g,hy⟩:∃ m,t.fs[k - 1]? = some m:=⟨_,aU (by omega)⟩
       have q4:((k:Int) - 1).toNat=k - 1:=by omega
       have q6:=tW (row:=aZ) hy
       rw [g1,hy,Bool.true_and] at hA
       simp only at hA
       cases c2:decide (f.num<=g.num) with
       | true=>
        rw [c2] at hA
        simp (maxSteps:=9^6) -dsimp only [go_sem,hg,↓q2,aZ,aK,aA,c0,c1,g1,q4,c2,hy,aF,forall_eq']
        exact ⟨by omega,by omega,by omega,fin' 2 _ hA (by decide)⟩
       | false=>
        rw [c2] at hA
        simp only [aJ] at hA
        cases c3:bQ (bl f.nm) with
        | false=>
         rw [c3] at hA
         simp (maxSteps:=9^6) -dsimp only [go_sem,hg,↓q2,aZ,aK,aA,c0,c1,c3,g1,q4,c2,hy,aF,forall_eq']
         exact ⟨by omega,by omega,by omega,fin' 5 _ hA (by decide)⟩
        | true=>
         rw [c3] at hA
         simp only [Bool.not_true,aJ] at hA
         simp (maxSteps:=9^6) -dsimp only [go_sem,hg,↓q2,aZ,aK,aA,c0,c1,c3,g1,q4,c2,hy,aF,forall_eq']
         refine ⟨by omega,by omega,by omega,?_⟩
         refine aQ (α:=Nat) (fun j=>[(2,.va (.c1 (.pt 0 0))),(5,.va (.c1 (.pt 1 0))),(9,iS .i64 k),(10,.va (.c1 (.pt 2 0))),(11,iS .i64 j)])
          (fun _=>[.cells (aA s) 25,.cells (aK t) 56,.cells (aZ f) 64])
          (fun j=>j<=k/\((t.fs.take k).drop j).any (fun g=>decide (g.nm=f.nm))=(t.fs.take k).any (fun g=>decide (g.nm=f.nm))) (fun j=>k - j) 0 3 ⟨Nat.zero_le _,rfl⟩ ?_ ?_ ?_
         · simp [go_sem]
         · simp [go_sem,aA,aK,aZ]
         have htk:(t.fs.take k).length=k:=by rw [List.length_take]; omega
         rintro j ⟨hj,ho2⟩
         rcases bH j k with hjt | hjg
         · have hgj:decide ((j:Int) < (k:Int))=true:=by simp; omega
           obtain ⟨d,hd⟩:∃ e,t.fs[j]? = some e:=⟨_,aU (by omega)⟩
           have hd':(t.fs.take k)[j]? = some d:=by rw [List.getElem?_take,if_pos hjt]; exact hd
           have q5:=aR (row:=aZ) hd
           rw [cH hd'] at ho2
           simp (maxSteps:=9^6) -dsimp only [go_sem,hgj,↓q5,aZ,aK,aA,dU]
           refine ⟨by omega,fun hc=>?_,fun hc=>?_⟩
           · rw [hc,Bool.true_or] at ho2
             rw [<-ho2] at hA
             exact fin' 7 _ hA (by decide)
           · rw [hc,Bool.false_or] at ho2
             refine ⟨by omega,aC (j + 1) 3 ⟨by omega,ho2⟩ (by omega) ?_ ?_⟩
             · simp [go_sem]
             · simp [go_sem,aA,aK,aZ]
         · obtain rfl:j=k:=by omega
           have hgj:decide ((j:Int) < (j:Int))=false:=by simp
           rw [List.drop_eq_nil_of_le (by omega)] at ho2
           rw [<-ho2] at hA
           simp only [List.any_nil,aJ] at hA
           simp (maxSteps:=9^6) -dsimp only [go_sem,hgj,aZ,aK,aA,gX,hit,hsf,hsd]
           cases c5:valF s.ss s.es f.ty with
           | true=>
            rw [c5] at hA
            simp (maxSteps:=9^6) -dsimp only [go_sem]
            refine ⟨by omega,aC (j + 1) 2 ⟨by omega,cD hA⟩ (by omega) ?_ ?_⟩
            · simp [go_sem]
            · simp [go_sem,aA,aK]
           | false=>
            rw [c5] at hA
            simp (maxSteps:=9^6) -dsimp only [go_sem]
            exact fin' 13 _ hA (by decide)
   · have hg:decide ((k:Int) < (t.fs.length:Int))=false:=by simp; omega
     obtain rfl:k=t.fs.length:=by omega
     rw [j7] at ho
     simp (maxSteps:=9^6) -dsimp only [go_sem,hg,aK]
     exact fin 0 _ (by rw [hF,<-ho])
mutual
def dirF:Ty->List ByteArray
 | .mk k _ n e=>bif k == 6 || k == 7 then [n] else eE e
def eE:List Ty->List ByteArray
 | []=>[]
 | t :: r=>dirF t ++ eE r
end
theorem pC:∀ (a b:List Ty),eE (a ++ b)=eE a ++ eE b
 | [],b=>rfl
 | t :: r,b=>by rw [List.cons_append,eE,eE,pC r b,List.append_assoc]
theorem yE:∀ {l:List Ty} {t:Ty},t ∈ l->(dirF t).length<=(eE l).length
 | x :: l,t,h=>by
  rw [eE,List.length_append]
  rcases List.mem_cons.1 h with rfl | h
  · omega
  · have:=yE h; omega
def QF (N:Nat):W.Spec:=fun av H K=>∃ t:Ty,av=[.va (.gs (aP t))]/\H=[]/\TyOk t/\t.h<=N/\(dirF t).length<=1000000000/\K (.va (.c1 (.fz ((dirF t).map a8)))) []
theorem Q1 {N:Nat} {t:Ty} {K:S->Hp->Prop} (h1:TyOk t) (h2:t.h<=N) (h3:(dirF t).length<=1000000000) (hK:K (.va (.c1 (.fz ((dirF t).map a8)))) []):QF N [.va (.gs (aP t))] [] K:=⟨t,rfl,rfl,h1,h2,h3,hK⟩
theorem PS (l:List ByteArray):∀ r ∈ l.map a8,∀ c ∈ r,c.shut=true/\c.one:=fun r hr c hc=>by
 obtain ⟨x,_,rfl⟩:=List.mem_map.1 hr
 simp at hc; subst hc; simp [go_sem,C.shut]
theorem D3:∀ N,Meets Tryz.prog 69 (QF N)
 | 0=>⟨by kernel_rfl,by rintro xs vs E ro w K _ _ _ ⟨t,_,_,_,h,_⟩; have:=t.h_pos; omega⟩
 | N + 1=>by
  refine aG Tryz.func69 aAF 1 (by rw [Tryz.ntmps69]; decide) (aD (D3 N) (aB _)) (fun av H K h=>by obtain ⟨_,rfl,_⟩:=h; rfl) ?_
  rintro av H K ⟨⟨k,s,n,e⟩,rfl,rfl,h1,h2,h3,hK⟩
  have hle:=h1.len
  have hoe:=h1.e
  simp only [Ty.e] at hle hoe
  have hD:=dirF.eq_1 k s n e
  simp (maxSteps:=9^6) -dsimp only [go_sem,aP,aT,SE,O4]
  refine ⟨fun c1=>?_,fun c1=>?_⟩
  · rw [c1,aO] at hD
    rw [hD] at hK
    refine .pub 1 _ _ _ rfl (.sel [] (by simp) (by simp [cK]) rfl (.done ?_))
    simp -dsimp only [go_sem,cK]
    simpa using hK
  · rw [c1,aJ] at hD
    rw [hD] at hK h3
    refine bP (α:=Nat) (fun i=>[(1,.va (.c1 (.pt 0 0))),(3,.va (.c1 (.sl 1 (eE (e.take i)).length))),(4,iS .i64 i)]) (fun i=>[.cells (aP (.mk k s n e)) 37,.row ((eE (e.take i)).map a8) 9 1])
     (fun i=>i<=e.length) (fun i=>e.length - i) (.nil 3 9 1 rfl (eJ 0 2 (Nat.zero_le _) ?_ ?_)) ?_
    · simp -dsimp only [go_sem]<;>simp [eE]
    · simp -dsimp only [go_sem,aP,aT]<;>simp [eE]
    intro i hi
    rcases bH i e.length with hlt | hge
    · have hg:decide ((i:Int) < (e.length:Int))=true:=by simp; omega
      obtain ⟨u,hx⟩:∃ t,e[i]? = some t:=⟨_,aU hlt⟩
      have q1:=aR (row:=aP) hx
      have hu:=bI hx
      have htn:eE (e.take (i + 1))=eE (e.take i) ++ dirF u:=by rw [mD hx,pC]; simp [eE]
      have hb:(eE (e.take (i + 1))).length<=1000000000:=by
       have:=pC (e.take (i + 1)) (e.drop (i + 1))
       rw [List.take_append_drop] at this
       rw [this,List.length_append] at h3; omega
      rw [htn,List.length_append] at hb
      simp (maxSteps:=9^6) -dsimp only [go_sem,hg,↓q1,cG,aP,aT]
      refine ⟨by omega,Q1 (hoe u hu) ?_ ?_ ?_⟩
      · have:=Ty.hs_mem hu; rw [Ty.h] at h2; omega
      · have:=yE hu; omega
      simp (maxSteps:=9^6) -dsimp only [go_sem,fI jM]
      refine ⟨PS _,by omega,by omega,aC (i + 1) 2 (by omega) (by omega) ?_ ?_⟩
      · simp -dsimp only [go_sem,htn]<;>simp
      · simp -dsimp only [go_sem,aP,aT,htn]<;>simp
    · have hg:decide ((i:Int) < (e.length:Int))=false:=by simp; omega
      obtain rfl:i=e.length:=by omega
      rw [List.take_length]
      simp (maxSteps:=9^6) -dsimp only [go_sem,hg,aP,aT]
      rw [<-List.length_map (f:=a8)]
      refine .pub 1 _ _ _ rfl (.sel [] (by simp) (by simp [cK]) rfl (.done ?_))
      simp -dsimp only [go_sem,cK]
      simpa using hK
def LK:W.Spec:=fun av H K=>∃ t:Ty,av=[.va (.gs (aP t))]/\H=[]/\TyOk t/\(dirF t).length<=1000000000/\K (.va (.c1 (.fz ((dirF t).map a8)))) []
theorem NO {t:Ty} {K:S->Hp->Prop} (h1:TyOk t) (h3:(dirF t).length<=1000000000) (hK:K (.va (.c1 (.fz ((dirF t).map a8)))) []):LK [.va (.gs (aP t))] [] K:=⟨t,rfl,rfl,h1,h3,hK⟩
theorem J7:Meets Tryz.prog 69 LK:=iQ 0 D3 fun _av _H _K ⟨t,e1,e2,h1,h3,hK⟩=>⟨t.h,t,e1,e2,h1,Nat.le_refl _,h3,hK⟩
def d9 (x:ByteArray):Bool->List ByteArray->List ByteArray
 | d,[]=>bif d then [] else [x]
 | d,y :: r=>bif !d && (Op.bytesLess (bl x) (bl y) || bl x == bl y) then (bif Op.bytesLess (bl x) (bl y) then x :: y :: d9 x true r else y :: d9 x true r) else y :: d9 x d r
theorem BD (x:ByteArray):∀ (d:Bool) (l:List ByteArray),(d9 x d l).length<=l.length + 1
 | d,[]=>by cases d<;>simp [d9]
 | d,y :: r=>by
  have h1:=iR x r
  have h2:=BD x d r
  rw [d9]
  cases d<;>cases Op.bytesLess (bl x) (bl y)<;>cases bl x == bl y<;>simp [h1] at h2 ⊢<;>omega
where iR (x:ByteArray):∀ l,d9 x true l=l
 | []=>rfl
 | y :: r=>by rw [d9,iR x r]; rfl
def RG:W.Spec:=fun av H K=>∃ (l:List ByteArray) (x:ByteArray),av=[.va (.c1 (.fz (l.map a8))),tS x]/\H=[]/\l.length<=1000000/\K (.va (.c1 (.fz ((d9 x false l).map a8)))) []
theorem PB {l:List ByteArray} {x:ByteArray} {K:S->Hp->Prop} (h:l.length<=1000000) (hK:K (.va (.c1 (.fz ((d9 x false l).map a8)))) []):RG [.va (.c1 (.fz (l.map a8))),tS x] [] K:=⟨l,x,rfl,rfl,h,hK⟩
theorem Y0:Meets Tryz.prog 70 RG:=by
 refine aG Tryz.func70 Y6 2 (by rw [Tryz.ntmps70]; decide) (aB _) (fun av H K h=>by obtain ⟨_,_,rfl,_⟩:=h; rfl) ?_
 rintro av H K ⟨l,x,rfl,rfl,hl,hK⟩
 have hlen:=BD x false l
 simp (maxSteps:=9^6) -dsimp only [go_sem,UC,S8]
 refine bP (α:=Nat × Bool × List ByteArray) (fun z=>[(0,.va (.c1 (.fz (l.map a8)))),(1,tS x),(5,.va (.c1 (.sl 0 z.2.2.length))),(6,bS z.2.1),(7,iS .i64 z.1)]) (fun z=>[.row (z.2.2.map a8) 9 1])
  (fun z=>z.1<=l.length/\z.2.2 ++ d9 x z.2.1 (l.drop z.1)=d9 x false l) (fun z=>l.length - z.1) (.nil 5 9 1 rfl (eJ (0,false,[]) 1 ⟨Nat.zero_le _,rfl⟩ ?_ ?_)) ?_
 · simp -dsimp only [go_sem]<;>simp
 · simp -dsimp only [go_sem]<;>simp
 rintro ⟨i,d,o⟩ ⟨hi,ho⟩
 simp only at hi ho ⊢
 have hol:o.length<=l.length + 1:=by
  have:=congrArg List.length ho
  rw [List.length_append] at this; omega
 rcases bH i l.length with hlt | hge
 · have hg:decide ((i:Int) < (l.length:Int))=true:=by simp; omega
   obtain ⟨y,hx⟩:∃ t,l[i]? = some t:=⟨_,aU hlt⟩
   have q1:=aR (row:=a8) hx
   have hdr:l.drop i=y :: l.drop (i + 1):=by
    obtain ⟨h,rfl⟩:=aW.1 hx
    exact List.drop_eq_getElem_cons h
   rw [hdr,d9] at ho
   have hst:∀ (u:ByteArray),[[C.vl (.string u)]]=[u].map a8:=fun _=>rfl
   cases d with
   | true=>
    simp only [Bool.not_true,Bool.false_and,aJ] at ho
    simp (maxSteps:=9^6) -dsimp only [go_sem,hg,↓q1]
    and_intros
    all_goals first
     | omega
     | skip
    refine aC (i + 1,true,o ++ [y]) 1 ⟨by simp only; omega,by simp only [List.append_assoc,List.singleton_append]; exact ho⟩ (by simp only; omega) ?_ ?_
    · simp -dsimp only [go_sem]<;>simp
    · simp -dsimp only [go_sem]<;>simp
   | false=>
    simp only [Bool.not_false,Bool.true_and] at ho
    cases c2:Op.bytesLess (bl x) (bl y) with
    | true=>
     rw [c2] at ho
     simp only [Bool.true_or,aO] at ho
     simp (maxSteps:=9^6) -dsimp only [go_sem,hg,↓q1,c2,Bool.true_or]
     and_intros
     all_goals first
      | omega
      | skip
     refine aC (i + 1,true,o ++ [x,y]) 1 ⟨by simp only; omega,by simp only [List.append_assoc,List.cons_append,List.nil_append]; exact ho⟩ (by simp only; omega) ?_ ?_
     · simp -dsimp only [go_sem]<;>simp
     · simp -dsimp only [go_sem]<;>simp
    | false=>
     rw [c2] at ho
     simp only [Bool.false_or,aJ] at ho
     cases c3:bl x == bl y with
     | true=>
      rw [c3] at ho
      simp only [aO] at ho
      simp (maxSteps:=9^6) -dsimp only [go_sem,hg,↓q1,c2,c3,Bool.false_or]
      and_intros
      all_goals first
       | omega
       | skip
      refine aC (i + 1,true,o ++ [y]) 1 ⟨by simp only; omega,by simp only [List.append_assoc,List.singleton_append]; exact ho⟩ (by simp only; omega) ?_ ?_
      · simp -dsimp only [go_sem]<;>simp
      · simp -dsimp only [go_sem]<;>simp
     | false=>
      rw [c3] at ho
      simp only [aJ] at ho
      simp (maxSteps:=9^6) -dsimp only [go_sem,hg,↓q1,c2,c3,Bool.false_or]
      and_intros
      all_goals first
       | omega
       | skip
      refine aC (i + 1,false,o ++ [y]) 1 ⟨by simp only; omega,by simp only [List.append_assoc,List.singleton_append]; exact ho⟩ (by simp only; omega) ?_ ?_
      · simp -dsimp only [go_sem]<;>simp
      · simp -dsimp only [go_sem]<;>simp
 · have hg:decide ((i:Int) < (l.length:Int))=false:=by simp; omega
   obtain rfl:i=l.length:=by omega
   rw [List.drop_length] at ho
   simp only [d9] at ho
   cases d with
   | true=>
    simp only [aO,List.append_nil] at ho
    rw [<-ho] at hK
    simp (maxSteps:=9^6) -dsimp only [go_sem,hg]
    rw [<-List.length_map (f:=a8)]
    refine .pub 0 _ _ _ rfl (.sel [] (by simp) (by simp [cK]) rfl (.done ?_))
    simp -dsimp only [go_sem,cK]
    simpa using hK
   | false=>
    simp only [aJ] at ho
    rw [<-ho] at hK
    simp (maxSteps:=9^6) -dsimp only [go_sem,hg]
    refine ⟨by omega,?_⟩
    have e1:o.length + 1=((o ++ [x]).map a8).length:=by simp
    have e2:o.map a8 ++ [[C.vl (.string x)]]=(o ++ [x]).map a8:=by simp
    rw [e1,e2]
    refine .pub 0 _ _ _ rfl (.sel [] (by simp) (by simp [cK]) rfl (.done ?_))
    simp -dsimp only [go_sem,cK]
    simpa using hK
abbrev yO (a b:ByteArray):Prop:=bl a < bl b
theorem PH (x:List UInt8):∀ y:List UInt8,Op.bytesLess x y=decide (x < y):=by
 induction x with
 | nil=>intro y; cases y<;>simp [Op.bytesLess]
 | cons a x ih=>
  intro y
  cases y with
  | nil=>simp [Op.bytesLess]
  | cons b y=>
   have:=ih y
   rw [Op.bytesLess,this,Bool.eq_iff_iff]
   simp [List.cons_lt_cons_iff]
theorem L0 (a b:ByteArray):Op.bytesLess (bl a) (bl b)=decide (yO a b):=PH _ _
theorem kQ (a:ByteArray):¬ yO a a:=List.lt_irrefl _
theorem yK {a b c:ByteArray} (h:yO a b) (h2:yO b c):yO a c:=List.lt_trans h h2
theorem G2 {a b:ByteArray} (h:¬ yO a b) (h2:a ≠ b):yO b a:=by
 have h3:bl b<=bl a:=List.not_lt.1 h
 exact Std.lt_of_le_of_ne h3 (fun e=>h2 (vW e.symm))
def Asc (l:List ByteArray):Prop:=l.Pairwise yO
theorem C2:∀ {a b:List ByteArray},Asc a->Asc b->(∀ x,x ∈ a ↔ x ∈ b)->a=b
 | [],[],_,_,_=>rfl
 | [],y :: b,_,_,h=>by have:=(h y).2 List.mem_cons_self; cases this
 | x :: a,[],_,_,h=>by have:=(h x).1 List.mem_cons_self; cases this
 | x :: a,y :: b,h1,h2,h=>by
  obtain ⟨p1,p2⟩:=List.pairwise_cons.1 h1
  obtain ⟨p3,p4⟩:=List.pairwise_cons.1 h2
  have e:x=y:=by
   rcases List.mem_cons.1 ((h x).1 List.mem_cons_self) with e | e
   · exact e
   · rcases List.mem_cons.1 ((h y).2 List.mem_cons_self) with e2 | e2
     · exact e2.symm
     · exact absurd (yK (p1 y e2) (p3 x e)) (kQ x)
  subst e
  rw [C2 p2 p4 fun z=>?_]
  constructor
  · intro hz
    rcases List.mem_cons.1 ((h z).1 (List.mem_cons_of_mem _ hz)) with e | e
    · exact absurd (p1 z hz) (by rw [e]; exact kQ x)
    · exact e
  · intro hz
    rcases List.mem_cons.1 ((h z).2 (List.mem_cons_of_mem _ hz)) with e | e
    · exact absurd (p3 z hz) (by rw [e]; exact kQ x)
    · exact e
theorem Asc.nodup {l:List ByteArray} (h:Asc l):l.Nodup:=by
 unfold List.Nodup
 refine List.Pairwise.imp ?_ h
 intro a b h e
 subst e
 exact kQ a h
theorem iR (x:ByteArray):∀ l,d9 x true l=l
 | []=>rfl
 | y :: r=>by rw [d9,iR x r]; rfl
theorem iI {x z:ByteArray}:∀ {l:List ByteArray},z ∈ d9 x false l ↔ z=x\/z ∈ l
 | []=>by simp [d9]
 | y :: r=>by
  rw [d9,iR]
  cases c1:Op.bytesLess (bl x) (bl y) with
  | true=>simp
  | false=>
   cases c2:bl x == bl y with
   | true=>
    have:x=y:=vW (by simpa using c2)
    subst this
    simp
   | false=>
    have:=iI (x:=x) (z:=z) (l:=r)
    simp [this]
    constructor
    · rintro (h | h | h)
      · exact .inr (.inl h)
      · exact .inl h
      · exact .inr (.inr h)
    · rintro (h | h | h)
      · exact .inr (.inl h)
      · exact .inl h
      · exact .inr (.inr h)
theorem A9 {x:ByteArray}:∀ {l:List ByteArray},Asc l->Asc (d9 x false l)
 | [],_=>by simp [d9,Asc]
 | y :: r,h=>by
  obtain ⟨p1,p2⟩:=List.pairwise_cons.1 h
  rw [d9,iR]
  cases c1:Op.bytesLess (bl x) (bl y) with
  | true=>
   rw [L0] at c1
   have c1:=of_decide_eq_true c1
   simp only [Bool.not_false,Bool.true_or,Bool.and_true,aO]
   refine List.pairwise_cons.2 ⟨fun z hz=>?_,h⟩
   rcases List.mem_cons.1 hz with rfl | hz
   · exact c1
   · exact yK c1 (p1 z hz)
  | false=>
   cases c2:bl x == bl y with
   | true=>exact h
   | false=>
    rw [L0] at c1
    have c1:=of_decide_eq_false c1
    have c2:x ≠ y:=fun e=>by subst e; simp at c2
    simp only [Bool.not_false,Bool.true_and,Bool.or_self,aJ]
    refine List.pairwise_cons.2 ⟨fun z hz=>?_,A9 p2⟩
    rcases iI.1 hz with rfl | hz
    · exact G2 c1 c2
    · exact p1 z hz
theorem JO {l:List ByteArray} (h:l.Nodup):Asc (eF l):=by
 have h1:((l.map bl).mergeSort fun x y=>decide (x<=y)).Pairwise fun a b=>decide (a<=b)=true:=
  List.pairwise_mergeSort (le:=fun (x y:List UInt8)=>decide (x<=y)) (fun (a b c:List UInt8) h1 h2=>decide_eq_true (List.le_trans (of_decide_eq_true h1) (of_decide_eq_true h2))) (fun (a b:List UInt8)=>by
   rcases List.le_total a b with h | h<;>simp [h]) _
 have h2:((l.map bl).mergeSort fun x y=>decide (x<=y)).Nodup:=by
  rw [(List.mergeSort_perm _ _).nodup_iff]
  exact List.Pairwise.map bl (fun a b (hab:a ≠ b) e=>hab (vW e)) h
 unfold eF Asc
 rw [List.pairwise_map]
 refine List.Pairwise.imp₂ (fun a b h1 h2=>?_) h1 h2
 exact Std.lt_of_le_of_ne (of_decide_eq_true h1) h2
theorem G7 (ss:List St) (n:ByteArray):Asc (cI ss n):=JO (pO ss n)
theorem HA {e:List Ty} (h:((e.length:Int) == 0)=true):e=[]:=by simpa using h
theorem C6 (ss:List St) (es:List En):∀ (N:Nat) (t:Ty),t.h<=N->valF ss es t=true->dirF t=bif bN t then [bC t] else []
 | 0,t,h,_=>absurd h (by have:=t.h_pos; omega)
 | N + 1,.mk k s n e,h,hv=>by
  cases k5:k == 5 with
  | true=>
   obtain rfl:k=5:=by simpa using k5
   obtain ⟨u,rfl,hu⟩:=B8 hv
   have:=C6 ss es N u (by rw [Ty.h,Ty.hs,Ty.hs] at h; omega) hu
   unfold bN bC
   rw [p6]
   rw [dirF,eE,eE,List.append_nil,this]
   rfl
  | false=>
   have h1:dY (.mk k s n e)=.mk k s n e:=nM (by rw [k5]; rfl)
   unfold bN bC
   rw [h1,dirF]
   simp only [Ty.k,Ty.n]
   cases k67:(k == 6 || k == 7) with
   | true=>rfl
   | false=>
    have he:e=[]:=by
     rw [Bool.or_eq_false_iff] at k67
     rw [valF,k5,k67.1,k67.2] at hv
     cases k1:k == 1<;>cases k2:k == 2<;>cases k3:k == 3<;>cases k4:k == 4<;>rw [k1,k2,k3,k4] at hv<;>simp only [aO,aJ,Bool.and_eq_true,reduceCtorEq] at hv<;>first | exact HA hv.2 | exact absurd hv (by decide)
    subst he; rfl
theorem A3 {ss:List St} {es:List En} {t:Ty} (hv:valF ss es t=true):dirF t=bif bN t then [bC t] else []:=C6 ss es t.h t (Nat.le_refl _) hv
structure UI (ss:List St) (n:ByteArray) (i:Nat) (todo o:List ByteArray):Prop where
 hd:∃ r,todo=n :: r/\r.Nodup/\∀ x,x ∈ o ↔ x ∈ r
 rc:∀ x ∈ o,Reach ss n x
 dn:∀ j a,j < i->todo[j]? = some a->∀ y,dP ss a y->y ∈ o
 asc:Asc o
theorem UI.init (ss:List St) (n:ByteArray):UI ss n 0 [n] []:=⟨⟨[],rfl,.nil,fun _x=>Iff.rfl⟩,fun _x h=>(List.not_mem_nil h).elim,fun _j _a h=>absurd h (Nat.not_lt_zero _),List.Pairwise.nil⟩
theorem GV {ss:List St} {es:List En} (g:Gd ss es) {n:ByteArray} {l:List ByteArray} (h:l.Nodup) (hr:∀ x ∈ l,Reach ss n x):l.length<=32:=Nat.le_trans (pX h fun x hx=>(gY ss n x).2 (hr x hx)) (g.vlen n)
theorem UI.len {ss:List St} {es:List En} (g:Gd ss es) {n:ByteArray} {i:Nat} {todo o:List ByteArray} (h:UI ss n i todo o):todo.length<=33/\o.length<=32:=by
 obtain ⟨r,rfl,h1,h2⟩:=h.hd
 have:=GV g h1 fun x hx=>h.rc x ((h2 x).2 hx)
 have:=GV g h.asc.nodup h.rc
 simp only [List.length_cons]; omega
theorem UI.rch {ss:List St} {n:ByteArray} {i k:Nat} {todo o:List ByteArray} (h:UI ss n i todo o) {a y:ByteArray} (ha:todo[k]? = some a) (hy:dP ss a y):Reach ss n y:=by
 obtain ⟨r,rfl,h1,h2⟩:=h.hd
 cases k with
 | zero=>simp at ha; subst ha; exact .one hy
 | succ k=>
  simp at ha
  exact .more (h.rc a ((h2 a).2 (bI ha))) hy
theorem UI.add {ss:List St} {n:ByteArray} {i:Nat} {todo o:List ByteArray} (h:UI ss n i todo o) {y:ByteArray} (hr:Reach ss n y) (hy:y ∉ o) (hi:i<=todo.length):UI ss n i (todo ++ [y]) (d9 y false o):=by
 obtain ⟨r,rfl,h1,h2⟩:=h.hd
 refine ⟨⟨r ++ [y],by simp,?_,fun x=>?_⟩,fun x hx=>?_,fun j a hj ha z hz=>?_,A9 h.asc⟩
 · rw [List.nodup_append]
   exact ⟨h1,by simp,fun a ha b hb=>by simp at hb; subst hb; exact fun e=>hy ((h2 b).2 (e ▸ ha))⟩
 · rw [iI,h2]; simp [or_comm]
 · rcases iI.1 hx with rfl | hx
   · exact hr
   · exact h.rc x hx
 · rw [List.getElem?_append_left (by omega)] at ha
   exact iI.2 (.inr (h.dn j a hj ha z hz))
theorem UI.next {ss:List St} {n:ByteArray} {i:Nat} {todo o:List ByteArray} (h:UI ss n i todo o) {a:ByteArray} (ha:todo[i]? = some a) (hy:∀ y,dP ss a y->y ∈ o):UI ss n (i + 1) todo o:=by
 refine ⟨h.hd,h.rc,fun j b hj hb y hyb=>?_,h.asc⟩
 rcases bH j i with h4 | h4
 · exact h.dn j b h4 hb y hyb
 · obtain rfl:j=i:=by omega
   rw [ha] at hb; obtain rfl:=a7 hb
   exact hy y hyb
theorem UI.fin {ss:List St} {n:ByteArray} {todo o:List ByteArray} (h:UI ss n todo.length todo o):o=cI ss n:=by
 refine C2 h.asc (G7 ss n) fun x=>?_
 rw [xR]
 refine ⟨h.rc x,fun hx=>?_⟩
 obtain ⟨r,e,h1,h2⟩:=h.hd
 have hn:∀ y,dP ss n y->y ∈ o:=h.dn 0 n (by rw [e]; simp) (by rw [e]; rfl)
 induction hx with
 | one h=>exact hn _ h
 | more _ h3 ih=>
  obtain ⟨j,hj⟩:=List.mem_iff_getElem?.1 ((h2 _).1 ih)
  rename_i b c _
  have hj2:todo[j + 1]? = some b:=by rw [e]; simpa using hj
  exact h.dn (j + 1) _ (aW.1 hj2).1 hj2 _ h3
def RF:W.Spec:=fun av H K=>∃ (s:Sc) (n:ByteArray),av=[.va (.gs (aA s)),tS n]/\H=[]/\s.fit/\Gd s.ss s.es/\K (.va (.c1 (.fz ((cI s.ss n).map a8)))) []
theorem SU {s:Sc} {n:ByteArray} {K:S->Hp->Prop} (h:s.fit) (g:Gd s.ss s.es) (hK:K (.va (.c1 (.fz ((cI s.ss n).map a8)))) []):RF [.va (.gs (aA s)),tS n] [] K:=⟨s,n,rfl,rfl,h,g,hK⟩
theorem O0 {ss:List St} {es:List En} {t:Ty} (hv:valF ss es t=true):(dirF t).length<=1:=by
 rw [A3 hv]; cases bN t<;>simp
theorem EH {ss:List St} {es:List En} {t:Ty} (hv:valF ss es t=true) {y:ByteArray}:y ∈ dirF t ↔ bN t=true/\bC t=y:=by
 rw [A3 hv]; cases bN t<;>simp [eq_comm]
theorem VG:Meets Tryz.prog 28 RF:=by
 refine aG Tryz.func28 YW 2 (by rw [Tryz.ntmps28]; decide) (aD z8 (aD J7 (aI IV (aD Y0 (aB _))))) (fun av H K h=>by obtain ⟨_,_,rfl,_⟩:=h; rfl) ?_
 rintro av H K ⟨s,n,rfl,rfl,hs,g,hK⟩
 simp (maxSteps:=9^6) -dsimp only [go_sem,aA,Q6,RA]
 refine bP (α:=Nat × List ByteArray × List ByteArray) (fun z=>[(2,.va (.c1 (.pt 0 0))),(5,.va (.c1 (.fz (z.2.2.map a8)))),(6,.va (.c1 (.sl 1 z.2.1.length))),(7,iS .i64 z.1)]) (fun z=>[.cells (aA s) 25,.row (z.2.1.map a8) 9 1])
  (fun z=>z.1<=z.2.1.length/\UI s.ss n z.1 z.2.1 z.2.2) (fun z=>34 - z.1) (.nf 5 (eJ (0,[n],[]) 2 ⟨Nat.zero_le _,UI.init _ _⟩ ?_ ?_)) ?_
 · simp -dsimp only [go_sem]<;>simp
 · simp -dsimp only [go_sem,aA]<;>simp
 rintro ⟨i,todo,o⟩ ⟨hi,hu⟩
 simp only at hi hu ⊢
 obtain ⟨htl,hol⟩:=hu.len g
 rcases bH i todo.length with hlt | hge
 · have hg:decide ((i:Int) < (todo.length:Int))=true:=by simp; omega
   obtain ⟨a,ha⟩:∃ a,todo[i]? = some a:=⟨_,aU hlt⟩
   have q1:=aR (row:=a8) ha
   simp (maxSteps:=9^6) -dsimp only [go_sem,hg,aA,ha,aF,forall_eq']
   refine ⟨by omega,hlt,DY hs ?_⟩
   generalize hx:(fS s.ss a).getD default=x
   have hxf:∀ f ∈ x.fs,f.ok/\valF s.ss s.es f.ty=true:=fun f hf=>by
    cases hc:fS s.ss a with
    | none=>rw [hc] at hx; subst hx; cases hf
    | some t=>
     rw [hc] at hx
     subst hx
     exact ⟨(hs.ok.ss _ (i7 hc).1).fs f hf,g.val _ (i7 hc).1 f hf⟩
   have hxl:x.fs.length<=9223372036854775807:=by
    cases hc:fS s.ss a with
    | none=>rw [hc] at hx; subst hx; exact Nat.zero_le _
    | some t=>rw [hc] at hx; subst hx; exact (hs.ok.ss _ (i7 hc).1).len
   have hxr:∀ y,dP s.ss a y ↔ wW x y:=fun y=>by unfold dP; rw [hx]
   simp (maxSteps:=9^6) -dsimp only [go_sem,aK]
   refine aQ (α:=Nat × List ByteArray × List ByteArray) (fun z=>[(2,.va (.c1 (.pt 0 0))),(5,.va (.c1 (.fz (z.2.2.map a8)))),(6,.va (.c1 (.sl 1 z.2.1.length))),(7,iS .i64 i),(8,.va (.c1 (.pt 2 0))),(10,iS .i64 z.1)]) (fun z=>[.cells (aA s) 25,.row (z.2.1.map a8) 9 1,.cells (aK x) 56])
    (fun z=>z.1<=x.fs.length/\z.2.1[i]? = some a/\UI s.ss n i z.2.1 z.2.2/\∀ f ∈ x.fs.take z.1,bN f.ty=true->bC f.ty ∈ z.2.2) (fun z=>x.fs.length - z.1) (0,todo,o) 3 ⟨Nat.zero_le _,ha,hu,fun f hf=>by cases hf⟩ ?_ ?_ ?_
   · simp -dsimp only [go_sem]<;>simp
   · simp -dsimp only [go_sem,aA,aK]<;>simp
   clear hu ha hlt hi htl hol hg q1
   rintro ⟨k,td,o⟩ ⟨hk,ha,hu,hr⟩
   simp only at hk ha hu hr ⊢
   obtain ⟨htl,hol⟩:=hu.len g
   have hil:=(aW.1 ha).1
   rcases bH k x.fs.length with hlt | hge
   · have hg:decide ((k:Int) < (x.fs.length:Int))=true:=by simp; omega
     obtain ⟨f,hf⟩:∃ a,x.fs[k]? = some a:=⟨_,aU hlt⟩
     have q1:=aR (row:=aZ) hf
     obtain ⟨hfo,hfv⟩:=hxf f (bI hf)
     simp (maxSteps:=9^6) -dsimp only [go_sem,hg,↓q1,aA,aK,aZ,gX]
     have hdl:=O0 hfv
     refine ⟨by omega,NO hfo.ty (by omega) ?_⟩
     simp (maxSteps:=9^6) -dsimp only [go_sem]
     have hdm:∀ y ∈ dirF f.ty,Reach s.ss n y:=fun y hy=>by
      obtain ⟨h1,h2⟩:=(EH hfv).1 hy
      exact hu.rch ha ((hxr y).2 ⟨f,bI hf,h1,h2⟩)
     have hdf:(∀ o':List ByteArray,(∀ y ∈ dirF f.ty,y ∈ o')->(∀ f ∈ x.fs.take k,bN f.ty=true->bC f.ty ∈ o')->∀ f ∈ x.fs.take (k + 1),bN f.ty=true->bC f.ty ∈ o'):=fun o' h1 h2 f' hf' hn=>by
      rw [mD hf] at hf'
      rcases List.mem_append.1 hf' with h | h
      · exact h2 f' h hn
      · obtain rfl:f'=f:=by simpa using h
        exact h1 _ ((EH hfv).2 ⟨hn,rfl⟩)
     generalize dirF f.ty=l at *
     refine aQ (α:=Nat × List ByteArray × List ByteArray) (fun z=>[(2,.va (.c1 (.pt 0 0))),(5,.va (.c1 (.fz (z.2.2.map a8)))),(6,.va (.c1 (.sl 1 z.2.1.length))),(7,iS .i64 i),(8,.va (.c1 (.pt 2 0))),(10,iS .i64 k),(11,.va (.c1 (.fz (l.map a8)))),(12,iS .i64 z.1)]) (fun z=>[.cells (aA s) 25,.row (z.2.1.map a8) 9 1,.cells (aK x) 56])
      (fun z=>z.1<=l.length/\z.2.1[i]? = some a/\UI s.ss n i z.2.1 z.2.2/\(∀ f ∈ x.fs.take k,bN f.ty=true->bC f.ty ∈ z.2.2)/\∀ y ∈ l.take z.1,y ∈ z.2.2) (fun z=>l.length - z.1) (0,td,o) 3 ⟨Nat.zero_le _,ha,hu,hr,fun f hf=>by cases hf⟩ ?_ ?_ ?_
     · simp -dsimp only [go_sem]<;>simp
     · simp -dsimp only [go_sem,aA,aK]<;>simp
     clear hu ha hil htl hol hg q1 hr
     rintro ⟨j,td,o⟩ ⟨hj,ha,hu,hr,hjm⟩
     simp only at hj ha hu hr hjm ⊢
     obtain ⟨htl,hol⟩:=hu.len g
     have hil:=(aW.1 ha).1
     rcases bH j l.length with hjt | hjg
     · have hg:decide ((j:Int) < (l.length:Int))=true:=by simp; omega
       obtain ⟨y,hy⟩:∃ a,l[j]? = some a:=⟨_,aU hjt⟩
       have q1:=aR (row:=a8) hy
       have hbs:oE (o.map a8):=kX (by omega)
       have e0:(0<=(o.length:Int))=True:=by simp
       have e1:((o.length:Int)<=9223372036854775807)=True:=by simp; omega
       have hto:o.take o.length=o:=List.take_length
       have hjm':∀ o':List ByteArray,(∀ z ∈ o,z ∈ o')->y ∈ o'->∀ z ∈ l.take (j + 1),z ∈ o':=fun o' h1 h2 z hz=>by
        rw [mD hy] at hz
        rcases List.mem_append.1 hz with h | h
        · exact h1 z (hjm z h)
        · obtain rfl:z=y:=by simpa using h
          exact h2
       cases hc:bU o y with
       | true=>
        simp (maxSteps:=9^6) -dsimp only [go_sem,hg,↓q1,aA,aK,hbs,e0,e1,Int.toNat_natCast,hto,hc]
        refine ⟨by omega,by omega,aC (j + 1,td,o) 3 ⟨by simp only; omega,ha,hu,hr,hjm' o (fun z h=>h) ((m6 _ _).1 hc)⟩ (by simp only; omega) ?_ ?_⟩
        · simp -dsimp only [go_sem]<;>simp
        · simp -dsimp only [go_sem,aA,aK]<;>simp
       | false=>
        have hyo:=qY.1 hc
        have hua:=hu.add (hdm y (bI hy)) hyo (by omega)
        have hmo:∀ z ∈ o,z ∈ d9 y false o:=fun z hz=>iI.2 (.inr hz)
        have ha':(td ++ [y])[i]? = some a:=by rw [List.getElem?_append_left hil]; exact ha
        simp (maxSteps:=9^6) -dsimp only [go_sem,hg,↓q1,aA,aK,hbs,e0,e1,Int.toNat_natCast,hto,hc]
        refine ⟨by omega,by omega,PB (by omega) ?_⟩
        simp (maxSteps:=9^6) -dsimp only [go_sem]
        and_intros
        all_goals first
         | omega
         | skip
        refine aC (j + 1,td ++ [y],d9 y false o) 3 ⟨by simp only; omega,ha',hua,fun f hf hn=>hmo _ (hr f hf hn),hjm' _ hmo (iI.2 (.inl rfl))⟩ (by simp only; omega) ?_ ?_
        · simp -dsimp only [go_sem]<;>simp
        · simp -dsimp only [go_sem,aA,aK]<;>simp
     · have hg:decide ((j:Int) < (l.length:Int))=false:=by simp; omega
       obtain rfl:j=l.length:=by omega
       rw [List.take_length] at hjm
       simp (maxSteps:=9^6) -dsimp only [go_sem,hg,aA,aK]
       refine ⟨by omega,aC (k + 1,td,o) 3 ⟨by simp only; omega,ha,hu,hdf o hjm hr⟩ (by simp only; omega) ?_ ?_⟩
       · simp -dsimp only [go_sem]<;>simp
       · simp -dsimp only [go_sem,aA,aK]<;>simp
   · have hg:decide ((k:Int) < (x.fs.length:Int))=false:=by simp; omega
     obtain rfl:k=x.fs.length:=by omega
     rw [List.take_length] at hr
     simp (maxSteps:=9^6) -dsimp only [go_sem,hg,aA,aK]
     refine ⟨by omega,aC (i + 1,td,o) 2 ⟨by simp only; omega,hu.next ha fun y hy=>?_⟩ (by simp only; omega) ?_ ?_⟩
     · obtain ⟨f,h1,h2,rfl⟩:=(hxr y).1 hy
       exact hr f h1 h2
     · simp -dsimp only [go_sem]<;>simp
     · simp -dsimp only [go_sem,aA]<;>simp
 · have hg:decide ((i:Int) < (todo.length:Int))=false:=by simp; omega
   obtain rfl:i=todo.length:=by omega
   obtain rfl:=hu.fin
   simp (maxSteps:=9^6) -dsimp only [go_sem,hg,aA]
   exact .z ((by simpa [go_sem] using hK))
def dT:List St->List Int->ByteArray->Int
 | s :: ss,d :: ds,n=>bif decide (s.nm=n) then d else dT ss ds n
 | _,_,_=>0
theorem JE {ss:List St} {ds:List Int} {i:Nat} {x:St} {d:Int} (hx:ss[i]? = some x) (hd:ds[i]? = some d) (n:ByteArray):dT (ss.drop i) (ds.drop i) n=bif decide (x.nm=n) then d else dT (ss.drop (i + 1)) (ds.drop (i + 1)) n:=by
 obtain ⟨h,rfl⟩:=aW.1 hx
 obtain ⟨h2,rfl⟩:=aW.1 hd
 rw [List.drop_eq_getElem_cons h,List.drop_eq_getElem_cons h2]; rfl
theorem NY {ss:List St} {ds:List Int} (n:ByteArray):dT (ss.drop ss.length) ds n=0:=by rw [List.drop_length]; simp [dT]
theorem sQ {n:ByteArray}:∀ {ss:List St} {ds:List Int},fS ss n=none->dT ss ds n=0
 | [],_,_=>by simp [dT]
 | s :: ss,[],_=>by simp [dT]
 | s :: ss,d :: ds,h=>by
  unfold fS at h
  rw [List.find?_cons] at h
  rw [dT]
  cases hc:decide (s.nm=n) with
  | true=>rw [hc] at h; simp at h
  | false=>rw [hc] at h; exact sQ (ss:=ss) h
theorem tL {n:ByteArray} {u:St}:∀ {ss:List St} {ds:List Int},ss.length=ds.length->fS ss n=some u->∃ j:Nat,ss[j]? = some u/\ds[j]? = some (dT ss ds n)
 | [],_,_,h=>by cases h
 | s :: ss,[],hl,_=>by simp at hl
 | s :: ss,d :: ds,hl,h=>by
  unfold fS at h
  rw [List.find?_cons] at h
  rw [dT]
  cases hc:decide (s.nm=n) with
  | true=>
   rw [hc] at h
   obtain rfl:s=u:=by simpa using h
   exact ⟨0,rfl,rfl⟩
  | false=>
   rw [hc] at h
   obtain ⟨j,h1,h2⟩:=tL (ss:=ss) (ds:=ds) (by simpa using hl) h
   exact ⟨j + 1,by simpa using h1,by simpa using h2⟩
def FD (rs:List (List C)):Prop:=∃ l:List Int,rs=l.map c7
def yZ (N:Nat):List S->Prop:=fun av=>match av with
 | [.va (.gs r),.va (.c1 (.fz ds)),.va (.gs q)]=>iC r/\(FD ds/\ds.length=(C.sc r).ss.length/\∀ d ∈ ds.map C.it,0<=d/\d<=1000000000000)/\gI q/\(bM (C.ty q)).1<=1000000000/\(C.ty q).h<=N
 | _=>False
theorem kO {N:Nat} {av:List S} (h:yZ N av):∃ (s:Sc) (l:List Int) (t:Ty),av=[.va (.gs (aA s)),.va (.c1 (.fz (l.map c7))),.va (.gs (aP t))]/\s.fit/\(l.length=s.ss.length/\∀ d ∈ l,0<=d/\d<=1000000000000)/\TyOk t/\(bM t).1<=1000000000/\t.h<=N:=by
 unfold yZ at h
 split at h
 · obtain ⟨⟨a,rfl,ha⟩,⟨⟨l,rfl⟩,h1,h2⟩,⟨b,rfl,hb⟩,h3,h4⟩:=h
   rw [gP] at h3 h4
   rw [eC] at h1
   rw [uE] at h2
   exact ⟨a,l,b,rfl,ha,⟨by simpa using h1,h2⟩,hb,h3,h4⟩
 · exact h.elim
noncomputable def FI:List S->A:=fun av=>match av with
 | [.va (.gs r),.va (.c1 (.fz ds)),.va (.gs q)]=>iA .i64 (bZ (dT (C.sc r).ss (ds.map C.it)) (C.ty q))
 | _=>.gs []
noncomputable def FM (N:Nat):Fun:=⟨yZ N,FI,fun av h=>by obtain ⟨a,l,b,rfl,_⟩:=kO h; trivial⟩
theorem KG {N:Nat}:∀ av H K,(FM N).sp av H K->av.length=3:=fun av H K h=>by obtain ⟨a,l,b,rfl,_⟩:=kO h.1.1; rfl
attribute [go_sem] FM yZ FI
theorem CE {s:Int} {n:ByteArray} {u:Ty} {r:List Ty}:bM (.mk 5 s n (u :: r))=((bM u).1 + 1,(bM u).2):=by simp [bM,BL]
theorem JU {k s:Int} {n:ByteArray} {e:List Ty} (h:(k == 5 && decide (0 < (e.length:Int)))=false):bM (.mk k s n e)=(0,.mk k s n e):=by
 rw [bM]
 cases hk:k == 5 with
 | false=>rfl
 | true=>
  rw [hk,Bool.true_and] at h
  have:e=[]:=List.length_eq_zero_iff.1 (by simp at h; simp [h])
  subst this; rfl
theorem GQ {dp:ByteArray->Int} {s:Int} {n:ByteArray} {u:Ty} {r:List Ty}:bZ dp (.mk 5 s n (u :: r))=1 + bZ dp u:=by unfold bZ; rw [CE]; simp only; omega
theorem rV:∀ N,Meets Tryz.prog 71 (FM N).sp
 | 0=>⟨by kernel_rfl,by rintro xs vs E ro w K _ _ _ ⟨⟨h,_⟩,_⟩; obtain ⟨_,_,a,_,_,_,_,_,h⟩:=kO h; have:=a.h_pos; omega⟩
 | N + 1=>by
  refine aG Tryz.func71 aAZ 3 (by rw [Tryz.ntmps71]; decide) (aI (rV N) (aB _)) KG ?_
  rintro av H K ⟨⟨h,rfl⟩,hK⟩
  obtain ⟨sc,l,t,rfl,hs,⟨hl,hb⟩,ht,hlv,hh⟩:=kO h
  have hK:K (iS .i64 (bZ (dT sc.ss l) t)) []:=by
   have:(FM (N + 1)).val [.va (.gs (aA sc)),.va (.c1 (.fz (l.map c7))),.va (.gs (aP t))]=iA .i64 (bZ (dT sc.ss l) t):=by simp -dsimp only [go_sem,uE]
   rw [this] at hK; exact hK
  clear h
  have hls:=hs.ok.ls
  have fin:∀ (b:Int) (R:Hp),bZ (dT sc.ss l) t=b->W.Fin 0 K (iS .i64 b) R:=fun b R h=>by
   rw [h] at hK
   exact .z ((by simp -dsimp only [go_sem]; simpa using hK))
  have hsf:=gA hs
  rw [aA] at hsf
  have hsd:=eC sc
  rw [aA] at hsd
  obtain ⟨k,s,n,e⟩:=t
  have hte:=ht.e
  have hte2:=ht.len
  simp only [Ty.e] at hte hte2
  have hin:FD (l.map c7):=⟨l,rfl⟩
  have hr1:((l.map c7).length=sc.ss.length)=True:=by simp [hl]
  have hr2:(∀ d:Int,d ∈ l->0<=d/\d<=1000000000000)=True:=eq_true hb
  simp (maxSteps:=9^6) -dsimp only [go_sem,aA,aP,aT,S9,SK]
  cases c1:(k == 5 && decide (0 < (e.length:Int))) with
  | true=>
   simp only [Bool.and_eq_true,beq_iff_eq,decide_eq_true_eq] at c1
   obtain ⟨rfl,c1⟩:=c1
   obtain ⟨u,r,rfl⟩:∃ u r,e=u :: r:=by
    cases e with
    | nil=>simp at c1
    | cons u r=>exact ⟨u,r,rfl⟩
   rw [CE] at hlv
   have hux:(u :: r)[0]? = some u:=rfl
   have q1:=tW (row:=aP) hux
   have hu:gI (aP u):=fO (hte u List.mem_cons_self)
   have huh:u.h<=N:=by rw [Ty.h,Ty.hs] at hh; omega
   refine ⟨fun _=>?_,fun h=>by simp at h⟩
   have hul:((bM u).1<=1000000000)=True:=eq_true (by simp only at hlv; omega)
   have huh':(u.h<=N)=True:=eq_true huh
   have hfb:bZ (dT sc.ss l) u<=1001000000000/\0<=bZ (dT sc.ss l) u:=by
    have hd:dT sc.ss l (bM u).2.n<=1000000000000/\0<=dT sc.ss l (bM u).2.n:=by
     cases hf:fS sc.ss (bM u).2.n with
     | none=>rw [sQ hf]; omega
     | some v=>
      obtain ⟨j,_,h2⟩:=tL hl.symm hf
      have:=hb _ (bI h2); omega
    simp only at hlv
    unfold bZ
    cases (bM u).2.k == 6<;>simp only [aO,aJ]<;>omega
   simp (maxSteps:=9^6) -dsimp only [go_sem,cG]
   refine ⟨by omega,fun x hx=>?_⟩
   subst hx
   simp only [hsd]
   exact ⟨⟨hsf,⟨hin,hl,hb⟩,hu,by simp only at hlv; omega,huh⟩,by omega,fin _ _ GQ⟩
  | false=>
   have hst:=JU (s:=s) (n:=n) c1
   have hfd:bZ (dT sc.ss l) (.mk k s n e)=bif k == 6 then dT sc.ss l n else 0:=by unfold bZ; rw [hst]; simp [Ty.k,Ty.n]
   refine ⟨fun h=>by simp at h,fun _=>?_⟩
   cases k6:k == 6 with
   | false=>
    rw [k6,aJ] at hfd
    refine aQ (α:=Nat) (fun i=>[(1,.va (.c1 (.fz (l.map c7)))),(3,.va (.c1 (.pt 0 0))),(5,.va (.c1 (.pt 1 0))),(7,iS .i64 i)]) (fun _=>[.cells (aA sc) 25,.cells (aP (.mk k s n e)) 37])
     (fun i=>i<=sc.ss.length) (fun i=>sc.ss.length - i) 0 2 (Nat.zero_le _) ?_ ?_ ?_
    · simp -dsimp only [go_sem]<;>simp
    · simp -dsimp only [go_sem,aA,aP,aT]<;>simp
    intro i hi
    rcases bH i sc.ss.length with hlt | hge
    · have hg:decide ((i:Int) < (sc.ss.length:Int))=true:=by simp; omega
      simp (maxSteps:=9^6) -dsimp only [go_sem,hg,aA,aP,aT,k6]
      and_intros
      all_goals first
       | omega
       | skip
      refine aC (i + 1) 2 (by omega) (by omega) ?_ ?_
      · simp -dsimp only [go_sem]<;>simp
      · simp -dsimp only [go_sem,aA,aP,aT]<;>simp
    · have hg:decide ((i:Int) < (sc.ss.length:Int))=false:=by simp; omega
      simp (maxSteps:=9^6) -dsimp only [go_sem,hg,aA,aP,aT]
      exact fin 0 _ hfd
   | true=>
    rw [k6,aO] at hfd
    refine aQ (α:=Nat) (fun i=>[(1,.va (.c1 (.fz (l.map c7)))),(3,.va (.c1 (.pt 0 0))),(5,.va (.c1 (.pt 1 0))),(7,iS .i64 i)]) (fun _=>[.cells (aA sc) 25,.cells (aP (.mk k s n e)) 37])
     (fun i=>i<=sc.ss.length/\dT (sc.ss.drop i) (l.drop i) n=dT sc.ss l n) (fun i=>sc.ss.length - i) 0 2 ⟨Nat.zero_le _,rfl⟩ ?_ ?_ ?_
    · simp -dsimp only [go_sem]<;>simp
    · simp -dsimp only [go_sem,aA,aP,aT]<;>simp
    rintro i ⟨hi,ho⟩
    rcases bH i sc.ss.length with hlt | hge
    · have hg:decide ((i:Int) < (sc.ss.length:Int))=true:=by simp; omega
      obtain ⟨t,hx⟩:∃ e,sc.ss[i]? = some e:=⟨_,aU hlt⟩
      obtain ⟨d,hd⟩:∃ e,l[i]? = some e:=⟨_,aU (by omega)⟩
      have q2:=aR (row:=aK) hx
      have q3:=aR (row:=c7) hd
      rw [JE hx hd] at ho
      cases hc:decide (t.nm=n) with
      | true=>
       rw [hc,aO] at ho
       simp (maxSteps:=9^6) -dsimp only [go_sem,hg,↓q2,↓q3,aK,aA,aP,aT,dU,hc,k6]
       and_intros
       all_goals first
        | omega
        | exact fin _ _ (by rw [hfd,<-ho])
      | false=>
       rw [hc,aJ] at ho
       simp (maxSteps:=9^6) -dsimp only [go_sem,hg,↓q2,aK,aA,aP,aT,dU,hc,k6]
       and_intros
       all_goals first
        | omega
        | skip
       refine aC (i + 1) 2 ⟨by omega,ho⟩ (by omega) ?_ ?_
       · simp -dsimp only [go_sem]<;>simp
       · simp -dsimp only [go_sem,aA,aP,aT]<;>simp
    · have hg:decide ((i:Int) < (sc.ss.length:Int))=false:=by simp; omega
      obtain rfl:i=sc.ss.length:=by omega
      rw [NY] at ho
      simp (maxSteps:=9^6) -dsimp only [go_sem,hg,aA,aP,aT]
      exact fin 0 _ (by rw [hfd,<-ho])
def yW:List S->Prop:=fun av=>match av with
 | [.va (.gs r),.va (.c1 (.fz ds)),.va (.gs q)]=>iC r/\(FD ds/\ds.length=(C.sc r).ss.length/\∀ d ∈ ds.map C.it,0<=d/\d<=1000000000000)/\gI q/\(bM (C.ty q)).1<=1000000000
 | _=>False
theorem u6 {av:List S} (h:yW av):∃ (s:Sc) (l:List Int) (t:Ty),av=[.va (.gs (aA s)),.va (.c1 (.fz (l.map c7))),.va (.gs (aP t))]/\s.fit/\(l.length=s.ss.length/\∀ d ∈ l,0<=d/\d<=1000000000000)/\TyOk t/\(bM t).1<=1000000000:=by
 unfold yW at h
 split at h
 · obtain ⟨⟨a,rfl,ha⟩,⟨⟨l,rfl⟩,h1,h2⟩,⟨b,rfl,hb⟩,h3⟩:=h
   rw [gP] at h3
   rw [eC] at h1
   rw [uE] at h2
   exact ⟨a,l,b,rfl,ha,⟨by simpa using h1,h2⟩,hb,h3⟩
 · exact h.elim
noncomputable def t0Fn:Fun:=⟨yW,FI,fun av h=>by obtain ⟨a,l,b,rfl,_⟩:=u6 h; trivial⟩
attribute [go_sem] t0Fn yW
theorem FV:Meets Tryz.prog 71 t0Fn.sp:=iQ 0 rV fun av H K ⟨⟨h,e⟩,hK⟩=>by
 obtain ⟨a,l,b,rfl,ha,⟨h1,h2⟩,hb,h3⟩:=u6 h
 refine ⟨b.h,⟨⟨⟨gA ha,⟨⟨l,rfl⟩,by rw [eC]; simpa using h1,by rw [uE]; exact h2⟩,fO hb,by rw [gP]; exact h3,by rw [gP]; exact Nat.le_refl _⟩,e⟩,hK⟩⟩
theorem yT {dp dq:ByteArray->Int} {l:List Fl} (h:∀ f ∈ l,bZ dp f.ty<=bZ dq f.ty):eO dp l<=eO dq l:=DU (jX _ _) fun f hf=>Int.le_trans (h f hf) (OP hf)
structure DI (ss:List St) (r i:Nat) (d:List Int):Prop where
 len:d.length=ss.length
 lo:∀ (j:Nat) (t:St) (v:Int),ss[j]? = some t->d[j]? = some v->0<=v/\v<=dD ss t.nm/\(nZ ss t.nm < r->v=dD ss t.nm)/\(j < i->nZ ss t.nm < r + 1->v=dD ss t.nm)
theorem DI.ix {ss:List St} {es:List En} (_g:Gd ss es) {r i:Nat} {d:List Int} (h:DI ss r i d) (n:ByteArray):0<=dT ss d n/\dT ss d n<=dD ss n/\((fS ss n).isSome=true->nZ ss n < r->dT ss d n=dD ss n):=by
 cases hf:fS ss n with
 | none=>
  rw [sQ hf]
  exact ⟨Int.le_refl _,GF ss n,fun h=>by simp at h⟩
 | some u=>
  obtain ⟨j,h1,h2⟩:=tL h.len.symm hf
  obtain ⟨a1,a2,a3,_⟩:=h.lo j u _ h1 h2
  obtain ⟨_,rfl⟩:=i7 hf
  exact ⟨a1,a2,fun _ h=>a3 h⟩
theorem DI.all {ss:List St} {es:List En} (g:Gd ss es) {r i:Nat} {d:List Int} (h:DI ss r i d):∀ v ∈ d,0<=v/\v<=1000000000000:=fun v hv=>by
 obtain ⟨j,hj⟩:=List.mem_iff_getElem?.1 hv
 have hl:=(aW.1 hj).1
 obtain ⟨t,ht⟩:∃ t,ss[j]? = some t:=⟨_,aU (by have:=h.len; omega)⟩
 obtain ⟨h1,h2,_⟩:=h.lo j t v ht hj
 have:=EP g t.nm
 omega
theorem DI.fd {ss:List St} {es:List En} (g:Gd ss es) {r i:Nat} {d:List Int} (h:DI ss r i d) (t:Ty):bZ (dT ss d) t<=bZ (dD ss) t:=by
 unfold bZ
 have:=h.ix g (bM t).2.n
 cases (bM t).2.k == 6<;>simp only [aO,aJ]<;>omega
theorem DI.set {ss:List St} {es:List En} (g:Gd ss es) (ha:p5 ss) {r i:Nat} {d:List Int} (h:DI ss r i d) {t:St} (ht:ss[i]? = some t):DI ss r (i + 1) (d.set i (1 + eO (dT ss d) t.fs)):=by
 have htm:=bI ht
 have hD:=FK g ha (g.nd t htm)
 have hle:eO (dT ss d) t.fs<=eO (dD ss) t.fs:=yT fun f _=>h.fd g f.ty
 have heq:nZ ss t.nm < r + 1->eO (dT ss d) t.fs=eO (dD ss) t.fs:=fun hr=>nW fun f hf=>by
  unfold bZ
  cases hk:(bM f.ty).2.k == 6 with
  | false=>rfl
  | true=>
   obtain ⟨h1,u,h2⟩:=w6 g (g.nd t htm) hf hk
   have h3:=wX h1 h2 ha
   rw [(h.ix g _).2.2 (by rw [h2]; rfl) (by omega)]
 have hn:=jX (dT ss d) t.fs
 refine ⟨by rw [List.length_set]; exact h.len,fun j u v hu hv=>?_⟩
 rw [List.getElem?_set] at hv
 by_cases e:i=j
 · subst e
   rw [ht] at hu; obtain rfl:=a7 hu
   have hlt:i < d.length:=by have:=h.len; have:=(aW.1 ht).1; omega
   simp [hlt] at hv
   subst hv
   exact ⟨by omega,by omega,fun hr=>by rw [heq (by omega)]; omega,fun _ hr=>by rw [heq hr]; omega⟩
 · rw [if_neg e] at hv
   obtain ⟨a1,a2,a3,a4⟩:=h.lo j u v hu hv
   exact ⟨a1,a2,a3,fun hj hr=>a4 (by omega) hr⟩
theorem DI.up {ss:List St} {r:Nat} {d:List Int} (h:DI ss r ss.length d):DI ss (r + 1) 0 d:=⟨h.len,fun j t v ht hv=>by
 obtain ⟨a1,a2,_,a4⟩:=h.lo j t v ht hv
 exact ⟨a1,a2,fun hr=>a4 (aW.1 ht).1 hr,fun h=>absurd h (Nat.not_lt_zero _)⟩⟩
theorem DI.fin {ss:List St} {d:List Int} (h:DI ss (ss.length + 1) 0 d):d=ss.map fun t=>dD ss t.nm:=by
 refine List.ext_getElem? fun j=>?_
 rw [List.getElem?_map]
 cases ht:ss[j]? with
 | none=>
  rw [List.getElem?_eq_none_iff] at ht
  rw [List.getElem?_eq_none (by rw [h.len]; exact ht)]; rfl
 | some t=>
  obtain ⟨v,hv⟩:∃ v,d[j]? = some v:=⟨_,aU (by rw [h.len]; exact (aW.1 ht).1)⟩
  obtain ⟨_,_,a3,_⟩:=h.lo j t v ht hv
  rw [hv,a3 (Nat.lt_succ_of_le (EN _ _))]; rfl
theorem DI.init (ss:List St):DI ss 0 0 (List.replicate ss.length 0):=⟨by simp,fun j t v ht hv=>by
 have:v=0:=by
  have:=bI hv
  exact (List.mem_replicate.1 this).2
 subst this
 exact ⟨Int.le_refl _,GF _ _,fun h=>absurd h (Nat.not_lt_zero _),fun h=>absurd h (Nat.not_lt_zero _)⟩⟩
def UM:W.Spec:=fun av H K=>∃ s:Sc,av=[.va (.gs (aA s))]/\H=[]/\s.fit/\Gd s.ss s.es/\p5 s.ss/\K (.va (.c1 (.fz ((s.ss.map fun t=>dD s.ss t.nm).map c7)))) []
theorem UJ {s:Sc} {K:S->Hp->Prop} (h:s.fit) (g:Gd s.ss s.es) (ha:p5 s.ss) (hK:K (.va (.c1 (.fz ((s.ss.map fun t=>dD s.ss t.nm).map c7)))) []):UM [.va (.gs (aA s))] [] K:=⟨s,rfl,rfl,h,g,ha,hK⟩
theorem NQ {D:ByteArray->Int} {l:List Fl} {i:Nat} {f:Fl} (hx:l[i]? = some f):(l.take (i + 1)).foldl (gF D) 0=max ((l.take i).foldl (gF D) 0) (bZ D f.ty):=by
 rw [mD hx,List.foldl_append]; rfl
theorem NE:Meets Tryz.prog 30 UM:=by
 refine aG Tryz.func30 X9 1 (by rw [Tryz.ntmps30]; decide) (aI FV (aB _)) (fun av H K h=>by obtain ⟨_,rfl,_⟩:=h; rfl) ?_
 rintro av H K ⟨s,rfl,rfl,hs,g,ha,hK⟩
 have hls:=g.n
 simp (maxSteps:=9^6) -dsimp only [go_sem,aA,SA,PL]
 refine ⟨⟨by omega,by omega,by omega⟩,fun h0=>?_,fun h0=>?_⟩
 · have hnil:s.ss=[]:=List.length_eq_zero_iff.1 (by omega)
   have hlen:s.ss.length=0:=by omega
   rw [hnil] at hK
   refine aQ (α:=Nat) (fun i=>[(1,.va (.c1 (.pt 0 0))),(3,.va (.c1 (.fz []))),(4,iS .i64 i)]) (fun _=>[.cells (aA s) 25])
    (fun i=>i<=1) (fun i=>1 - i) 0 1 (Nat.zero_le _) ?_ ?_ ?_
   · simp -dsimp only [go_sem]<;>simp
   · simp -dsimp only [go_sem,aA]<;>simp
   intro i hi
   rcases Nat.eq_zero_or_pos i with h1 | h1
   · have hg:decide ((i:Int)<=(s.ss.length:Int))=true:=by simp; omega
     simp (maxSteps:=9^6) -dsimp only [go_sem,hg,aA]
     refine aQ (α:=Unit) (fun _=>[(1,.va (.c1 (.pt 0 0))),(3,.va (.c1 (.fz []))),(4,iS .i64 i),(5,iS .i64 0)]) (fun _=>[.cells (aA s) 25])
      (fun _=>True) (fun _=>0) () 1 trivial ?_ ?_ ?_
     · simp -dsimp only [go_sem]<;>simp
     · simp -dsimp only [go_sem,aA]<;>simp
     intro _ _
     have hg:decide ((0:Int) < (s.ss.length:Int))=false:=by simp; omega
     simp (maxSteps:=9^6) -dsimp only [go_sem,hg,aA]
     refine ⟨by omega,aC (i + 1) 1 (by omega) (by omega) ?_ ?_⟩
     · simp -dsimp only [go_sem]<;>simp
     · simp -dsimp only [go_sem,aA]<;>simp
   · have hg:decide ((i:Int)<=(s.ss.length:Int))=false:=by simp; omega
     simp (maxSteps:=9^6) -dsimp only [go_sem,hg,aA]
     exact .z ((by simpa [go_sem] using hK))
 · have hsf:=gA hs
   rw [aA] at hsf
   have hsd:=eC s
   rw [aA] at hsd
   refine aQ (α:=Nat × List Int) (fun z=>[(1,.va (.c1 (.pt 0 0))),(3,.va (.c1 (.sl 1 s.ss.length))),(4,iS .i64 z.1)]) (fun z=>[.cells (aA s) 25,.row (z.2.map c7) 3 1])
    (fun z=>z.1<=s.ss.length + 1/\DI s.ss z.1 0 z.2) (fun z=>s.ss.length + 1 - z.1) (0,List.replicate s.ss.length 0) 2 ⟨Nat.zero_le _,DI.init _⟩ ?_ ?_ ?_
   · simp -dsimp only [go_sem]<;>simp
   · simp -dsimp only [go_sem,aA]<;>simp
   rintro ⟨r,d⟩ ⟨hr,hd⟩
   simp only at hr hd ⊢
   rcases bH r (s.ss.length + 1) with hlt | hge
   · have hg:decide ((r:Int)<=(s.ss.length:Int))=true:=by simp; omega
     simp (maxSteps:=9^6) -dsimp only [go_sem,hg,aA]
     refine aQ (α:=Nat × List Int) (fun z=>[(1,.va (.c1 (.pt 0 0))),(3,.va (.c1 (.sl 1 s.ss.length))),(4,iS .i64 r),(5,iS .i64 z.1)]) (fun z=>[.cells (aA s) 25,.row (z.2.map c7) 3 1])
      (fun z=>z.1<=s.ss.length/\DI s.ss r z.1 z.2) (fun z=>s.ss.length - z.1) (0,d) 2 ⟨Nat.zero_le _,hd⟩ ?_ ?_ ?_
     · simp -dsimp only [go_sem]<;>simp
     · simp -dsimp only [go_sem,aA]<;>simp
     clear hd hg
     rintro ⟨i,d⟩ ⟨hi,hd⟩
     simp only at hi hd ⊢
     rcases bH i s.ss.length with hit | hig
     · have hg:decide ((i:Int) < (s.ss.length:Int))=true:=by simp; omega
       obtain ⟨t,hx⟩:∃ e,s.ss[i]? = some e:=⟨_,aU hit⟩
       have htm:=bI hx
       obtain ⟨_,htl,hfs⟩:=hs.ok.ss t htm
       have q1:=aR (row:=aK) hx
       have hset:=hd.set g ha hx
       have hmx:eO (dT s.ss d) t.fs<=1000000000000:=by
        have h1:=yT (l:=t.fs) fun f _=>hd.fd g f.ty
        have h2:=FK g ha (g.nd t htm)
        have h3:=EP g t.nm
        omega
       simp (maxSteps:=9^6) -dsimp only [go_sem,hg,aA]
       refine aQ (α:=Nat) (fun k=>[(1,.va (.c1 (.pt 0 0))),(3,.va (.c1 (.sl 1 s.ss.length))),(4,iS .i64 r),(5,iS .i64 i),(6,iS .i64 ((t.fs.take k).foldl (gF (dT s.ss d)) 0)),(7,iS .i64 k)]) (fun _=>[.cells (aA s) 25,.row (d.map c7) 3 1])
        (fun k=>k<=t.fs.length) (fun k=>t.fs.length - k) 0 2 (Nat.zero_le _) ?_ ?_ ?_
       · simp -dsimp only [go_sem]<;>simp
       · simp -dsimp only [go_sem,aA]<;>simp
       intro k hk
       rcases bH k t.fs.length with hkt | hkg
       · have hg:decide ((k:Int) < (t.fs.length:Int))=true:=by simp; omega
         obtain ⟨f,hf⟩:∃ e,t.fs[k]? = some e:=⟨_,aU hkt⟩
         have hfm:=bI hf
         have q2:=aR (row:=aZ) hf
         have hity:gI (aP f.ty):=fO (hfs f hfm).ty
         have hlv:((bM f.ty).1<=1000000000)=True:=eq_true (g.lv t htm f hfm)
         have hin:FD (d.map c7):=⟨d,rfl⟩
         have hdl:d.length=s.ss.length:=hd.len
         have hall:(∀ v:Int,v ∈ d->0<=v/\v<=1000000000000)=True:=eq_true (hd.all g)
         simp (maxSteps:=9^6) -dsimp only [go_sem,hg,↓q1,aK,aA]
         simp (maxSteps:=9^6) -dsimp only [go_sem,aZ,gX,hsf,hsd,hity,hlv,hin,hall,hdl,hf,aF,forall_eq']
         refine ⟨by omega,by omega,by omega,by omega,aC (k + 1) 2 (by omega) (by omega) ?_ ?_⟩
         · simp -dsimp only [go_sem,NQ hf]<;>simp
         · simp -dsimp only [go_sem,aA]<;>simp
       · have hg:decide ((k:Int) < (t.fs.length:Int))=false:=by simp; omega
         obtain rfl:k=t.fs.length:=by omega
         have hmx2:t.fs.foldl (gF (dT s.ss d)) 0=eO (dT s.ss d) t.fs:=rfl
         rw [List.take_length,hmx2]
         have hn0:=jX (dT s.ss d) t.fs
         have hdl:d.length=s.ss.length:=hd.len
         obtain ⟨v0,hv0⟩:∃ e,d[i]? = some e:=⟨_,aU (by omega)⟩
         simp (maxSteps:=9^6) -dsimp only [go_sem,hg,↓q1,aK,aA]
         simp (maxSteps:=9^6) -dsimp only [go_sem,hv0,aF,forall_eq']
         refine ⟨by omega,by omega,⟨by omega,hdl⟩,⟨hdl,by omega⟩,by omega,aC (i + 1,d.set i (1 + eO (dT s.ss d) t.fs)) 2 ⟨by simp only; omega,hset⟩ (by simp only; omega) ?_ ?_⟩
         · simp -dsimp only [go_sem]<;>simp
         · simp -dsimp only [go_sem,aA]<;>simp [List.map_set]
     · have hg:decide ((i:Int) < (s.ss.length:Int))=false:=by simp; omega
       obtain rfl:i=s.ss.length:=by omega
       simp (maxSteps:=9^6) -dsimp only [go_sem,hg,aA]
       refine ⟨by omega,aC (r + 1,d) 2 ⟨by simp only; omega,hd.up⟩ (by simp only; omega) ?_ ?_⟩
       · simp -dsimp only [go_sem]<;>simp
       · simp -dsimp only [go_sem,aA]<;>simp
   · have hg:decide ((r:Int)<=(s.ss.length:Int))=false:=by simp; omega
     obtain rfl:r=s.ss.length + 1:=by omega
     have hfin:=hd.fin
     rw [<-hfin] at hK
     simp (maxSteps:=9^6) -dsimp only [go_sem,hg,aA]
     have e1:s.ss.length=(d.map c7).length:=by rw [List.length_map]; exact hd.len.symm
     rw [e1]
     refine .pub 1 _ _ _ rfl (.sel [] (by simp) (by simp [cK]) rfl (.done ?_))
     simp -dsimp only [go_sem,cK]
     simpa using hK
theorem O2:Meets Tryz.prog 9 ckFn.sp:=by
 refine aG Tryz.func9 ok9 1 (by rw [Tryz.ntmps9]; decide) (aI RU (aI NT (aI HD (aD VG (aI IV (aD NE (aB _))))))) eY ?_
 rintro av H K ⟨⟨h,rfl⟩,hK⟩
 obtain ⟨_,rfl,s,rfl,hs⟩:=cW h
 have hK:K (iS .i64 (cN s)) []:=by
  have:ckFn.val [.va (.gs (aA s))]=iA .i64 (cN s):=by simp -dsimp only [go_sem]
  rw [this] at hK; exact hK
 clear h
 have hfit:=hs
 have hsc:pS (aA s):=DK hs.ok
 have hsf:iC (aA s):=gA hs
 obtain ⟨⟨hv,hle,hls,hes,hss⟩,hlv,_,_⟩:=hs
 have fin:∀ (x:Int) (R:Hp),cN s=x->W.Fin 0 K (iS .i64 x) R:=fun x R h1=>by
  rw [h1] at hK
  exact .z ((by simpa [go_sem] using hK))
 have hsc':=hsc
 have hsf':=hsf
 simp only [aA] at hsc' hsf'
 have hdec:C.sc [.vl (.int .i64 s.ver),.fz (s.es.map aN),.fz (s.ss.map aK)]=s:=eC s
 simp (maxSteps:=9^6) -dsimp only [go_sem,aA,W9,W4,hsc',hdec]
 refine ⟨fun h1=>fin 4 _ (by unfold cN; rw [h1]; rfl),fun c1=>⟨fun h1=>fin 3 _ (by unfold cN; rw [c1,h1]; rfl),fun c2=>?_⟩⟩
 have hF:cN s=bif pA s != 0 then pA s else bif nL s != 0 then nL s else hZ s.ss:=by unfold cN; rw [c1,c2]; rfl
 refine aQ (α:=Nat) (fun i=>[(1,.va (.c1 (.pt 0 0))),(3,iS .i64 i)]) (fun _=>[.cells (aA s) 25])
  (fun i=>i<=s.es.length/\fE (eX s) (s.es.length - i) i=pA s) (fun i=>s.es.length - i) 0 1 ⟨Nat.zero_le _,rfl⟩ ?_ ?_ ?_
 · simp -dsimp only [go_sem]<;>simp
 · simp -dsimp only [go_sem,aA]<;>simp
 rintro i ⟨hi,ho⟩
 rcases bH i s.es.length with hlt | hge
 · have hg:decide ((i:Int) < (s.es.length:Int))=true:=by simp; omega
   have fin':∀ (x:Int) (R:Hp),eX s i=x->x ≠ 0->W.Fin 0 K (iS .i64 x) R:=fun x R h1 h2=>fin x R (by
    rw [hF,<-ho,jB hlt (by rw [h1]; exact h2),h1]; exact iN h2)
   have cD:eX s i=0->fE (eX s) (s.es.length - (i + 1)) (i + 1)=pA s:=fun h1=>by rw [<-ho,kL hlt h1]
   simp (maxSteps:=9^6) -dsimp only [go_sem,hg,aA,hsf',hdec,Int.toNat_natCast]
   refine ⟨⟨by omega,by omega⟩,fun h1=>fin' _ _ rfl (by simpa using h1),fun h1=>?_⟩
   refine ⟨by omega,aC (i + 1) 1 ⟨by omega,cD (by simpa using h1)⟩ (by omega) ?_ ?_⟩
   · simp -dsimp only [go_sem]<;>simp
   · simp -dsimp only [go_sem,aA]<;>simp
 · have hg:decide ((i:Int) < (s.es.length:Int))=false:=by simp; omega
   obtain rfl:i=s.es.length:=by omega
   rw [j7] at ho
   rw [jQ ho.symm] at hF
   simp (maxSteps:=9^6) -dsimp only [go_sem,hg,aA]
   clear hi hge hg ho
   refine aQ (α:=Nat) (fun i=>[(1,.va (.c1 (.pt 0 0))),(5,iS .i64 i)]) (fun _=>[.cells (aA s) 25])
    (fun i=>i<=s.ss.length/\fE (fJ s) (s.ss.length - i) i=nL s) (fun i=>s.ss.length - i) 0 1 ⟨Nat.zero_le _,rfl⟩ ?_ ?_ ?_
   · simp -dsimp only [go_sem]<;>simp
   · simp -dsimp only [go_sem,aA]<;>simp
   rintro i ⟨hi,ho⟩
   rcases bH i s.ss.length with hlt | hge
   · have hg:decide ((i:Int) < (s.ss.length:Int))=true:=by simp; omega
     have fin':∀ (x:Int) (R:Hp),fJ s i=x->x ≠ 0->W.Fin 0 K (iS .i64 x) R:=fun x R h1 h2=>fin x R (by
      rw [hF,<-ho,jB hlt (by rw [h1]; exact h2),h1]; exact iN h2)
     have cD:fJ s i=0->fE (fJ s) (s.ss.length - (i + 1)) (i + 1)=nL s:=fun h1=>by rw [<-ho,kL hlt h1]
     simp (maxSteps:=9^6) -dsimp only [go_sem,hg,aA,hsf',hdec,Int.toNat_natCast]
     refine ⟨⟨by omega,by omega⟩,fun h1=>fin' _ _ rfl (by simpa using h1),fun h1=>?_⟩
     refine ⟨by omega,aC (i + 1) 1 ⟨by omega,cD (by simpa using h1)⟩ (by omega) ?_ ?_⟩
     · simp -dsimp only [go_sem]<;>simp
     · simp -dsimp only [go_sem,aA]<;>simp
   · have hg:decide ((i:Int) < (s.ss.length:Int))=false:=by simp; omega
     obtain rfl:i=s.ss.length:=by omega
     rw [j7] at ho
     rw [jQ ho.symm] at hF
     have g:=wT hfit c2 ho.symm
     simp (maxSteps:=9^6) -dsimp only [go_sem,hg,aA]
     clear hi hge hg ho
     refine aQ (α:=Nat) (fun i=>[(1,.va (.c1 (.pt 0 0))),(7,iS .i64 i)]) (fun _=>[.cells (aA s) 25])
      (fun i=>i<=s.ss.length/\(s.ss.drop i).any (fun t=>bU (cI s.ss t.nm) t.nm)=s.ss.any (fun t=>bU (cI s.ss t.nm) t.nm)) (fun i=>s.ss.length - i) 0 1 ⟨Nat.zero_le _,rfl⟩ ?_ ?_ ?_
     · simp -dsimp only [go_sem]<;>simp
     · simp -dsimp only [go_sem,aA]<;>simp
     rintro i ⟨hi,ho⟩
     rcases bH i s.ss.length with hlt | hge
     · have hg:decide ((i:Int) < (s.ss.length:Int))=true:=by simp; omega
       obtain ⟨t,hx⟩:∃ t,s.ss[i]? = some t:=⟨_,aU hlt⟩
       have q1:=aR (row:=aK) hx
       rw [cH hx] at ho
       have hv:=g.vlen t.nm
       have hul:=qF s.ss t.nm
       have hbs:oE ((cI s.ss t.nm).map a8):=kX (by rw [qF]; omega)
       have e0:(0<=((cI s.ss t.nm).length:Int))=True:=by simp
       have e1:(((cI s.ss t.nm).length:Int)<=9223372036854775807)=True:=by rw [hul]; exact eq_true (by omega)
       have hto:(cI s.ss t.nm).take (cI s.ss t.nm).length=cI s.ss t.nm:=List.take_length
       simp (maxSteps:=9^6) -dsimp only [go_sem,hg,↓q1,aK,aA]
       refine ⟨by omega,SU hfit g ?_⟩
       simp (maxSteps:=9^6) -dsimp only [go_sem,hbs,e0,e1,Int.toNat_natCast,hto]
       refine ⟨by omega,fun hc=>?_,fun hc=>?_⟩
       · rw [hc,Bool.true_or] at ho
         exact fin 19 _ (by rw [hF]; unfold hZ; rw [<-ho]; rfl)
       · rw [hc,Bool.false_or] at ho
         refine ⟨by omega,aC (i + 1) 1 ⟨by omega,ho⟩ (by omega) ?_ ?_⟩
         · simp -dsimp only [go_sem]<;>simp
         · simp -dsimp only [go_sem,aA]<;>simp
     · have hg:decide ((i:Int) < (s.ss.length:Int))=false:=by simp; omega
       obtain rfl:i=s.ss.length:=by omega
       rw [dZ] at ho
       have ha:p5 s.ss:=fun t ht=>gU ho.symm t ht
       have hF2:cN s=bif s.ss.any (fun t=>decide (6 < dD s.ss t.nm)) then 9 else 0:=by rw [hF]; unfold hZ; rw [<-ho]; rfl
       simp (maxSteps:=9^6) -dsimp only [go_sem,hg,aA]
       refine UJ hfit g ha ?_
       simp (maxSteps:=9^6) -dsimp only [go_sem]
       clear hi hge hg ho
       refine aQ (α:=Nat) (fun i=>[(9,.va (.c1 (.fz ((s.ss.map fun t=>dD s.ss t.nm).map c7)))),(10,iS .i64 i)]) (fun _=>[.cells (aA s) 25])
        (fun i=>i<=s.ss.length/\(s.ss.drop i).any (fun t=>decide (6 < dD s.ss t.nm))=s.ss.any (fun t=>decide (6 < dD s.ss t.nm))) (fun i=>s.ss.length - i) 0 1 ⟨Nat.zero_le _,rfl⟩ ?_ ?_ ?_
       · simp -dsimp only [go_sem]<;>simp
       · simp -dsimp only [go_sem,aA]<;>simp
       rintro i ⟨hi,ho⟩
       rcases bH i s.ss.length with hlt | hge
       · have hg:decide ((i:Int) < (s.ss.length:Int))=true:=by simp; omega
         obtain ⟨t,hx⟩:∃ t,s.ss[i]? = some t:=⟨_,aU hlt⟩
         have hd:(s.ss.map fun t=>dD s.ss t.nm)[i]? = some (dD s.ss t.nm):=by rw [List.getElem?_map,hx]; rfl
         have q1:=aR (row:=c7) hd
         have hml:(s.ss.map fun t=>dD s.ss t.nm).length=s.ss.length:=by simp
         rw [cH hx] at ho
         generalize (s.ss.map fun t=>dD s.ss t.nm)=ds at *
         simp (maxSteps:=9^6) -dsimp only [go_sem,hml,hg,↓q1,aA]
         refine ⟨by omega,fun hc=>?_,fun hc=>?_⟩
         · rw [hc,Bool.true_or] at ho
           exact fin 9 _ (by rw [hF2,<-ho]; rfl)
         · rw [hc,Bool.false_or] at ho
           refine ⟨by omega,aC (i + 1) 1 ⟨by omega,ho⟩ (by omega) ?_ ?_⟩
           · simp -dsimp only [go_sem]<;>simp
           · simp -dsimp only [go_sem,aA]<;>simp
       · have hg:decide ((i:Int) < (s.ss.length:Int))=false:=by simp; omega
         obtain rfl:i=s.ss.length:=by omega
         rw [dZ] at ho
         have hml:(s.ss.map fun t=>dD s.ss t.nm).length=s.ss.length:=by simp
         generalize (s.ss.map fun t=>dD s.ss t.nm)=ds at *
         simp (maxSteps:=9^6) -dsimp only [go_sem,hml,hg,aA]
         exact fin 0 _ (by rw [hF2,<-ho]; rfl)
theorem QL:Meets Tryz.prog 17 txFn.sp:=by
 refine aG Tryz.func17 ZQ 1 (by rw [Tryz.ntmps17]; decide) (aI (I4 6 (Nat.le_refl _)) (aB _)) eY ?_
 rintro av H K ⟨⟨h,rfl⟩,hK⟩
 obtain ⟨_,rfl,t,rfl,hs⟩:=cW h
 have hK:K (tS (mk (dI 6 t))) []:=by
  have:txFn.val [.va (.gs (aP t))]=tA (mk (dI 6 t)):=by simp -dsimp only [go_sem]
  rw [this] at hK; exact hK
 clear h
 simp (maxSteps:=9^6) -dsimp only [go_sem,Q4,PZ,bJ t]
 rw [show C.ty [C.vl (Value.int IntKind.i64 t.k),C.vl (Value.int IntKind.i64 t.s),C.vl (Value.string t.n),C.fz (List.map aP t.e)]=t by rw [<-bJ t]; exact gP t]
 refine ⟨⟨⟨_,(bJ t).symm,hs⟩,by decide,by decide⟩,.z (hK)⟩
def oY:Nat->List ByteArray->List Int->List UInt8
 | k,n :: ns,v :: vs=>(bif decide (0 < (k:Int)) then [44] else []) ++ ([32] ++ (bl n ++ ([32,61,32] ++ bR v))) ++ oY (k + 1) ns vs
 | _,_,_=>[]
theorem tK (k:Nat) (n:ByteArray) (ns:List ByteArray) (v:Int) (vs:List Int):oY k (n :: ns) (v :: vs)=(bif decide (0 < (k:Int)) then [44] else []) ++ ([32] ++ (bl n ++ ([32,61,32] ++ bR v))) ++ oY (k + 1) ns vs:=rfl
theorem EL:∀ (ns:List ByteArray) (vs:List Int) (k:Nat),0 < k->oY k ns vs=oU k ns vs
 | [],_,_,_=>by unfold oY oU; rfl
 | _ :: _,[],_,_=>by unfold oY oU; rfl
 | n :: ns,v :: vs,k,h=>by
  rw [tK,sS,EL ns vs (k + 1) (by omega),decide_eq_true (show 0 < (k:Int) by omega)]
  simp
theorem OY {ns:List ByteArray} {vs:List Int} (h0:0 < ns.length) (hl:ns.length=vs.length):[32] ++ oU 0 ns vs=oY 0 ns vs:=by
 match ns,vs,h0,hl with
 | n :: ns,v :: vs,_,_=>
  rw [tK,sS,EL ns vs 1 (by decide)]
  simp
theorem VH {e:En} (h0:0 < e.ns.length) (hl:e.ns.length=e.vs.length):oS e=wEnumB ++ (bl e.nm ++ [32,123]) ++ (oY 0 e.ns e.vs ++ [32,125,10]):=by
 unfold oS
 rw [<-OY h0 hl]
 simp
theorem JB:Meets Tryz.prog 14 fmFn.sp:=by
 refine aG Tryz.func14 Z1 1 (by rw [Tryz.ntmps14]; decide) (aI pF (aI QL (aI O2 (aB _)))) eY ?_
 rintro av H K ⟨⟨h,rfl⟩,hK⟩
 obtain ⟨_,rfl,s,rfl,hs⟩:=cW h
 have hK:K (tS (mk (gK s))) []:=by
  have:fmFn.val [.va (.gs (aA s))]=tA (mk (gK s)):=by simp -dsimp only [go_sem]
  rw [this] at hK; exact hK
 clear h
 have fin:∀ (x:List UInt8) (R:Hp),gK s=x->W.Fin 0 K (tS (mk x)) R:=fun x R h1=>by
  rw [h1] at hK
  exact .z (hK)
 simp (maxSteps:=9^6) -dsimp only [go_sem,aA,RL,R4]
 rw [show C.sc [C.vl (Value.int IntKind.i64 s.ver),C.fz (List.map aN s.es),C.fz (List.map aK s.ss)]=s from eC s]
 refine ⟨⟨_,rfl,hs⟩,fun hc=>fin _ _ (by unfold gK; rw [hc]; rfl),fun hc=>?_⟩
 have g:=C7 hs (bne_eq_false_iff_eq.1 hc)
 have hfm:gK s=wVerB ++ (bR s.ver ++ [59,10]) ++ (s.es.flatMap oS ++ s.ss.flatMap l5):=by unfold gK; rw [hc]; rfl
 have hvi:=hs.ok.ver
 have hdv:(bR s.ver).length<=21:=dV hvi.1 hvi.2
 have hl16:=g.l
 refine ⟨⟨hvi.1,hvi.2⟩,by omega,by omega,?_⟩
 refine bP (α:=Nat × List UInt8) (fun z=>[(1,.va (.c1 (.pt 0 0))),(2,tS (mk [])),(3,tS (mk z.2)),(4,iS .i64 z.1)]) (fun z=>[.cells (aA s) 25])
  (fun z=>z.1<=s.es.length/\gK s=z.2 ++ ((s.es.drop z.1).flatMap oS ++ s.ss.flatMap l5)/\z.2.length<=40 + 1000 * z.1) (fun z=>s.es.length - z.1) (eJ (0,wVerB ++ (bR s.ver ++ [59,10])) 1 ⟨Nat.zero_le _,hfm,?_⟩ ?_ ?_) ?_
 · simp only [List.length_append,show wVerB.length=8 from rfl,List.length_cons,List.length_nil]; omega
 · simp -dsimp only [go_sem,wVerB]<;>simp
 · simp -dsimp only [go_sem,aA]<;>simp
 rintro ⟨i,out⟩ ⟨hi,ho,hol⟩
 simp only at hi ho hol
 rcases bH i s.es.length with hlt | hge
 · have hg:decide ((i:Int) < (s.es.length:Int))=true:=by simp; omega
   obtain ⟨e,he⟩:∃ a,s.es[i]? = some a:=⟨_,aU hlt⟩
   have ge:=g.a e (bI he)
   have q1:=aR (row:=aN) he
   have hnl:=fH (uF ge.n)
   have hnl':=ge.m
   have hvl:=ge.l
   rw [List.drop_eq_getElem_cons hlt,show s.es[i]=e from (aW.1 he).2,List.flatMap_cons] at ho
   simp (maxSteps:=9^6) -dsimp only [go_sem,aA,hg,↓q1,aN]
   refine ⟨by omega,by omega,by omega,by omega,?_⟩
   have hg0:=hg
   refine bP (α:=Nat × List UInt8) (fun z=>[(1,.va (.c1 (.pt 0 0))),(2,tS (mk [])),(3,tS (mk z.2)),(4,iS .i64 i),(5,.va (.c1 (.pt 1 0))),(6,iS .i64 z.1)]) (fun z=>[.cells (aA s) 25,.cells (aN e) 62])
    (fun z=>z.1<=e.ns.length/\gK s=z.2 ++ (oY z.1 (e.ns.drop z.1) (e.vs.drop z.1) ++ ([32,125,10] ++ ((s.es.drop (i + 1)).flatMap oS ++ s.ss.flatMap l5)))/\z.2.length<=100 + 1000 * i + 50 * z.1) (fun z=>e.ns.length - z.1) (eJ (0,out ++ (wEnumB ++ (bl e.nm ++ [32,123]))) 2 ⟨Nat.zero_le _,?_,?_⟩ ?_ ?_) ?_
   · rw [ho,VH ge.p ge.l]; simp
   · simp only [List.length_append,show wEnumB.length=5 from rfl,List.length_cons,List.length_nil]; omega
   · simp -dsimp only [go_sem,wEnumB]<;>simp
   · simp -dsimp only [go_sem,aA,aN]<;>simp
   clear ho hol
   rintro ⟨k,out⟩ ⟨hk,ho,hol⟩
   simp only at hk ho hol
   rcases bH k e.ns.length with hkt | hkg
   · have hg:decide ((k:Int) < (e.ns.length:Int))=true:=by simp; omega
     obtain ⟨n,hn⟩:∃ a,e.ns[k]? = some a:=⟨_,aU hkt⟩
     obtain ⟨v,hv⟩:∃ a,e.vs[k]? = some a:=⟨_,aU (by omega)⟩
     have q1:=aR (row:=a8) hn
     have q2:=aR (row:=c7) hv
     have hnn:=fH (ge.a n (bI hn))
     have hvv:=ge.b v (bI hv)
     have hdl:(bR v).length<=21:=dV (by omega) (by omega)
     rw [List.drop_eq_getElem_cons hkt,show e.ns[k]=n from (aW.1 hn).2,List.drop_eq_getElem_cons (show k < e.vs.length by omega),show e.vs[k]=v from (aW.1 hv).2,tK] at ho
     simp (maxSteps:=9^6) -dsimp only [go_sem,aA,hg,↓q1,↓q2,aN]
     have hE:∀ (o:List UInt8),(k=0->o=out)->(0 < k->o=out ++ [44])->gK s=o ++ ([32] ++ (bl n ++ ([32,61,32] ++ bR v))) ++ (oY (k + 1) (e.ns.drop (k + 1)) (e.vs.drop (k + 1)) ++ ([32,125,10] ++ ((s.es.drop (i + 1)).flatMap oS ++ s.ss.flatMap l5))):=fun o h0 h1=>by
      rw [ho]
      rcases Nat.eq_zero_or_pos k with hz | hz
      · rw [h0 hz,decide_eq_false (show ¬ 0 < (k:Int) by omega)]; simp
      · rw [h1 hz,decide_eq_true (show 0 < (k:Int) by omega)]; simp
     refine ⟨fun hc=>?_,fun hc=>?_⟩
     · have hk0:0 < k:=by have:=of_decide_eq_true hc; omega
       refine ⟨by omega,by omega,by omega,by omega,by omega,by omega,by omega,by omega,by omega,?_⟩
       refine aC (k + 1,(out ++ [44]) ++ ([32] ++ (bl n ++ ([32,61,32] ++ bR v)))) 2 ⟨hkt,hE _ (fun h=>by omega) fun _=>rfl,?_⟩ (by simp only; omega) ?_ ?_
       · simp only [List.length_append,List.length_cons,List.length_nil]; omega
       · simp -dsimp only [go_sem]<;>simp
       · simp -dsimp only [go_sem,aA,aN]<;>simp
     · have hk0:k=0:=by have:=of_decide_eq_false hc; omega
       refine ⟨by omega,by omega,by omega,by omega,by omega,by omega,by omega,by omega,?_⟩
       refine aC (k + 1,out ++ ([32] ++ (bl n ++ ([32,61,32] ++ bR v)))) 2 ⟨hkt,hE _ (fun _=>rfl) fun h=>by omega,?_⟩ (by simp only; omega) ?_ ?_
       · simp only [List.length_append,List.length_cons,List.length_nil]; omega
       · simp -dsimp only [go_sem]<;>simp
       · simp -dsimp only [go_sem,aA,aN]<;>simp
   · obtain rfl:k=e.ns.length:=by omega
     have hg:decide ((e.ns.length:Int) < (e.ns.length:Int))=false:=by simp
     simp (maxSteps:=9^6) -dsimp only [go_sem,aA,hg,aN]
     rw [List.drop_length,show oY e.ns.length [] (e.vs.drop e.ns.length)=[] by unfold oY; rfl] at ho
     refine ⟨by omega,by omega,?_⟩
     refine aC (i + 1,out ++ [32,125,10]) 1 ⟨hlt,by rw [ho]; simp,?_⟩ (by simp only; omega) ?_ ?_
     · simp only [List.length_append,List.length_cons,List.length_nil]; omega
     · simp -dsimp only [go_sem]<;>simp
     · simp -dsimp only [go_sem,aA,aN]<;>simp
 · obtain rfl:i=s.es.length:=by omega
   have hg:decide ((s.es.length:Int) < (s.es.length:Int))=false:=by simp
   simp (maxSteps:=9^6) -dsimp only [go_sem,aA,hg]
   rw [List.drop_length,List.flatMap_nil,List.nil_append] at ho
   refine bP (α:=Nat × List UInt8) (fun z=>[(1,.va (.c1 (.pt 0 0))),(2,tS (mk [])),(3,tS (mk z.2)),(7,iS .i64 z.1)]) (fun z=>[.cells (aA s) 25])
    (fun z=>z.1<=s.ss.length/\gK s=z.2 ++ (s.ss.drop z.1).flatMap l5/\z.2.length<=20000 + 10000 * z.1) (fun z=>s.ss.length - z.1) (eJ (0,out) 1 ⟨Nat.zero_le _,ho,?_⟩ ?_ ?_) ?_
   · simp only; omega
   · simp -dsimp only [go_sem]<;>simp
   · simp -dsimp only [go_sem,aA]<;>simp
   clear ho hol
   rintro ⟨i,out⟩ ⟨hi,ho,hol⟩
   simp only at hi ho hol
   rcases bH i s.ss.length with hlt | hge
   · have hg:decide ((i:Int) < (s.ss.length:Int))=true:=by simp; omega
     obtain ⟨t,ht⟩:∃ a,s.ss[i]? = some a:=⟨_,aU hlt⟩
     have gt:=g.b t (bI ht)
     have hok:=hs.ok.ss t (bI ht)
     have hnl:=fH (uF gt.n)
     have hml:=gt.m
     rw [List.drop_eq_getElem_cons hlt,show s.ss[i]=t from (aW.1 ht).2,List.flatMap_cons] at ho
     simp (maxSteps:=9^6) -dsimp only [go_sem,aA,hg,ht,aF,forall_eq',aK]
     refine ⟨by omega,by omega,by omega,by omega,?_⟩
     refine bP (α:=Nat × List UInt8) (fun z=>[(1,.va (.c1 (.pt 0 0))),(2,tS (mk [])),(3,tS (mk z.2)),(7,iS .i64 i),(8,iS .i64 z.1)]) (fun z=>[.cells (aA s) 25])
      (fun z=>z.1<=t.fs.length/\gK s=z.2 ++ ((t.fs.drop z.1).flatMap jD ++ ([125,10] ++ (s.ss.drop (i + 1)).flatMap l5))/\z.2.length<=20100 + 10000 * i + 500 * z.1) (fun z=>t.fs.length - z.1) (eJ (0,out ++ (wStB ++ (bl t.nm ++ [32,123,10]))) 1 ⟨Nat.zero_le _,?_,?_⟩ ?_ ?_) ?_
     · rw [ho]; simp [l5]
     · simp only [List.length_append,show wStB.length=7 from rfl,List.length_cons,List.length_nil]; omega
     · simp -dsimp only [go_sem,wStB]<;>simp
     · simp -dsimp only [go_sem,aA,aK]<;>simp
     clear ho hol
     rintro ⟨k,out⟩ ⟨hk,ho,hol⟩
     simp only at hk ho hol
     rcases bH k t.fs.length with hkt | hkg
     · have hg:decide ((k:Int) < (t.fs.length:Int))=true:=by simp; omega
       obtain ⟨f,hf⟩:∃ a,t.fs[k]? = some a:=⟨_,aU hkt⟩
       have q1:=aR (row:=aZ) hf
       obtain ⟨gf1,gf2,gf3⟩:=gt.f f (bI hf)
       have hfo:=hok.fs f (bI hf)
       have hnn:=fH gf2
       have hdl:(bR f.num).length<=21:=dV (by omega) (by omega)
       have htl:=qU 6 f.ty hfo.ty
       rw [List.drop_eq_getElem_cons hkt,show t.fs[k]=f from (aW.1 hf).2,List.flatMap_cons] at ho
       simp (maxSteps:=9^6) -dsimp only [go_sem,aA,ht,hf,aF,forall_eq',hg,aK,aZ,gX]
       refine ⟨by omega,by omega,by omega,by omega,by omega,by omega,by omega,by omega,by omega,⟨_,rfl,hfo.ty⟩,by omega,fun hc=>⟨by omega,by omega,by omega,?_⟩,fun hc=>⟨by omega,by omega,?_⟩⟩
       · refine aC (k + 1,out ++ jD f) 1 ⟨hkt,by rw [ho]; simp,?_⟩ (by simp only; omega) ?_ ?_
         · unfold jD; rw [hc]; simp only [aO,List.length_append,List.length_cons,List.length_nil]; omega
         · simp -dsimp only [go_sem,jD,hc]<;>simp [jD,hc]
         · simp -dsimp only [go_sem,aA]<;>simp
       · refine aC (k + 1,out ++ jD f) 1 ⟨hkt,by rw [ho]; simp,?_⟩ (by simp only; omega) ?_ ?_
         · unfold jD; rw [hc]; simp only [aJ,List.length_append,List.length_cons,List.length_nil]; omega
         · simp -dsimp only [go_sem,jD,hc]<;>simp [jD,hc]
         · simp -dsimp only [go_sem,aA]<;>simp
     · obtain rfl:k=t.fs.length:=by omega
       have hg:decide ((t.fs.length:Int) < (t.fs.length:Int))=false:=by simp
       simp (maxSteps:=9^6) -dsimp only [go_sem,aA,ht,aF,forall_eq',hg,aK]
       rw [List.drop_length,List.flatMap_nil,List.nil_append] at ho
       refine ⟨by omega,by omega,by omega,?_⟩
       refine aC (i + 1,out ++ [125,10]) 1 ⟨hlt,by rw [ho]; simp,?_⟩ (by simp only; omega) ?_ ?_
       · simp only [List.length_append,List.length_cons,List.length_nil]; omega
       · simp -dsimp only [go_sem]<;>simp
       · simp -dsimp only [go_sem,aA]<;>simp
   · obtain rfl:i=s.ss.length:=by omega
     have hg:decide ((s.ss.length:Int) < (s.ss.length:Int))=false:=by simp
     simp (maxSteps:=9^6) -dsimp only [go_sem,aA,hg]
     refine fin _ _ ?_
     rw [ho,List.drop_length,List.flatMap_nil,List.append_nil]
def CO:PC:=.gh (.ord  [.q (.v 53 8),.q (.v 54 8),.q (.q 55 (.nc (.t 54))),.q (.q 56 (.fa 3 (.t 55))),.q (.q 57 (.fa 1 (.t 56))),.q (.l 58 (.ld1 (.t 57))),.q (.v 59 8),.m (.a 60 (.cl 39 [(.t 59)] [2,1,3,4])),.rc (.v 53 8),.rc (.v 54 8),.rc (.q 55 (.nc (.t 54))),.rc (.q 56 (.fa 3 (.t 55))),.rc (.q 57 (.fa 1 (.t 56))),.rc (.l 58 (.ld1 (.t 57))),.m (.e 61 (.bsl 62 3 [(.t 60)])),.rc (.v 53 8),.rc (.v 54 8),.rc (.q 55 (.nc (.t 54))),.rc (.q 56 (.fa 3 (.t 55))),.rc (.q 57 (.fa 1 (.t 56))),.rc (.l 58 (.ld1 (.t 57))),.m (.e 62 (.ap 62 3 64 (.t 58) (.t 61))),.rc (.v 53 8),.q (.q 63 (.nc (.t 53))),.q (.q 64 (.fa 3 (.t 63))),.q (.q 65 (.fa 1 (.t 64))),.m (.s (.st 1 (.t 65) (.t 62)))])
@[go_sem ↓] theorem WS:cO CO:=cT _
def BA:PC:=.gh (.ord  [.q (.v 69 8),.q (.v 70 8),.q (.q 71 (.nc (.t 70))),.q (.q 72 (.fa 3 (.t 71))),.q (.q 73 (.fa 2 (.t 72))),.q (.l 74 (.ld1 (.t 73))),.q (.v 75 8),.m (.a 76 (.cl 40 [(.t 75)] [2,1,3,4])),.rc (.v 69 8),.rc (.v 70 8),.rc (.q 71 (.nc (.t 70))),.rc (.q 72 (.fa 3 (.t 71))),.rc (.q 73 (.fa 2 (.t 72))),.rc (.l 74 (.ld1 (.t 73))),.m (.e 77 (.bsl 56 2 [(.t 76)])),.rc (.v 69 8),.rc (.v 70 8),.rc (.q 71 (.nc (.t 70))),.rc (.q 72 (.fa 3 (.t 71))),.rc (.q 73 (.fa 2 (.t 72))),.rc (.l 74 (.ld1 (.t 73))),.m (.e 78 (.ap 56 2 40 (.t 74) (.t 77))),.rc (.v 69 8),.q (.q 79 (.nc (.t 69))),.q (.q 80 (.fa 3 (.t 79))),.q (.q 81 (.fa 2 (.t 80))),.m (.s (.st 1 (.t 81) (.t 78)))])
@[go_sem ↓] theorem WP:cO BA:=cT _
def A6:PC:=.gh (.reg [.v 48 8,.a 49 (.cl 35 [(.t 48)] [2,1,3,4])])
@[go_sem ↓] theorem UY:cO A6:=cT _
def lR:PC:=.seq (.seq (.gh (.reg [.v 93 8,.q 94 (.nc (.t 93)),.q 95 (.fa 3 (.t 94)),.l 96 (.ldn 3 (.t 95)),.a 97 (.cq 31 [(.t 96)]),.v 9 97])) (.seq (.reg [.v 98 9,.q 99 (.bin .neq true (.t 98) (.i 0))]) (.cond (.t 99) (.seq (.reg [.q 100 (.bd [(.int .i64 0),(.slice none 0 0),(.slice none 0 0)] []),.v 101 9,.s (.st 3 (.t 2) (.t 100)),.v 3 101,.q 4 (.mv (.i 0))]) .ret) .skip))) (.seq (.reg [.v 102 8,.q 103 (.nc (.t 102)),.q 104 (.fa 3 (.t 103)),.l 105 (.ldn 3 (.t 104)),.s (.st 3 (.t 2) (.t 105)),.q 3 (.mv (.i 0)),.q 4 (.mv (.i 0))]) .ret)
@[go_sem ↓] theorem VJ:cO lR:=cT _
def AK:PC:=.seq (.seq (.gh (.reg [.v 82 8,.q 83 (.nc (.t 82)),.q 84 (.fa 1 (.t 83)),.l 85 (.ld1 (.t 84))])) (.cond (.t 85) (.seq (.ord  [.q (.q 86 (.bd [(.int .i64 0),(.slice none 0 0),(.slice none 0 0)] [])),.q (.v 87 8),.q (.q 88 (.nc (.t 87))),.q (.q 89 (.fa 2 (.t 88))),.q (.l 90 (.ld1 (.t 89))),.m (.s (.st 3 (.t 2) (.t 86))),.rc (.v 87 8),.rc (.q 88 (.nc (.t 87))),.rc (.q 89 (.fa 2 (.t 88))),.rc (.l 90 (.ld1 (.t 89))),.m (.q 3 (.mv (.i 2))),.rc (.v 87 8),.rc (.q 88 (.nc (.t 87))),.rc (.q 89 (.fa 2 (.t 88))),.rc (.l 90 (.ld1 (.t 89))),.m (.v 4 90)]) .ret) .skip)) (.seq (.reg [.v 91 8,.a 92 (.cl 41 [(.t 91)] [0])]) (lR))
@[go_sem ↓] theorem WL:cO AK:=cT _
def EA:PC:=.seq (.gh (.reg [.v 35 8,.a 36 (.cl 37 [(.t 35),(.k (.string (mk [59])))] [2,1,3,4])])) (.seq (.block 0 (.loop (.seq (.seq (.reg [.v 37 8,.q 38 (.nc (.t 37)),.q 39 (.fa 1 (.t 38)),.l 40 (.ld1 (.t 39)),.q 41 (.not (.t 40)),.v 42 41,⟨some 43,(some (42,true)),.q (.mv (.t 5))⟩,⟨some 44,(some (42,true)),.cl 38 [(.t 43)] [1]⟩,⟨some 45,(some (42,true)),.q (.fld1 0 (.t 44))⟩,⟨some 46,(some (42,true)),.q (.bin .neq true (.t 45) (.i 0))⟩,.a 47 (.pick (.t 42) (.t 46) (.k (.bool false)))]) (.cond (.t 47) .skip (.exit 0))) (.block 1 (.block 2 (.seq (.reg [.v 51 8,.a 52 (.cl 34 [(.t 51),(.k (.string (mk [101,110,117,109])))] [2,1,3,4]),.v 50 52]) (.cond (.t 50) (CO) (.seq (.reg [.v 67 8,.a 68 (.cl 34 [(.t 67),(.k (.string (mk [115,116,114,117,99,116])))] [2,1,3,4]),.v 66 68]) (.cond (.t 66) (BA) (A6)))))))))) (AK))
@[go_sem ↓] theorem XV:cO EA:=cT _
def DF:PC:=.seq (.gh (.reg [.v 29 8,.v 30 8,.a 31 (.cl 36 [(.t 30),(.k (.bool false))] [2,1,3,4]),.q 32 (.nc (.t 29)),.q 33 (.fa 3 (.t 32)),.q 34 (.fa 0 (.t 33)),.s (.st 1 (.t 34) (.t 31))])) (EA)
@[go_sem ↓] theorem XL:cO DF:=cT _
def D7:PC:=.seq (.seq (.gh (.reg [.v 24 8,.a 25 (.cl 34 [(.t 24),(.k (.string (mk [118,101,114,115,105,111,110])))] [2,1,3,4]),.q 26 (.not (.t 25))])) (.cond (.t 26) (.reg [.v 27 8,.a 28 (.cl 35 [(.t 27)] [2,1,3,4])]) .skip)) (DF)
@[go_sem ↓] theorem XB:cO D7:=cT _
def L5:PC:=.seq (.reg [.e 2 (.al (.agg #[(.int .i64 0),(.slice none 0 0),(.slice none 0 0)]) 25),.q 3 (.mv (.i 0)),.q 4 (.mv (.i 0))]) (.seq (.reg [.v 11 0,.a 12 (.cl 33 [(.t 11)] []),.v 10 12,.q 13 (.ex (.t 10) 0),.q 14 (.ex (.t 10) 1),.q 15 (.ex (.t 10) 2),.v 5 13,.v 6 14,.v 7 15]) (.seq (.seq (.reg [.v 16 6,.q 17 (.bin .neq true (.t 16) (.i 0))]) (.cond (.t 17) (.seq (.reg [.q 18 (.bd [(.int .i64 0),(.slice none 0 0),(.slice none 0 0)] []),.v 19 6,.v 20 7,.s (.st 3 (.t 2) (.t 18)),.v 3 19,.v 4 20]) .ret) .skip)) (.seq (.reg [.v 21 5,.q 22 (.bd [(.pointer none),(.bool false),(.int .i64 0),(.int .i64 0),(.slice none 0 0),(.slice none 0 0)] [(0,1,(.t 21))]),.e 23 (.bx 70 (.t 22)),.v 8 23]) (D7))))
def jZ:List RV:=[.ld (.ldn 3 (.t 2)),.mv (.t 3),.mv (.t 4)]
theorem UZ:aV Tryz.prog true ⟨fun r k=>if r=5/\k=1 then .own [2,1,3,4] else if r=6/\k=1 then .own [2,1,3,4] else if r=7/\k=2 then .own [2,1,3,4] else if r=8/\k=1 then .own [2,1,3,4] else if r=9/\k=7 then .own [1] else if r=11/\k=1 then .own [2,1,3,4] else if r=12/\k=7 then .own [2,1,3,4] else if r=13/\k=1 then .own [2,1,3,4] else if r=14/\k=7 then .own [2,1,3,4] else if r=10/\k=1 then .own [2,1,3,4] else if r=17/\k=1 then .own [0] else if r=18/\k=4 then .q else .own [],fun r=>[5,7,8,15,18,10,12,14].contains r⟩ Tryz.f12=some (L5,jZ):=by kernel_rfl
def pT:PC:=.gh (.ord  [.q (.v 53 8),.q (.v 54 8),.q (.q 55 (.nc (.t 54))),.q (.q 56 (.fa 3 (.t 55))),.q (.q 57 (.fa 1 (.t 56))),.q (.l 58 (.ld1 (.t 57))),.q (.v 59 8),.m (.a 60 (.cl 39 [(.t 59)] [2,1,3,4])),.rc (.v 53 8),.rc (.v 54 8),.rc (.q 55 (.nc (.t 54))),.rc (.q 56 (.fa 3 (.t 55))),.rc (.q 57 (.fa 1 (.t 56))),.rc (.l 58 (.ld1 (.t 57))),.m (.e 61 (.bsl 62 3 [(.t 60)])),.rc (.v 53 8),.rc (.v 54 8),.rc (.q 55 (.nc (.t 54))),.rc (.q 56 (.fa 3 (.t 55))),.rc (.q 57 (.fa 1 (.t 56))),.rc (.l 58 (.ld1 (.t 57))),.m (.e 62 (.ap 62 3 64 (.t 58) (.t 61))),.rc (.v 53 8),.q (.q 63 (.nc (.t 53))),.q (.q 64 (.fa 3 (.t 63))),.q (.q 65 (.fa 1 (.t 64))),.m (.s (.st 1 (.t 65) (.t 62)))])
@[go_sem ↓] theorem US:cO pT:=cT _
def pQ:PC:=.gh (.ord  [.q (.v 69 8),.q (.v 70 8),.q (.q 71 (.nc (.t 70))),.q (.q 72 (.fa 3 (.t 71))),.q (.q 73 (.fa 2 (.t 72))),.q (.l 74 (.ld1 (.t 73))),.q (.v 75 8),.m (.a 76 (.cl 40 [(.t 75)] [2,1,3,4])),.rc (.v 69 8),.rc (.v 70 8),.rc (.q 71 (.nc (.t 70))),.rc (.q 72 (.fa 3 (.t 71))),.rc (.q 73 (.fa 2 (.t 72))),.rc (.l 74 (.ld1 (.t 73))),.m (.e 77 (.bsl 56 2 [(.t 76)])),.rc (.v 69 8),.rc (.v 70 8),.rc (.q 71 (.nc (.t 70))),.rc (.q 72 (.fa 3 (.t 71))),.rc (.q 73 (.fa 2 (.t 72))),.rc (.l 74 (.ld1 (.t 73))),.m (.e 78 (.ap 56 2 40 (.t 74) (.t 77))),.rc (.v 69 8),.q (.q 79 (.nc (.t 69))),.q (.q 80 (.fa 3 (.t 79))),.q (.q 81 (.fa 2 (.t 80))),.m (.s (.st 1 (.t 81) (.t 78)))])
@[go_sem ↓] theorem UO:cO pQ:=cT _
def qJ:PC:=.gh (.reg [.v 48 8,.a 49 (.cl 35 [(.t 48)] [2,1,3,4])])
@[go_sem ↓] theorem UQ:cO qJ:=cT _
def pcG12m_15:PC:=.seq (.seq (.gh (.reg [.v 82 8,.q 83 (.nc (.t 82)),.q 84 (.fa 1 (.t 83)),.l 85 (.ld1 (.t 84))])) (.cond (.t 85) (.seq (.ord  [.q (.q 86 (.bd [(.int .i64 0),(.slice none 0 0),(.slice none 0 0)] [])),.q (.v 87 8),.q (.q 88 (.nc (.t 87))),.q (.q 89 (.fa 2 (.t 88))),.q (.l 90 (.ld1 (.t 89))),.m (.s (.st 3 (.t 2) (.t 86))),.rc (.v 87 8),.rc (.q 88 (.nc (.t 87))),.rc (.q 89 (.fa 2 (.t 88))),.rc (.l 90 (.ld1 (.t 89))),.m (.q 3 (.mv (.i 2))),.rc (.v 87 8),.rc (.q 88 (.nc (.t 87))),.rc (.q 89 (.fa 2 (.t 88))),.rc (.l 90 (.ld1 (.t 89))),.m (.v 4 90)]) .ret) .skip)) .skip
@[go_sem ↓] theorem UP:cO pcG12m_15:=cT _
def sT:PC:=.seq (.gh (.reg [.v 35 8,.a 36 (.cl 37 [(.t 35),(.k (.string (mk [59])))] [2,1,3,4])])) (.seq (.block 0 (.loop (.seq (.seq (.reg [.v 37 8,.q 38 (.nc (.t 37)),.q 39 (.fa 1 (.t 38)),.l 40 (.ld1 (.t 39)),.q 41 (.not (.t 40)),.v 42 41,⟨some 43,(some (42,true)),.q (.mv (.t 5))⟩,⟨some 44,(some (42,true)),.cl 38 [(.t 43)] [1]⟩,⟨some 45,(some (42,true)),.q (.fld1 0 (.t 44))⟩,⟨some 46,(some (42,true)),.q (.bin .neq true (.t 45) (.i 0))⟩,.a 47 (.pick (.t 42) (.t 46) (.k (.bool false)))]) (.cond (.t 47) .skip (.exit 0))) (.block 1 (.block 2 (.seq (.reg [.v 51 8,.a 52 (.cl 34 [(.t 51),(.k (.string (mk [101,110,117,109])))] [2,1,3,4]),.v 50 52]) (.cond (.t 50) (pT) (.seq (.reg [.v 67 8,.a 68 (.cl 34 [(.t 67),(.k (.string (mk [115,116,114,117,99,116])))] [2,1,3,4]),.v 66 68]) (.cond (.t 66) (pQ) (qJ)))))))))) (pcG12m_15))
@[go_sem ↓] theorem WD:cO sT:=cT _
def pcG12m_7:PC:=.seq (.gh (.reg [.v 29 8,.v 30 8,.a 31 (.cl 36 [(.t 30),(.k (.bool false))] [2,1,3,4]),.q 32 (.nc (.t 29)),.q 33 (.fa 3 (.t 32)),.q 34 (.fa 0 (.t 33)),.s (.st 1 (.t 34) (.t 31))])) (sT)
@[go_sem ↓] theorem WZ:cO pcG12m_7:=cT _
def sW:PC:=.seq (.seq (.gh (.reg [.v 24 8,.a 25 (.cl 34 [(.t 24),(.k (.string (mk [118,101,114,115,105,111,110])))] [2,1,3,4]),.q 26 (.not (.t 25))])) (.cond (.t 26) (.reg [.v 27 8,.a 28 (.cl 35 [(.t 27)] [2,1,3,4])]) .skip)) (pcG12m_7)
@[go_sem ↓] theorem VL:cO sW:=cT _
def uL:PC:=.seq (.reg [.e 2 (.al (.agg #[(.int .i64 0),(.slice none 0 0),(.slice none 0 0)]) 25),.q 3 (.mv (.i 0)),.q 4 (.mv (.i 0))]) (.seq (.reg [.v 11 0,.a 12 (.cl 33 [(.t 11)] []),.v 10 12,.q 13 (.ex (.t 10) 0),.q 14 (.ex (.t 10) 1),.q 15 (.ex (.t 10) 2),.v 5 13,.v 6 14,.v 7 15]) (.seq (.seq (.reg [.v 16 6,.q 17 (.bin .neq true (.t 16) (.i 0))]) (.cond (.t 17) (.seq (.reg [.q 18 (.bd [(.int .i64 0),(.slice none 0 0),(.slice none 0 0)] []),.v 19 6,.v 20 7,.s (.st 3 (.t 2) (.t 18)),.v 3 19,.v 4 20]) .ret) .skip)) (.seq (.reg [.v 21 5,.q 22 (.bd [(.pointer none),(.bool false),(.int .i64 0),(.int .i64 0),(.slice none 0 0),(.slice none 0 0)] [(0,1,(.t 21))]),.e 23 (.bx 70 (.t 22)),.v 8 23]) (sW))))
theorem P5:rB 9 L5=some (uL,lR):=by kernel_rfl
attribute [-go_sem] eT gE eD iL eZ iW
def F9:List UInt8:=[118,101,114,115,105,111,110]
def iE:List UInt8:=[101,110,117,109]
def kG:List UInt8:=[115,116,114,117,99,116]
def vV (w:List UInt8) (ts:List Tk) (z:Fs):Fs:=bif a6 1 w ts z then ⟨false,z.off,cD ts z.n⟩ else eG ts z
theorem OR {w:List UInt8} {ts:List Tk} {z:Fs} (h:z.n < ts.length):z.n<=(vV w ts z).n/\(vV w ts z).n < ts.length:=by
 unfold vV
 cases a6 1 w ts z
 · rw [aJ,iT]; exact ⟨Nat.le_refl _,h⟩
 · exact lV h
def mL (ts:List Tk):Nat->List En->List St->Fs->(List En × List St) × Fs
 | 0,a,b,z=>((a,b),z)
 | f + 1,a,b,z=>bif z.bad || (bB ts z.n).k == 0 then ((a,b),z) else
  bif a6 1 iE ts z then mL ts f (a ++ [(hJ ts (bO 1 iE ts z)).1]) b (hJ ts (bO 1 iE ts z)).2
  else bif a6 1 kG ts z then mL ts f a (b ++ [(iP ts (bO 1 kG ts z)).1]) (iP ts (bO 1 kG ts z)).2
  else ((a,b),eG ts z)
theorem tI (ts:List Tk) (f:Nat) (a:List En) (b:List St) (z:Fs):mL ts (f + 1) a b z=bif z.bad || (bB ts z.n).k == 0 then ((a,b),z) else
 bif a6 1 iE ts z then mL ts f (a ++ [(hJ ts (bO 1 iE ts z)).1]) b (hJ ts (bO 1 iE ts z)).2
 else bif a6 1 kG ts z then mL ts f a (b ++ [(iP ts (bO 1 kG ts z)).1]) (iP ts (bO 1 kG ts z)).2
 else ((a,b),eG ts z):=rfl
def B4 (ts:List Tk):Fs:=vV F9 ts ⟨false,0,0⟩
def XO (ts:List Tk):Int:=iX false ts (B4 ts)
def RD (ts:List Tk):Fs:=b5 [59] ts (iV false ts (B4 ts))
def D9 (ts:List Tk):(List En × List St) × Fs:=mL ts (ts.length + 1) [] [] (RD ts)
def K0 (ts:List Tk):Sc:=⟨XO ts,(D9 ts).1.1,(D9 ts).1.2.map (oC ((D9 ts).1.1.map En.nm))⟩
def IB:Sc:=⟨0,[],[]⟩
def zY (x:List UInt8):Sc × Int × Int:=
 bif (bG x).err != 0 then (IB,(bG x).err,(bG x).off) else
 bif (D9 (bG x).toks).2.bad then (IB,2,(D9 (bG x).toks).2.off) else
 bif cN (K0 (bG x).toks) != 0 then (IB,cN (K0 (bG x).toks),0) else (K0 (bG x).toks,0,0)
theorem F8 {ts:List Tk} (h:Tks ts):∀ (f:Nat) (a:List En) (b:List St) (z:Fs),z.n < ts.length->(∀ x ∈ a,EnP x)->(∀ x ∈ b,StP x)->
 ((∀ x ∈ (mL ts f a b z).1.1,EnP x)/\∀ x ∈ (mL ts f a b z).1.2,StP x)/\(mL ts f a b z).1.1.length<=a.length + f/\(mL ts f a b z).1.2.length<=b.length + f
 | 0,a,b,z,_,ha,hb=>⟨⟨ha,hb⟩,Nat.le_refl _,Nat.le_refl _⟩
 | f + 1,a,b,z,hn,ha,hb=>by
  rw [tI]
  cases z.bad || (bB ts z.n).k == 0
  · cases a6 1 iE ts z
    · cases a6 1 kG ts z
      · refine ⟨⟨ha,hb⟩,?_,?_⟩<;>(simp only [aJ]; omega)
      · have h1:=eV (k:=1) (w:=kG) hn
        have ih:=F8 h f a (b ++ [(iP ts (bO 1 kG ts z)).1]) _ (LY h1.2).2 ha fun x hx=>by
         rcases List.mem_append.1 hx with hx | hx
         · exact hb x hx
         · rw [List.mem_singleton.1 hx]; exact WM h h1.2
        rw [aJ,aJ,aO]
        refine ⟨ih.1,?_,?_⟩
        · have:=ih.2.1; omega
        · have:=ih.2.2; rw [List.length_append,List.length_singleton] at this; omega
    · have h1:=eV (k:=1) (w:=iE) hn
      have ih:=F8 h f (a ++ [(hJ ts (bO 1 iE ts z)).1]) b _ (MO h1.2).2 (fun x hx=>by
       rcases List.mem_append.1 hx with hx | hx
       · exact ha x hx
       · rw [List.mem_singleton.1 hx]; exact WN h h1.2) hb
      rw [aJ,aO]
      refine ⟨ih.1,?_,?_⟩
      · have:=ih.2.1; rw [List.length_append,List.length_singleton] at this; omega
      · have:=ih.2.2; omega
  · refine ⟨⟨ha,hb⟩,?_,?_⟩<;>(simp only [aO]; omega)
theorem VS {ts:List Tk} (h:Tks ts):(B4 ts).n < ts.length:=(OR (z:=⟨false,0,0⟩) h.e.pos).2
def nY:W.Spec:=fun av H K=>∃ x,av=[tS x]/\H=[]/\K (.tu [.gs (aA (zY (bl x)).1),iA .i64 (zY (bl x)).2.1,iA .i64 (zY (bl x)).2.2]) []
noncomputable def iM:cP:=[(33,.s iW),(34,.s qR),(35,.s nH),(36,.s lM),(37,.s k9),(38,.s (eT 123)),(39,.s EQ),(40,.s FS),(31,.f ckFn)]
theorem E8:fG Tryz.prog iM:=aD YX (aD CF (aD nA (aD vC (aD tQ (aD oH (aD S1 (aD IS (aI HE (aB _)))))))))
theorem NH:sp iM 33=iW:=rfl
theorem M0:sp iM 34=qR:=rfl
theorem OE:sp iM 35=nH:=rfl
theorem OB:sp iM 36=lM:=rfl
theorem NW:sp iM 37=k9:=rfl
theorem OI:sp iM 38=eT 123:=rfl
theorem OH:sp iM 39=EQ:=rfl
theorem OZ:sp iM 40=FS:=rfl
theorem M7:jR iM 31=some ckFn:=rfl
theorem TI {x:ByteArray} {K:S->Hp->Prop} (h:(bG (bl x)).err=0) (hK:K (.tu [.c1 (.pt 0 0),iA .i64 0,iA .i64 0]) [eQ 123 (bG (bl x)).toks 0]):iW [tS x] [] K:=⟨fun _=>hK,fun h'=>absurd h h'⟩
theorem OC {x:ByteArray} {K:S->Hp->Prop} (h:(bG (bl x)).err ≠ 0) (hK:K (.tu [.c1 (.vl (.pointer none)),iA .i64 (bG (bl x)).err,iA .i64 (bG (bl x)).off]) []):iW [tS x] [] K:=⟨fun h'=>absurd h' h,fun _=>hK⟩
abbrev zSc:B:=.cells [.vl (.int .i64 0),.vl (.slice none 0 0),.vl (.slice none 0 0)] 25
abbrev BV (b1:B) (ver:Int) (z:Fs) (es:List En) (ss:List St):Hp:=[zSc,b1,.cells (W8 ver z.bad z.off es.length ss.length) 70,.row (es.map aN) 62 3,.row (ss.map aK) 56 2]
abbrev FF:Fr:=dR [(2,.va (.c1 (.pt 0 0))),(8,.va (.c1 (.pt 2 0)))]
def qG (K:S->Hp->Prop) (fr:Fr) (H:Hp):Prop:=∃ b1 ver z es ss,fr 2=.va (.c1 (.pt 0 0))/\fr 8=.va (.c1 (.pt 2 0))/\H=BV b1 ver z es ss/\(es.length<=1000000/\ss.length<=1000000/\∀ s ∈ ss,s.fs.length<=1000000/\∀ f ∈ s.fs,∃ d t0,yL d t0 f.ty)/\
 vc iM 0 lR FF (BV .dead ver z es (ss.map (oC (es.map En.nm)))) (fZ 0 jZ K)
theorem wG:kA Tryz.prog 41=true:=by kernel_rfl
theorem N5 (hs:∀ av K,nY av [] K->vc iM 0 uL (rQ av) [] (pU (qG K) (fZ 0 jZ K))):Meets Tryz.prog 12 nY:=by
 have hb:Tryz.f12.body=some _:=rfl
 refine H0 (n:=9) Tryz.func12 hb UZ rfl P5 E8 (fun av H K h=>?_) (fun av H K h=>?_) (Mid:=qG) hs ?_
 · obtain ⟨x,rfl,_⟩:=h
   rw [Tryz.ntmps12]
   show 1<=_
   decide
 · obtain ⟨x,rfl,rfl,_⟩:=h
   exact ⟨rfl,fun y hy=>⟨_,List.mem_singleton.1 hy⟩⟩
 intro K w0 ro0 fr E ro a w h0 hM hf hR hG Q hQ
 obtain ⟨b1,ver,z,es,ss,h2,h8,hH,⟨l1,l2,l3⟩,hv⟩:=hM
 match E,hH with
 | [(g0,k0),(g1,k1),(g2,k2),(g3,k3),(g4,k4)],hH=>
 simp only [hp,List.map_cons,List.map_nil,List.cons.injEq,and_true] at hH
 obtain ⟨rfl,rfl,rfl,rfl,rfl⟩:=hH
 have hRs:=VQ hR h0 fun s hs f hf=>(l3 s hs).2 f hf
 obtain ⟨bp,hbp,c3,c4,c5⟩:=JJ hR
 have s8:=hf.slot 8
 rw [h8] at s8
 obtain ⟨gg,bb,e1,e2,e3,e4⟩:=s8
 obtain rfl:g2=gg:=a7 e1
 rw [hbp] at e3
 obtain rfl:=a7 e3
 refine NS (v:=.pointer (some ⟨bp,0,none⟩)) rfl rfl rfl rfl rfl e4 (by rw [hf.size,Tryz.ntmps12]; decide) wG
  (AZ w bp ver g3.ob g4.ob g3.cap g4.cap es ss (es.map En.nm) ro hRs l1 l2 (fun s hs=>(l3 s hs).1) c3 c4 c5) ?_
 rintro e w' ⟨rfl,L,hL,hC,hD⟩
 refine ⟨_,rfl,?_⟩
 have hT:=YU hR h0 rfl hL hC hD
 refine hQ FF _ (mF L ro) _ w' ?hv ⟨by simp only [Act.put]; simpa using hf.size,fun i=>?_,hf.defers⟩ hT
 case hv=>exact hv
 have s2:=hf.slot 2
 rw [h2] at s2
 unfold FF
 by_cases i2:i=2
 · subst i2
   rw [show dR [(2,S.va (.c1 (.pt 0 0))),(8,.va (.c1 (.pt 2 0)))] 2=.va (.c1 (.pt 0 0)) from rfl]
   simp only [Act.put]
   rw [Array.getD_eq_getD_getElem?,Array.getElem?_setIfInBounds_ne (by decide),Array.getElem?_setIfInBounds_ne (by decide),<-Array.getD_eq_getD_getElem?]
   exact s2
 · by_cases i8:i=8
   · subst i8
     rw [show dR [(2,S.va (.c1 (.pt 0 0))),(8,.va (.c1 (.pt 2 0)))] 8=.va (.c1 (.pt 2 0)) from rfl]
     simp only [Act.put]
     rw [Array.getD_eq_getD_getElem?,Array.getElem?_setIfInBounds_ne (by decide),Array.getElem?_setIfInBounds_ne (by decide),<-Array.getD_eq_getD_getElem?]
     have s8:=hf.slot 8
     rw [h8] at s8
     exact s8
   · have:dR [(2,S.va (.c1 (.pt 0 0))),(8,.va (.c1 (.pt 2 0)))] i=.un:=by
      simp [dR,put,i2,i8]
     rw [this]; trivial
end Go.Proofs.YtgogpogophflhaaGreatDoor
namespace Go.Proofs.YtgogpogophflhaaGreatDoor
open Go.W
attribute [-go_sem] eT gE eD iL eZ iW
attribute [local go_sem] NH M0 OE OB NW OI OH OZ M7
@[local go_sem] theorem aCY (Mid:Fr->Hp->Prop) (K:Ex->Fr->Hp->Prop) (fr:Fr) (H:Hp):pU Mid K .r fr H=K .r fr H:=rfl
@[local go_sem] theorem aEK (Mid:Fr->Hp->Prop) (K:Ex->Fr->Hp->Prop) (fr:Fr) (H:Hp):pU Mid K .n fr H=Mid fr H:=rfl
theorem EF {ts:List Tk}:∀ (f:Nat) (a:List En) (b:List St) (z:Fs),z.bad=true->mL ts f a b z=((a,b),z)
 | 0,_,_,_,_=>rfl
 | f + 1,a,b,z,h=>by rw [tI,h,Bool.true_or,aO]
abbrev pM (ver:Int) (es:List En) (ss:List St) (ts:List Tk) (z:Fs):Hp:=[.cells [.pt 1 0,.vl (.bool z.bad),.vl (.int .i64 z.off),.vl (.int .i64 ver),.sl 2 es.length,.sl 3 ss.length] 70,eQ 123 ts z.n,.row (es.map aN) 62 3,.row (ss.map aK) 56 2]
theorem z6 {s:W.Spec} {ver:Int} {es:List En} {ss:List St} {ts:List Tk} {z:Fs} {av:List S} {K:S->Hp->Prop} (h:s av (pH ⟨ver,es.map aN,ss.map aK⟩ ts z) K):s av (pM ver es ss ts z) K:=by
 have e:pH ⟨ver,es.map aN,ss.map aK⟩ ts z=pM ver es ss ts z:=by simp [pH,pM]
 rw [<-e]; exact h
theorem NG:∀ av K,nY av [] K->vc iM 0 uL (rQ av) [] (pU (qG K) (fZ 0 jZ K)):=by
 rintro av K ⟨x,rfl,-,hK⟩
 unfold zY at hK
 simp (maxSteps:=9^6) -dsimp only [go_sem,uL,jZ]
 by_cases hx:(bG (bl x)).err=0
 case neg=>
  refine OC hx ?_
  have hx':((bG (bl x)).err != 0)=true:=bne_iff_ne.2 hx
  rw [hx',aO] at hK
  simp (maxSteps:=9^6) -dsimp only [go_sem,hx']
  refine .sel [] (by simp) (by simp [cK]) rfl (.done ?_)
  simp (maxSteps:=9^6) -dsimp only [go_sem,cK]
  exact hK
 case pos=>
  refine TI hx ?_
  have hx':((bG (bl x)).err != 0)=false:=by rw [hx]; rfl
  rw [hx',aJ] at hK
  have ht:=SB hx
  generalize (bG (bl x)).toks=ts at *
  simp (maxSteps:=9^6) -dsimp only [go_sem]
  refine ⟨fun h=>(by cases h),fun _=>bK rfl ?_⟩
  refine .nilc 2 4 62 3 _ _ rfl rfl ?_
  refine .nilc 2 5 56 2 _ _ rfl rfl (.done ?_)
  simp (maxSteps:=9^6) -dsimp only [go_sem,sW]
  have t7:vc iM 0 pcG12m_7.ungh (dR [(2,.va (.c1 (.pt 0 0))),(5,.va (.c1 (.pt 1 0))),(8,.va (.c1 (.pt 2 0)))]) (BV (eQ 123 ts (B4 ts).n) 0 (B4 ts) [] []) (pU (qG K) (fZ 0 jZ K)):=by
   have hn1:=VS ht
   have hle:=ht.e.le
   unfold K0 D9 RD XO at hK
   generalize B4 ts=z1 at *
   simp (maxSteps:=9^6) -dsimp only [go_sem,pcG12m_7,jZ]
   refine rO (o:=⟨0,[],[]⟩) (z:=z1) ht hn1 ?_
   simp (maxSteps:=9^6) -dsimp only [go_sem]
   have hn2:=(mH (c:=false) hn1).2
   have hvi:=vB (c:=false) ht hn1
   generalize iX false ts z1=ver at *
   generalize iV false ts z1=z2 at *
   refine bK rfl (.done ?_)
   simp (maxSteps:=9^6) -dsimp only [go_sem,sT]
   refine f6 (o:=⟨ver,[],[]⟩) (z:=z2) ht hn2 ?_
   rw [show bl (mk [59])=[59] from rfl]
   have hn3:=(cL (w:=[59]) hn2).2
   generalize b5 [59] ts z2=z3 at *
   simp (maxSteps:=9^6) -dsimp only [go_sem]
   refine bP (α:=Nat × List En × List St × Fs) (fun x=>[(2,.va (.c1 (.pt 0 0))),(5,.va (.c1 (.pt 1 0))),(8,.va (.c1 (.pt 2 0)))])
    (fun x=>BV (eQ 123 ts x.2.2.2.n) ver x.2.2.2 x.2.1 x.2.2.1)
    (fun x=>x.2.2.2.n < ts.length/\x.2.1.length + x.1<=ts.length + 1/\x.2.2.1.length + x.1<=ts.length + 1/\(x.2.2.2.bad=true\/ts.length < x.2.2.2.n + x.1)/\mL ts x.1 x.2.1 x.2.2.1 x.2.2.2=mL ts (ts.length + 1) [] [] z3)
    (fun x=>x.1) (eJ (ts.length + 1,[],[],z3) 5 ⟨hn3,by simp,by simp,Or.inr (by simp only; omega),rfl⟩ ?_ ?_) ?_
   · simp -dsimp only [go_sem]<;>simp
   · simp -dsimp only [go_sem]<;>simp
   rintro ⟨f,es,ss,z⟩ ⟨h1,h2,h2',h3,h4⟩
   simp only at h1 h2 h2' h3 h4
   have fin:∀ z',mL ts (ts.length + 1) [] [] z3=((es,ss),z')->vc iM 0 pcG12m_15.ungh (dR [(2,.va (.c1 (.pt 0 0))),(8,.va (.c1 (.pt 2 0)))]) (BV (eQ 123 ts z'.n) ver z' es ss) (pU (qG K) (fZ 0 jZ K)):=fun z' e=>by
    have hP:=F8 ht (ts.length + 1) [] [] z3 hn3 (fun x hx=>by cases hx) fun x hx=>by cases hx
    rw [e] at hK hP
    obtain ⟨⟨p1,p2⟩,p3,p4⟩:=hP
    simp only [List.length_nil,Nat.zero_add] at p1 p2 p3 p4 hK
    simp (maxSteps:=9^6) -dsimp only [go_sem,pcG12m_15,jZ]
    refine ⟨fun hb=>?_,fun hb=>?_⟩
    · rw [hb,aO] at hK
      refine .sel [] (by simp) (by simp [cK]) rfl (.done ?_)
      simp (maxSteps:=9^6) -dsimp only [go_sem,cK]
      exact hK
    rw [hb,aJ] at hK
    refine ⟨_,ver,z',es,ss,rfl,rfl,rfl,⟨by omega,by omega,fun s hs=>⟨by have:=(p2 s hs).l; omega,fun f hf=>((p2 s hs).f f hf).t.wrp⟩⟩,?_⟩
    have hP:ScP ⟨ver,es,ss.map (oC (es.map En.nm))⟩:=⟨hvi,by simp only; omega,by simp only [List.length_map]; omega,p1,fun t ht=>by
     obtain ⟨s,hs,rfl⟩:=List.mem_map.1 ht
     exact (p2 s hs).rs _⟩
    generalize ss.map (oC (es.map En.nm))=rr at *
    refine bK rfl (.pub 3 _ _ _ rfl (.pub 4 _ _ _ rfl (.done ?_)))
    simp (maxSteps:=9^6) -dsimp only [go_sem,lR,jZ,cK]
    refine ⟨⟨_,rfl,hP.fit⟩,?_⟩
    rw [show C.sc [C.vl (Value.int IntKind.i64 ver),C.fz (List.map aN es),C.fz (List.map aK rr)]=⟨ver,es,rr⟩ from eC ⟨ver,es,rr⟩]
    refine ⟨fun hc=>?_,fun hc=>?_⟩
    · rw [hc,aO] at hK
      refine .sel [] (by simp) (by simp [cK]) rfl (.done ?_)
      simp (maxSteps:=9^6) -dsimp only [go_sem,cK]
      exact hK
    · rw [hc,aJ] at hK
      refine .sel [] (by simp) (by simp [cK]) rfl (.done ?_)
      simp (maxSteps:=9^6) -dsimp only [go_sem,cK]
      exact hK
   obtain ⟨bb,oo,n⟩:=z
   cases bb with
   | true=>
    rw [EF _ _ _ _ rfl] at h4
    simp (maxSteps:=9^6) -dsimp only [go_sem]
    refine dC 5 (fin _ h4.symm) ?_ ?_
    · simp -dsimp only [go_sem]<;>simp
    · simp -dsimp only [go_sem]<;>simp
   | false=>
   have h3:ts.length < n + f:=by
    rcases h3 with h3 | h3
    · cases h3
    · exact h3
   simp only at h1
   obtain ⟨f,rfl⟩:∃ g,f=g + 1:=⟨f - 1,by omega⟩
   rw [tI,Bool.false_or] at h4
   simp (maxSteps:=9^6) -dsimp only [go_sem]
   refine lC ht.e h1 ?_
   simp only at h4
   cases hk:(bB ts n).k == 0 with
   | true=>
    rw [hk,aO] at h4
    have hk':((bB ts n).k != 0)=false:=by rw [bne,hk]; rfl
    simp (maxSteps:=9^6) -dsimp only [go_sem,jH,hk']
    refine dC 5 (fin _ h4.symm) ?_ ?_
    · simp -dsimp only [go_sem]<;>simp
    · simp -dsimp only [go_sem]<;>simp
   | false=>
   rw [hk,aJ] at h4
   have hk':((bB ts n).k != 0)=true:=by rw [bne,hk]; rfl
   clear fin
   simp (maxSteps:=9^6) -dsimp only [go_sem,jH,hk']
   refine z6 (z:=⟨false,oo,n⟩) (gD ht h1 ?_)
   rw [show bl (mk [101,110,117,109])=iE from rfl]
   cases he:a6 1 iE ts ⟨false,oo,n⟩ with
   | true=>
    rw [he,aO] at h4
    obtain ⟨q1,q2,q3⟩:=rE (by decide) ht.e h1 he
    have e1:bO 1 iE ts ⟨false,oo,n⟩=⟨false,oo,n + 1⟩:=by unfold bO; rw [he,q1]; rfl
    rw [e1] at h4 ⊢
    simp (maxSteps:=9^6) -dsimp only [go_sem]
    refine bK rfl (.done ?_)
    simp (maxSteps:=9^6) -dsimp only [go_sem,pT]
    refine z6 (z:=⟨false,oo,n + 1⟩) (Q0 ht q2 ?_)
    have g1:=MO (z:=⟨false,oo,n + 1⟩) q2
    generalize hJ ts ⟨false,oo,n + 1⟩=r at *
    obtain ⟨en,z4⟩:=r
    simp only at h4 g1 ⊢
    simp (maxSteps:=9^6) -dsimp only [go_sem,aN]
    refine ⟨by omega,?_⟩
    refine aC (f,es ++ [en],ss,z4) 5 ⟨g1.2,?_,?_,.inr ?_,h4⟩ (by simp) ?_ ?_
    · simp only [List.length_append,List.length_singleton]; omega
    · simp only; omega
    · simp only at g1 ⊢; omega
    · simp -dsimp only [go_sem]<;>simp
    · simp -dsimp only [go_sem,aN]<;>simp [aN]
   | false=>
   rw [he,aJ] at h4
   rw [fU he]
   simp (maxSteps:=9^6) -dsimp only [go_sem]
   refine z6 (z:=⟨false,oo,n⟩) (gD ht h1 ?_)
   rw [show bl (mk [115,116,114,117,99,116])=kG from rfl]
   cases hs:a6 1 kG ts ⟨false,oo,n⟩ with
   | true=>
    rw [hs,aO] at h4
    obtain ⟨q1,q2,q3⟩:=rE (by decide) ht.e h1 hs
    have e1:bO 1 kG ts ⟨false,oo,n⟩=⟨false,oo,n + 1⟩:=by unfold bO; rw [hs,q1]; rfl
    rw [e1] at h4 ⊢
    simp (maxSteps:=9^6) -dsimp only [go_sem]
    refine bK rfl (.done ?_)
    simp (maxSteps:=9^6) -dsimp only [go_sem,pQ]
    refine z6 (z:=⟨false,oo,n + 1⟩) (QB ht q2 ?_)
    have g1:=LY (z:=⟨false,oo,n + 1⟩) q2
    generalize iP ts ⟨false,oo,n + 1⟩=r at *
    obtain ⟨st,z4⟩:=r
    simp only at h4 g1 ⊢
    simp (maxSteps:=9^6) -dsimp only [go_sem,aK]
    refine ⟨by omega,?_⟩
    refine aC (f,es,ss ++ [st],z4) 5 ⟨g1.2,?_,?_,.inr ?_,h4⟩ (by simp) ?_ ?_
    · simp only; omega
    · simp only [List.length_append,List.length_singleton]; omega
    · simp only at g1 ⊢; omega
    · simp -dsimp only [go_sem]<;>simp
    · simp -dsimp only [go_sem,aK]<;>simp [aK]
   | false=>
   rw [hs,aJ] at h4
   rw [fU hs]
   simp (maxSteps:=9^6) -dsimp only [go_sem]
   refine bK rfl (.done ?_)
   simp (maxSteps:=9^6) -dsimp only [go_sem,qJ]
   refine z6 (z:=⟨false,oo,n⟩) (iH ht h1 ?_)
   simp (maxSteps:=9^6) -dsimp only [go_sem]
   refine aC (f,es,ss,eG ts ⟨false,oo,n⟩) 5 ⟨h1,?_,?_,.inl rfl,?_⟩ (by simp) ?_ ?_
   · simp only; omega
   · simp only; omega
   · rw [<-h4]; exact EF _ _ _ _ rfl
   · simp -dsimp only [go_sem]<;>simp
   · simp -dsimp only [go_sem]<;>simp
  refine gD (o:=⟨0,[],[]⟩) (z:=⟨false,0,0⟩) ht ht.e.pos ?_
  rw [show bl (mk [118,101,114,115,105,111,110])=F9 from rfl]
  unfold B4 vV at t7
  cases hk:a6 1 F9 ts ⟨false,0,0⟩ with
  | true=>
   rw [hk,aO] at t7
   have hF:bO 1 F9 ts ⟨false,0,0⟩=⟨false,0,cD ts 0⟩:=by unfold bO; rw [hk]; rfl
   rw [hF]
   simp (maxSteps:=9^6) -dsimp only [go_sem]
   refine dC 5 t7 ?_ ?_
   · simp -dsimp only [go_sem]<;>simp
   · simp -dsimp only [go_sem]<;>simp
  | false=>
   rw [hk,aJ] at t7
   rw [fU hk]
   simp (maxSteps:=9^6) -dsimp only [go_sem]
   refine iH (o:=⟨0,[],[]⟩) (z:=⟨false,0,0⟩) ht ht.e.pos ?_
   simp (maxSteps:=9^6) -dsimp only [go_sem]
   refine dC 5 t7 ?_ ?_
   · simp -dsimp only [go_sem]<;>simp
   · simp -dsimp only [go_sem]<;>simp
theorem TG:Meets Tryz.prog 12 nY:=N5 NG
end Go.Proofs.YtgogpogophflhaaGreatDoor
namespace Go.Proofs.YtgogpogophflhaaGreatDoor
open Go.W
attribute [-go_sem] eT gE eD iL eZ iW
end Go.Proofs.YtgogpogophflhaaGreatDoor
namespace Go.Proofs.YtgogpogophflhaaGreatDoor
open Go.W
def XQ:PC:=.seq (.reg [.e 1 (.bx 25 (.t 0)),.q 2 (.mv (.k (.bool false)))]) (.seq (.reg [.l 3 (.ldn 3 (.t 1)),.a 4 (.cq 10 [(.t 3)]),.l 5 (.ldn 3 (.t 1)),.a 6 (.cq 14 [(.t 5)]),.q 7 (.bin .eql true (.t 4) (.t 6)),.v 8 7,⟨some 9,(some (8,true)),.cq 11 []⟩,.a 10 (.pick (.t 8) (.t 9) (.k (.bool false))),.v 2 10]) .ret)
def XJ:List RV:=[.mv (.t 2)]
theorem ok4:aV Tryz.prog true ⟨fun r k=>if r=1/\k=1 then .q else if r=1/\k=3 then .q else if r=1/\k=6 then .q else .own [],fun _=>false⟩ Tryz.f4=some (XQ,XJ):=by kernel_rfl
def BW:PC:=.seq (.gh (.reg [.q 52 (.fa 2 (.t 1)),.l 53 (.ld1 (.t 52)),.l 54 (.ia 2 (.t 53) (.i 0)),.q 55 (.fa 1 (.t 54)),.l 56 (.ld1 (.t 55)),.l 57 (.ia 7 (.t 56) (.i 0)),.q 58 (.fa 2 (.t 57)),.q 59 (.fa 0 (.t 58)),.l 60 (.ld1 (.t 59)),.q 61 (.bin .eql true (.t 60) (.i 7)),.v 62 61,⟨some 63,(some (62,true)),.l (.ldn 4 (.t 7))⟩,⟨some 64,(some (62,true)),.cq 16 [(.t 63)]⟩,⟨some 65,(some (62,true)),.q (.bin .eql true (.t 64) (.k (.string (mk [108,105,115,116,91,52,93,32,111,102,32,116,101,120,116,91,49,54,93]))))⟩,.a 66 (.pick (.t 62) (.t 65) (.k (.bool false))),.v 67 66,⟨some 68,(some (67,true)),.l (.ldn 3 (.t 1))⟩,⟨some 69,(some (67,true)),.cq 10 [(.t 68)]⟩,⟨some 70,(some (67,true)),.q (.bin .eql true (.t 69) (.k (.string (mk [118,101,114,115,105,111,110,32,50,59,10,101,110,117,109,32,66,32,123,32,99,32,61,32,48,32,125,10,115,116,114,117,99,116,32,65,32,123,10,32,32,49,32,98,58,32,66,59,10,125,10]))))⟩,.a 71 (.pick (.t 67) (.t 70) (.k (.bool false))),.v 0 71])) .ret
@[go_sem ↓] theorem ZP:cO BW:=cT _
def BN:PC:=.seq (.gh (.reg [.q 49 (.bd [(.int .i64 0),(.int .i64 0),(.string (mk [])),(.slice none 0 0)] [(0,1,(.i 4)),(1,1,(.i 16))]),.e 50 (.bsl 37 4 [(.t 49)]),.q 51 (.bd [(.int .i64 0),(.int .i64 0),(.string (mk [])),(.slice none 0 0)] [(0,1,(.i 5)),(1,1,(.i 4)),(3,1,(.t 50))]),.e 7 (.al (.agg #[(.int .i64 0),(.int .i64 0),(.string (mk [])),(.slice none 0 0)]) 37),.s (.st 4 (.t 7) (.t 51))])) (BW)
@[go_sem ↓] theorem aA3:cO BN:=cT _
def B0:PC:=.seq (.seq (.gh (.reg [.v 18 2,.q 19 (.bin .neq true (.t 18) (.i 0)),.v 20 19,⟨some 21,(some (20,false)),.q (.mv (.t 5))⟩,⟨some 22,(some (20,false)),.q (.bin .neq true (.t 21) (.i 2))⟩,.a 23 (.pick (.t 20) (.k (.bool true)) (.t 22)),.v 24 23,⟨some 25,(some (24,false)),.q (.mv (.t 6))⟩,⟨some 26,(some (24,false)),.q (.bin .neq true (.t 25) (.i 9))⟩,.a 27 (.pick (.t 24) (.k (.bool true)) (.t 26)),.v 28 27,⟨some 29,(some (28,false)),.q (.fa 2 (.t 1))⟩,⟨some 30,(some (28,false)),.l (.ld1 (.t 29))⟩,⟨some 31,(some (28,false)),.q (.lnL (.t 30))⟩,⟨some 32,(some (28,false)),.q (.bin .neq true (.t 31) (.i 1))⟩,.a 33 (.pick (.t 28) (.k (.bool true)) (.t 32)),.v 34 33,⟨some 35,(some (34,false)),.q (.fa 2 (.t 1))⟩,⟨some 36,(some (34,false)),.l (.ld1 (.t 35))⟩,⟨some 37,(some (34,false)),.l (.ia 2 (.t 36) (.i 0))⟩,⟨some 38,(some (34,false)),.q (.fa 1 (.t 37))⟩,⟨some 39,(some (34,false)),.l (.ld1 (.t 38))⟩,⟨some 40,(some (34,false)),.q (.lnL (.t 39))⟩,⟨some 41,(some (34,false)),.q (.bin .neq true (.t 40) (.i 1))⟩,.a 42 (.pick (.t 34) (.k (.bool true)) (.t 41)),.v 43 42,⟨some 44,(some (43,false)),.q (.fa 1 (.t 1))⟩,⟨some 45,(some (43,false)),.l (.ld1 (.t 44))⟩,⟨some 46,(some (43,false)),.q (.lnL (.t 45))⟩,⟨some 47,(some (43,false)),.q (.bin .neq true (.t 46) (.i 1))⟩,.a 48 (.pick (.t 43) (.k (.bool true)) (.t 47))])) (.cond (.t 48) (.seq (.reg [.q 0 (.mv (.k (.bool false)))]) .ret) .skip)) (BN)
@[go_sem ↓] theorem ZT:cO B0:=cT _
def zN:PC:=.seq (.gh (.reg [.a 14 (.cl 12 [(.k (.string (mk [118,101,114,115,105,111,110,32,49])))] []),.v 13 14,.q 15 (.ex (.t 13) 0),.q 16 (.ex (.t 13) 1),.q 17 (.ex (.t 13) 2),.e 4 (.al (.agg #[(.int .i64 0),(.slice none 0 0),(.slice none 0 0)]) 25),.s (.st 3 (.t 4) (.t 15)),.v 5 16,.v 6 17])) (B0)
@[go_sem ↓] theorem ZN:cO zN:=cT _
def R9:PC:=.seq (.reg [.q 0 (.mv (.k (.bool false)))]) (.seq (.reg [.a 9 (.cl 12 [(.k (.string (mk [118,101,114,115,105,111,110,32,50,59,32,115,116,114,117,99,116,32,65,32,123,32,49,32,98,58,32,66,59,32,125,32,101,110,117,109,32,66,32,123,32,99,32,61,32,48,32,125])))] []),.v 8 9,.q 10 (.ex (.t 8) 0),.q 11 (.ex (.t 8) 1),.q 12 (.ex (.t 8) 2),.e 1 (.al (.agg #[(.int .i64 0),(.slice none 0 0),(.slice none 0 0)]) 25),.s (.st 3 (.t 1) (.t 10)),.v 2 11,.v 3 12]) (zN))
def PI:List RV:=[.mv (.t 0)]
theorem aAK:aV Tryz.prog true ⟨fun r k=>if r=6/\k=12 then .q else if r=6/\k=17 then .q else .own [],fun r=>[2,3,5,6].contains r⟩ Tryz.f11=some (R9,PI):=by kernel_rfl
def txA:List UInt8:=[118,101,114,115,105,111,110,32,50,59,32,115,116,114,117,99,116,32,65,32,123,32,49,32,98,58,32,66,59,32,125,32,101,110,117,109,32,66,32,123,32,99,32,61,32,48,32,125]
def txB:List UInt8:=[118,101,114,115,105,111,110,32,49]
def exA:Sc:=⟨2,[⟨mk [66],[mk [99]],[0]⟩],[⟨mk [65],[⟨1,mk [98],.mk 7 0 (mk [66]) [],false⟩]⟩]⟩
def HI:Ty:=.mk 5 4 (mk []) [.mk 4 16 (mk []) []]
theorem SD:zY txA=(exA,0,0):=by kernel_rfl
theorem aAB:zY txB=(IB,2,9):=by kernel_rfl
theorem X8:dI 6 HI=[108,105,115,116,91,52,93,32,111,102,32,116,101,120,116,91,49,54,93]:=by kernel_rfl
theorem ZH:gK exA=[118,101,114,115,105,111,110,32,50,59,10,101,110,117,109,32,66,32,123,32,99,32,61,32,48,32,125,10,115,116,114,117,99,116,32,65,32,123,10,32,32,49,32,98,58,32,66,59,10,125,10]:=by kernel_rfl
theorem M9:exA.fit:=by
 have h:=SD
 have hP:ScP exA:=⟨⟨by decide,by decide⟩,by decide,by decide,fun e he=>by
  rw [List.mem_singleton.1 he]
  exact ⟨by decide,by decide,by decide,fun n hn=>by rw [List.mem_singleton.1 hn]; decide,fun n hn=>by rw [List.mem_singleton.1 hn]; exact ⟨by decide,by decide⟩⟩,fun t ht=>by
  rw [List.mem_singleton.1 ht]
  exact ⟨by decide,by decide,fun f hf=>by
   rw [List.mem_singleton.1 hf]
   exact ⟨⟨by decide,by decide⟩,by decide,⟨[],_,rfl,⟨by decide,by decide⟩,by decide,rfl,by decide,⟨by decide,by decide⟩,by decide,fun s hs=>by cases hs⟩⟩⟩⟩
 exact hP.fit
theorem TE:TyOk HI:=.mk ⟨by decide,by decide⟩ ⟨by decide,by decide⟩ (by decide) (by decide) fun u hu=>by
 rw [List.mem_singleton.1 hu]
 exact .mk ⟨by decide,by decide⟩ ⟨by decide,by decide⟩ (by decide) (by decide) fun u hu=>by cases hu
theorem HM {x:ByteArray} {r:Sc × Int × Int} {K:S->Hp->Prop} (h:zY (bl x)=r) (hK:K (.tu [.gs (aA r.1),iA .i64 r.2.1,iA .i64 r.2.2]) []):nY [tS x] [] K:=⟨x,rfl,rfl,by rw [h]; exact hK⟩
noncomputable def MF:cP:=[(12,.s nY),(16,.f txFn),(10,.f fmFn)]
theorem QX:sp MF 12=nY:=rfl
theorem PJ:jR MF 16=some txFn:=rfl
theorem RZ:jR MF 10=some fmFn:=rfl
attribute [local go_sem] QX PJ RZ
theorem NM:Meets Tryz.prog 11 qTrue.sp:=by
 refine aG (Γ:=MF) Tryz.func11 aAK 0 (by rw [Tryz.ntmps11]; decide) (aD TG (aI HP (aI DW (aB _)))) HH ?_
 rintro av H K ⟨⟨h,rfl⟩,hK⟩
 obtain rfl:av=[]:=h
 have hK:K (bS true) []:=hK
 have fin:∀ R:Hp,W.Fin 0 K (bS true) R:=fun R=>.z ((by simpa [go_sem] using hK))
 clear hK
 simp (maxSteps:=9^6) -dsimp only [go_sem,R9,PI]
 refine HM SD ?_
 simp (maxSteps:=9^6) -dsimp only [go_sem,exA,aA,List.map_cons,List.map_nil]
 refine bK rfl (.done ?_)
 simp (maxSteps:=9^6) -dsimp only [go_sem,zN]
 refine HM aAB ?_
 simp (maxSteps:=9^6) -dsimp only [go_sem,IB,aA,List.map_cons,List.map_nil]
 have g1:((0:Int) != 0)=false:=rfl
 have g2:((2:Int) != 2)=false:=rfl
 have g3:((9:Int) != 9)=false:=rfl
 have g4:((1:Int) != 1)=false:=rfl
 refine dC (up:=[(1,.va (.c1 (.pt 0 0))),(2,iS .i64 0),(5,iS .i64 2),(6,iS .i64 9)]) (Hs:=[.cells [.vl (.int .i64 2),.fz [[.vl (.string (mk [66])),.fz [a8 (mk [99])],.fz [c7 0]]],.fz [[.vl (.string (mk [65])),.fz [[.vl (.int .i64 1),.vl (.string (mk [98])),.vl (.int .i64 7),.vl (.int .i64 0),.vl (.string (mk [66])),.fz [],.vl (.bool false)]]]]] 25]) 1 ?_ ?_ ?_
 · simp (maxSteps:=9^6) -dsimp only [go_sem,B0,g1,g2,g3,g4,List.length_cons,List.length_nil,Nat.zero_add,Int.ofNat_one,forall_eq']
   refine ⟨by decide,?_⟩
   refine dC (up:=[(1,.va (.c1 (.pt 0 0)))]) (Hs:=[.cells [.vl (.int .i64 2),.fz [[.vl (.string (mk [66])),.fz [a8 (mk [99])],.fz [c7 0]]],.fz [[.vl (.string (mk [65])),.fz [[.vl (.int .i64 1),.vl (.string (mk [98])),.vl (.int .i64 7),.vl (.int .i64 0),.vl (.string (mk [66])),.fz [],.vl (.bool false)]]]]] 25]) 1 ?_ ?_ ?_
   · simp (maxSteps:=9^6) -dsimp only [go_sem,BN]
     refine bK rfl (.opn 1 _ _ _ rfl (.nfr 1 _ _ _ rfl (.shu 1 _ _ _ rfl ?_ (.pub 1 _ _ _ rfl (.done ?_)))))
     · simp [C.nf,C.shut]
     have k1:gI [.vl (.int .i64 5),.vl (.int .i64 4),.vl (.string (mk [])),.fz [[.vl (.int .i64 4),.vl (.int .i64 16),.vl (.string (mk [])),.fz []]]]:=fO (t:=HI) TE
     have k2:C.ty [.vl (.int .i64 5),.vl (.int .i64 4),.vl (.string (mk [])),.fz [[.vl (.int .i64 4),.vl (.int .i64 16),.vl (.string (mk [])),.fz []]]]=HI:=gP HI
     have k3:iC [.vl (.int .i64 2),.fz [[.vl (.string (mk [66])),.fz [a8 (mk [99])],.fz [c7 0]]],.fz [[.vl (.string (mk [65])),.fz [[.vl (.int .i64 1),.vl (.string (mk [98])),.vl (.int .i64 7),.vl (.int .i64 0),.vl (.string (mk [66])),.fz [],.vl (.bool false)]]]]]:=gA (s:=exA) M9
     have k4:C.sc [.vl (.int .i64 2),.fz [[.vl (.string (mk [66])),.fz [a8 (mk [99])],.fz [c7 0]]],.fz [[.vl (.string (mk [65])),.fz [[.vl (.int .i64 1),.vl (.string (mk [98])),.vl (.int .i64 7),.vl (.int .i64 0),.vl (.string (mk [66])),.fz [],.vl (.bool false)]]]]]=exA:=eC exA
     have e7:((7:Int) == 7)=true:=rfl
     simp (maxSteps:=9^6) -dsimp only [go_sem,cK,C.nf,C.pub,BW,forall_eq',k1,k2,k3,k4,e7,X8,ZH,Bool.true_and,beq_self_eq_true]
     exact ⟨by decide,by decide,fin _⟩
   · simp -dsimp only [go_sem]<;>simp
   · simp -dsimp only [go_sem]<;>simp
 · simp -dsimp only [go_sem]<;>simp
 · simp -dsimp only [go_sem]<;>simp [aN,aK,aZ]
   exact ⟨rfl,rfl,rfl,rfl⟩
noncomputable def fsFn:Fun:=lD iC C.sc fun _=>.bool true
attribute [go_sem] fsFn
noncomputable def FR:cP:=[(10,.f fmFn),(14,.f fmFn),(11,.f qTrue)]
theorem P6:jR FR 10=some fmFn:=rfl
theorem PF:jR FR 14=some fmFn:=rfl
theorem TV:jR FR 11=some qTrue:=rfl
theorem B9:Meets Tryz.prog 4 fsFn.sp:=by
 refine aG (Γ:=FR) Tryz.func4 ok4 1 (by rw [Tryz.ntmps4]; decide) (aI DW (aI JB (aI NM (aB _)))) eY ?_
 rintro av H K ⟨⟨h,rfl⟩,hK⟩
 obtain ⟨_,rfl,s,rfl,hs⟩:=cW h
 have hK:K (bS true) []:=hK
 clear h
 have k1:=gA hs
 have k2:=eC s
 have k1':iC [C.vl (Value.int IntKind.i64 s.ver),C.fz (List.map aN s.es),C.fz (List.map aK s.ss)]:=k1
 have k2':C.sc [C.vl (Value.int IntKind.i64 s.ver),C.fz (List.map aN s.es),C.fz (List.map aK s.ss)]=s:=k2
 simp (maxSteps:=9^6) -dsimp only [go_sem,aA,XQ,XJ,P6,PF,TV,k1',k2',beq_self_eq_true]
 exact .z (hK)
end Go.Proofs.YtgogpogophflhaaGreatDoor
namespace Go.W
open Go.RowKit
def lG (W:World):RO:=⟨fun b off=>W.cell? ⟨b,off,none⟩,fun _=>0⟩
theorem QZ (W:World):∀ (b off:Nat) (v:Value),lG W b off=some v->W.cell? ⟨b,off,none⟩=some v:=fun _ _ _ h=>h
theorem QS (ro:RO):FzR ro [] (.slice none 0 0):=
 FzR.mk [] 1 none none (fun h=>absurd rfl h) 0 (fun _=>.bool true) (by simp) (by simp) (by simp) (by simp) (by simp) (by simp) (by simp) (by simp)
def oA (P:Program):Bool:=(List.range P.types.size).all fun t=>match P.underlying t with | some (.slice e)=>decide (0 < P.cellsOf e) | _=>true
section
variable {H:Type} {enc:TypeId × Value->H} {P:Program}
theorem H6 {W W':World} (h:Stay W W') {p:MemPlace} (hp:p.block < W.heap.size):W.sameAt W' p:=by
 cases p with
 | cell b off=>exact h.cell (a:=⟨b,off,none⟩) hp
 | map b=>exact h.keep b hp
theorem p9 {W W':World} {sp:Nat->Bool} (hl:laidOutB P=true) (hm:mapsRowed P=true) (hs:oA P=true) (hst:Stay W W') :
 ∀ {ts:List TypeId} {vs:List Value} {ds:List (DataW H)} {ps:List MemPlace},(∀ t ∈ ts,t < P.types.size)->DataW.TrodAll enc P W 0 (fun _=>true) true ts vs ds ps->(∀ p ∈ ps,p.block < W.heap.size)->(∀ p ∈ ps,sp p.block=true)->
  DataW.TrodAll enc P W' 0 sp true ts vs ds ps
 | [],[],[],ps,_,h,_,_=>h
 | t :: ts,v :: vs,d :: ds,ps,ht,h,hb,hp=>by
  obtain ⟨p,q,⟨n,h1⟩,h2,rfl⟩:=h
  have hsz:∀ {t e:TypeId},t < P.types.size->P.underlying t=some (.slice e)->0 < P.cellsOf e:=fun {t e} ht hu=>by
   have:=List.all_eq_true.1 hs t (List.mem_range.2 ht)
   rw [hu] at this
   simpa using this
  exact ⟨p,q,⟨n,DataW.trod_stays (T:=(· < P.types.size)) (kids_rows hl hm) hsz (fun h=>by cases h) (ht t (by simp)) h1 (fun x hx=>H6 hst (hb x (by simp [hx]))) (fun x hx=>hp x (by simp [hx]))⟩,
   p9 hl hm hs hst (fun u hu=>ht u (by simp [hu])) h2 (fun x hx=>hb x (by simp [hx])) (fun x hx=>hp x (by simp [hx])),rfl⟩
 | [],_ :: _,_,_,_,h,_,_=>h.elim
 | [],[],_ :: _,_,_,h,_,_=>h.elim
 | _ :: _,[],_,_,_,h,_,_=>h.elim
 | _ :: _,_ :: _,[],_,_,h,_,_=>h.elim
theorem J1 {f:Func} {s:ChangeSpec} {apart fresh handsOn again:Bool} {W W':World} {args:Array Value} {ds gs:List (DataW H)} {before:List MemPlace} {tb:TypeId}
 (hl:laidOutB P=true) (hm:mapsRowed P=true) (hsr:oA P=true) (hps:∀ t ∈ f.params.toList,t < P.types.size) (hrt:f.resultTypes=#[tb]) (htb:P.underlying tb=some .bool)
 (hvars:s.vars=[]) (hW:DataW.Whole enc P f.params.toList s.vars apart W args.toList ds gs before) (hfn:s.fn H (ds ++ gs)={ results:=[.lit (.bool true)],args:=ds,vars:=[] }) (hst:Stay W W') :
 s.post enc P f apart fresh handsOn again W args (.bool true) W':=by
 have hlt:∀ p ∈ before,p.block < W.heap.size:=fun p hp=>hW.lt p hp
 obtain ⟨p,q,hA,hV,hb,_,_⟩:=id hW
 have hq:q=[]:=by
  rw [hvars] at hV
  cases gs with
  | nil=>exact hV
  | cons g gs=>exact hV.elim
 subst hq
 have hbp:before=p:=by rw [hb]; simp
 refine AP (pa:=p) (pv:=[]) hW (fun b sp hd=>?_) (fun sp hsp=>?_) (fun sp hsp=>?_) hb hst ?_
 · rw [hrt,hfn]
   exact ⟨[],[],⟨1,by simp [DataW.trod,Value.cells,htb]⟩,rfl,rfl⟩
 · rw [hfn]
   rw [hbp] at hlt hsp
   exact p9 hl hm hsr hst hps hA hlt hsp
 · rw [hfn,hvars]; rfl
 · intro j t r h1 h2
   rw [hrt] at h1 h2
   match j with
   | 0=>
    cases h1
    cases h2
    simp [Value.okWide,Cell.okWide,Cell.ok,htb]
   | j + 1=>cases h1
end
open Go.RowKit
inductive Fit (P:Program):TypeId->List C->Prop
 | int {t:TypeId} {k:IntKind} {n:Int}:P.underlying t=some (.int k)->(Lit.int k n).wf=true->Fit P t [.vl (.int k n)]
 | bool {t:TypeId} {b:Bool}:P.underlying t=some .bool->Fit P t [.vl (.bool b)]
 | str {t:TypeId} {s:ByteArray}:P.underlying t=some .string->s.size<=maxLen->Fit P t [.vl (.string s)]
 | sl {t e:TypeId} {xs:List (List C)}:P.underlying t=some (.slice e)->xs.length<=maxLen->(∀ r ∈ xs,Fit P e r)->Fit P t [.fz xs]
 | st {t:TypeId} {fs:Array Field} {parts:List (List C)}:P.underlying t=some (.struct fs)->parts.length=fs.size->(∀ (i:Nat) (f:Field) (p:List C),fs[i]? = some f->parts[i]? = some p->Fit P f.type p)->Fit P t parts.flatten
section
variable {P:Program} {t e:TypeId} {xs:List C}
theorem Fit.inv_int {k:IntKind} (ht:P.underlying t=some (.int k)) (h:Fit P t xs):∃ n:Int,xs=[.vl (.int k n)]/\(Lit.int k n).wf=true:=by
 cases h with
 | int h1 h2=>rw [ht] at h1; cases h1; exact ⟨_,rfl,h2⟩
 | bool h1=>rw [ht] at h1; cases h1
 | str h1=>rw [ht] at h1; cases h1
 | sl h1=>rw [ht] at h1; cases h1
 | st h1=>rw [ht] at h1; cases h1
theorem Fit.inv_bool (ht:P.underlying t=some .bool) (h:Fit P t xs):∃ b:Bool,xs=[.vl (.bool b)]:=by
 cases h with
 | int h1 h2=>rw [ht] at h1; cases h1
 | bool h1=>exact ⟨_,rfl⟩
 | str h1=>rw [ht] at h1; cases h1
 | sl h1=>rw [ht] at h1; cases h1
 | st h1=>rw [ht] at h1; cases h1
theorem Fit.inv_str (ht:P.underlying t=some .string) (h:Fit P t xs):∃ s:ByteArray,xs=[.vl (.string s)]/\s.size<=maxLen:=by
 cases h with
 | int h1 h2=>rw [ht] at h1; cases h1
 | bool h1=>rw [ht] at h1; cases h1
 | str h1 h2=>exact ⟨_,rfl,h2⟩
 | sl h1=>rw [ht] at h1; cases h1
 | st h1=>rw [ht] at h1; cases h1
theorem Fit.inv_sl (ht:P.underlying t=some (.slice e)) (h:Fit P t xs):∃ ys:List (List C),xs=[.fz ys]/\ys.length<=maxLen/\∀ r ∈ ys,Fit P e r:=by
 cases h with
 | int h1 h2=>rw [ht] at h1; cases h1
 | bool h1=>rw [ht] at h1; cases h1
 | str h1=>rw [ht] at h1; cases h1
 | sl h1 h2 h3=>rw [ht] at h1; cases h1; exact ⟨_,rfl,h2,h3⟩
 | st h1=>rw [ht] at h1; cases h1
theorem Fit.inv_st {fs:Array Field} (ht:P.underlying t=some (.struct fs)) (h:Fit P t xs):∃ parts:List (List C),xs=parts.flatten/\parts.length=fs.size/\∀ (i:Nat) (f:Field) (p:List C),fs[i]? = some f->parts[i]? = some p->Fit P f.type p:=by
 cases h with
 | int h1 h2=>rw [ht] at h1; cases h1
 | bool h1=>rw [ht] at h1; cases h1
 | str h1=>rw [ht] at h1; cases h1
 | sl h1=>rw [ht] at h1; cases h1
 | st h1 h2 h3=>rw [ht] at h1; cases h1; exact ⟨_,rfl,h2,h3⟩
end
theorem Fit.rows {P:Program} {e:TypeId} {α:Type} {row:α->List C} {Q:α->Prop} {ys:List (List C)} (hi:∀ r,Fit P e r->∃ a,r=row a/\Q a) (h:∀ r ∈ ys,Fit P e r):∃ l:List α,ys=l.map row/\∀ a ∈ l,Q a:=by
 induction ys with
 | nil=>exact ⟨[],rfl,fun a h=>by cases h⟩
 | cons r ys ih=>
  obtain ⟨l,h1,h2⟩:=ih fun r hr=>h r (List.mem_cons_of_mem _ hr)
  obtain ⟨a,h3,h4⟩:=hi r (h r (by simp))
  refine ⟨a :: l,by rw [h1,h3]; rfl,fun x hx=>?_⟩
  rcases List.mem_cons.1 hx with rfl | hx
  · exact h4
  · exact h2 x hx
def CP (P:Program):Nat->List Field->Option Nat
 | o,[]=>some o
 | o,f :: r=>if f.offset=o then CP P (o + P.cellsOf f.type) r else none
def FY (P:Program) (ts:List TypeId):Bool:=ts.all fun t=>match P.underlying t with
 | some (.int _) | some .bool | some .string=>true
 | some (.slice e)=>ts.contains e && decide (0 < P.cellsOf e)
 | some (.struct fs)=>fs.toList.all (fun f=>ts.contains f.type) && CP P 0 fs.toList == some (P.cellsOf t)
 | _=>false
theorem RI {P:Program} {R:C->Value->Prop} {Q:Field->List C->Prop} {cs:List Value}:∀ (fs:List Field) (o:Nat),CP P o fs=some cs.length->
 (∀ (i:Nat) (f:Field),fs[i]? = some f->∃ p,Q f p/\All2 R p ((cs.drop f.offset).take (P.cellsOf f.type)))->
 ∃ parts:List (List C),parts.length=fs.length/\(∀ (i:Nat) (f:Field) (p:List C),fs[i]? = some f->parts[i]? = some p->Q f p)/\All2 R parts.flatten (cs.drop o)
 | [],o,ho,_=>by
  simp only [CP,aF] at ho
  subst ho
  exact ⟨[],rfl,fun i f p h=>by simp at h,by simpa using All2.nil⟩
 | f :: fs,o,ho,h=>by
  simp only [CP] at ho
  split at ho
  · rename_i hf
    obtain ⟨parts,h1,h2,h3⟩:=RI fs _ ho fun i f hf=>h (i + 1) f (by simpa using hf)
    obtain ⟨p,h4,h5⟩:=h 0 f rfl
    refine ⟨p :: parts,by simp [h1],fun i g q hg hq=>?_,?_⟩
    · cases i with
      | zero=>simp at hg hq; subst hg hq; exact h4
      | succ i=>exact h2 i g q (by simpa using hg) (by simpa using hq)
    · have:cs.drop o=(cs.drop f.offset).take (P.cellsOf f.type) ++ cs.drop (o + P.cellsOf f.type):=by
       rw [hf,<-List.drop_drop,List.take_append_drop]
      rw [List.flatten_cons,this]
      exact h5.app h3
  · cases ho
section
variable {H:Type} {enc:TypeId × Value->H} {P:Program} {W:World} {ts:List TypeId}
theorem GU {b off len cap sz:Nat} {oa:Option Addr} (hoa:len ≠ 0->oa=some ⟨b,off,none⟩) (hsz:0 < sz) (X:Nat->List C) (hl:∀ i,i < len->(X i).length=sz) (hc:len<=cap)
 (h:∀ i,i < len->∀ j c,(X i)[j]? = some c->∃ v,W.cell? ⟨b,off + (i * sz + j),none⟩=some v/\c.fv (lG W) v/\c.shut=true) :
 FzR (lG W) ((List.range len).map X) (.slice oa len cap):=by
 have hz:∀ x ∈ (List.range len).map X,x.length=sz:=fun x hx=>by
  obtain ⟨i,hi,rfl⟩:=List.mem_map.1 hx
  exact hl i (List.mem_range.1 hi)
 have hfl:∀ k c,((List.range len).map X).flatten[k]? = some c->∃ v,W.cell? ⟨b,off + k,none⟩=some v/\c.fv (lG W) v/\c.shut=true:=fun k c hk=>by
  have hkl:k < len * sz:=by
   have h1:=(aW.1 hk).1
   rw [iJ _ hz] at h1
   simpa using h1
  have hi:k / sz < len:=(Nat.div_lt_iff_lt_mul hsz).2 hkl
  have hj:=Nat.mod_lt k hsz
  have hg:=gC hz (i:=k / sz) (j:=k % sz) (by simpa using hi) hj
  rw [Nat.mul_comm,Nat.div_add_mod,hk] at hg
  have hxi:((List.range len).map X)[k / sz]? = some (X (k / sz)):=by simp [hi]
  rw [hxi,Option.bind_some] at hg
  have:=h (k / sz) hi (k % sz) c hg.symm
  rwa [Nat.mul_comm,Nat.div_add_mod] at this
 have hr:=FzR.mk (ro:=lG W) ((List.range len).map X) sz (some (b,off)) oa (fun hne=>hoa (fun e=>by subst e; simp at hne)) cap (fun k=>(W.cell? ⟨b,off + k,none⟩).getD undef) hz (by simpa using hc) (fun _=>rfl)
  (fun k c hk=>by
    obtain ⟨v,h2,_⟩:=hfl k c hk
    simp [lG,h2])
  (fun k v hk=>by
    obtain ⟨u,h1,h2,_⟩:=hfl k _ hk
    have:u=v:=h2
    simp [h1,this])
  (fun k ys hk=>by
    obtain ⟨u,h1,h2,_⟩:=hfl k _ hk
    have:FzR (lG W) ys u:=h2
    simpa [h1] using this)
  (fun c hc=>by
    obtain ⟨k,hk⟩:=List.mem_iff_getElem?.1 hc
    obtain ⟨u,_,_,h3⟩:=hfl k c hk
    exact h3)
  (fun _ _ _=>.inl rfl)
 simpa using hr
theorem SZ {cs:List C} {vs:Array Value} (h:All2 (C.fv (lG W)) cs (Value.agg vs).cells.toList) (hs:∀ c ∈ cs,c.shut=true):(S.va (.gs cs)).rel (gm []) (lG W) (.agg vs):=
 ⟨vs.toList,by simp,⟨by simpa [Value.cells] using h.1,fun i c v hc hv=>(C.rel_shut (hs c (bI hc))).2 (h.2 i c v hc (by simpa [Value.cells] using hv))⟩⟩
end
end Go.W
namespace Go.Proofs.YtgogpogophflhaaGreatDoor
open Go.W
theorem v3:Tryz.prog.underlying 3=some (.int .i64):=by kernel_rfl
theorem v4:Tryz.prog.underlying 4=some .bool:=by kernel_rfl
theorem v9:Tryz.prog.underlying 9=some .string:=by kernel_rfl
theorem v22:Tryz.prog.underlying 22=some (.slice 62):=by kernel_rfl
theorem v23:Tryz.prog.underlying 23=some (.slice 56):=by kernel_rfl
theorem v30:Tryz.prog.underlying 54=some (.slice 64):=by kernel_rfl
theorem v35:Tryz.prog.underlying 52=some (.slice 9):=by kernel_rfl
theorem HO:Tryz.prog.underlying 35=some (.slice 37):=by kernel_rfl
theorem v45:Tryz.prog.underlying 58=some (.slice 3):=by kernel_rfl
theorem IC:Tryz.prog.underlying 37=some (.struct #[⟨"Kind",3,0,false,"","",0⟩,⟨"Size",3,1,false,"","",8⟩,⟨"Name",9,2,false,"","",16⟩,⟨"Elem",35,3,false,"","",32⟩]):=by kernel_rfl
theorem v53:Tryz.prog.underlying 64=some (.struct #[⟨"Number",3,0,false,"","",0⟩,⟨"Name",9,1,false,"","",8⟩,⟨"Type",37,2,false,"","",24⟩,⟨"Optional",4,6,false,"","",80⟩]):=by kernel_rfl
theorem v32:Tryz.prog.underlying 56=some (.struct #[⟨"Name",9,0,false,"","",0⟩,⟨"Fields",54,1,false,"","",16⟩]):=by kernel_rfl
theorem v47:Tryz.prog.underlying 62=some (.struct #[⟨"Name",9,0,false,"","",0⟩,⟨"Names",52,1,false,"","",16⟩,⟨"Numbers",58,2,false,"","",40⟩]):=by kernel_rfl
theorem v25:Tryz.prog.underlying 25=some (.struct #[⟨"Version",3,0,false,"","",0⟩,⟨"Enums",22,1,false,"","",8⟩,⟨"Structs",23,2,false,"","",32⟩]):=by kernel_rfl
theorem lB {α:Type} {row:α->List C} {Q:α->Prop} {ys:List (List C)} (h:∀ r ∈ ys,∃ a,r=row a/\Q a):∃ l:List α,ys=l.map row/\∀ a ∈ l,Q a:=by
 induction ys with
 | nil=>exact ⟨[],rfl,fun a h=>by cases h⟩
 | cons r ys ih=>
  obtain ⟨l,h1,h2⟩:=ih fun r hr=>h r (List.mem_cons_of_mem _ hr)
  obtain ⟨a,h3,h4⟩:=h r List.mem_cons_self
  refine ⟨a :: l,by rw [h1,h3]; rfl,fun x hx=>?_⟩
  rcases List.mem_cons.1 hx with rfl | hx
  · exact h4
  · exact h2 x hx
theorem zX {n:Int} (h:(Lit.int .i64 n).wf=true):bX n:=by simpa [bX,Lit.wf,IntKind.min,IntKind.max,IntKind.signed,IntKind.bits] using h
theorem BC {n:Nat} (h:n<=maxLen):n<=9223372036854775807:=by unfold maxLen at h; exact h
inductive Vl where
 | mk (k n:Int) (s:ByteArray) (l:List Vl) (f:List (Int × Vl))
instance:Inhabited Vl:=⟨.mk 0 0 ByteArray.empty [] []⟩
def Vl.k:Vl->Int | .mk k _ _ _ _=>k
def Vl.n:Vl->Int | .mk _ n _ _ _=>n
def Vl.s:Vl->ByteArray | .mk _ _ s _ _=>s
def Vl.l:Vl->List Vl | .mk _ _ _ l _=>l
def Vl.f:Vl->List (Int × Vl) | .mk _ _ _ _ f=>f
mutual
def xO:Vl->List C
 | .mk k n s l f=>[.vl (.int .i64 k),.vl (.int .i64 n),.vl (.string s),.fz (m0 l),.fz (mU f)]
def m0:List Vl->List (List C)
 | []=>[]
 | v :: r=>xO v :: m0 r
def mU:List (Int × Vl)->List (List C)
 | []=>[]
 | (i,v) :: r=>(.vl (.int .i64 i) :: xO v) :: mU r
end
mutual
theorem wM:∀ {a b:Vl},xO a=xO b->a=b
 | .mk k n s l f,.mk k' n' s' l' f',h=>by
  rw [xO,xO] at h
  simp only [List.cons.injEq,C.vl.injEq,Value.int.injEq,Value.string.injEq,C.fz.injEq,true_and,and_true] at h
  obtain ⟨rfl,rfl,rfl,h4,h5⟩:=h
  rw [zP h4,AR h5]
theorem zP:∀ {a b:List Vl},m0 a=m0 b->a=b
 | [],[],_=>rfl
 | [],_ :: _,h=>by rw [m0,m0] at h; cases h
 | _ :: _,[],h=>by rw [m0,m0] at h; cases h
 | x :: a,y :: b,h=>by
  rw [m0,m0] at h
  obtain ⟨h1,h2⟩:=List.cons.inj h
  rw [wM h1,zP h2]
theorem AR:∀ {a b:List (Int × Vl)},mU a=mU b->a=b
 | [],[],_=>rfl
 | [],(_,_) :: _,h=>by rw [mU,mU] at h; cases h
 | (_,_) :: _,[],h=>by rw [mU,mU] at h; cases h
 | (i,x) :: a,(j,y) :: b,h=>by
  rw [mU,mU] at h
  obtain ⟨h1,h2⟩:=List.cons.inj h
  obtain ⟨h3,h4⟩:=List.cons.inj h1
  have e:i=j:=by simpa using h3
  rw [e,wM h4,AR h2]
end
noncomputable def C.vv:=pE xO
@[go_sem] theorem aEF (v:Vl):C.vv (xO v)=v:=jF wM v
mutual
def Vl.h:Vl->Nat
 | .mk _ _ _ l f=>max (Vl.hl l) (Vl.hf f) + 1
def Vl.hl:List Vl->Nat
 | []=>0
 | v :: r=>max v.h (Vl.hl r)
def Vl.hf:List (Int × Vl)->Nat
 | []=>0
 | (_,v) :: r=>max v.h (Vl.hf r)
end
theorem Vl.h_pos (v:Vl):0 < v.h:=by cases v; rw [Vl.h]; omega
inductive VlOk:Vl->Prop
 | mk {k n:Int} {s:ByteArray} {l:List Vl} {f:List (Int × Vl)}:bX k->bX n->s.size<=9223372036854775807->l.length * 80<=140737488355328->f.length * 88<=140737488355328->(∀ v ∈ l,VlOk v)->(∀ x ∈ f,bX x.1)->(∀ x ∈ f,VlOk x.2)->VlOk (.mk k n s l f)
theorem VlOk.k {v:Vl} (h:VlOk v):bX v.k:=by cases h; assumption
theorem VlOk.n {v:Vl} (h:VlOk v):bX v.n:=by cases h; assumption
theorem VlOk.s {v:Vl} (h:VlOk v):v.s.size<=9223372036854775807:=by cases h; assumption
theorem VlOk.l {v:Vl} (h:VlOk v):∀ x ∈ v.l,VlOk x:=by cases h; assumption
theorem VlOk.fn {v:Vl} (h:VlOk v):∀ x ∈ v.f,bX x.1:=by cases h; assumption
theorem VlOk.f {v:Vl} (h:VlOk v):∀ x ∈ v.f,VlOk x.2:=by cases h; assumption
theorem sU {H:Type} {d:DataW H}:∀ {l:List (DataW H)},d ∈ l->Rows.uptoBulk d<=Rows.uptoBulkAll l
 | x :: r,h=>by
  simp only [Rows.uptoBulkAll]
  rcases List.mem_cons.1 h with rfl | e
  · omega
  · have:=sU e; omega
theorem BT {H:Type} (d:DataW H):0 < Rows.uptoBulk d:=by
 cases d with
 | lit l=>cases l<;>simp [Rows.uptoBulk]
 | _=>simp [Rows.uptoBulk]
theorem yG {H:Type}:∀ l:List (DataW H),l.length<=Rows.uptoBulkAll l
 | []=>Nat.zero_le _
 | d :: l=>by have:=yG l; have:=BT d; simp only [Rows.uptoBulkAll,List.length_cons]; omega
inductive FitB (P:Program):TypeId->List C->Nat->Prop
 | int {t:TypeId} {k:IntKind} {n:Int} {m:Nat}:P.underlying t=some (.int k)->(Lit.int k n).wf=true->FitB P t [.vl (.int k n)] m
 | bool {t:TypeId} {b:Bool} {m:Nat}:P.underlying t=some .bool->FitB P t [.vl (.bool b)] m
 | str {t:TypeId} {s:ByteArray} {m:Nat}:P.underlying t=some .string->s.size<=maxLen->FitB P t [.vl (.string s)] m
 | sl {t e:TypeId} {xs:List (List C)} {m:Nat}:P.underlying t=some (.slice e)->xs.length<=maxLen->xs.length<=m->(∀ r ∈ xs,FitB P e r m)->FitB P t [.fz xs] (m + 1)
 | st {t:TypeId} {fs:Array Field} {parts:List (List C)} {m:Nat}:P.underlying t=some (.struct fs)->parts.length=fs.size->(∀ (i:Nat) (f:Field) (p:List C),fs[i]? = some f->parts[i]? = some p->FitB P f.type p m)->FitB P t parts.flatten (m + 1)
theorem FitB.fit {P:Program} {t:TypeId} {xs:List C} {m:Nat} (h:FitB P t xs m):Fit P t xs:=by
 induction h with
 | int h1 h2=>exact .int h1 h2
 | bool h1=>exact .bool h1
 | str h1 h2=>exact .str h1 h2
 | sl h1 h2 _ _ ih=>exact .sl h1 h2 ih
 | st h1 h2 _ ih=>exact .st h1 h2 ih
theorem FitB.mono {P:Program} {t:TypeId} {xs:List C} {m:Nat} (h:FitB P t xs m):∀ {n:Nat},m<=n->FitB P t xs n:=by
 induction h with
 | int h1 h2=>exact fun _=>.int h1 h2
 | bool h1=>exact fun _=>.bool h1
 | str h1 h2=>exact fun _=>.str h1 h2
 | @sl t e xs m h1 h2 h3 _ ih=>
  intro n hn
  obtain ⟨n,rfl⟩:∃ k,n=k + 1:=⟨n - 1,by omega⟩
  exact .sl h1 h2 (by omega) fun r hr=>ih r hr (by omega)
 | @st t fs parts m h1 h2 _ ih=>
  intro n hn
  obtain ⟨n,rfl⟩:∃ k,n=k + 1:=⟨n - 1,by omega⟩
  exact .st h1 h2 fun i f p hf hp=>ih i f p hf hp (by omega)
section
variable {P:Program} {t e:TypeId} {xs:List C} {m:Nat}
theorem FitB.inv_sl (ht:P.underlying t=some (.slice e)) (h:FitB P t xs (m + 1)):∃ ys:List (List C),xs=[.fz ys]/\ys.length<=m/\∀ r ∈ ys,FitB P e r m:=by
 generalize hm:m + 1=k at h
 cases h with
 | int h1 h2=>rw [ht] at h1; cases h1
 | bool h1=>rw [ht] at h1; cases h1
 | str h1=>rw [ht] at h1; cases h1
 | sl h1 h2 h3 h4=>rw [ht] at h1; cases h1; cases hm; exact ⟨_,rfl,h3,h4⟩
 | st h1 h2 h3=>rw [ht] at h1; cases h1
theorem FitB.inv_st {fs:Array Field} (ht:P.underlying t=some (.struct fs)) (h:FitB P t xs (m + 1)):∃ parts:List (List C),xs=parts.flatten/\parts.length=fs.size/\∀ (i:Nat) (f:Field) (p:List C),fs[i]? = some f->parts[i]? = some p->FitB P f.type p m:=by
 generalize hm:m + 1=k at h
 cases h with
 | int h1 h2=>rw [ht] at h1; cases h1
 | bool h1=>rw [ht] at h1; cases h1
 | str h1=>rw [ht] at h1; cases h1
 | sl h1=>rw [ht] at h1; cases h1
 | st h1 h2 h3=>rw [ht] at h1; cases h1; cases hm; exact ⟨_,rfl,h2,h3⟩
theorem FitB.inv_sl' (ht:P.underlying t=some (.slice e)) (h:FitB P t xs m):∃ ys:List (List C),xs=[.fz ys]/\ys.length<=m/\∀ r ∈ ys,FitB P e r m:=by
 obtain ⟨ys,h1,h2,h3⟩:=FitB.inv_sl ht (h.mono (Nat.le_succ m))
 exact ⟨ys,h1,h2,h3⟩
theorem FitB.inv_st' {fs:Array Field} (ht:P.underlying t=some (.struct fs)) (h:FitB P t xs m):∃ parts:List (List C),xs=parts.flatten/\parts.length=fs.size/\∀ (i:Nat) (f:Field) (p:List C),fs[i]? = some f->parts[i]? = some p->FitB P f.type p m:=
 FitB.inv_st ht (h.mono (Nat.le_succ m))
end
section
variable {H:Type} {enc:TypeId × Value->H} {P:Program} {W:World} {ts:List TypeId}
theorem lF (hok:FY P ts=true):∀ (n:Nat) (t:TypeId) (cs:List Value) (y:DataW H × List MemPlace),t ∈ ts->DataW.trod enc P W 0 (fun _=>true) true n t cs=some y->
 ∃ xs,FitB P t xs (Rows.uptoBulk y.1)/\All2 (C.fv (lG W)) xs cs/\∀ c ∈ xs,c.shut=true
 | 0,t,cs,y,_,h=>by simp [DataW.trod] at h
 | n + 1,t,cs,y,ht,h=>by
  have h1:=List.all_eq_true.1 hok t ht
  split at h1
  · rename_i k hu
    obtain ⟨m,rfl,_,hw⟩:=DataW.trod_int hu h
    exact ⟨_,.int hu hw,.cons rfl .nil,fun c hc=>by simp at hc; subst hc; rfl⟩
  · rename_i hu
    obtain ⟨b,rfl,_⟩:=DataW.trod_bool hu h
    exact ⟨_,.bool hu,.cons rfl .nil,fun c hc=>by simp at hc; subst hc; rfl⟩
  · rename_i hu
    obtain ⟨s,rfl,_,hs⟩:=DataW.trod_string hu h
    exact ⟨_,.str hu hs,.cons rfl .nil,fun c hc=>by simp at hc; subst hc; rfl⟩
  · rename_i e hu
    simp only [Bool.and_eq_true,List.contains_iff_mem,decide_eq_true_eq] at h1
    obtain ⟨he,hpos⟩:=h1
    rcases DataW.trod_slice hu h with ⟨rfl,hy⟩ | ⟨a,len,cap,elems,rest,n',hn',rfl,hy,_,hl,hm,hel,hi,_⟩
    · refine ⟨_,(FitB.sl (m:=0) hu (Nat.zero_le _) (Nat.zero_le _) (fun r hr=>by cases hr)).mono (BT _),.cons (QS _) .nil,fun c hc=>by simp at hc; subst hc; rfl⟩
    · obtain rfl:n=n':=by omega
      subst hy
      have hbk:Rows.uptoBulk (DataW.slice (elems.map (·.1)) (rest.map (·.1)))=Rows.uptoBulkAll (elems.map (·.1)) + Rows.uptoBulkAll (rest.map (·.1)) + 1:=by simp only [Rows.uptoBulk]
      generalize hM:Rows.uptoBulkAll (elems.map (·.1)) + Rows.uptoBulkAll (rest.map (·.1))=M at hbk
      show ∃ xs,FitB P t xs (Rows.uptoBulk (DataW.slice (elems.map (·.1)) (rest.map (·.1))))/\_
      rw [hbk]
      have hlM:len<=M:=by
       have:=yG (elems.map (·.1))
       rw [List.length_map,hel] at this
       omega
      have hall:∀ i,i < len->∃ x:List C,FitB P e x M/\x.length=P.cellsOf e/\(∀ j c,x[j]? = some c->∃ v,W.cell? ((a.add (i * P.cellsOf e)).add j)=some v/\c.fv (lG W) v/\c.shut=true):=fun i hil=>by
       have h1:=hi i hil
       rw [aU (by omega)] at h1
       obtain ⟨cs',h2,h3⟩:=Option.bind_eq_some_iff.1 h1
       obtain ⟨x,h4,h5,h6⟩:=lF hok n e cs' _ he h3
       obtain ⟨_,h7,h8⟩:=World.cells?_some h2
       refine ⟨x,h4.mono ?_,h5.1.trans h7,fun j c hj=>?_⟩
       · have:=sU (List.mem_map_of_mem (f:=(·.1)) (List.getElem_mem (show i < elems.length by omega)))
         omega
       obtain ⟨v,h9,h10⟩:=h5.get hj
       have hjl:j < P.cellsOf e:=by rw [<-h7,<-h5.1]; exact (aW.1 hj).1
       refine ⟨v,?_,h10,h6 c (bI hj)⟩
       have:=h8 j hjl
       rwa [h9] at this
      by_cases h0:len=0
      · subst h0
        refine ⟨[.fz []],.sl hu (Nat.zero_le _) (Nat.zero_le _) (fun r hr=>by cases hr),.cons ?_ .nil,fun c hc=>by simp at hc; subst hc; rfl⟩
        exact GU (b:=0) (off:=0) (fun h=>absurd rfl h) hpos (fun _=>[]) (fun i hi=>by omega) (Nat.zero_le _) (fun i hi=>by omega)
      · obtain ⟨x0,_,hx0l,hx0⟩:=hall 0 (by omega)
        have hsp:a.spot=none:=by
         have hx:∃ c,x0[0]? = some c:=⟨_,aU (by omega)⟩
         obtain ⟨c,hc⟩:=hx
         obtain ⟨v,hv,_⟩:=hx0 0 c hc
         unfold World.cell? at hv
         split at hv
         · split at hv
           · cases hv
           · rename_i hs; simpa [Addr.add] using hs
         · cases hv
        obtain ⟨b,off,spot⟩:=a
        obtain rfl:spot=none:=hsp
        haveI:Inhabited (List C):=⟨[]⟩
        obtain ⟨X,hX⟩:=Go.Deep.choose_lt hall
        refine ⟨[.fz ((List.range len).map X)],.sl hu (by simp; omega) (by simpa using hlM) (fun r hr=>?_),.cons ?_ .nil,fun c hc=>by simp at hc; subst hc; rfl⟩
        · obtain ⟨i,hi,rfl⟩:=List.mem_map.1 hr
          exact (hX i (List.mem_range.1 hi)).1
        · exact GU (fun _=>rfl) hpos X (fun i hi=>(hX i hi).2.1) hl (fun i hi j c hj=>by
           obtain ⟨v,h2,h3⟩:=(hX i hi).2.2 j c hj
           exact ⟨v,by simpa [Go.WideShapes.add_plain,Nat.add_assoc] using h2,h3⟩)
  · rename_i fs hu
    simp only [Bool.and_eq_true,List.all_eq_true,List.contains_iff_mem,beq_iff_eq] at h1
    obtain ⟨hft,hof⟩:=h1
    obtain ⟨ys,n',hn,hy,hcl,hyl,hf⟩:=DataW.trod_struct hu h
    obtain rfl:n=n':=by omega
    subst hy
    show ∃ xs,FitB P t xs (Rows.uptoBulk (DataW.agg (ys.map (·.1))))/\_
    rw [show Rows.uptoBulk (DataW.agg (ys.map (·.1)))=Rows.uptoBulkAll (ys.map (·.1)) + 1 by simp only [Rows.uptoBulk]]
    obtain ⟨parts,k1,k2,k3⟩:=RI (P:=P) (R:=fun c v=>C.fv (lG W) c v/\c.shut=true) (Q:=fun f p=>FitB P f.type p (Rows.uptoBulkAll (ys.map (·.1)))) (cs:=cs) fs.toList 0 (by rw [hcl]; exact hof) (fun i f hfi=>by
     have hfi':fs[i]? = some f:=by simpa using hfi
     have h2:=hf i f hfi'
     have hil:i < fs.size:=(Array.getElem?_eq_some_iff.1 hfi').1
     rw [aU (by omega)] at h2
     obtain ⟨x,h4,h5,h6⟩:=lF hok n f.type _ _ (hft f (bI hfi)) h2
     exact ⟨x,h4.mono (sU (List.mem_map_of_mem (f:=(·.1)) (List.getElem_mem (show i < ys.length by omega)))),⟨h5.1,fun j c v hc hv=>⟨h5.2 j c v hc hv,h6 c (bI hc)⟩⟩⟩)
    refine ⟨parts.flatten,.st hu (by simpa using k1) (fun i f p hfi hp=>k2 i f p (by simpa using hfi) hp),?_,fun c hc=>?_⟩
    · simpa using k3.imp (fun _ _ h=>h.1)
    · obtain ⟨j,hj⟩:=List.mem_iff_getElem?.1 hc
      obtain ⟨v,_,_,h3⟩:=k3.get hj
      exact h3
  · cases h1
theorem CU (hok:FY P ts=true) {t:TypeId} {v:Value} {d:DataW H} {ps:List MemPlace} (ht:t ∈ ts) (h:DataW.Trod enc P W 0 (fun _=>true) true t v d ps):∃ xs,FitB P t xs (Rows.uptoBulk d)/\All2 (C.fv (lG W)) xs v.cells.toList/\∀ c ∈ xs,c.shut=true:=by
 obtain ⟨n,h⟩:=h
 exact lF hok n t _ _ ht h
end
theorem WO:∀ {t:TypeId} {cs:List C} {m:Nat},FitB Tryz.prog t cs m->m<=1048576->(t=37->∃ a,cs=aP a/\TyOk a/\TySm a/\(bM a).1<=m)/\(t=35->∃ l:List Ty,cs=[.fz (l.map aP)]/\l.length<=m/\∀ a ∈ l,TyOk a/\TySm a/\(bM a).1 + 1<=m):=by
 intro t cs m h
 induction h with
 | int h1 _=>exact fun _=>⟨fun e=>(by rw [e,IC] at h1; cases h1),fun e=>(by rw [e,HO] at h1; cases h1)⟩
 | bool h1=>exact fun _=>⟨fun e=>(by rw [e,IC] at h1; cases h1),fun e=>(by rw [e,HO] at h1; cases h1)⟩
 | str h1 _=>exact fun _=>⟨fun e=>(by rw [e,IC] at h1; cases h1),fun e=>(by rw [e,HO] at h1; cases h1)⟩
 | @sl t e xs m h1 h2 h3 h4 ih=>
  intro hm
  refine ⟨fun e=>(by rw [e,IC] at h1; cases h1),fun e=>?_⟩
  subst e
  rw [HO] at h1
  cases h1
  obtain ⟨l,rfl,hl⟩:=lB (row:=aP) (Q:=fun a=>TyOk a/\TySm a/\(bM a).1<=m) fun r hr=>(ih r hr (by omega)).1 rfl
  exact ⟨l,rfl,by simp at h3; omega,fun a ha=>⟨(hl a ha).1,(hl a ha).2.1,Nat.succ_le_succ (hl a ha).2.2⟩⟩
 | @st t fs parts m h1 h2 h3 ih=>
  intro hm
  refine ⟨fun e=>?_,fun e=>(by rw [e,HO] at h1; cases h1)⟩
  subst e
  rw [IC] at h1
  cases h1
  match parts,h2 with
  | [p0,p1,p2,p3],_=>
   obtain ⟨k,rfl,hk⟩:=Fit.inv_int v3 (h3 0 _ p0 rfl rfl).fit
   obtain ⟨s,rfl,hs⟩:=Fit.inv_int v3 (h3 1 _ p1 rfl rfl).fit
   obtain ⟨n,rfl,hn⟩:=Fit.inv_str v9 (h3 2 _ p2 rfl rfl).fit
   obtain ⟨l,rfl,hl,ho⟩:=(ih 3 _ p3 rfl rfl (by omega)).2 rfl
   refine ⟨.mk k s n l,by rw [aP,aT]; rfl,.mk (zX hk) (zX hs) (BC hn) (by omega) fun a ha=>(ho a ha).1,.mk (by omega) fun a ha=>(ho a ha).2.1,?_⟩
   rw [bM]
   cases k == 5 with
   | false=>exact Nat.zero_le _
   | true=>
    show (BL l _).1<=m + 1
    cases l with
    | nil=>rw [BL]; exact Nat.zero_le _
    | cons u r=>rw [BL]; have:=(ho u List.mem_cons_self).2.2; show (bM u).1 + 1<=m + 1; omega
theorem QK (m:Nat) (hm:m<=1048576) (cs:List C) (h:FitB Tryz.prog 37 cs m):∃ a,cs=aP a/\TyOk a/\TySm a/\(bM a).1<=m:=(WO h hm).1 rfl
theorem PX {m:Nat} (hm:m<=1048576) {cs:List C} (h:FitB Tryz.prog 64 cs m):∃ a:Fl,cs=aZ a/\a.ok/\TySm a.ty/\(bM a.ty).1<=1000000000:=by
 obtain ⟨parts,rfl,h2,h3⟩:=FitB.inv_st' v53 h
 match parts,h2 with
 | [p0,p1,p2,p3],_=>
  obtain ⟨k,rfl,hk⟩:=Fit.inv_int v3 (h3 0 _ p0 rfl rfl).fit
  obtain ⟨n,rfl,hn⟩:=Fit.inv_str v9 (h3 1 _ p1 rfl rfl).fit
  obtain ⟨t,rfl,ht,hs,hl⟩:=QK _ hm _ (h3 2 _ p2 rfl rfl)
  obtain ⟨b,rfl⟩:=Fit.inv_bool v4 (h3 3 _ p3 rfl rfl).fit
  exact ⟨⟨k,n,t,b⟩,by rw [bJ]; rfl,⟨zX hk,BC hn,ht⟩,hs,by show (bM t).1<=_; omega⟩
theorem ST {m:Nat} (hm:m<=1048576) {cs:List C} (h:FitB Tryz.prog 56 cs m):∃ a:St,cs=aK a/\a.ok/\a.fs.length<=1000000000/\(∀ f ∈ a.fs,TySm f.ty)/\∀ f ∈ a.fs,(bM f.ty).1<=1000000000:=by
 obtain ⟨parts,rfl,h2,h3⟩:=FitB.inv_st' v32 h
 match parts,h2 with
 | [p0,p1],_=>
  obtain ⟨n,rfl,hn⟩:=Fit.inv_str v9 (h3 0 _ p0 rfl rfl).fit
  obtain ⟨ys,rfl,hl,hy⟩:=FitB.inv_sl' v30 (h3 1 _ p1 rfl rfl)
  obtain ⟨l,rfl,ho⟩:=lB (row:=aZ) (Q:=fun f=>f.ok/\TySm f.ty/\(bM f.ty).1<=1000000000) fun r hr=>PX hm (hy r hr)
  rw [List.length_map] at hl
  exact ⟨⟨n,l⟩,rfl,⟨BC hn,by show l.length<=_; omega,fun f hf=>(ho f hf).1⟩,by show l.length<=_; omega,fun f hf=>(ho f hf).2.1,fun f hf=>(ho f hf).2.2⟩
theorem SC {m:Nat} (hm:m<=1048576) {cs:List C} (h:FitB Tryz.prog 62 cs m):∃ a:En,cs=aN a/\a.ok/\a.ns.length<=1000000000/\a.vs.length<=1000000000:=by
 obtain ⟨parts,rfl,h2,h3⟩:=FitB.inv_st' v47 h
 match parts,h2 with
 | [p0,p1,p2],_=>
  obtain ⟨n,rfl,hn⟩:=Fit.inv_str v9 (h3 0 _ p0 rfl rfl).fit
  obtain ⟨ys,rfl,hl,hy⟩:=FitB.inv_sl' v35 (h3 1 _ p1 rfl rfl)
  obtain ⟨zs,rfl,hl2,hz⟩:=FitB.inv_sl' v45 (h3 2 _ p2 rfl rfl)
  obtain ⟨l,rfl,ho⟩:=lB (row:=a8) (Q:=fun b=>b.size<=9223372036854775807) fun r hr=>by
   obtain ⟨s,rfl,hs⟩:=Fit.inv_str v9 (hy r hr).fit; exact ⟨s,rfl,BC hs⟩
  obtain ⟨k,rfl,hk⟩:=lB (row:=c7) (Q:=bX) fun r hr=>by
   obtain ⟨s,rfl,hs⟩:=Fit.inv_int v3 (hz r hr).fit; exact ⟨s,rfl,zX hs⟩
  rw [List.length_map] at hl hl2
  exact ⟨⟨n,l,k⟩,rfl,⟨BC hn,by show l.length<=_; omega,by show k.length<=_; omega,ho,hk⟩,by show l.length<=_; omega,by show k.length<=_; omega⟩
theorem SG (m:Nat) (hm:m<=1048576) (cs:List C) (h:FitB Tryz.prog 25 cs m):∃ a:Sc,cs=aA a/\a.fit:=by
 obtain ⟨parts,rfl,h2,h3⟩:=FitB.inv_st' v25 h
 match parts,h2 with
 | [p0,p1,p2],_=>
  obtain ⟨n,rfl,hn⟩:=Fit.inv_int v3 (h3 0 _ p0 rfl rfl).fit
  obtain ⟨ys,rfl,hl,hy⟩:=FitB.inv_sl' v22 (h3 1 _ p1 rfl rfl)
  obtain ⟨zs,rfl,hl2,hz⟩:=FitB.inv_sl' v23 (h3 2 _ p2 rfl rfl)
  obtain ⟨l,rfl,ho⟩:=lB (row:=aN) (Q:=fun e:En=>e.ok/\e.ns.length<=1000000000/\e.vs.length<=1000000000) fun r hr=>SC hm (hy r hr)
  obtain ⟨k,rfl,hk⟩:=lB (row:=aK) (Q:=fun a:St=>a.ok/\a.fs.length<=1000000000/\(∀ f ∈ a.fs,TySm f.ty)/\∀ f ∈ a.fs,(bM f.ty).1<=1000000000) fun r hr=>ST hm (hz r hr)
  rw [List.length_map] at hl hl2
  exact ⟨⟨n,l,k⟩,rfl,⟨⟨zX hn,by show l.length<=_; omega,by show k.length<=_; omega,fun e he=>(ho e he).1,fun t ht=>(hk t ht).1⟩,fun t ht=>(hk t ht).2.2.2,fun t ht=>⟨(hk t ht).2.1,(hk t ht).2.2.1⟩,fun e he=>(ho e he).2⟩⟩
end Go.Proofs.YtgogpogophflhaaGreatDoor
