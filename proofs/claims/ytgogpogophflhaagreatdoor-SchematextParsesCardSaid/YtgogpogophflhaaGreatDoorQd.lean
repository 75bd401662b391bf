/- Lemmas and walks for the proof. -/
import Derived.Test.YtgogpogophflhaaGreatDoorQc
import Derived.Shelf.Sort.Plain
import Derived.Shelf.Slices.In.SortNone
import Derived.Test.YtgogpogophflhaaGreatDoorProg
import Derived.Shelf.Strconv.Itoa3
set_option maxRecDepth 100000
set_option maxHeartbeats 8000000
namespace Go.Proofs.YtgogpogophflhaaGreatDoor
open Go.W
theorem iJ {P:Program} {f:FuncId} {s:W.Spec} {ι:Type} {t:ι->W.Spec} (i0:ι) (m:∀ i,Meets P f (t i)) (h:∀ av H K,s av H K->∃ i,t i av H K):Meets P f s:=⟨(m i0).1,by
 intro xs vl E ro w K h1 h2 h3 h4
 obtain ⟨i,hi⟩:=h _ _ _ h4
 exact (m i).2 xs vl E ro w K h1 h2 h3 hi⟩
def QK:W.Spec:=fun av H K=>∃ (ss:List St) (es:List En) (t:Ty) (ks:List Value) (vs:List St) (ks':List Value) (vs':List En),av=[n7,.va (.gs (aP t))]/\H=iD ks vs ks' vs'/\
 mJ ks vs ss/\DD ks' vs' es/\TyOk t/\K (bS (valF ss es t)) (iD ks vs ks' vs')
theorem X9:Meets Tryz.prog 112 QK:=iJ 0 QY fun _av _H _K ⟨ss,es,t,ks,vs,ks',vs',e1,e2,h4,h5,h6,hK⟩=>⟨t.h,ss,es,t,ks,vs,ks',vs',e1,e2,h4,h5,h6,Nat.le_refl _,hK⟩
theorem IN {ss:List St} {es:List En} {t:Ty} {ks:List Value} {vs:List St} {ks':List Value} {vs':List En} {K:S->Hp->Prop} (h1:mJ ks vs ss) (h2:DD ks' vs' es) (h3:TyOk t) (hK:K (bS (valF ss es t)) (iD ks vs ks' vs')) :
 QK [n7,.va (.gs (aP t))] (iD ks vs ks' vs') K:=⟨ss,es,t,ks,vs,ks',vs',rfl,rfl,h1,h2,h3,hK⟩
def l8 (ss:List St) (es:List En) (t:St) (k:Nat):Int:=match t.fs[k]? with
 | some f=>bif decide (f.num < 1) || decide (127 < f.num) then 4 else bif decide (0 < (k:Int)) && (match t.fs[k - 1]? with | some g=>decide (f.num<=g.num) | none=>false) then 2 else
  bif !(bX (bl f.nm)) then 5 else bif (t.fs.take k).any (fun g=>decide (g.nm=f.nm)) then 7 else bif !(valF ss es f.ty) then 13 else 0
 | none=>0
def p5 (ss:List St) (es:List En) (t:St):Int:=fE (l8 ss es t) (t.fs.length - 0) 0
def aB7:W.Spec:=fun av H K=>∃ (ss:List St) (es:List En) (t:St) (ks:List Value) (vs:List St) (ks':List Value) (vs':List En),av=[n7,.va (.gs (aL t))]/\H=iD ks vs ks' vs'/\
 mJ ks vs ss/\DD ks' vs' es/\t.ok/\K (iS .i64 (p5 ss es t)) (iD ks vs ks' vs')
theorem aBM {ss:List St} {es:List En} {t:St} {ks:List Value} {vs:List St} {ks':List Value} {vs':List En} {K:S->Hp->Prop} (h1:mJ ks vs ss) (h2:DD ks' vs' es) (h3:t.ok) (hK:K (iS .i64 (p5 ss es t)) (iD ks vs ks' vs')) :
 aB7 [n7,.va (.gs (aL t))] (iD ks vs ks' vs') K:=⟨ss,es,t,ks,vs,ks',vs',rfl,rfl,h1,h2,h3,hK⟩
theorem kM (f:Fl):[C.vl (.int .i64 f.ty.k),.vl (.int .i64 f.ty.s),.vl (.string f.ty.n),.fz (f.ty.e.map aP)]=aP f.ty:=(bM f.ty).symm
theorem GH:Meets Tryz.prog 77 aB7:=by
 refine aG Tryz.func77 aKT 2 (by rw [Tryz.ntmps77]; decide) (aA X9 (aI wN (aB _))) (fun av H K h=>by obtain ⟨_,_,_,_,_,_,_,rfl,_⟩:=h; rfl) ?_
 rintro av H K ⟨ss,es,t,ks,vs,ks',vs',rfl,rfl,h1,h2,h3,hK⟩
 have fin:∀ (x:Int) (R:Hp),p5 ss es t=x->W.Fin 2 K (iS .i64 x) (.map .string ks (vs.map j5) :: .map .string ks' (vs'.map kH) :: R):=fun x R h=>by
  rw [h] at hK
  exact .sel [0,1] (by simp) (by simp) rfl (.done (by simp -dsimp only [go_sem]; simpa using hK))
 obtain ⟨_,hl,hfs⟩:=h3
 simp -dsimp only [go_sem,aL,aCZ,aB9]
 refine aR (α:=Nat) (fun i=>[(2,.va (.c1 (.pt 2 0))),(3,.va (.c1 (.pt 3 0))),(10,.va (.c1 (.fz (t.fs.map bH)))),(11,iS .i64 t.fs.length),(12,iS .i64 i)]) (fun _=>[.map .string ks (vs.map j5),.map .string ks' (vs'.map kH),.cells [.mp 0,.mp 1] 117,.cells (aL t) 56])
  (fun i=>i<=t.fs.length/\fE (l8 ss es t) (t.fs.length - i) i=p5 ss es t) (fun i=>t.fs.length - i) 0 4 ⟨Nat.zero_le _,rfl⟩ ?_ ?_ ?_
 · simp -dsimp only [go_sem]<;>simp
 · simp -dsimp only [go_sem,aL]<;>simp
 rintro i ⟨hi,ho⟩
 rcases bL i t.fs.length with hlt | hge
 · have hg:decide ((i:Int) < (t.fs.length:Int))=true:=by simp; omega
   obtain ⟨f,hx⟩:∃ nm,t.fs[i]? = some nm:=⟨_,bB hlt⟩
   have q1:=aQ (row:=bH) hx
   have hf:f.ok:=hfs f (bW hx)
   have hA:l8 ss es t i=bif decide (f.num < 1) || decide (127 < f.num) then (4:Int) else bif decide (0 < (i:Int)) && (match t.fs[i - 1]? with | some g=>decide (f.num<=g.num) | none=>false) then 2 else
    bif !(bX (bl f.nm)) then 5 else bif (t.fs.take i).any (fun g=>decide (g.nm=f.nm)) then 7 else bif !(valF ss es f.ty) then 13 else 0:=by
    unfold l8; rw [hx]
   have fin':∀ (x:Int) (R:Hp),l8 ss es t i=x->x ≠ 0->W.Fin 2 K (iS .i64 x) (.map .string ks (vs.map j5) :: .map .string ks' (vs'.map kH) :: R):=fun x R h1 h2=>fin x R (by
    rw [<-ho,mB hlt (by rw [h1]; exact h2),h1])
   have dG:l8 ss es t i=0->fE (l8 ss es t) (t.fs.length - (i + 1)) (i + 1)=p5 ss es t:=fun h1=>by rw [<-ho,n9 hlt h1]
   cases c1:(decide (f.num < 1) || decide (127 < f.num)) with
   | true=>
    rw [c1] at hA
    simp (maxSteps:=9^6) -dsimp only [go_sem,hg,↓q1,bH,aL,c1]
    and_intros
    all_goals first
     | omega
     | exact fin' 4 _ hA (by decide)
   | false=>
    rw [c1] at hA
    simp only [aF] at hA
    rcases Nat.eq_zero_or_pos i with h0 | h0
    · have g1:decide (0 < (i:Int))=false:=by simp; omega
      rw [g1] at hA
      simp only [Bool.false_and,aF] at hA
      cases c3:bX (bl f.nm) with
      | false=>
       rw [c3] at hA
       simp (maxSteps:=9^6) -dsimp only [go_sem,hg,↓q1,bH,aL,c1,c3,g1]
       and_intros
       all_goals first
        | omega
        | exact fin' 5 _ hA (by decide)
        | trace_state
      | true=>
       rw [c3] at hA
       simp only [Bool.not_true,aF] at hA
       simp (maxSteps:=9^6) -dsimp only [go_sem,hg,↓q1,bH,aL,c1,c3,g1,iL,iQ MD]
       and_intros
       all_goals first
        | omega
        | skip
       have hlj:=pO t.fs i
       generalize hm:t.fs.take i=m at *
       refine aR (α:=Nat) (fun j=>[(2,.va (.c1 (.pt 2 0))),(3,.va (.c1 (.pt 3 0))),(6,.va (.c1 (.pt 4 0))),(10,.va (.c1 (.fz (t.fs.map bH)))),(11,iS .i64 t.fs.length),(12,iS .i64 i),(49,.va (.c1 (.fz (m.map bH)))),(50,iS .i64 m.length),(51,iS .i64 j)])
        (fun _=>[.map .string ks (vs.map j5),.map .string ks' (vs'.map kH),.cells [.mp 0,.mp 1] 117,.cells (aL t) 56,.cells (bH f) 64])
        (fun j=>j<=m.length/\(m.drop j).any (fun g=>decide (g.nm=f.nm))=m.any (fun g=>decide (g.nm=f.nm))) (fun j=>m.length - j) 0 5 ⟨Nat.zero_le _,rfl⟩ ?_ ?_ ?_
       · simp -dsimp only [go_sem]<;>simp
       · simp -dsimp only [go_sem,aL,bH]<;>simp
       rintro j ⟨hj,ho2⟩
       rcases bL j m.length with hjt | hjg
       · have hgj:decide ((j:Int) < (m.length:Int))=true:=by simp; omega
         obtain ⟨d,hd⟩:∃ e,m[j]? = some e:=⟨_,bB hjt⟩
         have q5:=aQ (row:=bH) hd
         rw [dJ hd] at ho2
         simp (maxSteps:=9^6) -dsimp only [go_sem,hgj,↓q5,bH,aL,dO]
         and_intros
         all_goals first
          | omega
          | skip
         · intro hc
           rw [hc,Bool.true_or] at ho2
           rw [<-ho2] at hA
           exact fin' 7 _ hA (by decide)
         · intro hc
           rw [hc,Bool.false_or] at ho2
           refine ⟨by omega,aC (j + 1) 5 ⟨by omega,ho2⟩ (by omega) ?_ ?_⟩
           · simp -dsimp only [go_sem]<;>simp
           · simp -dsimp only [go_sem,aL,bH]<;>simp
       · have hgj:decide ((j:Int) < (m.length:Int))=false:=by simp; omega
         obtain rfl:j=m.length:=by omega
         rw [fU] at ho2
         rw [<-ho2] at hA
         simp only [aF] at hA
         simp (maxSteps:=9^6) -dsimp only [go_sem,hgj,bH,aL,kM]
         refine IN h1 h2 hf.ty ?_
         cases c5:valF ss es f.ty with
         | true=>
          rw [c5] at hA
          simp (maxSteps:=9^6) -dsimp only [go_sem]
          refine ⟨by omega,aC (i + 1) 4 ⟨by omega,dG hA⟩ (by omega) ?_ ?_⟩
          · simp -dsimp only [go_sem]<;>simp
          · simp -dsimp only [go_sem,aL]<;>simp
         | false=>
          rw [c5] at hA
          simp (maxSteps:=9^6) -dsimp only [go_sem]
          exact fin' 13 _ hA (by decide)
    · have g1:decide (0 < (i:Int))=true:=by simp; omega
      obtain ⟨g,hy⟩:∃ m,t.fs[i - 1]? = some m:=⟨_,bB (by omega)⟩
      have q4:((i:Int) - 1).toNat=i - 1:=by omega
      rw [g1,hy,Bool.true_and] at hA
      simp only at hA
      cases c2:decide (f.num<=g.num) with
      | true=>
       rw [c2] at hA
       simp (maxSteps:=9^6) -dsimp only [go_sem,hg,↓q1,bH,aL,c1,g1,q4,hy,aH,forall_eq',c2]
       and_intros
       all_goals first
        | omega
        | exact fin' 2 _ hA (by decide)
        | trace_state
      | false=>
       rw [c2] at hA
       simp only [aF] at hA
       cases c3:bX (bl f.nm) with
       | false=>
        rw [c3] at hA
        simp (maxSteps:=9^6) -dsimp only [go_sem,hg,↓q1,bH,aL,c1,c3,g1,q4,hy,aH,forall_eq',c2]
        and_intros
        all_goals first
         | omega
         | exact fin' 5 _ hA (by decide)
         | trace_state
       | true=>
        rw [c3] at hA
        simp only [Bool.not_true,aF] at hA
        simp (maxSteps:=9^6) -dsimp only [go_sem,hg,↓q1,bH,aL,c1,c3,g1,q4,hy,aH,forall_eq',c2,iL,iQ MD]
        and_intros
        all_goals first
         | omega
         | skip
        have hlj:=pO t.fs i
        generalize hm:t.fs.take i=m at *
        refine aR (α:=Nat) (fun j=>[(2,.va (.c1 (.pt 2 0))),(3,.va (.c1 (.pt 3 0))),(6,.va (.c1 (.pt 4 0))),(10,.va (.c1 (.fz (t.fs.map bH)))),(11,iS .i64 t.fs.length),(12,iS .i64 i),(49,.va (.c1 (.fz (m.map bH)))),(50,iS .i64 m.length),(51,iS .i64 j)])
         (fun _=>[.map .string ks (vs.map j5),.map .string ks' (vs'.map kH),.cells [.mp 0,.mp 1] 117,.cells (aL t) 56,.cells (bH f) 64])
         (fun j=>j<=m.length/\(m.drop j).any (fun g=>decide (g.nm=f.nm))=m.any (fun g=>decide (g.nm=f.nm))) (fun j=>m.length - j) 0 5 ⟨Nat.zero_le _,rfl⟩ ?_ ?_ ?_
        · simp -dsimp only [go_sem]<;>simp
        · simp -dsimp only [go_sem,aL,bH]<;>simp
        rintro j ⟨hj,ho2⟩
        rcases bL j m.length with hjt | hjg
        · have hgj:decide ((j:Int) < (m.length:Int))=true:=by simp; omega
          obtain ⟨d,hd⟩:∃ e,m[j]? = some e:=⟨_,bB hjt⟩
          have q5:=aQ (row:=bH) hd
          rw [dJ hd] at ho2
          simp (maxSteps:=9^6) -dsimp only [go_sem,hgj,↓q5,bH,aL,dO]
          and_intros
          all_goals first
           | omega
           | skip
          · intro hc
            rw [hc,Bool.true_or] at ho2
            rw [<-ho2] at hA
            exact fin' 7 _ hA (by decide)
          · intro hc
            rw [hc,Bool.false_or] at ho2
            refine ⟨by omega,aC (j + 1) 5 ⟨by omega,ho2⟩ (by omega) ?_ ?_⟩
            · simp -dsimp only [go_sem]<;>simp
            · simp -dsimp only [go_sem,aL,bH]<;>simp
        · have hgj:decide ((j:Int) < (m.length:Int))=false:=by simp; omega
          obtain rfl:j=m.length:=by omega
          rw [fU] at ho2
          rw [<-ho2] at hA
          simp only [aF] at hA
          simp (maxSteps:=9^6) -dsimp only [go_sem,hgj,bH,aL,kM]
          refine IN h1 h2 hf.ty ?_
          cases c5:valF ss es f.ty with
          | true=>
           rw [c5] at hA
           simp (maxSteps:=9^6) -dsimp only [go_sem]
           refine ⟨by omega,aC (i + 1) 4 ⟨by omega,dG hA⟩ (by omega) ?_ ?_⟩
           · simp -dsimp only [go_sem]<;>simp
           · simp -dsimp only [go_sem,aL]<;>simp
          | false=>
           rw [c5] at hA
           simp (maxSteps:=9^6) -dsimp only [go_sem]
           exact fin' 13 _ hA (by decide)
 · have hg:decide ((i:Int) < (t.fs.length:Int))=false:=by simp; omega
   obtain rfl:i=t.fs.length:=by omega
   rw [nM] at ho
   simp -dsimp only [go_sem,hg,aL]
   exact fin 0 _ ho.symm
abbrev iX (ns:List ByteArray):List Value:=ns.map Value.string
def jN:List ByteArray->ByteArray->Option Nat
 | [],_=>none
 | k :: ks,q=>bif decide (q=k) then some 0 else (jN ks q).map (· + 1)
theorem RG (a b:ByteArray):AM (.string a) (.string b)=decide (a=b):=by
 rw [Bool.eq_iff_iff,DE (d:=.string) (by simp [MapKept.IsKey]) (by simp [MapKept.IsKey])]; simp
theorem lO (q:ByteArray):∀ ns:List ByteArray,rA (iX ns) (.string q)=jN ns q
 | []=>rfl
 | k :: ks=>by
  have:=lO q ks
  simp only [iX,List.map_cons,rA,jN,RG] at this ⊢
  rw [this]
theorem nG {q:ByteArray}:∀ {ns:List ByteArray} {i:Nat},jN ns q=some i->ns[i]? = some q/\i < ns.length
 | [],_,h=>by cases h
 | k :: ks,i,h=>by
  simp only [jN] at h
  by_cases hk:q=k
  · simp [hk] at h; subst h; simp [hk]
  · simp [hk] at h
    obtain ⟨j,h1,rfl⟩:=h
    have:=nG h1
    simpa using this
theorem R3 (ns:List ByteArray) (q n:ByteArray):jN (ns ++ [q]) n=match jN ns n with | some i=>some i | none=>bif decide (n=q) then some ns.length else none:=by
 induction ns with
 | nil=>simp only [List.nil_append,jN,List.length_nil,Option.map_none]
 | cons k ks ih=>
  simp only [List.cons_append,jN,ih]
  by_cases hk:n=k
  · simp [hk]
  · simp only [hk,decide_false,cond_false]
    cases jN ks n with
    | some i=>rfl
    | none=>by_cases hq:n=q<;>simp [hq]
theorem rK {α:Type} (row:α->A) (ns:List ByteArray) (l:List α) (n:ByteArray):jX (iX ns) (l.map row) (.string n)=(jN ns n).bind fun i=>(l[i]?).map row:=by
 unfold jX; rw [lO]; simp only [List.getElem?_map]
theorem IM {α:Type} (row:α->A) {ns:List ByteArray} {l:List α} (h:ns.length=l.length) (q:ByteArray) (x:α):∃ (ns':List ByteArray) (l':List α),lA (iX ns) (.string q)=iX ns'/\mA (iX ns) (l.map row) (.string q) (row x)=l'.map row/\
 ns'.length=l'.length/\∀ n,jX (iX ns') (l'.map row) (.string n)=bif decide (n=q) then some (row x) else jX (iX ns) (l.map row) (.string n):=by
 cases hm:jN ns q with
 | none=>
  refine ⟨ns ++ [q],l ++ [x],?_,?_,by simp [h],fun n=>?_⟩
  · unfold lA; rw [lO,hm]; simp
  · unfold mA; rw [lO,hm]; simp
  · rw [rK,rK,R3]
    by_cases hn:n=q
    · subst hn; rw [hm]; simp [h]
    · simp only [hn,decide_false,cond_false]
      cases hs:jN ns n with
      | none=>rfl
      | some i=>have:=(nG hs).2; simp [List.getElem?_append_left (show i < l.length by omega)]
 | some i=>
  obtain ⟨h1,h2⟩:=nG hm
  refine ⟨ns,l.set i x,?_,?_,by simp [h],fun n=>?_⟩
  · unfold lA; rw [lO,hm]
  · unfold mA; rw [lO,hm]; simp only [List.map_set]
  · rw [rK,rK]
    by_cases hn:n=q
    · subst hn; rw [hm]; simp [show i < l.length by omega]
    · simp only [hn,decide_false,cond_false]
      cases hs:jN ns n with
      | none=>rfl
      | some j=>
       have hj:=nG hs
       have:i ≠ j:=fun e=>hn (by subst e; rw [h1] at hj; exact (bK hj.1).symm)
       simp [List.getElem?_set,this]
theorem Y0 {ss:List St} {k:Nat} {x:St} (hx:ss[k]? = some x) (n:ByteArray):fS (ss.drop k) n=bif decide (n=x.nm) then some x else fS (ss.drop (k + 1)) n:=by
 obtain ⟨h,rfl⟩:=bC.1 hx
 rw [List.drop_eq_getElem_cons h]
 unfold fS
 rw [List.find?_cons]
 by_cases hn:n=ss[k].nm
 · simp [hn]
 · simp [hn,show ¬ ss[k].nm=n from fun e=>hn e.symm]
theorem SO {ss:List En} {k:Nat} {x:En} (hx:ss[k]? = some x) (n:ByteArray):pZ (ss.drop k) n=bif decide (n=x.nm) then some x else pZ (ss.drop (k + 1)) n:=by
 obtain ⟨h,rfl⟩:=bC.1 hx
 rw [List.drop_eq_getElem_cons h]
 unfold pZ
 rw [List.find?_cons]
 by_cases hn:n=ss[k].nm
 · simp [hn]
 · simp [hn,show ¬ ss[k].nm=n from fun e=>hn e.symm]
def aFQ:W.Spec:=fun av H K=>∃ s:Sc,av=[.va (.gs (aD s))]/\H=[]/\s.ok/\∀ ks vs ks' vs',mJ ks vs s.ss->DD ks' vs' s.es->K n7 (iD ks vs ks' vs')
theorem aFP {s:Sc} {K:S->Hp->Prop} (h:s.ok) (hK:∀ ks vs ks' vs',mJ ks vs s.ss->DD ks' vs' s.es->K n7 (iD ks vs ks' vs')):aFQ [.va (.gs (aD s))] [] K:=⟨s,rfl,rfl,h,hK⟩
abbrev nm2:B:=.cells [.vl (.map none),.vl (.map none)] 117
theorem SB:Meets Tryz.prog 75 aFQ:=by
 refine aG Tryz.func75 aMT 1 (by rw [Tryz.ntmps75]; decide) (aB _) (fun av H K h=>by obtain ⟨_,rfl,_⟩:=h; rfl) ?_
 rintro av H K ⟨s,rfl,rfl,hs,hK⟩
 obtain ⟨_,hle,hls,_,_⟩:=hs
 simp -dsimp only [go_sem,aD,aDG,aC5]
 refine ⟨by omega,aR (α:=Nat × List ByteArray × List St) (fun z=>[(1,.va (.c1 (.pt 0 0))),(2,.va (.c1 (.pt 1 0))),(3,.va (.c1 (.pt 4 0))),(4,iS .i64 ((z.1:Int) - 1))]) (fun z=>[.cells (aD s) 25,nm2,.map .string (iX z.2.1) (z.2.2.map j5),.map .string [] [],.cells [.mp 2,.mp 3] 117])
  (fun z=>z.1<=s.ss.length/\z.2.1.length=z.2.2.length/\∀ n,jX (iX z.2.1) (z.2.2.map j5) (.string n)=(fS (s.ss.drop z.1) n).map j5) (fun z=>z.1) (s.ss.length,[],[]) 5 ⟨Nat.le_refl _,rfl,fun n=>by rw [List.drop_length]; rfl⟩ ?_ ?_ ?_⟩
 · simp -dsimp only [go_sem]<;>simp
 · simp -dsimp only [go_sem,aD]<;>simp
 rintro ⟨m,ns,l⟩ ⟨hm,hnl,hg⟩
 simp only at hm hnl hg ⊢
 cases m with
 | zero=>
  have e0:decide (0<=((0:Nat):Int) - 1)=false:=rfl
  rw [List.drop_zero] at hg
  simp -dsimp only [go_sem,aD,e0]
  refine ⟨by omega,aR (α:=Nat × List ByteArray × List En) (fun z=>[(1,.va (.c1 (.pt 0 0))),(2,.va (.c1 (.pt 1 0))),(3,.va (.c1 (.pt 4 0))),(5,iS .i64 ((z.1:Int) - 1))]) (fun z=>[.cells (aD s) 25,nm2,.map .string (iX ns) (l.map j5),.map .string (iX z.2.1) (z.2.2.map kH),.cells [.mp 2,.mp 3] 117])
   (fun z=>z.1<=s.es.length/\z.2.1.length=z.2.2.length/\∀ n,jX (iX z.2.1) (z.2.2.map kH) (.string n)=(pZ (s.es.drop z.1) n).map kH) (fun z=>z.1) (s.es.length,[],[]) 5 ⟨Nat.le_refl _,rfl,fun n=>by rw [List.drop_length]; rfl⟩ ?_ ?_ ?_⟩
  · simp -dsimp only [go_sem]<;>simp
  · simp -dsimp only [go_sem,aD]<;>simp
  clear hnl hm
  rintro ⟨m,ms,j⟩ ⟨hm,hnl,hge⟩
  simp only at hm hnl hge ⊢
  cases m with
  | zero=>
   rw [List.drop_zero] at hge
   simp -dsimp only [go_sem,aD,e0]
   exact .sel [2,3] (by simp) (by simp) rfl (.done (by simp -dsimp only [go_sem]; simpa [go_sem] using hK (iX ns) l (iX ms) j hg hge))
  | succ k=>
   obtain ⟨x,hx⟩:∃ x,s.es[k]? = some x:=⟨_,bB (by omega)⟩
   have q2:=aQ (row:=aO) hx
   have e1:((k + 1:Nat):Int) - 1=(k:Int):=by omega
   have e2:decide (0<=(k:Int))=true:=by simp
   obtain ⟨ns',l',p1,p2,p3,p4⟩:=IM kH hnl x.nm x
   simp -dsimp only [go_sem,aD,e1,e2,↓q2,aO]
   refine ⟨by omega,by omega,by omega,aC (k,ns',l') 5 ⟨by simp only; omega,p3,fun n=>?_⟩ (Nat.lt_succ_self _) ?_ ?_⟩
   · simp only; rw [p4,SO hx,hge]; cases decide (n=x.nm)<;>rfl
   · simp -dsimp only [go_sem]<;>simp
   · simp -dsimp only [go_sem,aD,p1]<;>simp
     exact (congrArg (List.map (A.ren (iC 5))) p2).trans (ZE _ _)
 | succ k=>
  obtain ⟨x,hx⟩:∃ x,s.ss[k]? = some x:=⟨_,bB (by omega)⟩
  have q2:=aQ (row:=aL) hx
  have e1:((k + 1:Nat):Int) - 1=(k:Int):=by omega
  have e2:decide (0<=(k:Int))=true:=by simp
  obtain ⟨ns',l',p1,p2,p3,p4⟩:=IM j5 hnl x.nm x
  simp -dsimp only [go_sem,aD,e1,e2,↓q2,aL]
  refine ⟨by omega,by omega,by omega,aC (k,ns',l') 5 ⟨by simp only; omega,p3,fun n=>?_⟩ (Nat.lt_succ_self _) ?_ ?_⟩
  · simp only; rw [p4,Y0 hx,hg]; cases decide (n=x.nm)<;>rfl
  · simp -dsimp only [go_sem]<;>simp
  · simp -dsimp only [go_sem,aD,p1]<;>simp
    exact (congrArg (List.map (A.ren (iC 5))) p2).trans (YZ _ _)
mutual
def fQ:Ty->Ty
 | .mk k s n e=>bif k == 5 then HA e (.mk k s n e) else .mk k s n e
def HA:List Ty->Ty->Ty
 | [],d=>d
 | u :: r,d=>bif r.isEmpty then fQ u else d
end
def cD (t:Ty):Bool:=(fQ t).k == 6 || (fQ t).k == 7
def bV (t:Ty):ByteArray:=(fQ t).n
theorem vB {s:Int} {n:ByteArray} {u:Ty}:fQ (.mk 5 s n [u])=fQ u:=by simp [fQ,HA]
theorem r9 {k s:Int} {n:ByteArray} {e:List Ty} (h:(k == 5 && (e.length:Int) == 1)=false):fQ (.mk k s n e)=.mk k s n e:=by
 rw [fQ]
 cases hk:k == 5 with
 | false=>rfl
 | true=>
  rw [hk,Bool.true_and] at h
  match e,h with
  | [],_=>rfl
  | [u],h=>simp at h
  | u :: v :: r,_=>simp [HA]
def NH:W.Spec:=fun av H K=>match av,H with
 | [.va (.gs r)],[]=>fZ r/\K (.tu [.c1 (.vl (.string (bV (C.ty r)))),bA (cD (C.ty r))]) []
 | _,_=>False
theorem D0 {av:List S} {H:Hp} {K:S->Hp->Prop} (h:NH av H K):∃ t:Ty,av=[.va (.gs (aP t))]/\H=[]/\TyOk t/\K (.tu [.c1 (.vl (.string (bV t))),bA (cD t)]) []:=by
 unfold NH at h
 split at h
 · obtain ⟨⟨t,rfl,ht⟩,hK⟩:=h
   rw [jS] at hK
   exact ⟨t,rfl,rfl,ht,hK⟩
 · exact h.elim
attribute [go_sem ↓] NH
theorem BU (t:Ty):∀ c ∈ aP t,c.one:=by rw [bM]; simp [go_sem]
theorem aFK:Meets Tryz.prog 124 NH:=by
 refine aG Tryz.func124 aHF 1 (by rw [Tryz.ntmps124]; decide) (aB _) (fun av H K h=>by obtain ⟨_,rfl,_⟩:=D0 h; rfl) ?_
 intro av H K h
 obtain ⟨t,rfl,rfl,ht,hK⟩:=D0 h
 simp -dsimp only [go_sem,VC,V7]
 refine aR (α:=Ty) (fun z=>[(1,.va (.c1 (.pt 0 0)))]) (fun z=>[.cells (aP z) 37]) (fun z=>fQ z=fQ t) (fun z=>z.h) t 1 rfl ?_ ?_ ?_
 · simp -dsimp only [go_sem]<;>simp
 · simp -dsimp only [go_sem]<;>simp
 intro z hz
 cases z with
 | mk k s n e=>
 cases hc:(k == 5 && (e.length:Int) == 1) with
 | true=>
  simp only [Bool.and_eq_true,beq_iff_eq] at hc
  obtain ⟨rfl,hl⟩:=hc
  obtain ⟨u,rfl⟩:∃ u,e=[u]:=List.length_eq_one_iff.1 (by omega)
  rw [vB] at hz
  simp -dsimp only [go_sem,aP,aZ]
  refine ⟨fun _=>⟨⟨by omega,fun r hr=>by subst hr; exact dF u⟩,fun r hr=>?_⟩,fun h=>by simp at h⟩
  subst hr
  simp -dsimp only [go_sem,dF]
  refine ⟨BU u,aC u 1 hz (by simp only [Ty.h,Ty.hs]; omega) ?_ ?_⟩
  · simp -dsimp only [go_sem]<;>simp
  · simp -dsimp only [go_sem]<;>simp
 | false=>
  rw [r9 hc] at hz
  simp -dsimp only [go_sem,aP,aZ,hc]
  rw [bV,cD,<-hz] at hK
  exact .z ((by simpa [go_sem,Ty.n,Ty.k] using hK))
abbrev DZ:ByteArray->A:=fun _=>.c1 (.vl (.bool true))
@[go_sem] theorem aPH (f:Nat->Option Nat) (l:List ByteArray):(l.map DZ).map (A.ren f)=l.map DZ:=by rw [List.map_map]; rfl
@[go_sem] theorem aP9 (n:Nat) (xs:List (List C)) (l:List ByteArray):(l.map DZ).map (A.pub n xs)=l.map DZ:=by rw [List.map_map]; rfl
def bZ (go:St->List ByteArray->List ByteArray) (ss:List St) (o:List ByteArray) (f:Fl):List ByteArray:=
 bif !(cD f.ty) || cO o (bV f.ty) then o else match fS ss (bV f.ty) with
  | some t=>go t (o ++ [bV f.ty])
  | none=>o ++ [bV f.ty]
def cU (ss:List St):Nat->St->List ByteArray->List ByteArray
 | 0,_,o=>o
 | N + 1,t,o=>t.fs.foldl (bZ (cU ss N) ss) o
theorem sT (n:ByteArray):∀ ns:List ByteArray,(jN ns n).isSome=cO ns n
 | []=>rfl
 | k :: ks=>by
  have:=sT n ks
  unfold cO at this
  simp only [jN,cO,List.any_cons]
  by_cases h:n=k
  · simp [h]
  · simp [h,this]
theorem W4 (o:List ByteArray) (n:ByteArray):jX (iX o) (o.map DZ) (.string n)=bif cO o n then some (.c1 (.vl (.bool true))) else none:=by
 rw [rK,<-sT]
 cases h:jN o n with
 | none=>rfl
 | some i=>simp [bB (nG h).2]
theorem S6 {o:List ByteArray} {n:ByteArray} (h:cO o n=false):lA (iX o) (.string n)=iX (o ++ [n]):=by
 rw [<-sT] at h
 unfold lA; rw [lO]
 cases h2:jN o n with
 | none=>simp
 | some i=>rw [h2] at h; cases h
theorem SK {o:List ByteArray} {n:ByteArray} (h:cO o n=false):mA (iX o) (o.map DZ) (.string n) (.c1 (.vl (.bool true)))=(o ++ [n]).map DZ:=by
 rw [<-sT] at h
 unfold mA; rw [lO]
 cases h2:jN o n with
 | none=>simp
 | some i=>rw [h2] at h; cases h
def fresh:List St->List ByteArray->Nat
 | [],_=>0
 | s :: ss,o=>(bif cO o s.nm then 0 else 1) + fresh ss o
theorem LF (o p:List ByteArray) (n:ByteArray):cO (o ++ p) n=(cO o n || cO p n):=by simp [cO]
theorem qI (o p:List ByteArray):∀ ss:List St,fresh ss (o ++ p)<=fresh ss o
 | []=>Nat.le_refl _
 | s :: ss=>by
  have:=qI o p ss
  simp only [fresh,LF]
  cases cO o s.nm<;>cases cO p s.nm<;>simp only [Bool.or_true,Bool.or_false,aK,aF]<;>omega
theorem zE {o:List ByteArray} {n:ByteArray} {t:St} (hn:cO o n=false):∀ {ss:List St},fS ss n=some t->fresh ss (o ++ [n]) < fresh ss o
 | [],h=>by cases h
 | s :: ss,h=>by
  unfold fS at h
  rw [List.find?_cons] at h
  simp only [fresh,LF]
  by_cases hs:s.nm=n
  · have h1:=qI o [n] ss
    have h2:cO [n] s.nm=true:=by simp [cO,hs]
    have h3:cO o s.nm=false:=by rw [hs]; exact hn
    rw [h2,h3]; simp only [Bool.or_true,aK,aF]; omega
  · simp only [hs,decide_false] at h
    have:=zE hn h
    have h2:cO [n] s.nm=false:=by simp [cO,hs]
    rw [h2,Bool.or_false]
    omega
def Pfx (o p:List ByteArray):Prop:=∃ q,p=o ++ q
theorem Pfx.refl (o:List ByteArray):Pfx o o:=⟨[],by simp⟩
theorem Pfx.trans {a b c:List ByteArray} (h:Pfx a b) (k:Pfx b c):Pfx a c:=by
 obtain ⟨p,rfl⟩:=h; obtain ⟨q,rfl⟩:=k; exact ⟨p ++ q,by simp⟩
theorem Pfx.len {a b:List ByteArray} (h:Pfx a b):a.length<=b.length:=by obtain ⟨p,rfl⟩:=h; simp
theorem Pfx.fresh {ss:List St} {a b:List ByteArray} (h:Pfx a b):fresh ss b<=fresh ss a:=by obtain ⟨p,rfl⟩:=h; exact qI _ _ _
theorem qL {go:St->List ByteArray->List ByteArray} (hg:∀ t o,Pfx o (go t o)) (ss:List St) (o:List ByteArray) (f:Fl):Pfx o (bZ go ss o f):=by
 unfold bZ
 cases !(cD f.ty) || cO o (bV f.ty) with
 | true=>exact .refl _
 | false=>
  cases fS ss (bV f.ty) with
  | none=>exact ⟨_,rfl⟩
  | some t=>exact Pfx.trans ⟨_,rfl⟩ (hg _ _)
theorem sM {g:List ByteArray->Fl->List ByteArray} (hg:∀ o f,Pfx o (g o f)):∀ (l:List Fl) (o:List ByteArray),Pfx o (l.foldl g o)
 | [],_o=>.refl _
 | f :: l,o=>(hg o f).trans (sM hg l _)
theorem mQ (ss:List St):∀ (N:Nat) (t:St) (o:List ByteArray),Pfx o (cU ss N t o)
 | 0,_,_o=>.refl _
 | N + 1,t,o=>sM (fun o f=>qL (mQ ss N) ss o f) t.fs o
abbrev IL (ks:List Value) (vs:List St) (ks':List Value) (vs':List En) (o:List ByteArray):Hp:=
 [.map .string ks (vs.map j5),.map .string ks' (vs'.map kH),.cells [.mp 0,.mp 1] 117,.map .string (iX o) (o.map DZ),.cells [.mp 3] 154,.cells [.sl 7 o.length] 52,.cells [.fn 123 [(false,[.pt 4 0]),(false,[.pt 5 0]),(false,[.pt 2 0]),(false,[.pt 6 0])]] 155,.row (o.map bQ) 9 1]
def UQ (N:Nat):W.Spec:=fun av H K=>∃ (ss:List St) (t:St) (ks:List Value) (vs:List St) (ks':List Value) (vs':List En) (o:List ByteArray),av=[.va (.gs (aL t)),.va (.c1 (.pt 4 0)),.va (.c1 (.pt 5 0)),.va (.c1 (.pt 2 0)),.va (.c1 (.pt 6 0))]/\H=IL ks vs ks' vs' o/\
 mJ ks vs ss/\(∀ s ∈ ss,s.ok)/\t.ok/\fresh ss o < N/\(cU ss N t o).length<=1000000000/\K (.tu []) (IL ks vs ks' vs' (cU ss N t o))
theorem CM {N:Nat} {ss:List St} {t:St} {ks:List Value} {vs:List St} {ks':List Value} {vs':List En} {o:List ByteArray} {K:S->Hp->Prop} {H:Hp} (hH:H=IL ks vs ks' vs' o) (h1:mJ ks vs ss) (h2:∀ s ∈ ss,s.ok) (h3:t.ok) (h4:fresh ss o < N) (h5:(cU ss N t o).length<=1000000000) (hK:K (.tu []) (IL ks vs ks' vs' (cU ss N t o))) :
 UQ N [.va (.gs (aL t)),.va (.c1 (.pt 4 0)),.va (.c1 (.pt 5 0)),.va (.c1 (.pt 2 0)),.va (.c1 (.pt 6 0))] H K:=⟨ss,t,ks,vs,ks',vs',o,rfl,hH,h1,h2,h3,h4,h5,hK⟩
theorem OS {g:List ByteArray->Fl->List ByteArray} {l:List Fl} {i:Nat} {f:Fl} (hx:l[i]? = some f) (o:List ByteArray):(l.drop i).foldl g o=(l.drop (i + 1)).foldl g (g o f):=by
 obtain ⟨h,rfl⟩:=bC.1 hx
 rw [List.drop_eq_getElem_cons h]; rfl
theorem QL:∀ N,Meets Tryz.prog 123 (UQ N)
 | 0=>⟨by kernel_rfl,by rintro xs vs E ro w K _ _ _ ⟨_,_,_,_,_,_,_,_,_,_,_,_,h,_⟩; exact absurd h (Nat.not_lt_zero _)⟩
 | N + 1=>by
  refine aG Tryz.func123 aG3 5 (by rw [Tryz.ntmps123]; decide) (aA (QL N) (aA aFK (aB _))) (fun av H K h=>by obtain ⟨_,_,_,_,_,_,_,rfl,_⟩:=h; rfl) ?_
  rintro av H K ⟨ss,t,ks,vs,ks',vs',o0,rfl,rfl,h1,h2,h3,h4,h5,hK⟩
  obtain ⟨_,hl,hfs⟩:=h3
  simp -dsimp only [go_sem,aL,WL,WQ]
  refine aR (α:=Nat × List ByteArray) (fun z=>[(1,.va (.c1 (.pt 4 0))),(2,.va (.c1 (.pt 5 0))),(3,.va (.c1 (.pt 2 0))),(4,.va (.c1 (.pt 6 0))),(13,.va (.c1 (.fz (t.fs.map bH)))),(14,iS .i64 t.fs.length),(15,iS .i64 z.1)]) (fun z=>IL ks vs ks' vs' z.2)
   (fun z=>z.1<=t.fs.length/\(t.fs.drop z.1).foldl (bZ (cU ss N) ss) z.2=cU ss (N + 1) t o0/\fresh ss z.2 < N + 1) (fun z=>t.fs.length - z.1) (0,o0) 8 ⟨Nat.zero_le _,rfl,h4⟩ ?_ ?_ ?_
  · simp -dsimp only [go_sem]<;>simp
  · simp -dsimp only [go_sem]<;>simp
  rintro ⟨i,o⟩ ⟨hi,ho,hfr⟩
  simp only at hi ho hfr ⊢
  rcases bL i t.fs.length with hlt | hge
  · have hg:decide ((i:Int) < (t.fs.length:Int))=true:=by simp; omega
    obtain ⟨f,hx⟩:∃ nm,t.fs[i]? = some nm:=⟨_,bB hlt⟩
    have q1:=aQ (row:=bH) hx
    have hf:f.ok:=hfs f (bW hx)
    rw [OS hx] at ho
    have ht:fZ (aP f.ty):=fK hf.ty
    cases c1:cD f.ty with
    | false=>
     simp (maxSteps:=9^6) -dsimp only [go_sem,hg,↓q1,bH,kM,ht,c1]
     have hv:bZ (cU ss N) ss o f=o:=by unfold bZ; rw [c1]; rfl
     rw [hv] at ho
     refine ⟨by omega,by omega,aC (i + 1,o) 8 ⟨by simp only; omega,ho,hfr⟩ (by simp only; omega) ?_ ?_⟩
     · simp -dsimp only [go_sem]<;>simp
     · simp -dsimp only [go_sem]<;>simp
    | true=>
    have hm:=W4 o (bV f.ty)
    cases c2:cO o (bV f.ty) with
    | true=>
     have hv:bZ (cU ss N) ss o f=o:=by unfold bZ; rw [c1,c2]; rfl
     rw [hv] at ho
     rw [c2] at hm
     simp only [aK] at hm
     simp (maxSteps:=9^6) -dsimp only [go_sem,hg,↓q1,bH,kM,ht,c1,hm]
     refine ⟨by omega,by omega,aC (i + 1,o) 8 ⟨by simp only; omega,ho,hfr⟩ (by simp only; omega) ?_ ?_⟩
     · simp -dsimp only [go_sem]<;>simp
     · simp -dsimp only [go_sem]<;>simp
    | false=>
     rw [c2] at hm
     simp only [aF] at hm
     have mk1:=S6 c2
     have mv1:=SK c2
     have hx1:=h1 (bV f.ty)
     have hb1:(bZ (cU ss N) ss o f).length<=1000000000:=by
      have:=(sM (fun o f=>qL (mQ ss N) ss o f) (t.fs.drop (i + 1)) (bZ (cU ss N) ss o f)).len
      rw [ho] at this; omega
     have hb:(o ++ [bV f.ty]).length<=1000000000:=by
      refine Nat.le_trans (Pfx.len ?_) hb1
      unfold bZ; rw [c1,c2]
      cases fS ss (bV f.ty) with
      | none=>exact .refl _
      | some t=>exact mQ _ _ _ _
     cases hs:fS ss (bV f.ty) with
     | none=>
      have hv:bZ (cU ss N) ss o f=o ++ [bV f.ty]:=by unfold bZ; rw [c1,c2,hs]; rfl
      rw [hv] at ho
      rw [hs] at hx1
      simp only [Option.map_none] at hx1
      simp (maxSteps:=9^6) -dsimp only [go_sem,hg,↓q1,bH,kM,ht,c1,hm,mk1,mv1,hx1]
      refine ⟨by omega,by simp at hb; omega,by omega,aC (i + 1,o ++ [bV f.ty]) 8 ⟨by simp only; omega,ho,by have:=qI o [bV f.ty] ss; simp only; omega⟩ (by simp only; omega) ?_ ?_⟩
      · simp -dsimp only [go_sem]<;>simp
      · simp -dsimp only [go_sem]<;>simp
     | some d=>
      have hv:bZ (cU ss N) ss o f=cU ss N d (o ++ [bV f.ty]):=by unfold bZ; rw [c1,c2,hs]; rfl
      rw [hv] at ho hb1
      rw [hs] at hx1
      simp only [Option.map_some] at hx1
      have hd:d.ok:=h2 d (List.mem_of_find?_eq_some hs)
      have hfl:=zE c2 hs
      simp (maxSteps:=9^6) -dsimp only [go_sem,hg,↓q1,bH,kM,ht,c1,hm,mk1,mv1,hx1,aL]
      refine ⟨by omega,by simp at hb; omega,CM (o:=o ++ [bV f.ty]) (ks':=ks') (vs':=vs') (by simp [go_sem]) h1 h2 hd (by omega) hb1 ?_⟩
      simp (maxSteps:=9^6) -dsimp only [go_sem]
      refine ⟨by omega,aC (i + 1,cU ss N d (o ++ [bV f.ty])) 8 ⟨by simp only; omega,ho,by have:=(mQ ss N d (o ++ [bV f.ty])).fresh (ss:=ss); simp only; omega⟩ (by simp only; omega) ?_ ?_⟩
      · simp -dsimp only [go_sem]<;>simp
      · simp -dsimp only [go_sem]<;>simp
  · have hg:decide ((i:Int) < (t.fs.length:Int))=false:=by simp; omega
    obtain rfl:i=t.fs.length:=by omega
    rw [List.drop_length] at ho
    simp only [List.foldl_nil] at ho
    simp -dsimp only [go_sem,hg]
    rw [<-ho] at hK
    exact .sel [0,1,2,3,4,5,6,7] (by simp) (by simp) rfl (.done (by simp -dsimp only [go_sem]; simpa [go_sem] using hK))
end Go.Proofs.YtgogpogophflhaaGreatDoor
namespace Go.Proofs
open Go.Shelf
def Tryz.lays190_ren:Go.Shelf.Ren:=⟨fun | 190=>125 | 125=>133 | 258=>132 | 128=>149 | 129=>135 | 302=>140 | 303=>141 | 304=>142 | 305=>143 | 306=>144 | 307=>145 | 308=>146 | 309=>147 | 310=>148 | 333=>152 | 329=>153 | 330=>154 | 334=>155 | 335=>156 | 336=>157 | 344=>158 | n=>n,fun | 31=>52 | 9=>9 | 3=>3 | 46=>168 | 0=>0 | 51=>171 | 53=>127 | 4=>4 | 183=>176 | 182=>175 | 131=>160 | 5=>5 | 218=>183 | 222=>187 | 228=>191 | 229=>192 | n=>n,fun | n=>n⟩
theorem Tryz.lays190:Go.Proofs.Lays.n190 Tryz.prog Tryz.lays190_ren:={
 mixed:=by kernel_rfl
 f125:=Tryz.func133.trans (congrArg some (by kernel_rfl))
 f128:=Tryz.func149.trans (congrArg some (by kernel_rfl))
 f129:=Tryz.func135.trans (congrArg some (by kernel_rfl))
 f190:=Tryz.func125.trans (congrArg some (by kernel_rfl))
 f258:=Tryz.func132.trans (congrArg some (by kernel_rfl))
 f302:=Tryz.func140.trans (congrArg some (by kernel_rfl))
 f303:=Tryz.func141.trans (congrArg some (by kernel_rfl))
 f304:=Tryz.func142.trans (congrArg some (by kernel_rfl))
 f305:=Tryz.func143.trans (congrArg some (by kernel_rfl))
 f306:=Tryz.func144.trans (congrArg some (by kernel_rfl))
 f307:=Tryz.func145.trans (congrArg some (by kernel_rfl))
 f308:=Tryz.func146.trans (congrArg some (by kernel_rfl))
 f309:=Tryz.func147.trans (congrArg some (by kernel_rfl))
 f310:=Tryz.func148.trans (congrArg some (by kernel_rfl))
 f329:=Tryz.func153.trans (congrArg some (by kernel_rfl))
 f330:=Tryz.func154.trans (congrArg some (by kernel_rfl))
 f333:=Tryz.func152.trans (congrArg some (by kernel_rfl))
 f334:=Tryz.func155.trans (congrArg some (by kernel_rfl))
 f335:=Tryz.func156.trans (congrArg some (by kernel_rfl))
 f336:=Tryz.func157.trans (congrArg some (by kernel_rfl))
 f344:=Tryz.func158.trans (congrArg some (by kernel_rfl))
 t0:=Tryz.underlying0
 a0:=Tryz.isAgg0
 z0:=Tryz.sizeOf0
 v0:=Tryz.zeroValue0
 t3:=Tryz.underlying3
 a3:=Tryz.isAgg3
 z3:=Tryz.sizeOf3
 v3:=Tryz.zeroValue3
 t4:=Tryz.underlying4
 a4:=Tryz.isAgg4
 z4:=Tryz.sizeOf4
 v4:=Tryz.zeroValue4
 t5:=Tryz.underlying5
 a5:=Tryz.isAgg5
 z5:=Tryz.sizeOf5
 v5:=Tryz.zeroValue5
 t9:=Tryz.underlying9
 a9:=Tryz.isAgg9
 z9:=Tryz.sizeOf9
 v9:=Tryz.zeroValue9
 t31:=Tryz.underlying52
 a31:=Tryz.isAgg52
 z31:=Tryz.sizeOf52
 v31:=Tryz.zeroValue52
 t46:=Tryz.underlying168
 a46:=Tryz.isAgg168
 z46:=Tryz.sizeOf168
 v46:=Tryz.zeroValue168
 t51:=Tryz.underlying171
 a51:=Tryz.isAgg171
 z51:=Tryz.sizeOf171
 v51:=Tryz.zeroValue171
 t53:=Tryz.underlying127
 a53:=Tryz.isAgg127
 z53:=Tryz.sizeOf127
 v53:=Tryz.zeroValue127
 t131:=Tryz.underlying160
 a131:=Tryz.isAgg160
 z131:=Tryz.sizeOf160
 v131:=Tryz.zeroValue160
 t182:=Tryz.underlying175
 a182:=Tryz.isAgg175
 z182:=Tryz.sizeOf175
 v182:=Tryz.zeroValue175
 t183:=Tryz.underlying176
 a183:=Tryz.isAgg176
 z183:=Tryz.sizeOf176
 v183:=Tryz.zeroValue176
 t218:=Tryz.underlying183
 a218:=Tryz.isAgg183
 z218:=Tryz.sizeOf183
 v218:=Tryz.zeroValue183
 t222:=Tryz.underlying187
 a222:=Tryz.isAgg187
 z222:=Tryz.sizeOf187
 v222:=Tryz.zeroValue187
 t228:=Tryz.underlying191
 a228:=Tryz.isAgg191
 z228:=Tryz.sizeOf191
 v228:=Tryz.zeroValue191
 t229:=Tryz.underlying192
 a229:=Tryz.isAgg192
 z229:=Tryz.sizeOf192
 v229:=Tryz.zeroValue192 }
end Go.Proofs
namespace Go.Proofs.YtgogpogophflhaaGreatDoor
open Go.W Go.Sort
def gA (l:List ByteArray):List ByteArray:=((l.map bl).mergeSort fun x y=>decide (x<=y)).map mk
theorem pI (l:List ByteArray):(gA l).length=l.length:=by simp [gA]
theorem tY (w:World) (os:Array Obj) {k:Nat} (h:k < w.heap.size):(grow w os).heap[k]? = w.heap[k]?:=by
 simp [grow,Array.getElem?_append_left h]
theorem J6 (enc:List UInt8->Value) (w:World) (b:Nat) (d:Array (List UInt8)) {cur:Array Value} {T:TypeId} {p:Nat × Nat} (h:w.heap[b]? = some (.cells cur T p)):(putRow enc w b 0 d).heap[b]? = some (.cells (putCells enc 0 d cur) T p):=by
 unfold putRow mapBlock
 simp [Array.getElem?_modify,h,onCells]
theorem B8 (enc:List UInt8->Value) (w:World) {b k:Nat} (d:Array (List UInt8)) (h:k ≠ b):(putRow enc w b 0 d).heap[k]? = w.heap[k]?:=by
 unfold putRow mapBlock
 simp [Array.getElem?_modify,Ne.symm h]
def aEU:W.Spec:=fun av H K=>∃ l:List ByteArray,av=[.va (.c1 (.sl 0 l.length))]/\H=[.row (l.map bQ) 9 1]/\l.length<=1000000000/\K (.tu []) [.row ((gA l).map bQ) 9 1]
theorem Q4 {l:List ByteArray} {K:S->Hp->Prop} (h:l.length<=1000000000) (hK:K (.tu []) [.row ((gA l).map bQ) 9 1]):aEU [.va (.c1 (.sl 0 l.length))] [.row (l.map bQ) 9 1] K:=⟨l,rfl,rfl,h,hK⟩
theorem xY (l:List ByteArray):(l.map bQ).flatten=l.map fun x=>C.vl (.string x):=by
 induction l with
 | nil=>rfl
 | cons x l ih=>rw [List.map_cons,List.flatten_cons,ih]; rfl
theorem aA1 {l:List ByteArray} {vs:List Value} {ro:RO} (h:All2 (C.fv ro) (l.map bQ).flatten vs):vs=l.map Value.string:=by
 rw [xY] at h
 refine List.ext_getElem? fun i=>?_
 obtain ⟨h1,h2⟩:=h
 rw [List.length_map] at h1
 rw [List.getElem?_map]
 rcases bL i l.length with hi | hi
 · obtain ⟨x,hx⟩:∃ x,l[i]? = some x:=⟨_,bB hi⟩
   obtain ⟨v,hv⟩:∃ v,vs[i]? = some v:=⟨_,bB (by omega)⟩
   have:=h2 i _ v (by rw [List.getElem?_map,hx]; rfl) hv
   rw [hv,hx]; exact congrArg some this
 · rw [List.getElem?_eq_none (by omega),List.getElem?_eq_none hi]; rfl
theorem aG6:Meets Tryz.prog 125 aEU:=by
 refine ⟨by kernel_rfl,fun av vs E ro w K hlen hrel hR hs _=>?_⟩
 obtain ⟨l,rfl,hH,hl,hK⟩:=hs
 match E,hH with
 | [(g,blk)],hH=>
  obtain rfl:blk=.row (l.map bQ) 9 1:=by simpa [hp] using hH
  match vs,hlen with
  | [v0],_=>
   have r0:=hrel 0 _ _ rfl rfl
   have hon:=hR.own 0 g _ rfl
   obtain ⟨o1,o2,o3,o4,o5,o6,o7⟩:=hon
   rw [List.length_map] at o2 o5
   obtain ⟨g',hg',_,_,_,hv0⟩:=r0
   obtain rfl:g=g':=by simpa [gm] using hg'
   obtain rfl:=hv0 o2.symm
   have hvs:=aA1 o6
   obtain ⟨l1,l2⟩:=o5
   rcases Nat.eq_zero_or_pos l.length with h0 | h0
   · obtain rfl:=List.eq_nil_of_length_eq_zero h0
     refine (Any.slices_Sort_string_none Tryz.lays190 _ _ w).mono ?_
     rintro e w' ⟨rfl,rfl⟩
     rw [show gA []=[] by simp [gA]] at hK
     exact ⟨.tu [],_,[(g,.row ([].map bQ) 9 1)],ro,rfl,⟨[],rfl,.nil⟩,hK,hR⟩
   rcases l2 with ⟨_,h1⟩ | ⟨b,cap,cur,hsl,_,hb,hcap,hmax,hcs,htk⟩
   · omega
   have hob:g.ob=some b:=by
    cases hgo:g.ob with
    | none=>rw [hgo] at hsl; simp [bI] at hsl
    | some b'=>rw [hgo] at hsl; simp [bI] at hsl; rw [hsl.1]
   have hgc:g.cap=cap:=by simp at hsl; exact hsl.2
   have hbs:b < w.heap.size:=by
    rcases bL b w.heap.size with h' | h'
    · exact h'
    · rw [Array.getElem?_eq_none h'] at hb; cases hb
   have hcell:∀ k,k < l.length->w.cell? ⟨b,k,none⟩=(l.map Value.string)[k]?:=fun k hk=>by
    rw [<-hvs,<-htk,List.getElem?_take,if_pos (by omega)]
    simp [World.cell?,hb]
   rw [hob,hgc]
   have key:=Any.slices_Sort_string Tryz.lays190 b 0 cap (l.map bl) w (fun j hj=>by
    have hj':j < l.length:=by simpa using hj
    refine ⟨?_,by simp [World.frozen?,hb]⟩
    rw [Nat.zero_add,hcell j hj']
    simp [hj']
    exact (nA _).symm) hbs (by simp; omega)
   rw [List.length_map] at key
   refine key.mono ?_
   rintro e w' ⟨rfl,n,os,rfl⟩
   obtain ⟨D,hD⟩:∃ D,D=(l.map bl).mergeSort fun x y=>decide (x<=y):=⟨_,rfl⟩
   have hDl:D.length=l.length:=by rw [hD]; simp
   have hsD:gA l=D.map mk:=by rw [hD]; rfl
   rw [<-hD]
   obtain ⟨W',hW⟩:∃ W',W'=grow (putRow encStr (Sort.ahead w n) b 0 D.toArray) os:=⟨_,rfl⟩
   have hmod:(putRow encStr (Sort.ahead w n) b 0 D.toArray).heap.size=w.heap.size:=by simp [putRow,mapBlock,Sort.ahead]
   have hb':W'.heap[b]? = some (.cells (putCells encStr 0 D.toArray cur) 9 (0,0)):=by
    rw [hW,tY _ _ (by rw [hmod]; exact hbs)]
    exact J6 encStr _ b D.toArray hb
   have hne:∀ k,k ≠ b->k < w.heap.size->W'.heap[k]? = w.heap[k]?:=fun k h1 h2=>by
    rw [hW,tY _ _ (by rw [hmod]; exact h2),B8 encStr _ D.toArray h1]; rfl
   have hsz:w.heap.size<=W'.heap.size:=by rw [hW]; simp [hmod]
   have hrest:W'.os=w.os/\W'.tape=w.tape/\W'.output=w.output:=by rw [hW]; exact ⟨rfl,rfl,rfl⟩
   rw [<-hW]
   clear hW
   have htk':(putCells encStr 0 D.toArray cur).toList.take l.length=(gA l).map Value.string:=by
    have hsl':(gA l).length=l.length:=pI l
    refine List.ext_getElem? fun k=>?_
    rw [List.getElem?_take,List.getElem?_map]
    rcases bL k l.length with hk | hk
    · rw [if_pos hk,hsD]
      have h1:k < cur.size:=by omega
      have h2:k < D.length:=by omega
      simp [putCells,h1,hDl]
      rw [if_pos hk,bB h2]; rfl
    · rw [if_neg (by omega),List.getElem?_eq_none (by omega)]; rfl
   have hown:B.On (gm [(⟨some b,true,l.length,cap,g.T,(gA l).map Value.string⟩,.row ((gA l).map bQ) 9 1)]) ro W' ⟨some b,true,l.length,cap,g.T,(gA l).map Value.string⟩ (.row ((gA l).map bQ) 9 1):=by
    have hsl':(gA l).length=l.length:=pI l
    refine ⟨rfl,by rw [List.length_map,hsl'],fun x hx=>?_,fun c hc=>?_,⟨?_,.inr ⟨b,cap,putCells encStr 0 D.toArray cur,?_,Nat.zero_le _,hb',?_,hmax,by simp [putCells]; omega,?_⟩⟩,?_,fun b' _=>(by show 0 < cap; omega)⟩
    · obtain ⟨y,_,rfl⟩:=List.mem_map.1 hx; rfl
    · rw [xY] at hc; obtain ⟨y,_,rfl⟩:=List.mem_map.1 hc; rfl
    · simp
    · simp [bI]
    · rw [List.length_map,hsl']; exact hcap
    · rw [List.length_map,hsl',Nat.mul_one]; exact htk'
    · rw [xY]
      refine ⟨by simp,fun i x y hx hy=>?_⟩
      rw [List.getElem?_map] at hx hy
      cases hi:(gA l)[i]? with
      | none=>rw [hi] at hx; cases hx
      | some z=>rw [hi] at hx hy; cases hx; cases hy; rfl
   have hpb:b ∈ eG [(g,.row (l.map bQ) 9 1)]:=by
    rcases hR.par 0 b g _ rfl hob rfl with h | h
    · exact absurd h (Nat.not_le.2 hbs)
    · exact h
   refine ⟨.tu [],_,[(⟨some b,true,l.length,cap,g.T,(gA l).map Value.string⟩,.row ((gA l).map bQ) 9 1)],ro,rfl,⟨[],rfl,.nil⟩,hK,?_⟩
   refine ⟨fun n gn bn hn=>?_,fun n m gn gm' bn bm b' hn hm h1 h2 l1 l2=>?_,fun b' off v hv n gn bn hn hgb=>?_,fun b' off v hv=>?_,hR.ro0,hR.rob,fun n b' gn bn hn hgb hl=>?_,?_,hsz,fun k hk hkb=>hne k (fun e=>hkb (e ▸ hpb)) hk,hrest.1,hrest.2.1,hrest.2.2⟩
   · match n,hn with
     | 0,hn=>cases hn; exact hown
     | n + 1,hn=>cases hn
   · match n,m,hn,hm with
     | 0,0,_,_=>rfl
     | n + 1,_,hn,_=>cases hn
     | _,m + 1,_,hm=>cases hm
   · match n,hn with
     | 0,hn=>
      cases hn
      have hbb:b=b':=by simpa using hgb
      subst hbb
      exact absurd (hR.apart b off v hv 0 g _ rfl hob) (by simp [B.live])
     | n + 1,hn=>cases hn
   · have hne':b' ≠ b:=fun e=>by
      subst e
      exact absurd (hR.apart b' off v hv 0 g _ rfl hob) (by simp [B.live])
     have:=hR.rd b' off v hv
     rcases bL b' w.heap.size with h' | h'
     · exact this.same (hne b' hne' h')
     · have:=this.1
       simp [World.cell?,Array.getElem?_eq_none h'] at this
   · match n,hn with
     | 0,hn=>
      cases hn
      have:b=b':=by simpa using hgb
      subst this; exact .inr hpb
     | n + 1,hn=>cases hn
   · intro n g2 h2
     match n,h2 with
     | 0,h2=>
      cases h2
      exact ⟨_,rfl,o1.symm,.inl ⟨hob.symm,o2.symm,hgc.symm⟩⟩
     | n + 1,h2=>cases h2
end Go.Proofs.YtgogpogophflhaaGreatDoor
namespace Go.Proofs.YtgogpogophflhaaGreatDoor
open Go.W
def iN (ss:List St) (n:ByteArray):List ByteArray:=cU ss (ss.length + 1) ((fS ss n).getD default) []
def dR (ss:List St) (n:ByteArray):List ByteArray:=gA (iN ss n)
theorem yQ (ss:List St) (o:List ByteArray):fresh ss o<=ss.length:=by
 induction ss with
 | nil=>exact Nat.le_refl _
 | cons s ss ih=>simp only [fresh,List.length_cons]; cases cO o s.nm<;>simp only [aK,aF]<;>omega
theorem St.ok_default:(default:St).ok:=⟨by decide,by decide,fun f h=>by cases h⟩
def aE6:W.Spec:=fun av H K=>∃ (ss:List St) (n:ByteArray) (ks:List Value) (vs:List St) (ks':List Value) (vs':List En),av=[n7,tS n]/\H=iD ks vs ks' vs'/\
 mJ ks vs ss/\(∀ s ∈ ss,s.ok)/\(iN ss n).length<=1000000000/\K (.va (.c1 (.fz ((dR ss n).map bQ)))) (iD ks vs ks' vs')
theorem aBV {ss:List St} {n:ByteArray} {ks:List Value} {vs:List St} {ks':List Value} {vs':List En} {K:S->Hp->Prop} (h1:mJ ks vs ss) (h2:∀ s ∈ ss,s.ok) (h3:(iN ss n).length<=1000000000) (hK:K (.va (.c1 (.fz ((dR ss n).map bQ)))) (iD ks vs ks' vs')) :
 aE6 [n7,tS n] (iD ks vs ks' vs') K:=⟨ss,n,ks,vs,ks',vs',rfl,rfl,h1,h2,h3,hK⟩
theorem aI1:Meets Tryz.prog 113 aE6:=by
 refine iJ 0 (t:=fun N=>fun av H K=>∃ (ss:List St) (n:ByteArray) (ks:List Value) (vs:List St) (ks':List Value) (vs':List En),av=[n7,tS n]/\H=iD ks vs ks' vs'/\
  mJ ks vs ss/\(∀ s ∈ ss,s.ok)/\ss.length=N/\(iN ss n).length<=1000000000/\K (.va (.c1 (.fz ((dR ss n).map bQ)))) (iD ks vs ks' vs')) (fun N=>?_) fun av H K ⟨ss,n,ks,vs,ks',vs',e1,e2,h1,h2,h3,hK⟩=>⟨ss.length,ss,n,ks,vs,ks',vs',e1,e2,h1,h2,rfl,h3,hK⟩
 refine aG Tryz.func113 aHD 2 (by rw [Tryz.ntmps113]; decide) (aA (QL (N + 1)) (aA aG6 (aB _))) (fun av H K h=>by obtain ⟨_,_,_,_,_,_,rfl,_⟩:=h; rfl) ?_
 rintro av H K ⟨ss,n,ks,vs,ks',vs',rfl,rfl,h1,h2,rfl,h3,hK⟩
 have hx:=h1 n
 simp -dsimp only [go_sem,WB,WA]
 refine .nilc 5 0 9 1 [.vl (.slice none 0 0)] 52 rfl rfl (.done ?_)
 cases hs:fS ss n with
 | none=>
  rw [hs] at hx
  simp only [Option.map_none] at hx
  simp -dsimp only [go_sem,hx]
  have hF:iN ss n=cU ss (ss.length + 1) default []:=by unfold iN; rw [hs]; rfl
  have hU:dR ss n=gA (cU ss (ss.length + 1) default []):=by unfold dR; rw [hF]
  rw [hF] at h3
  rw [hU] at hK
  have hfr:=yQ ss []
  refine CM (ss:=ss) (t:=default) (ks:=ks) (vs:=vs) (ks':=ks') (vs':=vs') (o:=[]) rfl h1 h2 St.ok_default (by omega) h3 ?_
  generalize cU ss (ss.length + 1) default []=o at h3 hK
  simp -dsimp only [go_sem]
  refine Q4 h3 ?_
  simp -dsimp only [go_sem]
  rw [<-pI o]
  refine .pub 7 _ _ _ rfl (.sel [0,1] (by simp) (by simp [cC]) rfl (.done ?_))
  simp -dsimp only [go_sem,cC]; exact hK
 | some d=>
  rw [hs] at hx
  simp only [Option.map_some] at hx
  simp -dsimp only [go_sem,hx,aL]
  have hF:iN ss n=cU ss (ss.length + 1) d []:=by unfold iN; rw [hs]; rfl
  have hU:dR ss n=gA (cU ss (ss.length + 1) d []):=by unfold dR; rw [hF]
  rw [hF] at h3
  rw [hU] at hK
  have hfr:=yQ ss []
  refine CM (ss:=ss) (t:=d) (ks:=ks) (vs:=vs) (ks':=ks') (vs':=vs') (o:=[]) rfl h1 h2 (h2 d (List.mem_of_find?_eq_some hs)) (by omega) h3 ?_
  generalize cU ss (ss.length + 1) d []=o at h3 hK
  simp -dsimp only [go_sem]
  refine Q4 h3 ?_
  simp -dsimp only [go_sem]
  rw [<-pI o]
  refine .pub 7 _ _ _ rfl (.sel [0,1] (by simp) (by simp [cC]) rfl (.done ?_))
  simp -dsimp only [go_sem,cC]; exact hK
mutual
def cH:Ty->Nat × Ty
 | .mk k s n e=>bif k == 5 then VV e (.mk k s n e) else (0,.mk k s n e)
def VV:List Ty->Ty->Nat × Ty
 | [],d=>(0,d)
 | u :: _,_=>((cH u).1 + 1,(cH u).2)
end
def cR (dp:ByteArray->Int) (t:Ty):Int:=(cH t).1 + bif (cH t).2.k == 6 then dp (cH t).2.n else 0
def gO (dp:ByteArray->Int) (fs:List Fl):Int:=fs.foldl (fun m f=>max m (cR dp f.ty)) 0
def dN (ss:List St):Nat->ByteArray->Int
 | 0,_=>1
 | N + 1,n=>gO (dN ss N) ((fS ss n).getD default).fs + 1
inductive LOk:Ty->Prop
 | stop {k s n e}:(k == 5)=false->LOk (.mk k s n e)
 | list {s n u r}:LOk u->LOk (.mk 5 s n (u :: r))
abbrev pW (d:Int):A:=.c1 (.vl (.int .i64 d))
@[go_sem] theorem aP6 (f:Nat->Option Nat) (l:List Int):(l.map pW).map (A.ren f)=l.map pW:=by rw [List.map_map]; rfl
@[go_sem] theorem aO7 (n:Nat) (xs:List (List C)) (l:List Int):(l.map pW).map (A.pub n xs)=l.map pW:=by rw [List.map_map]; rfl
structure Dp (ss:List St) (D:ByteArray->Int) (r:ByteArray->Nat):Prop where
 ok:∀ s ∈ ss,s.ok
 eq:∀ n t,fS ss n=some t->D n=gO D t.fs + 1
 lo:∀ n,0<=D n
 hi:∀ n,D n<=1000000000000
 ls:∀ n t,fS ss n=some t->∀ f ∈ t.fs,LOk f.ty
 rf:∀ n t,fS ss n=some t->∀ f ∈ t.fs,((cH f.ty).2.k == 6)=true->∃ u,fS ss (cH f.ty).2.n=some u/\r (cH f.ty).2.n < r n
def wY (D:ByteArray->Int) (ms:List ByteArray) (ds:List Int):Prop:=ms.length=ds.length/\∀ n v,jX (iX ms) (ds.map pW) (.string n)=some v->v=pW (D n)
abbrev MP (ks:List Value) (vs:List St) (ks':List Value) (vs':List En) (ms:List ByteArray) (ds:List Int):Hp:=
 [.map .string ks (vs.map j5),.map .string ks' (vs'.map kH),.cells [.mp 0,.mp 1] 117,.map .string (iX ms) (ds.map pW),.cells [.mp 3] 158,.cells [.fn 126 [(false,[.pt 4 0]),(false,[.pt 5 0]),(false,[.pt 2 0])]] 159]
def aGV (N:Nat):W.Spec:=fun av H K=>∃ (ss:List St) (D:ByteArray->Int) (r:ByteArray->Nat) (t:St) (ks:List Value) (vs:List St) (ks':List Value) (vs':List En) (ms:List ByteArray) (ds:List Int),
 av=[.va (.gs (aL t)),.va (.c1 (.pt 4 0)),.va (.c1 (.pt 5 0)),.va (.c1 (.pt 2 0))]/\H=MP ks vs ks' vs' ms ds/\
 mJ ks vs ss/\Dp ss D r/\fS ss t.nm=some t/\r t.nm < N/\wY D ms ds/\∀ ms' ds',wY D ms' ds'->K (iS .i64 (D t.nm)) (MP ks vs ks' vs' ms' ds')
theorem QZ {D:ByteArray->Int} {ms:List ByteArray} {ds:List Int} (h:wY D ms ds) (n:ByteArray):jX (iX ms) (ds.map pW) (.string n)=none\/jX (iX ms) (ds.map pW) (.string n)=some (pW (D n)):=by
 cases hm:jX (iX ms) (ds.map pW) (.string n) with
 | none=>exact .inl rfl
 | some v=>rw [h.2 n v hm]; exact .inr rfl
theorem QA {D:ByteArray->Int} {ms:List ByteArray} {ds:List Int} (h:wY D ms ds) (n:ByteArray):∃ ms' ds',lA (iX ms) (.string n)=iX ms'/\mA (iX ms) (ds.map pW) (.string n) (pW (D n))=ds'.map pW/\wY D ms' ds':=by
 obtain ⟨ms',ds',h1,h2,h3,h4⟩:=IM pW h.1 n (D n)
 refine ⟨ms',ds',h1,h2,h3,fun k v hk=>?_⟩
 rw [h4] at hk
 by_cases e:k=n
 · subst e; simp at hk; exact hk.symm
 · simp [e] at hk; exact h.2 k v hk
abbrev gF (D:ByteArray->Int):Int->Fl->Int:=fun m f=>max m (cR D f.ty)
theorem zM (D:ByteArray->Int):∀ (l:List Fl) (m:Int),m<=l.foldl (gF D) m
 | [],_=>Int.le_refl _
 | f :: l,m=>by
  have:=zM D l (max m (cR D f.ty))
  show m<=l.foldl (gF D) (max m (cR D f.ty)); omega
theorem XG {D:ByteArray->Int} {l:List Fl} {i:Nat} {f:Fl} (hx:l[i]? = some f) (m:Int):(l.drop i).foldl (gF D) m=(l.drop (i + 1)).foldl (gF D) (max m (cR D f.ty)):=by
 obtain ⟨h,rfl⟩:=bC.1 hx
 rw [List.drop_eq_getElem_cons h]; rfl
theorem aFI:∀ N,Meets Tryz.prog 126 (aGV N)
 | 0=>⟨by kernel_rfl,by rintro xs vs E ro w K _ _ _ ⟨_,_,_,_,_,_,_,_,_,_,_,_,_,_,_,h,_⟩; exact absurd h (Nat.not_lt_zero _)⟩
 | N + 1=>by
  refine aG Tryz.func126 aIN 4 (by rw [Tryz.ntmps126]; decide) (aA (aFI N) (aB _)) (fun av H K h=>by obtain ⟨_,_,_,_,_,_,_,_,_,_,rfl,_⟩:=h; rfl) ?_
  rintro av H K ⟨ss,D,r,t,ks,vs,ks',vs',ms,ds,rfl,rfl,h1,h2,ht,hr,hk,hK⟩
  have htok:=h2.ok t (List.mem_of_find?_eq_some ht)
  obtain ⟨_,hl,hfs⟩:=htok
  rcases QZ hk t.nm with hm | hm
  · simp (maxSteps:=9^6) -dsimp only [go_sem,aL,N1,NI,hm]
    have hD:=h2.eq t.nm t ht
    have hDh:=h2.hi t.nm
    refine aR (α:=Nat × Int × List ByteArray × List Int) (fun z=>[(1,.va (.c1 (.pt 4 0))),(2,.va (.c1 (.pt 5 0))),(3,.va (.c1 (.pt 2 0))),(4,.va (.c1 (.pt 6 0))),(8,iS .i64 z.2.1),(23,.va (.c1 (.fz (t.fs.map bH)))),(24,iS .i64 t.fs.length),(25,iS .i64 z.1)])
     (fun z=>MP ks vs ks' vs' z.2.2.1 z.2.2.2 ++ [.cells (aL t) 56])
     (fun z=>z.1<=t.fs.length/\0<=z.2.1/\(t.fs.drop z.1).foldl (gF D) z.2.1=gO D t.fs/\wY D z.2.2.1 z.2.2.2) (fun z=>t.fs.length - z.1) (0,0,ms,ds) 7 ⟨Nat.zero_le _,Int.le_refl _,rfl,hk⟩ ?_ ?_ ?_
    · simp -dsimp only [go_sem]<;>simp
    · simp -dsimp only [go_sem,aL]<;>simp
    clear hk hm
    rintro ⟨i,m,ms,ds⟩ ⟨hi,hm0,ho,hk⟩
    simp only at hi hm0 ho hk ⊢
    have hmb:m<=1000000000000:=by have:=zM D (t.fs.drop i) m; rw [ho] at this; omega
    rcases bL i t.fs.length with hlt | hge
    · have hg:decide ((i:Int) < (t.fs.length:Int))=true:=by simp; omega
      obtain ⟨f,hx⟩:∃ nm,t.fs[i]? = some nm:=⟨_,bB hlt⟩
      have q1:=aQ (row:=bH) hx
      have hf:f.ok:=hfs f (bW hx)
      rw [XG hx] at ho
      have hfb:cR D f.ty<=1000000000000:=by have:=zM D (t.fs.drop (i + 1)) (max m (cR D f.ty)); rw [ho] at this; omega
      simp (maxSteps:=9^6) -dsimp only [go_sem,hg,↓q1,bH,kM]
      have hlo:=h2.ls t.nm t ht f (bW hx)
      refine ⟨by omega,⟨BU _,dF _⟩,by rw [dF]; exact Nat.le_refl _,?_⟩
      refine aR (α:=Nat × Ty) (fun z=>[(1,.va (.c1 (.pt 4 0))),(2,.va (.c1 (.pt 5 0))),(3,.va (.c1 (.pt 2 0))),(4,.va (.c1 (.pt 6 0))),(8,iS .i64 m),(11,iS .i64 z.1),(12,.va (.c1 (.pt 8 0))),(23,.va (.c1 (.fz (t.fs.map bH)))),(24,iS .i64 t.fs.length),(25,iS .i64 i)])
       (fun z=>MP ks vs ks' vs' ms ds ++ [.cells (aL t) 56,.cells (bH f) 64,.cells (aP z.2) 37])
       (fun z=>LOk z.2/\z.1 + (cH z.2).1=(cH f.ty).1/\(cH z.2).2=(cH f.ty).2) (fun z=>z.2.h) (0,f.ty) 9 ⟨hlo,by simp,rfl⟩ ?_ ?_ ?_
      · simp -dsimp only [go_sem]<;>simp
      · simp -dsimp only [go_sem,aL,bH,dF]<;>simp
      rintro ⟨n,u⟩ ⟨hu1,hu2,hu3⟩
      simp only at hu1 hu2 hu3 ⊢
      have hlv:((cH f.ty).1:Int)<=1000000000000:=by
       have hd0:=h2.lo (cH f.ty).2.n
       unfold cR at hfb
       cases hq:(cH f.ty).2.k == 6<;>rw [hq] at hfb<;>simp only [aK,aF] at hfb<;>omega
      cases hu1 with
      | list hv=>
       rename_i s' n' v r'
       have hl5:cH (.mk 5 s' n' (v :: r'))=((cH v).1 + 1,(cH v).2):=by simp [cH,VV]
       rw [hl5] at hu2 hu3
       simp (maxSteps:=9^6) -dsimp only [go_sem,aP,aZ]
       refine ⟨by omega,⟨by omega,fun r hr=>by subst hr; exact dF v⟩,fun r hr=>?_⟩
       subst hr
       simp -dsimp only [go_sem,dF]
       refine ⟨BU v,aC (n + 1,v) 9 ⟨hv,by simp only at hu2 ⊢; omega,hu3⟩ (by simp only [Ty.h,Ty.hs]; omega) ?_ ?_⟩
       · simp -dsimp only [go_sem]<;>simp
       · simp -dsimp only [go_sem,aL,bH]<;>simp
      | stop hk5=>
       rename_i k' s' n' e'
       have hl0:cH (.mk k' s' n' e')=(0,.mk k' s' n' e'):=by rw [cH,hk5]; rfl
       rw [hl0] at hu2 hu3
       simp only [Nat.add_zero] at hu2
       have hfd:cR D f.ty=(n:Int) + bif k' == 6 then D n' else 0:=by unfold cR; rw [<-hu2,<-hu3]; rfl
       cases k6:k' == 6 with
       | false=>
        rw [k6,aF,Int.add_zero] at hfd
        rw [hfd] at ho
        simp (maxSteps:=9^6) -dsimp only [go_sem,aP,aZ,hk5,k6]
        refine ⟨by omega,aC (i + 1,max m (n:Int),ms,ds) 7 ⟨by simp only; omega,by simp only; omega,ho,hk⟩ (by simp only; omega) ?_ ?_⟩
        · simp -dsimp only [go_sem]<;>simp
        · simp -dsimp only [go_sem,aL]<;>simp
       | true=>
        rw [k6,aK] at hfd
        rw [hfd] at ho
        obtain ⟨w,hw,hrw⟩:=h2.rf t.nm t ht f (bW hx) (by rw [<-hu3]; exact k6)
        rw [<-hu3] at hw hrw
        have hx1:=h1 n'
        rw [show fS ss n'=some w from hw] at hx1
        simp only [Option.map_some] at hx1
        simp (maxSteps:=9^6) -dsimp only [go_sem,aP,aZ,hk5,k6,hx1,aL]
        have hwn:w.nm=n':=by have:=List.find?_some hw; simp only [decide_eq_true_eq] at this; exact this
        refine ⟨ss,D,r,w,ks,vs,ks',vs',ms,ds,rfl,rfl,h1,h2,by rw [hwn]; exact hw,by rw [hwn]; exact Nat.lt_of_lt_of_le hrw (Nat.le_of_lt_succ hr),hk,fun ms' ds' hk'=>?_⟩
        rw [hwn]
        have hd0:=h2.lo n'
        have hd1:=h2.hi n'
        simp (maxSteps:=9^6) -dsimp only [go_sem]
        refine ⟨by omega,by omega,aC (i + 1,max m ((n:Int) + D n'),ms',ds') 7 ⟨by simp only; omega,by simp only; omega,ho,hk'⟩ (by simp only; omega) ?_ ?_⟩
        · simp -dsimp only [go_sem]<;>simp
        · simp -dsimp only [go_sem,aL]<;>simp
    · have hg:decide ((i:Int) < (t.fs.length:Int))=false:=by simp; omega
      obtain rfl:i=t.fs.length:=by omega
      rw [List.drop_length] at ho
      simp only [List.foldl_nil] at ho
      obtain ⟨ms',ds',p1,p2,p3⟩:=QA hk t.nm
      have e1:m + 1=D t.nm:=by omega
      simp (maxSteps:=9^6) -dsimp only [go_sem,hg,aL,e1,p1,p2]
      refine ⟨by have:=h2.lo t.nm; omega,by have:=h2.lo t.nm; omega,.sel [0,1,2,3,4,5] (by simp) (by simp) rfl (.done (by simp -dsimp only [go_sem]; simpa [go_sem] using hK ms' ds' p3))⟩
  · simp (maxSteps:=9^6) -dsimp only [go_sem,aL,N1,NI,hm]
    exact .sel [0,1,2,3,4,5] (by simp) (by simp) rfl (.done (by simp -dsimp only [go_sem]; simpa [go_sem] using hK ms ds hk))
def aFX:W.Spec:=fun av H K=>∃ (ss:List St) (D:ByteArray->Int) (r:ByteArray->Nat) (t:St) (ks:List Value) (vs:List St) (ks':List Value) (vs':List En),av=[n7,.va (.gs (aL t))]/\H=iD ks vs ks' vs'/\
 mJ ks vs ss/\Dp ss D r/\fS ss t.nm=some t/\K (iS .i64 (D t.nm)) (iD ks vs ks' vs')
theorem aAS {ss:List St} {D:ByteArray->Int} {r:ByteArray->Nat} {t:St} {ks:List Value} {vs:List St} {ks':List Value} {vs':List En} {K:S->Hp->Prop} (h1:mJ ks vs ss) (h2:Dp ss D r) (h3:fS ss t.nm=some t) (hK:K (iS .i64 (D t.nm)) (iD ks vs ks' vs')) :
 aFX [n7,.va (.gs (aL t))] (iD ks vs ks' vs') K:=⟨ss,D,r,t,ks,vs,ks',vs',rfl,rfl,h1,h2,h3,hK⟩
theorem aFU:Meets Tryz.prog 114 aFX:=by
 refine iJ 0 (t:=fun N=>fun av H K=>∃ (ss:List St) (D:ByteArray->Int) (r:ByteArray->Nat) (t:St) (ks:List Value) (vs:List St) (ks':List Value) (vs':List En),av=[n7,.va (.gs (aL t))]/\H=iD ks vs ks' vs'/\
  mJ ks vs ss/\Dp ss D r/\fS ss t.nm=some t/\r t.nm < N/\K (iS .i64 (D t.nm)) (iD ks vs ks' vs')) (fun N=>?_) fun av H K ⟨ss,D,r,t,ks,vs,ks',vs',e1,e2,h1,h2,h3,hK⟩=>⟨r t.nm + 1,ss,D,r,t,ks,vs,ks',vs',e1,e2,h1,h2,h3,Nat.lt_succ_self _,hK⟩
 refine aG Tryz.func114 aIZ 2 (by rw [Tryz.ntmps114]; decide) (aA (aFI N) (aB _)) (fun av H K h=>by obtain ⟨_,_,_,_,_,_,_,_,rfl,_⟩:=h; rfl) ?_
 rintro av H K ⟨ss,D,r,t,ks,vs,ks',vs',rfl,rfl,h1,h2,ht,hr,hK⟩
 simp -dsimp only [go_sem,aL,UZ,VB]
 refine ⟨ss,D,r,t,ks,vs,ks',vs',[],[],rfl,rfl,h1,h2,ht,hr,⟨rfl,fun n v h=>by cases h⟩,fun ms ds _=>?_⟩
 simp -dsimp only [go_sem]
 exact .sel [0,1] (by simp) (by simp) rfl (.done (by simp -dsimp only [go_sem]; exact hK))
def CN (t:St) (b:ByteArray):Prop:=∃ f ∈ t.fs,cD f.ty=true/\bV f.ty=b
def e8 (ss:List St) (a b:ByteArray):Prop:=CN ((fS ss a).getD default) b
inductive Reach (ss:List St):ByteArray->ByteArray->Prop
 | one {a b:ByteArray}:e8 ss a b->Reach ss a b
 | more {a b c:ByteArray}:Reach ss a b->e8 ss b c->Reach ss a c
theorem Reach.head {ss:List St} {a b c:ByteArray} (h:e8 ss a b) (r:Reach ss b c):Reach ss a c:=by
 induction r with
 | one h2=>exact .more (.one h) h2
 | more _ h2 ih=>exact .more ih h2
theorem Reach.trans {ss:List St} {a b c:ByteArray} (h:Reach ss a b) (r:Reach ss b c):Reach ss a c:=by
 induction r with
 | one h2=>exact .more h h2
 | more _ h2 ih=>exact .more ih h2
theorem Reach.first {ss:List St} {a c:ByteArray} (r:Reach ss a c):∃ b,e8 ss a b/\(c=b\/Reach ss b c):=by
 induction r with
 | one h=>exact ⟨_,h,.inl rfl⟩
 | more _ h2 ih=>
  obtain ⟨b,h3,h4⟩:=ih
  refine ⟨b,h3,.inr ?_⟩
  rcases h4 with rfl | h4
  · exact .one h2
  · exact .more h4 h2
theorem wR {o:List ByteArray} {n:ByteArray}:cO o n=false ↔ n ∉ o:=by
 rw [<-Bool.not_eq_true,rF]
theorem TF (ss:List St) {N:Nat} (ih:∀ t o,fresh ss o < N->(∀ b,CN t b->b ∈ cU ss N t o)/\∀ x ∈ cU ss N t o,x ∉ o->∀ y,e8 ss x y->y ∈ cU ss N t o) (o:List ByteArray) (f:Fl) (h:fresh ss o < N + 1) :
 (cD f.ty=true->bV f.ty ∈ bZ (cU ss N) ss o f)/\∀ x ∈ bZ (cU ss N) ss o f,x ∉ o->∀ y,e8 ss x y->y ∈ bZ (cU ss N) ss o f:=by
 cases c1:cD f.ty with
 | false=>
  have:bZ (cU ss N) ss o f=o:=by unfold bZ; rw [c1]; rfl
  rw [this]; exact ⟨fun h=>by simp at h,fun x hx hn=>absurd hx hn⟩
 | true=>
 cases c2:cO o (bV f.ty) with
 | true=>
  have:bZ (cU ss N) ss o f=o:=by unfold bZ; rw [c1,c2]; rfl
  rw [this]; exact ⟨fun _=>(rF _ _).1 c2,fun x hx hn=>absurd hx hn⟩
 | false=>
  cases hs:fS ss (bV f.ty) with
  | none=>
   have:bZ (cU ss N) ss o f=o ++ [bV f.ty]:=by unfold bZ; rw [c1,c2,hs]; rfl
   rw [this]
   refine ⟨fun _=>by simp,fun x hx hn y hy=>?_⟩
   have:x=bV f.ty:=by simpa [hn] using hx
   subst this
   unfold e8 at hy; rw [hs] at hy
   obtain ⟨g,hg,_⟩:=hy; cases hg
  | some d=>
   have:bZ (cU ss N) ss o f=cU ss N d (o ++ [bV f.ty]):=by unfold bZ; rw [c1,c2,hs]; rfl
   rw [this]
   have hl:=zE c2 hs
   obtain ⟨i1,i2⟩:=ih d (o ++ [bV f.ty]) (by omega)
   obtain ⟨q,hq⟩:=mQ ss N d (o ++ [bV f.ty])
   refine ⟨fun _=>by rw [hq]; simp,fun x hx hn y hy=>?_⟩
   by_cases hxn:x=bV f.ty
   · subst hxn
     unfold e8 at hy; rw [hs] at hy
     exact i1 y hy
   · exact i2 x hx (by simp [hn,hxn]) y hy
theorem F7 (ss:List St) {N:Nat} (ih:∀ t o,fresh ss o < N->(∀ b,CN t b->b ∈ cU ss N t o)/\∀ x ∈ cU ss N t o,x ∉ o->∀ y,e8 ss x y->y ∈ cU ss N t o):∀ (l:List Fl) (o:List ByteArray),fresh ss o < N + 1->
 (∀ f ∈ l,cD f.ty=true->bV f.ty ∈ l.foldl (bZ (cU ss N) ss) o)/\∀ x ∈ l.foldl (bZ (cU ss N) ss) o,x ∉ o->∀ y,e8 ss x y->y ∈ l.foldl (bZ (cU ss N) ss) o
 | [],o,_=>⟨fun f h=>(List.not_mem_nil h).elim,fun x hx hn=>absurd hx hn⟩
 | f :: l,o,h=>by
  obtain ⟨s1,s2⟩:=TF ss ih o f h
  have hp:=qL (mQ ss N) ss o f
  obtain ⟨r1,r2⟩:=F7 ss ih l (bZ (cU ss N) ss o f) (by have:=hp.fresh (ss:=ss); omega)
  obtain ⟨q,hq⟩:=sM (fun o f=>qL (mQ ss N) ss o f) l (bZ (cU ss N) ss o f)
  have hin:∀ x,x ∈ bZ (cU ss N) ss o f->x ∈ l.foldl (bZ (cU ss N) ss) (bZ (cU ss N) ss o f):=fun x hx=>by rw [hq]; simp [hx]
  rw [List.foldl_cons]
  refine ⟨fun g hg hn=>?_,fun x hx hn y hy=>?_⟩
  · rcases List.mem_cons.1 hg with rfl | hg
    · exact hin _ (s1 hn)
    · exact r1 g hg hn
  · by_cases hx2:x ∈ bZ (cU ss N) ss o f
    · exact hin _ (s2 x hx2 hn y hy)
    · exact r2 x hx hx2 y hy
theorem PE (ss:List St):∀ (N:Nat) (t:St) (o:List ByteArray),fresh ss o < N->(∀ b,CN t b->b ∈ cU ss N t o)/\∀ x ∈ cU ss N t o,x ∉ o->∀ y,e8 ss x y->y ∈ cU ss N t o
 | 0,_,_,h=>absurd h (Nat.not_lt_zero _)
 | N + 1,t,o,h=>by
  obtain ⟨r1,r2⟩:=F7 ss (PE ss N) t.fs o h
  exact ⟨fun b ⟨f,hf,hn,hb⟩=>hb ▸ r1 f hf hn,r2⟩
theorem EM (ss:List St):∀ (N:Nat) (t:St) (o:List ByteArray),∀ x ∈ cU ss N t o,x ∈ o\/∃ b,CN t b/\(x=b\/Reach ss b x)
 | 0,_,o=>fun x hx=>.inl hx
 | N + 1,t,o=>by
  have step:∀ (o:List ByteArray) (f:Fl),∀ x ∈ bZ (cU ss N) ss o f,x ∈ o\/(cD f.ty=true/\(x=bV f.ty\/Reach ss (bV f.ty) x)):=fun o f x hx=>by
   cases c1:cD f.ty with
   | false=>
    have:bZ (cU ss N) ss o f=o:=by unfold bZ; rw [c1]; rfl
    rw [this] at hx; exact .inl hx
   | true=>
   cases c2:cO o (bV f.ty) with
   | true=>
    have:bZ (cU ss N) ss o f=o:=by unfold bZ; rw [c1,c2]; rfl
    rw [this] at hx; exact .inl hx
   | false=>
    cases hs:fS ss (bV f.ty) with
    | none=>
     have:bZ (cU ss N) ss o f=o ++ [bV f.ty]:=by unfold bZ; rw [c1,c2,hs]; rfl
     rw [this] at hx
     rcases List.mem_append.1 hx with h | h
     · exact .inl h
     · exact .inr ⟨rfl,.inl (by simpa using h)⟩
    | some d=>
     have:bZ (cU ss N) ss o f=cU ss N d (o ++ [bV f.ty]):=by unfold bZ; rw [c1,c2,hs]; rfl
     rw [this] at hx
     rcases EM ss N d _ x hx with h | ⟨b,hb,h⟩
     · rcases List.mem_append.1 h with h | h
       · exact .inl h
       · exact .inr ⟨rfl,.inl (by simpa using h)⟩
     · have hr:e8 ss (bV f.ty) b:=by unfold e8; rw [hs]; exact hb
       refine .inr ⟨rfl,.inr ?_⟩
       rcases h with rfl | h
       · exact .one hr
       · exact .head hr h
  have fold:∀ (l:List Fl) (o:List ByteArray),∀ x ∈ l.foldl (bZ (cU ss N) ss) o,x ∈ o\/∃ f ∈ l,cD f.ty=true/\(x=bV f.ty\/Reach ss (bV f.ty) x):=by
   intro l
   induction l with
   | nil=>exact fun o x hx=>.inl hx
   | cons f l ih=>
    intro o x hx
    rw [List.foldl_cons] at hx
    rcases ih _ x hx with h | ⟨g,hg,h⟩
    · rcases step o f x h with h | h
      · exact .inl h
      · exact .inr ⟨f,List.mem_cons_self,h⟩
    · exact .inr ⟨g,List.mem_cons_of_mem _ hg,h⟩
  intro x hx
  rcases fold t.fs o x hx with h | ⟨f,hf,hn,h⟩
  · exact .inl h
  · exact .inr ⟨bV f.ty,⟨f,hf,hn,rfl⟩,h⟩
theorem EA (ss:List St):∀ (N:Nat) (t:St) (o:List ByteArray),o.Nodup->(cU ss N t o).Nodup
 | 0,_,_=>id
 | N + 1,t,o=>by
  have step:∀ (o:List ByteArray) (f:Fl),o.Nodup->(bZ (cU ss N) ss o f).Nodup:=fun o f ho=>by
   have app:cO o (bV f.ty)=false->(o ++ [bV f.ty]).Nodup:=fun c2=>by
    rw [wR] at c2
    rw [List.nodup_append]
    exact ⟨ho,by simp,fun a ha b hb=>by simp at hb; subst hb; exact fun e=>c2 (e ▸ ha)⟩
   unfold bZ
   cases c1:cD f.ty with
   | false=>exact ho
   | true=>
   cases c2:cO o (bV f.ty) with
   | true=>exact ho
   | false=>
    cases hs:fS ss (bV f.ty) with
    | none=>exact app c2
    | some d=>exact EA ss N d _ (app c2)
  show o.Nodup->(t.fs.foldl (bZ (cU ss N) ss) o).Nodup
  generalize t.fs=l
  induction l generalizing o with
  | nil=>exact id
  | cons f l ih=>exact fun h=>ih _ (step o f h)
theorem kN (ss:List St) (n x:ByteArray):x ∈ iN ss n ↔ Reach ss n x:=by
 unfold iN
 constructor
 · intro h
   rcases EM ss _ _ _ x h with h | ⟨b,hb,h⟩
   · cases h
   · rcases h with rfl | h
     · exact .one hb
     · exact .head hb h
 · intro h
   obtain ⟨c1,c2⟩:=PE ss (ss.length + 1) ((fS ss n).getD default) [] (Nat.lt_succ_of_le (yQ ss []))
   induction h with
   | one h=>exact c1 _ h
   | more _ h2 ih=>exact c2 _ ih (by simp) _ h2
theorem uO (ss:List St) (n:ByteArray):(iN ss n).Nodup:=EA ss _ _ _ .nil
theorem RT {l:List ByteArray} {x:ByteArray}:x ∈ gA l ↔ x ∈ l:=by
 unfold gA
 rw [List.mem_map]
 constructor
 · rintro ⟨y,hy,rfl⟩
   rw [List.mem_mergeSort,List.mem_map] at hy
   obtain ⟨z,hz,rfl⟩:=hy
   rw [nA]; exact hz
 · intro h
   exact ⟨bl x,by rw [List.mem_mergeSort]; exact List.mem_map_of_mem h,nA x⟩
theorem DP {ss:List St} {n x:ByteArray}:x ∈ dR ss n ↔ Reach ss n x:=by unfold dR; rw [RT,kN]
theorem vV (ss:List St) (n:ByteArray):(dR ss n).length=(iN ss n).length:=pI _
structure Gd (ss:List St) (es:List En):Prop where
 ok:∀ s ∈ ss,s.ok
 n:ss.length<=16
 m:es.length<=16
 val:∀ s ∈ ss,∀ f ∈ s.fs,valF ss es f.ty=true
 lv:∀ s ∈ ss,∀ f ∈ s.fs,(cH f.ty).1<=1000000000
 nd:∀ s ∈ ss,fS ss s.nm=some s
def u7 (ss:List St):Prop:=∀ s ∈ ss,cO (dR ss s.nm) s.nm=false
theorem tC {ss:List St} {es:List En} {s:Int} {n:ByteArray} {e:List Ty} (h:valF ss es (.mk 5 s n e)=true):∃ u,e=[u]/\valF ss es u=true:=by
 rw [valF] at h
 simp only [show ((5:Int) == 1)=false from rfl,show ((5:Int) == 2)=false from rfl,show ((5:Int) == 3)=false from rfl,show ((5:Int) == 4)=false from rfl,show ((5:Int) == 5)=true from rfl,aK,aF,Bool.and_eq_true] at h
 obtain ⟨_,h⟩:=h
 match e,h with
 | [],h=>simp [qB] at h
 | [u],h=>exact ⟨u,rfl,by simpa [qB] using h⟩
 | u :: v :: r,h=>simp [qB] at h
theorem AZ (ss:List St) (es:List En):∀ (N:Nat) (t:Ty),t.h<=N->valF ss es t=true->LOk t/\fQ t=(cH t).2/\((fQ t).k == 5)=false/\valF ss es (fQ t)=true
 | 0,t,h,_=>absurd h (by have:=t.h_pos; omega)
 | N + 1,.mk k s n e,h,hv=>by
  cases k5:k == 5 with
  | true=>
   obtain rfl:k=5:=by simpa using k5
   obtain ⟨u,rfl,hu⟩:=tC hv
   obtain ⟨i1,i2,i3,i4⟩:=AZ ss es N u (by rw [Ty.h,Ty.hs,Ty.hs] at h; omega) hu
   rw [vB]
   exact ⟨.list i1,by rw [i2]; simp [cH,VV],i3,i4⟩
  | false=>
   have h1:fQ (.mk k s n e)=.mk k s n e:=r9 (by rw [k5]; rfl)
   rw [h1]
   exact ⟨.stop k5,by rw [cH,k5]; rfl,k5,hv⟩
theorem aF0 {ss:List St} {es:List En} {t:Ty} (hv:valF ss es t=true) (hn:cD t=true):fF ss (bV t)=true\/dT es (bV t)=true:=by
 obtain ⟨_,_,_,h⟩:=AZ ss es t.h t (Nat.le_refl _) hv
 unfold cD at hn
 unfold bV
 revert h hn
 generalize fQ t=u
 cases u with
 | mk k s n e=>
 intro hn h
 simp only [Ty.k,Bool.or_eq_true,beq_iff_eq] at hn
 rcases hn with rfl | rfl
 · left; rw [valF] at h; simp at h; exact h.1.1
 · right; rw [valF] at h; simp at h; exact h.1.1
theorem YD {ss:List St} {es:List En} {t:Ty} (hv:valF ss es t=true) (hk:((cH t).2.k == 6)=true):cD t=true/\bV t=(cH t).2.n/\fF ss (cH t).2.n=true/\LOk t:=by
 obtain ⟨h1,h2,_,h⟩:=AZ ss es t.h t (Nat.le_refl _) hv
 unfold cD bV
 rw [h2] at h ⊢
 refine ⟨by rw [hk]; rfl,rfl,?_,h1⟩
 revert h hk
 generalize (cH t).2=u
 cases u with
 | mk k s n e=>
 intro hk h
 obtain rfl:k=6:=by simpa [Ty.k] using hk
 rw [valF] at h; simp at h; exact h.1.1
theorem l9 {ss:List St} {n:ByteArray} {t:St} (h:fS ss n=some t):t ∈ ss/\t.nm=n:=⟨List.mem_of_find?_eq_some h,by have:=List.find?_some h; simpa using this⟩
theorem XQ {ss:List St} {a b:ByteArray} (h:e8 ss a b):∃ t f,fS ss a=some t/\t ∈ ss/\f ∈ t.fs/\cD f.ty=true/\bV f.ty=b:=by
 obtain ⟨f,hf,hn,hb⟩:=h
 cases hs:fS ss a with
 | none=>rw [hs] at hf; cases hf
 | some t=>rw [hs] at hf; exact ⟨t,f,rfl,(l9 hs).1,hf,hn,hb⟩
theorem TB {ss:List St} {es:List En} (g:Gd ss es) {a b:ByteArray} (h:Reach ss a b):fF ss b=true\/dT es b=true:=by
 have:∃ c,e8 ss c b:=by cases h with
  | one h=>exact ⟨_,h⟩
  | more _ h=>exact ⟨_,h⟩
 obtain ⟨c,h⟩:=this
 obtain ⟨t,f,_,ht,hf,hn,rfl⟩:=XQ h
 exact aF0 (g.val t ht f hf) hn
theorem uZ {α:Type} [DecidableEq α]:∀ {l m:List α},l.Nodup->(∀ x ∈ l,x ∈ m)->l.length<=m.length
 | [],_,_,_=>Nat.zero_le _
 | x :: l,m,h,hs=>by
  have h2:=List.nodup_cons.1 h
  have hx:=hs x List.mem_cons_self
  have:=uZ (m:=m.erase x) h2.2 fun y hy=>(List.mem_erase_of_ne (fun e=>h2.1 (by rw [<-e]; exact hy))).2 (hs y (List.mem_cons_of_mem _ hy))
  rw [List.length_erase_of_mem hx] at this
  have hp:=List.length_pos_of_mem hx
  simp only [List.length_cons]; omega
theorem Gd.vlen {ss:List St} {es:List En} (g:Gd ss es) (n:ByteArray):(iN ss n).length<=32:=by
 have h:=uZ (m:=ss.map (·.nm) ++ es.map (·.nm)) (uO ss n) fun x hx=>by
  rw [kN] at hx
  rw [List.mem_append,List.mem_map,List.mem_map]
  rcases TB g hx with h | h
  · left; unfold fF at h; rw [List.any_eq_true] at h; obtain ⟨t,h1,h2⟩:=h; exact ⟨t,h1,of_decide_eq_true h2⟩
  · right; unfold dT at h; rw [List.any_eq_true] at h; obtain ⟨t,h1,h2⟩:=h; exact ⟨t,h1,of_decide_eq_true h2⟩
 have h1:=g.n
 have h2:=g.m
 simp only [List.length_append,List.length_map] at h
 omega
def sQ (ss:List St) (n:ByteArray):Nat:=ss.countP fun s=>cO (iN ss n) s.nm
theorem EL {α:Type} {p q:α->Bool}:∀ {l:List α},(∀ x ∈ l,p x=true->q x=true)->(∃ x ∈ l,q x=true/\p x=false)->l.countP p < l.countP q
 | [],_,⟨_,h,_⟩=>by cases h
 | y :: l,h,⟨x,hx,h1,h2⟩=>by
  have hm:=List.countP_mono_left fun z hz=>h z (List.mem_cons_of_mem _ hz)
  have hy:=h y List.mem_cons_self
  rw [List.countP_cons,List.countP_cons]
  rcases List.mem_cons.1 hx with rfl | hx
  · rw [h1,h2]; simp; omega
  · have:=EL (fun z hz=>h z (List.mem_cons_of_mem _ hz)) ⟨x,hx,h1,h2⟩
    cases hp:p y with
    | true=>rw [hy hp]; simp; exact this
    | false=>cases q y<;>simp<;>omega
theorem MI (ss:List St) (n:ByteArray):sQ ss n<=ss.length:=List.countP_le_length
theorem CP {ss:List St} {n m:ByteArray} {u:St} (h:e8 ss n m) (hu:fS ss m=some u) (ha:u7 ss):sQ ss m < sQ ss n:=by
 obtain ⟨h1,h2⟩:=l9 hu
 refine EL (fun s _ hs=>?_) ⟨u,h1,?_,?_⟩
 · rw [rF,kN] at hs ⊢; exact .head h hs
 · rw [rF,kN,h2]; exact .one h
 · rw [wR,kN,<-DP,<-wR]
   have:=ha u h1
   rw [h2] at this ⊢; exact this
theorem LM {dp:ByteArray->Int} {B:Int} (hB:0<=B) {l:List Fl} (h:∀ f ∈ l,cR dp f.ty<=B):gO dp l<=B:=by
 have key:∀ (l:List Fl) (m:Int),m<=B->(∀ f ∈ l,cR dp f.ty<=B)->l.foldl (gF dp) m<=B:=by
  intro l
  induction l with
  | nil=>exact fun m hm _=>hm
  | cons f l ih=>exact fun m hm h=>ih _ (by have:=h f List.mem_cons_self; show max m (cR dp f.ty)<=B; omega) fun g hg=>h g (List.mem_cons_of_mem _ hg)
 exact key l 0 hB h
theorem nB (dp:ByteArray->Int) (l:List Fl):0<=gO dp l:=zM dp l 0
theorem L5 {dp:ByteArray->Int} {l:List Fl} {f:Fl} (h:f ∈ l):cR dp f.ty<=gO dp l:=by
 have key:∀ (l:List Fl) (m:Int),f ∈ l->cR dp f.ty<=l.foldl (gF dp) m:=by
  intro l
  induction l with
  | nil=>exact fun m h=>by cases h
  | cons g l ih=>
   intro m h
   rcases List.mem_cons.1 h with rfl | h
   · refine Int.le_trans ?_ (zM dp l (max m (cR dp f.ty)))
     omega
   · exact ih _ h
 exact key l 0 h
theorem sO {dp dq:ByteArray->Int} {l:List Fl} (h:∀ f ∈ l,cR dp f.ty=cR dq f.ty):gO dp l=gO dq l:=by
 have key:∀ (l:List Fl) (m:Int),(∀ f ∈ l,cR dp f.ty=cR dq f.ty)->l.foldl (gF dp) m=l.foldl (gF dq) m:=by
  intro l
  induction l with
  | nil=>exact fun _ _=>rfl
  | cons f l ih=>exact fun m h=>by rw [List.foldl_cons,List.foldl_cons,gF,h f List.mem_cons_self]; exact ih _ fun g hg=>h g (List.mem_cons_of_mem _ hg)
 exact key l 0 h
def dK:Nat:=99
def dD (ss:List St) (n:ByteArray):Int:=dN ss (dK + 1) n
theorem W1 (ss:List St) (N:Nat) (n:ByteArray):dN ss (N + 1) n=gO (dN ss N) ((fS ss n).getD default).fs + 1:=rfl
theorem V4:dK=99:=rfl
theorem RC (ss:List St) (n:ByteArray):dD ss n=dN ss (dK + 1) n:=rfl
attribute [irreducible] dK
theorem aBR (ss:List St):∀ (N:Nat) (n:ByteArray),1<=dN ss N n
 | 0,_=>Int.le_refl _
 | N + 1,n=>by have:=nB (dN ss N) ((fS ss n).getD default).fs; rw [dN]; omega
theorem WS {ss:List St} {es:List En} (g:Gd ss es):∀ (N:Nat) (n:ByteArray),dN ss N n<=1 + N * 1000000001
 | 0,_=>by rw [dN]; omega
 | N + 1,n=>by
  have:gO (dN ss N) ((fS ss n).getD default).fs<=1000000001 + N * 1000000001:=by
   refine LM (by omega) fun f hf=>?_
   cases hs:fS ss n with
   | none=>rw [hs] at hf; cases hf
   | some t=>
    rw [hs] at hf
    have h1:=g.lv t (l9 hs).1 f hf
    have h2:=WS g N (cH f.ty).2.n
    unfold cR
    cases (cH f.ty).2.k == 6<;>simp only [aK,aF]<;>omega
  rw [dN]; omega
theorem CX {ss:List St} {es:List En} (g:Gd ss es) {n:ByteArray} {t:St} (hs:fS ss n=some t) {f:Fl} (hf:f ∈ t.fs) (hk:((cH f.ty).2.k == 6)=true):e8 ss n (cH f.ty).2.n/\∃ u,fS ss (cH f.ty).2.n=some u:=by
 obtain ⟨h1,h2,h3,_⟩:=YD (g.val t (l9 hs).1 f hf) hk
 refine ⟨⟨f,by rw [hs]; exact hf,h1,h2⟩,?_⟩
 rw [<-HD] at h3
 exact Option.isSome_iff_exists.1 h3
theorem D3 {ss:List St} {es:List En} (g:Gd ss es) (ha:u7 ss):∀ (N:Nat) (n:ByteArray),sQ ss n < N->dN ss (N + 1) n=dN ss N n
 | 0,_,h=>absurd h (Nat.not_lt_zero _)
 | N + 1,n,h=>by
  rw [dN,dN]
  congr 1
  refine sO fun f hf=>?_
  cases hs:fS ss n with
  | none=>rw [hs] at hf; cases hf
  | some t=>
   rw [hs] at hf
   unfold cR
   cases hk:(cH f.ty).2.k == 6 with
   | false=>rfl
   | true=>
    obtain ⟨h1,u,h2⟩:=CX g hs hf hk
    have:=CP h1 h2 ha
    rw [D3 g ha N _ (by omega)]
theorem FV (ss:List St) (n:ByteArray):0<=dD ss n:=Int.le_trans (by decide) (aBR ss (dK + 1) n)
theorem MM {ss:List St} {es:List En} (g:Gd ss es) (n:ByteArray):dD ss n<=1000000000000:=by
 refine Int.le_trans (WS g (dK + 1) n) ?_
 have:=V4
 generalize dK=k at *
 subst this
 decide
theorem aGZ {ss:List St} {es:List En} (g:Gd ss es) (ha:u7 ss) (f:Fl):cR (dN ss dK) f.ty=cR (dD ss) f.ty:=by
 have h2:=MI ss (cH f.ty).2.n
 have h3:=g.n
 have h4:=V4
 have h5:=D3 g ha dK (cH f.ty).2.n (by omega)
 unfold cR
 rw [RC,h5]
theorem FE {ss:List St} {es:List En} (g:Gd ss es) (ha:u7 ss) {n:ByteArray} {t:St} (hs:fS ss n=some t):dD ss n=gO (dD ss) t.fs + 1:=by
 have h1:=W1 ss dK n
 have h2:gO (dN ss dK) t.fs=gO (dD ss) t.fs:=sO fun f _=>aGZ g ha f
 rw [hs,Option.getD_some,h2] at h1
 rw [RC]
 exact h1
theorem Gd.dp {ss:List St} {es:List En} (g:Gd ss es) (ha:u7 ss):Dp ss (dD ss) (sQ ss):=by
 refine ⟨g.ok,fun n t hs=>FE g ha hs,FV ss,MM g,fun n t hs f hf=>(AZ ss es _ _ (Nat.le_refl _) (g.val t (l9 hs).1 f hf)).1,fun n t hs f hf hk=>?_⟩
 obtain ⟨h1,u,h2⟩:=CX g hs hf hk
 exact ⟨u,h2,CP h1 h2 ha⟩
def kX (ss:List St):Int:=bif ss.any (fun t=>cO (dR ss t.nm) t.nm) then 19 else bif ss.any (fun t=>decide (6 < dD ss t.nm)) then 9 else 0
def aB8:W.Spec:=fun av H K=>∃ (s:Sc) (ks:List Value) (vs:List St) (ks':List Value) (vs':List En),av=[.va (.gs (aD s)),n7]/\H=iD ks vs ks' vs'/\
 mJ ks vs s.ss/\Gd s.ss s.es/\s.ok/\K (iS .i64 (kX s.ss)) (iD ks vs ks' vs')
theorem ZU {s:Sc} {ks:List Value} {vs:List St} {ks':List Value} {vs':List En} {K:S->Hp->Prop} (h1:mJ ks vs s.ss) (h2:Gd s.ss s.es) (h3:s.ok) (hK:K (iS .i64 (kX s.ss)) (iD ks vs ks' vs')) :
 aB8 [.va (.gs (aD s)),n7] (iD ks vs ks' vs') K:=⟨s,ks,vs,ks',vs',rfl,rfl,h1,h2,h3,hK⟩
theorem kI {α:Type} {l:List α} {p:α->Bool} (h:l.any p=false):∀ x ∈ l,p x=false:=fun x hx=>by
 rw [List.any_eq_false] at h; simpa using h x hx
theorem TM:Meets Tryz.prog 78 aB8:=by
 refine aG Tryz.func78 aLD 2 (by rw [Tryz.ntmps78]; decide) (aA aI1 (aI A8 (aA aFU (aB _)))) (fun av H K h=>by obtain ⟨_,_,_,_,_,rfl,_⟩:=h; rfl) ?_
 rintro av H K ⟨s,ks,vs,ks',vs',rfl,rfl,h1,hg,hs,hK⟩
 have fin:∀ (x:Int) (R:Hp),kX s.ss=x->W.Fin 2 K (iS .i64 x) (.map .string ks (vs.map j5) :: .map .string ks' (vs'.map kH) :: R):=fun x R h=>by
  rw [h] at hK
  exact .sel [0,1] (by simp) (by simp) rfl (.done (by simp -dsimp only [go_sem]; simpa using hK))
 obtain ⟨_,_,hls,_,hss⟩:=hs
 simp -dsimp only [go_sem,aD,aFG,aAZ]
 refine aR (α:=Nat) (fun i=>[(2,.va (.c1 (.pt 2 0))),(3,.va (.c1 (.pt 3 0))),(10,.va (.c1 (.fz (s.ss.map aL)))),(11,iS .i64 s.ss.length),(12,iS .i64 i)]) (fun _=>[.map .string ks (vs.map j5),.map .string ks' (vs'.map kH),.cells (aD s) 25,.cells [.mp 0,.mp 1] 117])
  (fun i=>i<=s.ss.length/\(s.ss.drop i).any (fun t=>cO (dR s.ss t.nm) t.nm)=s.ss.any (fun t=>cO (dR s.ss t.nm) t.nm)) (fun i=>s.ss.length - i) 0 4 ⟨Nat.zero_le _,rfl⟩ ?_ ?_ ?_
 · simp -dsimp only [go_sem]<;>simp
 · simp -dsimp only [go_sem,aD]<;>simp
 rintro i ⟨hi,ho⟩
 rcases bL i s.ss.length with hlt | hge
 · have hgi:decide ((i:Int) < (s.ss.length:Int))=true:=by simp; omega
   obtain ⟨t,hx⟩:∃ t,s.ss[i]? = some t:=⟨_,bB hlt⟩
   have q1:=aQ (row:=aL) hx
   rw [dJ hx] at ho
   have hv:=hg.vlen t.nm
   have hbs:tB ((dR s.ss t.nm).map bQ):=oO (by rw [vV]; omega)
   simp (maxSteps:=9^6) -dsimp only [go_sem,hgi,↓q1,aL,aD]
   refine ⟨by omega,aBV h1 hss (by omega) ?_⟩
   simp (maxSteps:=9^6) -dsimp only [go_sem,hbs]
   cases hc:cO (dR s.ss t.nm) t.nm with
   | true=>
    rw [hc,Bool.true_or] at ho
    simp -dsimp only [go_sem]
    exact fin 19 _ (by unfold kX; rw [<-ho]; rfl)
   | false=>
    rw [hc,Bool.false_or] at ho
    simp -dsimp only [go_sem]
    refine ⟨by omega,aC (i + 1) 4 ⟨by omega,ho⟩ (by omega) ?_ ?_⟩
    · simp -dsimp only [go_sem]<;>simp
    · simp -dsimp only [go_sem,aD]<;>simp
 · have hgi:decide ((i:Int) < (s.ss.length:Int))=false:=by simp; omega
   obtain rfl:i=s.ss.length:=by omega
   rw [fU] at ho
   have ha:u7 s.ss:=fun t ht=>kI ho.symm t ht
   have hD:=hg.dp ha
   have hF:kX s.ss=bif s.ss.any (fun t=>decide (6 < dD s.ss t.nm)) then 9 else 0:=by unfold kX; rw [<-ho]; rfl
   simp -dsimp only [go_sem,hgi,aD]
   refine aR (α:=Nat) (fun i=>[(3,.va (.c1 (.pt 3 0))),(25,.va (.c1 (.fz (s.ss.map aL)))),(26,iS .i64 s.ss.length),(27,iS .i64 i)]) (fun _=>[.map .string ks (vs.map j5),.map .string ks' (vs'.map kH),.cells (aD s) 25,.cells [.mp 0,.mp 1] 117])
    (fun i=>i<=s.ss.length/\(s.ss.drop i).any (fun t=>decide (6 < dD s.ss t.nm))=s.ss.any (fun t=>decide (6 < dD s.ss t.nm))) (fun i=>s.ss.length - i) 0 4 ⟨Nat.zero_le _,rfl⟩ ?_ ?_ ?_
   · simp -dsimp only [go_sem]<;>simp
   · simp -dsimp only [go_sem,aD]<;>simp
   clear ho
   rintro i ⟨hi,ho⟩
   rcases bL i s.ss.length with hlt | hge
   · have hgi:decide ((i:Int) < (s.ss.length:Int))=true:=by simp; omega
     obtain ⟨t,hx⟩:∃ t,s.ss[i]? = some t:=⟨_,bB hlt⟩
     have q1:=aQ (row:=aL) hx
     rw [dJ hx] at ho
     have hnd:=hg.nd t (bW hx)
     simp (maxSteps:=9^6) -dsimp only [go_sem,hgi,↓q1,aL,aD]
     refine ⟨by omega,aAS h1 hD hnd ?_⟩
     simp (maxSteps:=9^6) -dsimp only [go_sem]
     cases hc:decide (6 < dD s.ss t.nm) with
     | true=>
      rw [hc,Bool.true_or] at ho
      simp -dsimp only [go_sem]
      exact fin 9 _ (by rw [hF,<-ho]; rfl)
     | false=>
      rw [hc,Bool.false_or] at ho
      simp -dsimp only [go_sem]
      refine ⟨by omega,aC (i + 1) 4 ⟨by omega,ho⟩ (by omega) ?_ ?_⟩
      · simp -dsimp only [go_sem]<;>simp
      · simp -dsimp only [go_sem,aD]<;>simp
   · have hgi:decide ((i:Int) < (s.ss.length:Int))=false:=by simp; omega
     obtain rfl:i=s.ss.length:=by omega
     rw [fU] at ho
     simp -dsimp only [go_sem,hgi,aD]
     exact fin 0 _ (by rw [hF,<-ho]; rfl)
def iE (s:Sc) (i:Nat):Int:=match s.es[i]? with
 | some e=>bif !(fN (bl e.nm)) then 5 else bif dT (s.es.take i) e.nm then 7 else nJ e
 | none=>0
def iR (s:Sc) (i:Nat):Int:=match s.ss[i]? with
 | some t=>bif jI s i t.nm != 0 then jI s i t.nm else p5 s.ss s.es t
 | none=>0
def t8 (s:Sc):Int:=fE (iE s) (s.es.length - 0) 0
def rV (s:Sc):Int:=fE (iR s) (s.ss.length - 0) 0
def cG (s:Sc):Int:=bif decide (s.ver < 1) || decide (999 < s.ver) then 4 else bif c8 s then 3 else bif t8 s != 0 then t8 s else bif rV s != 0 then rV s else kX s.ss
inductive TySm:Ty->Prop
 | mk {k s:Int} {n:ByteArray} {e:List Ty}:e.length<=1000000000->(∀ t ∈ e,TySm t)->TySm (.mk k s n e)
structure Sc.fit (s:Sc):Prop where
 ok:s.ok
 lv:∀ t ∈ s.ss,∀ f ∈ t.fs,(cH f.ty).1<=1000000000
 sm:∀ t ∈ s.ss,t.fs.length<=1000000000/\∀ f ∈ t.fs,TySm f.ty
 en:∀ e ∈ s.es,e.ns.length<=1000000000/\e.vs.length<=1000000000
theorem PQ {f:Nat->Int} {m:Nat}:∀ (k i:Nat),i + k=m->fE f (m - i) i=0->∀ j,i<=j->j < m->f j=0
 | 0,i,h,_=>fun j h1 h2=>by omega
 | k + 1,i,h,h0=>fun j h1 h2=>by
  have hi:i < m:=by omega
  by_cases e:f i=0
  · rw [n9 hi e] at h0
    rcases bL i j with h3 | h3
    · exact PQ k (i + 1) (by omega) h0 j h3 h2
    · obtain rfl:i=j:=by omega
      exact e
  · rw [mB hi e] at h0; exact absurd h0 e
theorem oU {f:Nat->Int} {m:Nat} (h:fE f (m - 0) 0=0):∀ j,j < m->f j=0:=fun j hj=>PQ m 0 (by omega) h j (Nat.zero_le _) hj
theorem TA {ss:List St} {i:Nat} {t:St} (hx:ss[i]? = some t) (h:fF (ss.take i) t.nm=false):fS ss t.nm=some t:=by
 obtain ⟨hl,ht⟩:=bC.1 hx
 have h1:(ss.take i).find? (fun s=>decide (s.nm=t.nm))=none:=by
  rw [List.find?_eq_none]
  intro x hx
  have:=kI h x hx
  simpa using this
 have h2:ss=ss.take i ++ (t :: ss.drop (i + 1)):=by rw [<-ht,<-List.drop_eq_getElem_cons hl,List.take_append_drop]
 unfold fS
 rw [h2,List.find?_append,h1]
 simp
theorem KY {ss:List St} {es:List En} {t:St} (h:p5 ss es t=0):∀ f ∈ t.fs,(1<=f.num/\f.num<=127)/\bX (bl f.nm)=true/\valF ss es f.ty=true:=fun f hf=>by
 obtain ⟨i,hi⟩:=List.mem_iff_getElem?.1 hf
 have:=oU h i (bC.1 hi).1
 unfold l8 at this
 rw [hi] at this
 simp only at this
 cases c1:decide (f.num < 1) || decide (127 < f.num) with
 | true=>rw [c1] at this; simp at this
 | false=>
 rw [c1] at this
 simp only [aF] at this
 revert this
 generalize (decide (0 < (i:Int)) && (match t.fs[i - 1]? with | some g=>decide (f.num<=g.num) | none=>false))=b
 intro this
 cases b with
 | true=>simp at this
 | false=>
 simp only [aF] at this
 simp only [Bool.or_eq_false_iff,decide_eq_false_iff_not] at c1
 refine ⟨by omega,?_⟩
 cases c2:bX (bl f.nm) with
 | false=>rw [c2] at this; simp at this
 | true=>
 rw [c2] at this
 cases c3:(t.fs.take i).any (fun g=>decide (g.nm=f.nm)) with
 | true=>rw [c3] at this; simp at this
 | false=>
 rw [c3] at this
 cases c4:valF ss es f.ty with
 | false=>rw [c4] at this; simp at this
 | true=>exact ⟨rfl,rfl⟩
theorem CK {s:Sc} {i:Nat} {n:ByteArray} (h:jI s i n=0):fN (bl n)=true/\dT s.es n=false/\fF (s.ss.take i) n=false:=by
 unfold jI at h
 cases c1:fN (bl n) with
 | false=>rw [c1] at h; simp at h
 | true=>
 rw [c1] at h
 cases c2:dT s.es n with
 | true=>rw [c2] at h; simp at h
 | false=>
 rw [c2] at h
 cases c3:fF (s.ss.take i) n with
 | true=>rw [c3] at h; simp at h
 | false=>exact ⟨rfl,rfl,rfl⟩
theorem BV {s:Sc} {i:Nat} {t:St} (hx:s.ss[i]? = some t) (h:iR s i=0):jI s i t.nm=0/\p5 s.ss s.es t=0:=by
 unfold iR at h
 rw [hx] at h
 simp only at h
 by_cases e:jI s i t.nm=0
 · rw [e] at h; exact ⟨e,by simpa using h⟩
 · rw [show (jI s i t.nm != 0)=true by simpa using e] at h
   exact absurd h e
theorem YN {s:Sc} {i:Nat} {t:En} (hx:s.es[i]? = some t) (h:iE s i=0):fN (bl t.nm)=true/\dT (s.es.take i) t.nm=false/\nJ t=0:=by
 unfold iE at h
 rw [hx] at h
 simp only at h
 cases c1:fN (bl t.nm) with
 | false=>rw [c1] at h; simp at h
 | true=>
 rw [c1] at h
 cases c2:dT (s.es.take i) t.nm with
 | true=>rw [c2] at h; simp at h
 | false=>
 rw [c2] at h
 exact ⟨rfl,rfl,by simpa using h⟩
theorem xP {s:Sc} (h:c8 s=false):s.es.length<=16/\s.es.length + s.ss.length<=16/\(∀ e ∈ s.es,e.ns.length<=16)/\∀ t ∈ s.ss,t.fs.length<=16:=by
 unfold c8 at h
 simp only [Bool.or_eq_false_iff,decide_eq_false_iff_not] at h
 obtain ⟨⟨⟨h1,h2⟩,h3⟩,h4⟩:=h
 refine ⟨by omega,by omega,fun e he=>?_,fun t ht=>?_⟩
 · have:=kI h3 e he; simp at this; exact this
 · have:=kI h4 t ht; simp at this; exact this
theorem CI {s:Sc} (hf:s.fit) (h1:c8 s=false) (h2:rV s=0):Gd s.ss s.es:=by
 obtain ⟨l1,l2,l3,l4⟩:=xP h1
 have key:∀ t ∈ s.ss,∃ i,s.ss[i]? = some t/\jI s i t.nm=0/\p5 s.ss s.es t=0:=fun t ht=>by
  obtain ⟨i,hi⟩:=List.mem_iff_getElem?.1 ht
  exact ⟨i,hi,BV hi (oU h2 i (bC.1 hi).1)⟩
 refine ⟨hf.ok.ss,by omega,by omega,fun t ht f hm=>?_,hf.lv,fun t ht=>?_⟩
 · obtain ⟨i,hi,c1,c2⟩:=key t ht
   exact (KY c2 f hm).2.2
 · obtain ⟨i,hi,c1,c2⟩:=key t ht
   exact TA hi (CK c1).2.2
def k9 (r:List C):Prop:=∃ s:Sc,r=aD s/\s.fit
theorem iT {s:Sc} (h:s.fit):k9 (aD s):=⟨s,rfl,h⟩
noncomputable def ckFn:Fun:=p7 k9 C.sc fun s=>.int .i64 (cG s)
attribute [go_sem] ckFn
theorem lM {a b:Int} (h:a ≠ 0):(bif a != 0 then a else b)=a:=by rw [bne,beq_eq_false_iff_ne.2 h]; rfl
theorem m4 {a b:Int} (h:a=0):(bif a != 0 then a else b)=b:=by rw [h]; rfl
theorem P9:Meets Tryz.prog 31 ckFn.sp:=by
 refine aG Tryz.func31 aKM 1 (by rw [Tryz.ntmps31]; decide) (aI aBZ (aI D6 (aI NC (aA SB (aI MY (aA GH (aA TM (aB _)))))))) kK ?_
 rintro av H K ⟨⟨h,rfl⟩,hK⟩
 obtain ⟨_,rfl,s,rfl,hs⟩:=fT h
 have hK:K (iS .i64 (cG s)) []:=by
  have:ckFn.val [.va (.gs (aD s))]=iA .i64 (cG s):=by simp -dsimp only [go_sem]
  rw [this] at hK; exact hK
 clear h
 have hfit:=hs
 have hsc:qS (aD s):=CC hs.ok
 obtain ⟨⟨hv,hle,hls,hes,hss⟩,hlv,_,_⟩:=hs
 have fin:∀ (x:Int) (R:Hp),cG s=x->W.Fin 0 K (iS .i64 x) R:=fun x R h1=>by
  rw [h1] at hK
  exact .z ((by simpa [go_sem] using hK))
 have hsc':=hsc
 simp only [aD] at hsc'
 have hdec:C.sc [.vl (.int .i64 s.ver),.fz (s.es.map aO),.fz (s.ss.map aL)]=s:=f6 s
 simp (maxSteps:=9^6) -dsimp only [go_sem,aD,aA0,aBW,hsc',hdec]
 refine ⟨fun h1=>fin 4 _ (by unfold cG; rw [h1]; rfl),fun c1=>⟨fun h1=>fin 3 _ (by unfold cG; rw [c1,h1]; rfl),fun c2=>?_⟩⟩
 have hF:cG s=bif t8 s != 0 then t8 s else bif rV s != 0 then rV s else kX s.ss:=by unfold cG; rw [c1,c2]; rfl
 refine aR (α:=Nat) (fun i=>[(1,.va (.c1 (.pt 0 0))),(24,.va (.c1 (.fz (s.es.map aO)))),(25,iS .i64 s.es.length),(26,iS .i64 i)]) (fun _=>[.cells (aD s) 25])
  (fun i=>i<=s.es.length/\fE (iE s) (s.es.length - i) i=t8 s) (fun i=>s.es.length - i) 0 1 ⟨Nat.zero_le _,rfl⟩ ?_ ?_ ?_
 · simp -dsimp only [go_sem]<;>simp
 · simp -dsimp only [go_sem,aD]<;>simp
 rintro i ⟨hi,ho⟩
 rcases bL i s.es.length with hlt | hge
 · have hg:decide ((i:Int) < (s.es.length:Int))=true:=by simp; omega
   obtain ⟨e,hx⟩:∃ e,s.es[i]? = some e:=⟨_,bB hlt⟩
   have q1:=aQ (row:=aO) hx
   have he:e.ok:=hes e (bW hx)
   have hie:yX (aO e):=CO he
   have hie':=hie
   simp only [aO] at hie'
   have hed:C.en [.vl (.string e.nm),.fz (e.ns.map bQ),.fz (e.vs.map eD)]=e:=HM e
   have hA:iE s i=bif !(fN (bl e.nm)) then 5 else bif dT (s.es.take i) e.nm then 7 else nJ e:=by unfold iE; rw [hx]
   have fin':∀ (x:Int) (R:Hp),iE s i=x->x ≠ 0->W.Fin 0 K (iS .i64 x) R:=fun x R h1 h2=>fin x R (by
    rw [hF,<-ho,mB hlt (by rw [h1]; exact h2),h1]; exact lM h2)
   have dG:iE s i=0->fE (iE s) (s.es.length - (i + 1)) (i + 1)=t8 s:=fun h1=>by rw [<-ho,n9 hlt h1]
   simp (maxSteps:=9^6) -dsimp only [go_sem,hg,↓q1,aO,aD]
   refine ⟨by omega,fun h1=>fin' 5 _ (by rw [hA,h1]; rfl) (by decide),fun c3=>?_⟩
   rw [c3] at hA
   simp only [aF] at hA
   have hlj:=pO s.es i
   simp -dsimp only [iQ Y4]
   refine ⟨by simp; omega,?_⟩
   generalize hm:s.es.take i=m at *
   refine aR (α:=Nat) (fun j=>[(1,.va (.c1 (.pt 0 0))),(4,.va (.c1 (.pt 1 0))),(24,.va (.c1 (.fz (s.es.map aO)))),(25,iS .i64 s.es.length),(26,iS .i64 i),(38,.va (.c1 (.fz (m.map aO)))),(39,iS .i64 m.length),(40,iS .i64 j)]) (fun _=>[.cells (aD s) 25,.cells (aO e) 62])
    (fun j=>j<=m.length/\dT (m.drop j) e.nm=dT m e.nm) (fun j=>m.length - j) 0 2 ⟨Nat.zero_le _,rfl⟩ ?_ ?_ ?_
   · simp -dsimp only [go_sem]<;>simp
     rw [<-hm]; exact ⟨List.map_take.symm,by simp⟩
   · simp -dsimp only [go_sem,aD,aO]<;>simp
   rintro j ⟨hj,ho2⟩
   rcases bL j m.length with hjt | hjg
   · have hgj:decide ((j:Int) < (m.length:Int))=true:=by simp; omega
     obtain ⟨d,hd⟩:∃ e,m[j]? = some e:=⟨_,bB hjt⟩
     have q5:=aQ (row:=aO) hd
     rw [dT,dJ hd] at ho2
     simp (maxSteps:=9^6) -dsimp only [go_sem,hgj,↓q5,aO,aD,dO]
     and_intros
     all_goals first
      | omega
      | skip
     · intro hc
       rw [hc,Bool.true_or] at ho2
       exact fin' 7 _ (by rw [hA,<-ho2]; rfl) (by decide)
     · intro hc
       rw [hc,Bool.false_or] at ho2
       refine ⟨by omega,aC (j + 1) 2 ⟨by omega,ho2⟩ (by omega) ?_ ?_⟩
       · simp -dsimp only [go_sem]<;>simp
       · simp -dsimp only [go_sem,aD,aO]<;>simp
   · have hgj:decide ((j:Int) < (m.length:Int))=false:=by simp; omega
     obtain rfl:j=m.length:=by omega
     rw [dT,fU] at ho2
     rw [<-ho2] at hA
     simp only [aF] at hA
     simp (maxSteps:=9^6) -dsimp only [go_sem,hgj,aO,aD,hie',hed]
     refine ⟨fun h1=>fin' _ _ hA (by simpa using h1),fun h1=>?_⟩
     refine ⟨by omega,aC (i + 1) 1 ⟨by omega,dG (by rw [hA]; simpa using h1)⟩ (by omega) ?_ ?_⟩
     · simp -dsimp only [go_sem]<;>simp
     · simp -dsimp only [go_sem,aD]<;>simp
 · have hg:decide ((i:Int) < (s.es.length:Int))=false:=by simp; omega
   obtain rfl:i=s.es.length:=by omega
   rw [nM] at ho
   rw [m4 ho.symm] at hF
   simp (maxSteps:=9^6) -dsimp only [go_sem,hg,aD]
   refine aFP hfit.ok fun ks vs ks' vs' x1 x2=>?_
   simp (maxSteps:=9^6) -dsimp only [go_sem]
   clear hi hge hg
   refine aR (α:=Nat) (fun i=>[(1,.va (.c1 (.pt 0 0))),(8,.va (.c1 (.pt 3 0))),(59,.va (.c1 (.fz (s.ss.map aL)))),(60,iS .i64 s.ss.length),(61,iS .i64 i)]) (fun _=>[.cells (aD s) 25,.map .string ks (vs.map j5),.map .string ks' (vs'.map kH),.cells [.mp 1,.mp 2] 117])
    (fun i=>i<=s.ss.length/\fE (iR s) (s.ss.length - i) i=rV s) (fun i=>s.ss.length - i) 0 4 ⟨Nat.zero_le _,rfl⟩ ?_ ?_ ?_
   · simp -dsimp only [go_sem]<;>simp
   · simp -dsimp only [go_sem,aD]<;>simp
   clear ho
   rintro i ⟨hi,ho⟩
   rcases bL i s.ss.length with hlt | hge
   · have hg:decide ((i:Int) < (s.ss.length:Int))=true:=by simp; omega
     obtain ⟨t,hx⟩:∃ e,s.ss[i]? = some e:=⟨_,bB hlt⟩
     have q1:=aQ (row:=aL) hx
     have ht:t.ok:=hss t (bW hx)
     have hA:iR s i=bif jI s i t.nm != 0 then jI s i t.nm else p5 s.ss s.es t:=by unfold iR; rw [hx]
     have fin':∀ (x:Int) (R:Hp),iR s i=x->x ≠ 0->W.Fin 0 K (iS .i64 x) R:=fun x R h1 h2=>fin x R (by
      rw [hF,<-ho,mB hlt (by rw [h1]; exact h2),h1]; exact lM h2)
     have dG:iR s i=0->fE (iR s) (s.ss.length - (i + 1)) (i + 1)=rV s:=fun h1=>by rw [<-ho,n9 hlt h1]
     have q0:decide (0<=(i:Int))=true:=by simp
     simp (maxSteps:=9^6) -dsimp only [go_sem,hg,↓q1,aL,aD,hsc',hdec,Int.toNat_natCast]
     refine ⟨by omega,⟨by omega,by omega⟩,fun h1=>fin' _ _ (by rw [hA]; exact lM (by simpa using h1)) (by simpa using h1),fun h1=>?_⟩
     have h1:jI s i t.nm=0:=by simpa using h1
     rw [m4 h1] at hA
     refine aBM x1 x2 ht ?_
     simp (maxSteps:=9^6) -dsimp only [go_sem]
     refine ⟨fun h1=>fin' _ _ hA (by simpa using h1),fun h1=>?_⟩
     refine ⟨by omega,aC (i + 1) 4 ⟨by omega,dG (by rw [hA]; simpa using h1)⟩ (by omega) ?_ ?_⟩
     · simp -dsimp only [go_sem]<;>simp
     · simp -dsimp only [go_sem,aD]<;>simp
   · have hg:decide ((i:Int) < (s.ss.length:Int))=false:=by simp; omega
     obtain rfl:i=s.ss.length:=by omega
     rw [nM] at ho
     rw [m4 ho.symm] at hF
     simp (maxSteps:=9^6) -dsimp only [go_sem,hg,aD]
     refine ZU x1 (CI hfit c2 ho.symm) hfit.ok ?_
     simp (maxSteps:=9^6) -dsimp only [go_sem]
     exact fin _ _ hF
def okS (s:Sc) (n:ByteArray):Bool:=cG s == 0 && fF s.ss n
theorem zJ {s:Sc} (hf:s.fit) (h:cG s=0):Gd s.ss s.es/\u7 s.ss/\t8 s=0/\rV s=0/\c8 s=false/\1<=s.ver/\s.ver<=999/\∀ t ∈ s.ss,dD s.ss t.nm<=6:=by
 unfold cG at h
 cases c1:decide (s.ver < 1) || decide (999 < s.ver) with
 | true=>rw [c1] at h; simp at h
 | false=>
 rw [c1] at h
 cases c2:c8 s with
 | true=>rw [c2] at h; simp at h
 | false=>
 rw [c2] at h
 simp only [aF] at h
 by_cases e1:t8 s=0
 · rw [m4 e1] at h
   by_cases e2:rV s=0
   · rw [m4 e2] at h
     have g:=CI hf c2 e2
     unfold kX at h
     cases c3:s.ss.any (fun t=>cO (dR s.ss t.nm) t.nm) with
     | true=>rw [c3] at h; simp at h
     | false=>
     rw [c3] at h
     cases c4:s.ss.any (fun t=>decide (6 < dD s.ss t.nm)) with
     | true=>rw [c4] at h; simp at h
     | false=>
     simp only [Bool.or_eq_false_iff,decide_eq_false_iff_not] at c1
     refine ⟨g,kI c3,e1,e2,rfl,by omega,by omega,fun t ht=>?_⟩
     have:=kI c4 t ht
     simpa using this
   · rw [lM e2] at h; exact absurd h e2
 · rw [lM e1] at h; exact absurd h e1
theorem qC {α:Type} {l:List α} {i:Nat} {x:α} (h:l[i]? = some x):l.take (i + 1)=l.take i ++ [x]:=by rw [List.take_add_one,h]; rfl
theorem vH (t:Ty):∀ c ∈ aP t,c.shut=true/\c.one:=by rw [bM]; simp [go_sem,C.shut]
theorem H8 {α:Type} {l:List α} {i:Nat} {x:α} (hx:l[i]? = some x) (p:α->Bool):(l.drop i).find? p=bif p x then some x else (l.drop (i + 1)).find? p:=by
 obtain ⟨h,rfl⟩:=bC.1 hx
 rw [List.drop_eq_getElem_cons h,List.find?_cons]
 cases p l[i]<;>rfl
def UO:W.Spec:=fun av H K=>∃ (s:Sc) (n:ByteArray),av=[.va (.gs (aD s)),tS n]/\H=[]/\s.fit/\K (.tu [.gs (aL ((fS s.ss n).getD default)),bA (fF s.ss n)]) []
theorem LR {s:Sc} {n:ByteArray} {K:S->Hp->Prop} (h:s.fit) (hK:K (.tu [.gs (aL ((fS s.ss n).getD default)),bA (fF s.ss n)]) []):UO [.va (.gs (aD s)),tS n] [] K:=⟨s,n,rfl,rfl,h,hK⟩
theorem W9:aL default=[.vl (.string (mk [])),.fz []]:=rfl
@[go_sem] theorem aPW (t:Ty) (H:Hp):(aP t).map (C.bor H)=aP t:=by rw [bM]; rfl
noncomputable def tN (a b:Ty):Bool:=@decide (a=b) (Classical.propDecidable _)
theorem PA {a b:Ty} (h:a=b):tN a b=true:=by unfold tN; simp [h]
theorem PU {a b:Ty} (h:a ≠ b):tN a b=false:=by unfold tN; simp [h]
theorem L7 {a b:Ty}:tN a b=true ↔ a=b:=by unfold tN; simp
def FD (N:Nat):List S->Prop:=fun av=>match av with
 | [.va (.gs r),.va (.gs q)]=>fZ r/\fZ q/\(C.ty r).h<=N
 | _=>False
theorem oI {N:Nat} {av:List S} (h:FD N av):∃ a b,av=[.va (.gs (aP a)),.va (.gs (aP b))]/\TyOk a/\TyOk b/\a.h<=N:=by
 unfold FD at h
 split at h
 · obtain ⟨⟨a,rfl,ha⟩,⟨b,rfl,hb⟩,hh⟩:=h
   rw [jS] at hh
   exact ⟨a,b,rfl,ha,hb,hh⟩
 · exact h.elim
noncomputable def NU:List S->A:=fun av=>match av with
 | [.va (.gs r),.va (.gs q)]=>bA (tN (C.ty r) (C.ty q))
 | _=>.gs []
noncomputable def OB (N:Nat):Fun:=⟨FD N,NU,fun av h=>by obtain ⟨a,b,rfl,_⟩:=oI h; trivial⟩
theorem SP {N:Nat}:∀ av H K,(OB N).sp av H K->av.length=2:=fun av H K h=>by obtain ⟨a,b,rfl,_⟩:=oI h.1.1; rfl
attribute [go_sem] OB FD NU
theorem MN {k s k' s':Int} {n n':ByteArray} {e e':List Ty}:(Ty.mk k s n e=Ty.mk k' s' n' e') ↔ (k=k'/\s=s'/\n=n'/\e=e'):=by simp
def MQ:List S->Prop:=fun av=>match av with
 | [.va (.gs r),.va (.gs q)]=>fZ r/\fZ q
 | _=>False
theorem D1 {av:List S} (h:MQ av):∃ a b,av=[.va (.gs (aP a)),.va (.gs (aP b))]/\TyOk a/\TyOk b:=by
 unfold MQ at h
 split at h
 · obtain ⟨⟨a,rfl,ha⟩,⟨b,rfl,hb⟩⟩:=h
   exact ⟨a,b,rfl,ha,hb⟩
 · exact h.elim
noncomputable def sFn:Fun:=⟨MQ,NU,fun av h=>by obtain ⟨a,b,rfl,_⟩:=D1 h; trivial⟩
attribute [go_sem] sFn MQ
theorem W6:∀ (m:Nat) (r:List UInt8) (i:Nat) (out:List UInt8),r.length=m->(quoL i r out).1<=i + r.length:=by
 intro m
 induction m using Nat.strongRecOn with
 | ind m ih=>
  intro r i out hm
  cases r with
  | nil=>rw [pS]; exact Nat.le_add_right _ _
  | cons c r=>
   rw [gK]
   simp only [List.length_cons] at hm ⊢
   cases (decide (c < 32) || decide (126 < c)) with
   | true=>simp
   | false=>
    cases (c == 34) with
    | true=>simp
    | false=>
     cases (c == 92) with
     | true=>
      simp only [aF,aK]
      cases r with
      | nil=>simp
      | cons d r'=>
       simp only [List.length_cons] at hm ⊢
       cases (d == 34 || d == 92) with
       | true=>simp only [aK]; have:=ih r'.length (by omega) r' (i + 2) (out ++ [d]) rfl; omega
       | false=>simp
     | false=>
      simp only [aF]
      have:=ih r.length (by omega) r (i + 1) (out ++ [c]) rfl; omega
structure Told (l:List UInt8) (p:Nat) (k:Int) (x:List UInt8) (n:Int) (z:Nat):Prop where
 zero:k=0->p=l.length/\x=[]/\n=0
 one:k ≠ 0->∃ c,l[p]? = some c/\p < z/\z<=l.length/\0 < k/\k<=4/\32 < c.toNat/\c.toNat ≠ 35/\(c == 34)=(k == 3)/\(k == 1)=bR c.toNat
theorem AW {l:List UInt8} {a:Nat} (ha:a<=l.length):(∀ {e t},hJ l a=.bad e t->0<=t/\t<=l.length)/\∀ {k x n z},hJ l a=.ok k x n z->k=1:=by
 have:=oT (p:=a8) ha
 unfold hJ
 simp only
 cases decide (16 < b5 a8 l a - a)<;>cases (l[b5 a8 l a]? == some 45)<;>simp [R.bad.injEq,R.ok.injEq]
 all_goals (intros; omega)
theorem uI {l:List UInt8} {a:Nat} {c:UInt8} (hc:l[a]? = some c):(∀ {e t},gY l a=.bad e t->0<=t/\t<=l.length)/\∀ {k x n z},gY l a=.ok k x n z->k=2:=by
 have hlt:a < l.length:=(bC.1 hc).1
 have hge:(bif l[a]? == some 45 then a + 1 else a)<=l.length:=by cases (l[a]? == some 45)<;>simp<;>omega
 have hz2:=oT (p:=bO) hge
 unfold gY
 simp only
 generalize (List.drop (bif l[a]? == some 45 then a + 1 else a) (List.take (b5 bO l (bif l[a]? == some 45 then a + 1 else a)) l))=q
 cases (q == [] || (q[0]? == some 48 && (decide (1 < q.length) || l[a]? == some 45))) with
 | true=>simp only [aK,R.bad.injEq,reduceCtorEq,false_implies,implies_true,and_true]; rintro e t ⟨rfl,rfl⟩; omega
 | false=>
  simp only [aF]
  split
  · simp only [R.bad.injEq,reduceCtorEq,false_implies,implies_true,and_true]; rintro e t ⟨rfl,rfl⟩; omega
  · cases mT l (b5 bO l (bif l[a]? == some 45 then a + 1 else a))<;>simp only [aK,aF,R.bad.injEq,R.ok.injEq,reduceCtorEq,false_implies,implies_true,and_true,true_and]
    · rintro k x n z ⟨rfl,_⟩; rfl
    · rintro e t ⟨rfl,rfl⟩; omega
theorem sC {l:List UInt8} {a:Nat} (ha:a < l.length):(∀ {e t},gG l a=.bad e t->0<=t/\t<=l.length)/\∀ {k x n z},gG l a=.ok k x n z->k=3:=by
 have:=W6 _ (l.drop (a + 1)) (a + 1) [] rfl
 simp only [List.length_drop] at this
 unfold gG
 split
 · rename_i i hq
   rw [hq] at this
   simp only at this
   constructor
   · intro e t h; simp only [R.bad.injEq] at h; omega
   · intro k x n z h; cases h
 · rename_i z o hq
   cases decide (200 < o.length)<;>simp [R.bad.injEq,R.ok.injEq]
   all_goals (intros; omega)
def MG (c:UInt8):Bool:=
 (!(bR c.toNat || bO c || c == 45 || c == 34 || eK c.toNat) || (decide (32 < c.toNat) && c.toNat != 35)) && (!bR c.toNat || !(c == 34)) && (!(bO c || c == 45) || !(c == 34)) && (!eK c.toNat || !(c == 34))
theorem Q7 (c:UInt8):MG c=true:=dL (by decide +kernel) c
theorem qH {l:List UInt8} {p:Nat} (hp:p<=l.length):(∀ {e t},dH l p=.bad e t->e ≠ 0/\0<=t/\t<=l.length)/\∀ {k x n z},dH l p=.ok k x n z->Told l p k x n z:=by
 obtain ⟨hb,ho⟩:=zQ hp
 refine ⟨fun {e t} h=>⟨hb h,?_⟩,fun {k x n z} h=>?_⟩
 · unfold dH at h
   split at h
   · cases h
   · rename_i c hc
     have hlt:p < l.length:=(bC.1 hc).1
     revert h
     cases bR c.toNat with
     | true=>exact fun h=>(AW hp).1 h
     | false=>
      cases (bO c || c == 45) with
      | true=>exact fun h=>(uI hc).1 h
      | false=>
       cases (c == 34) with
       | true=>exact fun h=>(sC hlt).1 h
       | false=>
        cases eK c.toNat with
        | true=>intro h; cases h
        | false=>intro h; simp only [aF,R.bad.injEq] at h; omega
 · obtain ⟨o1,o2⟩:=ho h
   unfold dH at h
   split at h
   · simp only [R.ok.injEq] at h
     exact ⟨fun h0=>⟨o1 h0,h.2.1.symm,h.2.2.1.symm⟩,fun h0=>absurd h.1.symm h0⟩
   · rename_i c hc
     have hlt:p < l.length:=(bC.1 hc).1
     have hs:=Q7 c
     unfold MG at hs
     have key:∀ {q:Int},k=q->0 < q->q<=4->(32 < c.toNat/\c.toNat ≠ 35)->(c == 34)=(q == 3)->(q == 1)=bR c.toNat->Told l p k x n z:=by
      rintro q rfl h1 h2 h3 h4 h5
      obtain ⟨h6,h7⟩:=o2 (by omega)
      exact ⟨fun h=>by omega,fun _=>⟨c,hc,h6,h7,h1,h2,h3.1,h3.2,h4,h5⟩⟩
     revert h hs
     cases hL:bR c.toNat with
     | true=>
      intro h hs
      simp at hs
      exact key ((AW hp).2 h) (by omega) (by omega) hs.1.1.1 (by simpa using hs.1.1.2) (by rw [hL]; rfl)
     | false=>
      cases hd:(bO c || c == 45) with
      | true=>
       intro h hs
       have hd':bO c=true\/c=45:=by simpa using hd
       simp only [Bool.false_or,hd,Bool.true_or,Bool.not_true,Bool.not_false,Bool.and_true,Bool.true_and,Bool.and_eq_true] at hs
       simp at hs
       exact key ((uI hc).2 h) (by omega) (by omega) hs.1.1 (by simpa using hs.1.2) (by rw [hL]; rfl)
      | false=>
       cases h4:(c == 34) with
       | true=>
        intro h hs
        have:c=34:=by simpa using h4
        subst this
        exact key ((sC hlt).2 h) (by omega) (by omega) (by decide) (by rfl) (by rw [hL]; rfl)
       | false=>
        cases hm:eK c.toNat with
        | true=>
         intro h hs
         simp only [Bool.false_or,hd,Bool.or_true,Bool.not_true,Bool.not_false,Bool.and_true,Bool.true_and,Bool.and_eq_true] at hs
         simp at hs
         simp only [aF,aK,R.ok.injEq] at h
         exact key h.1.symm (by omega) (by omega) hs (by rw [h4]; rfl) (by rw [hL]; rfl)
        | false=>intro h hs; cases h
def uR (l:List UInt8):Nat->List Tk->Prop
 | _,[]=>False
 | a,t :: ts=>a<=t.a/\t.a<=l.length/\∃ z,Told l t.a t.k t.x t.n z/\(t.k=0->ts=[])/\(t.k ≠ 0->uR l z ts)
theorem EG {l:List UInt8}:∀ (f a:Nat) (ts:List Tk),a<=l.length->l.length < f + a->eV f l a=.ok ts->uR l a ts
 | 0,a,ts,ha,hf,h=>by omega
 | f + 1,a,ts,ha,hf,h=>by
  have hpl:b7 l a<=l.length:=pT ha
  have hpa:a<=b7 l a:=yB
  rw [eV] at h
  split at h
  · cases h
  · rename_i k x n z hR
    have ht:=(qH hpl).2 hR
    cases hk:k == 0 with
    | true=>
     rw [hk] at h
     simp only [aK,SR.ok.injEq] at h
     subst h
     exact ⟨hpa,hpl,z,ht,fun _=>rfl,fun h=>absurd (by simpa using hk) h⟩
    | false=>
     rw [hk] at h
     have hk':k ≠ 0:=by simpa using hk
     obtain ⟨c,_,h1,h2,_⟩:=ht.one hk'
     cases hr:eV f l z with
     | bad e t=>rw [hr] at h; cases h
     | ok us=>
      rw [hr] at h
      simp only [aF,SR.cons,SR.ok.injEq] at h
      subst h
      exact ⟨hpa,hpl,z,ht,fun h=>absurd h hk',fun _=>EG f z us h2 (by omega) hr⟩
theorem GX {l:List UInt8}:∀ (f a:Nat) (e t:Int),a<=l.length->eV f l a=.bad e t->e ≠ 0/\0<=t/\t<=l.length
 | 0,a,e,t,ha,h=>by cases h
 | f + 1,a,e,t,ha,h=>by
  have hpl:b7 l a<=l.length:=pT ha
  rw [eV] at h
  split at h
  · rename_i e' t' hR
    have:=(qH hpl).1 hR
    simp only [SR.bad.injEq] at h
    obtain ⟨rfl,rfl⟩:=h; exact this
  · rename_i k x n z hR
    have ht:=(qH hpl).2 hR
    cases hk:k == 0 with
    | true=>rw [hk] at h; cases h
    | false=>
     rw [hk] at h
     have hk':k ≠ 0:=by simpa using hk
     obtain ⟨c,_,h1,h2,_⟩:=ht.one hk'
     cases hr:eV f l z with
     | bad e' t'=>rw [hr] at h; simp only [aF,SR.cons,SR.bad.injEq] at h; obtain ⟨rfl,rfl⟩:=h; exact GX f z _ _ h2 hr
     | ok us=>rw [hr] at h; cases h
theorem NA (l:List UInt8):(bD l).err ≠ 0/\(bD l).toks=[]/\0<=(bD l).off/\(bD l).off<=l.length\/(bD l).err=0/\(bD l).off=0/\l.length<=4000/\uR l 0 (bD l).toks:=by
 unfold bD
 cases h:decide (4000 < l.length) with
 | true=>left; exact ⟨by simp [SR.err],rfl,by simp [SR.off],by simp [SR.off]⟩
 | false=>
  have h4:l.length<=4000:=by simpa using h
  simp only [aF]
  cases hr:eV (l.length + 1) l 0 with
  | bad e t=>left; obtain ⟨h1,h2,h3⟩:=GX _ _ _ _ (by omega) hr; exact ⟨h1,rfl,h2,h3⟩
  | ok ts=>right; exact ⟨rfl,rfl,h4,EG _ _ _ (by omega) (by omega) hr⟩
theorem MA {l:List UInt8} {a:Nat} {ts:List Tk} (h:uR l a ts):0 < ts.length:=by
 cases ts with
 | nil=>exact h.elim
 | cons t ts=>simp
theorem H3 {l:List UInt8}:∀ {a:Nat} {ts:List Tk},uR l a ts->ts.length + a<=l.length + 1
 | a,[],h=>h.elim
 | a,t :: ts,⟨h1,h2,z,h3,h4,h5⟩=>by
  rcases Decidable.em (t.k=0) with h0 | h0
  · rw [h4 h0]; simp only [List.length_cons,List.length_nil]; omega
  · obtain ⟨c,_,g1,_⟩:=h3.one h0
    have:=H3 (h5 h0)
    simp only [List.length_cons]; omega
theorem LV {l:List UInt8}:∀ {a:Nat} {ts:List Tk} {i:Nat} {t:Tk},uR l a ts->ts[i]? = some t->
 a<=t.a/\t.a<=l.length/\(∃ z,Told l t.a t.k t.x t.n z)/\(t.k=0 ↔ i + 1=ts.length)/\∀ u,0 < i->ts[i - 1]? = some u->u.a < t.a
 | a,[],i,t,h,_=>h.elim
 | a,s :: ts,0,t,⟨h1,h2,z,h3,h4,h5⟩,hi=>by
  simp at hi; subst hi
  refine ⟨h1,h2,⟨z,h3⟩,⟨fun h=>by rw [h4 h]; rfl,fun h=>?_⟩,fun u h=>by omega⟩
  rcases Decidable.em (s.k=0) with h0 | h0
  · exact h0
  · have:=MA (h5 h0); simp only [List.length_cons] at h; omega
 | a,s :: ts,i + 1,t,⟨h1,h2,z,h3,h4,h5⟩,hi=>by
  simp at hi
  have h0:s.k ≠ 0:=fun h=>by rw [h4 h] at hi; simp at hi
  obtain ⟨c,_,g1,g2,_⟩:=h3.one h0
  obtain ⟨q1,q2,q3,q4,q5⟩:=LV (h5 h0) hi
  refine ⟨by omega,q2,q3,by rw [q4]; simp,fun u _ hu=>?_⟩
  simp only [Nat.add_sub_cancel] at hu
  cases i with
  | zero=>simp at hu; subst hu; omega
  | succ i=>simp at hu; exact q5 u (by omega) (by simpa using hu)
def FG:List S->Prop:=fun xs=>match xs with
 | [.va (.c1 (.vl (.string s))),.va (.c1 (.vl (.int .i64 a)))]=>0<=a/\a<=(bl s).length/\(bl s).length<=4000
 | _=>False
theorem rZ {xs:List S} (h:FG xs):∃ s a,xs=[tS s,iS .i64 a]/\0<=a/\a<=(bl s).length/\(bl s).length<=4000:=by
 unfold FG at h
 split at h
 · exact ⟨_,_,rfl,h⟩
 · exact h.elim
def UY (f:List UInt8->Nat->Value):List S->A:=fun xs=>match xs with
 | [.va (.c1 (.vl (.string s))),.va (.c1 (.vl (.int .i64 a)))]=>.c1 (.vl (f (bl s) a.toNat))
 | _=>.gs []
def SQ (f:List UInt8->Nat->Value):Fun:=⟨FG,UY f,fun xs h=>by obtain ⟨s,a,rfl,_⟩:=rZ h; trivial⟩
theorem TT {f:List UInt8->Nat->Value}:∀ xs H K,(SQ f).sp xs H K->xs.length=2:=fun xs H K h=>by obtain ⟨s,a,rfl,_⟩:=rZ h.1.1; rfl
attribute [go_sem] SQ FG UY
theorem ZV:Meets Tryz.prog 86 (SQ fun l a=>.int .i64 (b7 l a)).sp:=by
 refine aG Tryz.func86 aNG 2 (by rw [Tryz.ntmps86]; decide) (aB _) TT ?_
 rintro xs H K ⟨⟨h,rfl⟩,hK⟩
 obtain ⟨s,a,rfl,h0,h1,h2⟩:=rZ h
 simp -dsimp only [go_sem,aFR,aF6] at hK ⊢
 have h10:∀ c:UInt8,((c.toNat:Int) == 10)=(c == 10):=fun c=>gX 10
 have h35:∀ c:UInt8,((c.toNat:Int) == 35)=(c == 35):=fun c=>gX 35
 have h32:∀ c:UInt8,((c.toNat:Int) == 32)=(c == 32):=fun c=>gX 32
 have h9:∀ c:UInt8,((c.toNat:Int) == 9)=(c == 9):=fun c=>gX 9
 refine aR (α:=Bool × Nat) (fun z=>[(0,tS s),(1,iS .i64 z.2),(5,bS z.1)]) (fun z=>[]) (fun z=>z.2<=(bl s).length/\z.2 + dB z.1 ((bl s).drop z.2)=b7 (bl s) a.toNat) (fun z=>(bl s).length - z.2) (false,a.toNat) 0 ⟨by simp only; omega,rfl⟩ ?_ ?_ ?_
 · simp -dsimp only [go_sem]; simp [Int.toNat_of_nonneg h0]
 · simp [go_sem]
 rintro ⟨r,i⟩ ⟨hi,hr⟩
 simp only at hi hr
 simp -dsimp only [go_sem,bne,h10,h35,h32,h9]
 refine ⟨fun hlt=>⟨⟨by omega,by simpa using hlt⟩,fun c hc=>?_⟩,fun hge=>cZ hK ?_⟩
 · have hlt:i < (bl s).length:=(bC.1 hc).1
   rw [dC hc] at hr
   simp only [dB] at hr
   have hstep:∀ r':Bool,(bif c == 35 then true else bif c == 10 then false else r)=r'->(!r' && !(c == 32 || c == 9 || c == 10))=false->i + 1 + dB r' ((bl s).drop (i + 1))=b7 (bl s) a.toNat:=by
    rintro r' rfl h
    rw [h,aF] at hr
    omega
   have hend:∀ r':Bool,(bif c == 35 then true else bif c == 10 then false else r)=r'->(!r' && !(c == 32 || c == 9 || c == 10))=true->i=b7 (bl s) a.toNat:=by
    rintro r' rfl h
    rw [h,aK] at hr
    omega
   refine ⟨fun q1=>⟨fun q2=>?_,fun q2=>⟨fun q3=>?_,fun q3=>⟨by omega,aC (false,i + 1) 0 ⟨by simp only; omega,hstep _ (by simp [q1,q2]) (by simp [q1])⟩ (by simp only; omega) ?_ ?_⟩⟩⟩,
    fun q1=>⟨fun q2=>⟨by omega,aC (true,i + 1) 0 ⟨by simp only; omega,hstep _ (by simp [q2]) (by simp)⟩ (by simp only; omega) ?_ ?_⟩,
     fun q2=>⟨fun q3=>?_,fun q3=>⟨by omega,aC (r,i + 1) 0 ⟨by simp only; omega,hstep _ (by simp [q1,q2]) (by simpa [Bool.and_assoc] using q3)⟩ (by simp only; omega) ?_ ?_⟩⟩⟩⟩
   · exfalso
     have e1:c=10:=by simpa using q1
     subst e1; cases q2
   · simp [q1] at q3
   · simp -dsimp only [go_sem]; simp
   · simp [go_sem]
   · simp -dsimp only [go_sem]; simp
   · simp [go_sem]
   · refine cZ hK ?_
     rw [<-hend r (by simp [q1,q2]) (by simpa [Bool.and_assoc] using q3)]
   · simp -dsimp only [go_sem]; simp
   · simp [go_sem]
 · have:i=(bl s).length:=by simp at hge; omega
   subst this
   simp [dB] at hr
   rw [<-hr]
def yZ (pre:List UInt8->Nat->Prop) (post:ByteArray->Int->(S->Hp->Prop)->Prop):W.Spec:=fun xs H K=>
 match xs,H with
 | [.va (.c1 (.vl (.string s))),.va (.c1 (.vl (.int .i64 a)))],[]=>(0<=a/\a<=(bl s).length/\(bl s).length<=4000/\pre (bl s) a.toNat)/\post s a K
 | _,_=>False
theorem p8 {pre:List UInt8->Nat->Prop} {post:ByteArray->Int->(S->Hp->Prop)->Prop} {xs:List S} {H:Hp} {K:S->Hp->Prop} (h:yZ pre post xs H K) :
 ∃ s a,xs=[tS s,iS .i64 a]/\H=[]/\0<=a/\a<=(bl s).length/\(bl s).length<=4000/\pre (bl s) a.toNat/\post s a K:=by
 unfold yZ at h
 split at h
 · exact ⟨_,_,rfl,rfl,h.1.1,h.1.2.1,h.1.2.2.1,h.1.2.2.2,h.2⟩
 · exact h.elim
theorem y7 {pre:List UInt8->Nat->Prop} {post:ByteArray->Int->(S->Hp->Prop)->Prop}:∀ xs H K,yZ pre post xs H K->xs.length=2:=fun xs H K h=>by
 obtain ⟨s,a,rfl,_⟩:=p8 h; rfl
attribute [go_sem ↓] yZ
def Got:R->ByteArray->Int->Int->Int->Int->Prop
 | .ok _ x n z,x',n',z',e',t'=>x'=mk x/\n'=n/\z'=z/\e'=0/\t'=0
 | .bad e t,_,_,_,e',t'=>e'=e/\t'=t
def O4:W.Spec:=yZ (fun _ _=>True) fun s a K=>∀ x n z e t,Got (hJ (bl s) a.toNat) x n z e t->z=b5 a8 (bl s) a.toNat->K (.tu [iA .i64 z,iA .i64 e,iA .i64 t]) []
attribute [go_sem ↓] O4
theorem aBH:Meets Tryz.prog 88 O4:=by
 refine aG Tryz.func88 aLW 2 (by rw [Tryz.ntmps88]; decide) (aI P0 (aB _)) y7 ?_
 intro xs H K h
 obtain ⟨s,a,rfl,rfl,h0,h1,h2,-,hK⟩:=p8 h
 simp -dsimp only [go_sem,aE2,Z3] at hK ⊢
 have h45:∀ c:UInt8,((c.toNat:Int) == 45)=(c == 45):=fun c=>gX 45
 refine aR (α:=Nat) (fun z=>[(0,tS s),(1,iS .i64 a),(7,iS .i64 z)]) (fun z=>[]) (fun z=>a.toNat<=z/\z<=(bl s).length/\b5 a8 (bl s) z=b5 a8 (bl s) a.toNat) (fun z=>(bl s).length - z) a.toNat 0 ⟨by omega,by omega,rfl⟩ ?_ ?_ ?_
 · simp -dsimp only [go_sem]; simp [Int.toNat_of_nonneg h0]
 · simp [go_sem]
 rintro i ⟨hai,hi,hr⟩
 simp -dsimp only [go_sem,bne,h45]
 refine ⟨fun hlt=>⟨by omega,by simpa using hlt⟩,fun c hc=>⟨fun _=>by have:=c.toNat_lt; omega,fun h3=>?_,fun h3=>?_⟩⟩
 · simp only [Bool.and_eq_true,decide_eq_true_eq] at h3
   have hc:=hc (by simpa using h3.1)
   have hlt:i < (bl s).length:=(bC.1 hc).1
   refine ⟨by omega,aC (i + 1) 0 ⟨by omega,hlt,by rw [jE hc h3.2,hr]⟩ (by omega) ?_ ?_⟩
   · simp -dsimp only [go_sem]; simp
   · simp [go_sem]
 · have hz:b5 a8 (bl s) a.toNat=i:=by
    rw [<-hr]
    refine nL fun d hd=>?_
    have hlt:i < (bl s).length:=(bC.1 hd).1
    have hd2:=hc (by simp; omega)
    rw [hd] at hd2; obtain rfl:=bK hd2
    have hlt2:decide ((i:Int) < (bl s).length)=true:=by simp; omega
    rw [hlt2,Bool.true_and] at h3
    exact h3
   simp only [hJ,hz] at hK
   refine ⟨by omega,fun h4=>.done (hK (mk []) 0 _ _ _ ?_ rfl),fun h4=>⟨fun hlt=>⟨by omega,by simpa using hlt⟩,fun d hd=>⟨fun h5=>.done (hK (mk []) 0 _ _ _ ?_ rfl),fun h5=>.done (hK (mk (List.drop a.toNat (List.take i (bl s)))) 0 _ _ _ ?_ rfl)⟩⟩⟩
   · have:decide (16 < i - a.toNat)=true:=by simp at h4 ⊢; omega
     rw [this]; exact ⟨rfl,by simp; omega⟩
   all_goals
    have:decide (16 < i - a.toNat)=false:=by simp at h4 ⊢; omega
    rw [this]
   · simp only [Bool.and_eq_true] at h5
     have:=hd h5.1
     simp only [aF,this]
     rw [show (some d == some 45)=(d == 45) from rfl,h5.2]
     exact ⟨rfl,rfl⟩
   · have:((bl s)[i]? == some 45)=false:=by
      cases he:(bl s)[i]? with
      | none=>rfl
      | some e=>
       have hlt:i < (bl s).length:=(bC.1 he).1
       have hd2:=hd (by simp; omega)
       rw [he] at hd2; obtain rfl:=bK hd2
       have hlt2:decide ((i:Int) < (bl s).length)=true:=by simp; omega
       rw [hlt2,Bool.true_and] at h5
       exact h5
     rw [this]
     exact ⟨rfl,rfl,rfl,rfl,rfl⟩
def decV:Nat->List UInt8->Nat
 | n,[]=>n
 | n,c :: l=>decV (10 * n + (c.toNat - 48)) l
theorem mW (n:Nat):decV n []=n:=by rw [decV.eq_def]
theorem iG (n:Nat) (c:UInt8) (l:List UInt8):decV n (c :: l)=decV (10 * n + (c.toNat - 48)) l:=by rw [decV.eq_def]
theorem wU:∀ (l:List UInt8) (n:Nat),n<=decV n l
 | [],n=>by rw [mW]; exact Nat.le_refl n
 | c :: l,n=>by have:=wU l (10 * n + (c.toNat - 48)); rw [iG]; omega
theorem PG (lim n:Nat) (c:UInt8) (l:List UInt8):valL lim n (c :: l)=if (lim - (c.toNat - 48)) / 10 < n then none else valL lim (10 * n + (c.toNat - 48)) l:=by rw [valL.eq_def]
theorem yC {lim:Nat} (h9:9<=lim):∀ (l:List UInt8) (n:Nat),n<=lim->(∀ c ∈ l,bO c=true)->valL lim n l=bif decide (decV n l<=lim) then some (decV n l) else none
 | [],n,hn,_=>by rw [mW,valL.eq_def]; simp [hn]
 | c :: l,n,hn,hd=>by
  have hc:=kD.1 (hd c (by simp))
  rw [PG,iG]
  generalize c.toNat=d at hc ⊢
  by_cases h:(lim - (d - 48)) / 10 < n
  · have:=wU l (10 * n + (d - 48))
    have h2:decide (decV (10 * n + (d - 48)) l<=lim)=false:=by simp only [decide_eq_false_iff_not]; omega
    rw [if_pos h,h2]; rfl
  · rw [if_neg h]
    exact yC h9 l _ (by omega) (fun x hx=>hd x (by simp [hx]))
def oZ (l:List UInt8):Int × Int:=
 let neg:=l[0]? == some 45
 let s:=l.drop (bif neg then 1 else 0)
 bif s == [] || (s[0]? == some 48 && (decide (1 < s.length) || neg)) then (0,2)
 else match valL (cY neg) 0 s with
  | none=>(0,1)
  | some n=>(signed neg n,0)
def uL:W.Spec:=fun xs H K=>
 match xs,H with
 | [.va (.c1 (.vl (.string s)))],[]=>((bl s).length<=4000/\∀ c ∈ (bl s).drop (bif (bl s)[0]? == some 45 then 1 else 0),bO c=true)/\K (.tu [iA .i64 (oZ (bl s)).1,iA .i64 (oZ (bl s)).2]) []
 | _,_=>False
theorem xJ {xs:List S} {H:Hp} {K:S->Hp->Prop} (h:uL xs H K):∃ s,xs=[tS s]/\H=[]/\(bl s).length<=4000/\(∀ c ∈ (bl s).drop (bif (bl s)[0]? == some 45 then 1 else 0),bO c=true)/\K (.tu [iA .i64 (oZ (bl s)).1,iA .i64 (oZ (bl s)).2]) []:=by
 unfold uL at h
 split at h
 · exact ⟨_,rfl,rfl,h.1.1,h.1.2,h.2⟩
 · exact h.elim
attribute [go_sem ↓] uL
theorem aIS:Meets Tryz.prog 118 uL:=by
 refine aG Tryz.func118 aHX 1 (by rw [Tryz.ntmps118]; decide) (aI AL (aB _)) (fun xs H K h=>by obtain ⟨s,rfl,_⟩:=xJ h; rfl) ?_
 intro xs H K h
 obtain ⟨s,rfl,rfl,h0,hd,hK⟩:=xJ h
 have h45:∀ c:UInt8,((c.toNat:Int) == 45)=(c == 45):=fun c=>gX 45
 have h48:∀ c:UInt8,((c.toNat:Int) == 48)=(c == 48):=fun c=>gX 48
 generalize hneg:((bl s)[0]? == some 45)=neg at hd
 generalize hf:(bif neg then 1 else 0:Nat)=f at hd
 have rest:vc [(89,.f (kW fun c=>.bool (hZ c)))] 0 pc118_4.ungh (cJ [(0,tS s),(4,iS .i64 f)]) [] (eO 0 FJ K):=by
  simp -dsimp only [go_sem,pc118_4,FJ,h48]
  have hfn:((f:Int) == 1)=neg:=by subst hf; cases neg<;>rfl
  simp only [oZ,hneg,hf] at hK
  generalize hq:List.drop f (bl s)=q at hK hd
  have hql:q.length=(bl s).length - f:=by rw [<-hq]; simp
  have hqg:∀ d r,q=d :: r->(bl s)[f]? = some d:=fun d r e=>by
   have:(List.drop f (bl s))[0]? = some d:=by rw [hq,e]; rfl
   simpa using this
  rw [hfn]
  have key:∀ c e:UInt8,((!decide (((bl s).length:Int)<=f) && decide (1 < ((bl s).length:Int) - f))=true->(bl s)[f]? = some c)->
   ((!(decide (((bl s).length:Int)<=f) || decide (1 < ((bl s).length:Int) - f) && c == 48) && neg)=true->(bl s)[f]? = some e)->
   ((decide (((bl s).length:Int)<=f) || decide (1 < ((bl s).length:Int) - f) && c == 48) || neg && e == 48)=(q == [] || (q[0]? == some 48 && (decide (1 < q.length) || neg))):=by
   intro c e hc he
   cases q with
   | nil=>
    have:decide (((bl s).length:Int)<=f)=true:=by simp at hql ⊢; omega
    rw [this]; rfl
   | cons d r=>
    have hd0:=hqg d r rfl
    have hA:decide (((bl s).length:Int)<=f)=false:=by simp only [List.length_cons] at hql; simp; omega
    have hB:decide (1 < ((bl s).length:Int) - f)=decide (1 < (d :: r).length):=by rw [decide_eq_decide]; simp only [List.length_cons] at hql ⊢; omega
    rw [hB] at hc he ⊢
    rw [hA,hd0] at hc he
    rw [hA]
    simp only [Bool.not_false,Bool.true_and,Bool.false_or,aH] at hc he
    simp only [Bool.false_or,List.getElem?_cons_zero]
    rw [show (some d == some 48)=(d == 48) from rfl,show ((d :: r) == [])=false from rfl,Bool.false_or]
    generalize decide (1 < (d :: r).length)=b at hc he
    cases b with
    | true=>
     obtain rfl:=hc rfl
     simp only [Bool.true_and] at he ⊢
     cases hd48:d == 48 with
     | true=>rfl
     | false=>
      rw [hd48] at he
      cases neg with
      | true=>obtain rfl:=he rfl; rw [hd48]; rfl
      | false=>rfl
    | false=>
     simp only [Bool.false_and,Bool.false_or] at he ⊢
     cases neg with
     | true=>obtain rfl:=he rfl; simp
     | false=>simp
  have hf1:f<=1:=by subst hf; cases neg<;>decide
  refine ⟨fun _=>by omega,fun h=>⟨by omega,by simp at h; omega⟩,fun c hc=>⟨fun h1 h2=>by rw [h1,h2]; rfl,fun h=>⟨by omega,by simp at h; omega⟩,fun e he=>⟨fun h1 h2=>by rw [h1,h2]; rfl,?_⟩⟩⟩
  rw [key c e hc he]
  generalize hG:(q == [] || (q[0]? == some 48 && (decide (1 < q.length) || neg)))=G at hK
  refine ⟨fun h=>?_,fun h=>?_⟩
  · rw [h] at hK; exact .done hK
  rw [h] at hK hG
  simp only [aF] at hK
  have hlim:9<=cY neg:=by cases neg<;>decide
  rw [yC hlim q 0 (Nat.zero_le _) hd] at hK
  have hfl:f < (bl s).length:=by
   cases q with
   | nil=>cases hG
   | cons d r=>simp only [List.length_cons] at hql; omega
  have hpos:neg=true->0 < decV 0 q:=fun hn=>by
   cases q with
   | nil=>cases hG
   | cons d r=>
    subst hn
    have hdd:=kD.1 (hd d (by simp))
    have h1:¬ d=48:=fun e=>by subst e; simp at hG
    have h2:d.toNat ≠ 48:=fun e=>h1 (UInt8.toNat.inj e)
    have:=wU r (10 * 0 + (d.toNat - 48))
    rw [iG]; omega
  refine aR (α:=Nat × Nat) (fun z=>[(0,tS s),(4,iS .i64 f),(5,iS .u64 z.1),(6,iS .i64 z.2)]) (fun z=>[]) (fun z=>f<=z.2/\z.2<=(bl s).length/\z.1<=10000000000000000009/\decV z.1 ((bl s).drop z.2)=decV 0 q) (fun z=>(bl s).length - z.2) (0,f) 0 ⟨by simp only; omega,by simp only; omega,by simp,by simp only; rw [hq]⟩ ?_ ?_ ?_
  · simp -dsimp only [go_sem]; simp
  · simp [go_sem]
  rintro ⟨n,i⟩ ⟨hi1,hi2,hn,hv⟩
  simp only at hi1 hi2 hn hv
  simp -dsimp only [go_sem,hfn]
  have hnone:¬ decV 0 q<=cY neg->K (.tu [iA .i64 0,iA .i64 1]) []:=fun h=>by
   have:decide (decV 0 q<=cY neg)=false:=by simpa using h
   rw [this] at hK; exact hK
  have hlim2:cY neg<=9223372036854775808:=by cases neg<;>decide
  refine ⟨fun hlt=>⟨⟨by omega,by simpa using hlt⟩,fun c hc=>⟨by have:=c.toNat_lt; omega,fun h3=>?_,fun h3=>⟨fun h4=>.done (hnone ?_),fun h4=>⟨by simp at h4; omega,⟨by omega,by simpa using hlt⟩,fun e he=>?_⟩⟩⟩⟩,fun hge=>?_⟩
  · exfalso
    have:c ∈ q:=by rw [<-hq]; exact bW (i:=i - f) (by rw [List.getElem?_drop,show f + (i - f)=i by omega]; exact hc)
    have:=hd c this
    rw [bO,h3] at this; cases this
  · rw [dC hc,iG] at hv
    have:=wU ((bl s).drop (i + 1)) (10 * n + (c.toNat - 48))
    simp at h4; omega
  · rw [hc] at he; obtain rfl:=bK he
    have hc9:=kD.1 (show bO c=true by simpa [bO] using h3)
    have hw:IntKind.u64.wrap ((c.toNat:Int) - 48)=((c.toNat - 48:Nat):Int):=by
     simp [IntKind.wrap,IntKind.signed,IntKind.bits]; omega
    have hlt:i < (bl s).length:=(bC.1 hc).1
    simp at h4
    refine ⟨by omega,by rw [hw]; omega,by omega,aC (10 * n + (c.toNat - 48),i + 1) 0 ⟨by simp only; omega,by simp only; omega,by simp only; omega,by simp only; rw [<-hv,dC hc,iG]⟩ (by simp only; omega) ?_ ?_⟩
    · simp -dsimp only [go_sem,hw]; simp
    · simp [go_sem]
  · have hN:n=decV 0 q:=by
     have:i=(bl s).length:=by simp at hge; omega
     rw [<-hv,this,List.drop_length,mW]
    rw [<-hN] at hK hpos hnone
    refine ⟨fun hn1=>⟨fun h4=>.done (hnone ?_),fun h4=>?_⟩,fun hn1=>⟨fun h4=>.done (hnone ?_),fun h4=>?_⟩⟩
    · subst hn1; simp at h4; simp [cY]; omega
    · have hp:=hpos hn1
      simp at h4
      have w1:IntKind.i64.wrap ((n:Int) - 1)=(n:Int) - 1:=pE (by simp [inr,IntKind.min,IntKind.max,IntKind.signed,IntKind.bits]; omega)
      rw [w1]
      refine ⟨by omega,by omega,by omega,cZ hK ?_⟩
      subst hn1
      have:decide (n<=cY true)=true:=decide_eq_true (show n<=9223372036854775808 by omega)
      rw [this]
      simp [signed]; omega
    · subst hn1; simp at h4; simp [cY]; omega
    · simp at h4
      have w1:IntKind.i64.wrap (n:Int)=(n:Int):=pE (by simp [inr,IntKind.min,IntKind.max,IntKind.signed,IntKind.bits]; omega)
      rw [w1]
      refine cZ hK ?_
      subst hn1
      have:decide (n<=cY false)=true:=decide_eq_true (show n<=9223372036854775807 by omega)
      rw [this]
      simp [signed]
 simp -dsimp only [go_sem,UV,FJ,h45]
 refine ⟨fun h=>⟨by omega,by simpa using h⟩,fun c hc=>⟨fun h=>?_,fun h=>?_⟩⟩
 · simp only [Bool.and_eq_true] at h
   have hc:=hc h.1
   have:neg=true:=by rw [<-hneg,hc]; exact h.2
   subst this
   obtain rfl:1=f:=hf
   refine cA 0 rest ?_ ?_
   · simp -dsimp only [go_sem]; simp
   · simp [go_sem]
 · have:neg=false:=by
    rw [<-hneg]
    cases h0:(bl s)[0]? with
    | none=>rfl
    | some d=>
     have hlt:0 < (bl s).length:=(bC.1 h0).1
     have hd2:=hc (by simp; omega)
     rw [h0] at hd2; obtain rfl:=bK hd2
     have:decide ((0:Int) < (bl s).length)=true:=by simp; omega
     rw [this,Bool.true_and] at h
     exact h
   subst this
   obtain rfl:0=f:=hf
   refine cA 0 rest ?_ ?_
   · simp -dsimp only [go_sem]; simp
   · simp [go_sem]
def QX:W.Spec:=yZ (fun l a=>∃ c,l[a]? = some c) fun s a K=>∀ x n z e t,Got (gY (bl s) a.toNat) x n z e t->K (.tu [iA .i64 z,iA .i64 n,iA .i64 e,iA .i64 t]) []
def WJ:W.Spec:=yZ (fun l a=>l[a]? = some 34) fun s a K=>∀ x n z e t,Got (gG (bl s) a.toNat) x n z e t->K (.tu [iA .i64 z,tA x,iA .i64 e,iA .i64 t]) []
attribute [go_sem ↓] QX WJ
theorem Got.bad {r:R} {e t:Int} (h:r=.bad e t) {x:ByteArray} {n z:Int}:Got r x n z e t:=by subst h; exact ⟨rfl,rfl⟩
theorem Got.ok {r:R} {k:Int} {x:List UInt8} {n:Int} {z:Nat} (h:r=.ok k x n z):Got r (mk x) n z 0 0:=by subst h; exact ⟨rfl,rfl,rfl,rfl,rfl⟩
theorem AR (p:UInt8->Bool):∀ (l:List UInt8) (c:UInt8),l[(l.takeWhile p).length]? = some c->p c=false
 | [],c,h=>by simp at h
 | d :: l,c,h=>by
  cases hp:p d with
  | true=>rw [List.takeWhile_cons,if_pos hp] at h; simp at h; exact AR p l c h
  | false=>rw [List.takeWhile_cons,hp] at h; simp at h; subst h; exact hp
theorem Y7 {p:UInt8->Bool} {l:List UInt8} {a:Nat} {c:UInt8} (h:l[b5 p l a]? = some c):p c=false:=by
 refine AR p (l.drop a) c ?_
 rw [List.getElem?_drop]; exact h
theorem aGU:Meets Tryz.prog 91 WJ:=by
 refine aG Tryz.func91 aLV 2 (by rw [Tryz.ntmps91]; decide) (aB _) y7 ?_
 intro xs H K h
 obtain ⟨s,a,rfl,rfl,h0,h1,h2,hc0,hK⟩:=p8 h
 have h34:∀ c:UInt8,((c.toNat:Int) == 34)=(c == 34):=fun c=>gX 34
 have h92:∀ c:UInt8,((c.toNat:Int) == 92)=(c == 92):=fun c=>gX 92
 have hlt:a.toNat < (bl s).length:=(bC.1 hc0).1
 simp -dsimp only [go_sem,aBO,aEC]
 refine ⟨by omega,?_⟩
 refine aR (α:=List UInt8 × Nat) (fun z=>[(0,tS s),(1,iS .i64 a),(8,tS (mk z.1)),(9,iS .i64 z.2)]) (fun z=>[]) (fun z=>z.2<=(bl s).length/\z.1.length<=z.2/\quoL z.2 ((bl s).drop z.2) z.1=quoL (a.toNat + 1) ((bl s).drop (a.toNat + 1)) []) (fun z=>(bl s).length - z.2) ([],a.toNat + 1) 0 ⟨by simp only; omega,by simp,rfl⟩ ?_ ?_ ?_
 · simp -dsimp only [go_sem]; simp [Int.toNat_of_nonneg h0]
 · simp [go_sem]
 rintro ⟨out,i⟩ ⟨hi,ho,hr⟩
 simp only at hi ho hr
 simp -dsimp only [go_sem,bne,h34,h92,FU]
 have ha:((a.toNat:Nat):Int)=a:=Int.toNat_of_nonneg h0
 have hT:gG (bl s) a.toNat=match quoL i (List.drop i (bl s)) out with
  | (i,none)=>.bad 2 i
  | (z,some out)=>bif decide (200 < out.length) then .bad 3 a.toNat else .ok 3 out 0 z:=by rw [hr]; rfl
 refine ⟨fun hge=>?_,fun hlt=>⟨⟨by omega,by simpa using hlt⟩,fun c hc=>⟨fun h3=>?_,fun h3=>⟨fun _=>by omega,fun _=>by omega,fun h4=>⟨by omega,by simp at h4; omega⟩,fun d hd=>⟨fun _=>by omega,fun h=>⟨by omega,by simp at h; omega⟩,fun e he=>⟨fun h1 h2=>by rw [h1,h2]; rfl,fun h1 h2=>by rw [h1,h2]; rfl,fun h1 h2=>by rw [h1,h2]; rfl,?_⟩⟩⟩⟩⟩⟩
 · have:i=(bl s).length:=by simp at hge; omega
   subst this
   rw [List.drop_length,pS] at hT
   exact .done (hK (mk []) 0 _ _ _ (Got.bad hT))
 · have:c=34:=by simpa using h3
   subst this
   rw [dC hc,gK] at hT
   simp at hT
   refine ⟨fun h4=>.done (hK (mk []) 0 _ _ _ (Got.bad (t:=a) (e:=3) ?_)),fun h4=>⟨by omega,.done (hK (mk out) 0 _ _ _ ?_)⟩⟩
   · have:decide (200 < out.length)=true:=by simp at h4 ⊢; omega
     rw [hT,this,aK,Int.max_eq_left h0]
   · have:decide (200 < out.length)=false:=by simp at h4 ⊢; omega
     rw [this] at hT
     exact Got.ok hT
 have hlt2:i < (bl s).length:=(bC.1 hc).1
 have hw:(decide ((c.toNat:Int) < 32) || decide (126 < (c.toNat:Int)))=(decide (c < 32) || decide (126 < c)):=by
  have e1:decide ((c.toNat:Int) < 32)=decide (c < 32):=by rw [decide_eq_decide,UInt8.lt_iff_toNat_lt]; show _ ↔ c.toNat < 32; omega
  have e2:decide (126 < (c.toNat:Int))=decide (126 < c):=by rw [decide_eq_decide,UInt8.lt_iff_toNat_lt]; show _ ↔ 126 < c.toNat; omega
  rw [e1,e2]
 rw [hw] at hd he ⊢
 rw [dC hc,gK] at hT hr
 generalize (decide (c < 32) || decide (126 < c))=w at hd he hT hr ⊢
 rw [h3] at hT hr
 cases w with
 | true=>
  simp only [aK] at hT
  exact ⟨fun _=>.done (hK (mk []) 0 _ _ _ (Got.bad hT)),fun h=>by simp at h⟩
 | false=>
  simp only [aF] at hT hr
  cases h9:c == 92 with
  | false=>
   rw [h9] at hr
   simp only [aF] at hr
   have hsub:List.drop i (List.take (i + 1) (bl s))=[c]:=by rw [List.drop_take,dC hc]; simp
   refine ⟨fun h=>by simp at h,fun _=>⟨fun h=>by simp at h,fun _=>?_⟩⟩
   and_intros
   all_goals first
    | omega
    | (simp; omega)
    | skip
   refine aC (out ++ [c],i + 1) 0 ⟨by simp only; omega,by simp; omega,hr⟩ (by simp only; omega) ?_ ?_
   · simp -dsimp only [go_sem]; simp [show ((i:Int) + 1).toNat=i + 1 by omega,hsub]
   · simp [go_sem]
  | true=>
   rw [h9] at hr hT hd he
   simp only [aK,Bool.not_false,Bool.true_and] at hr hT hd he
   cases hrest:List.drop (i + 1) (bl s) with
   | nil=>
    have:(bl s).length<=i + 1:=List.drop_eq_nil_iff.1 hrest
    have h8:decide (((bl s).length:Int)<=i + 1)=true:=by simp; omega
    rw [hrest] at hT
    rw [h8]
    exact ⟨fun _=>.done (hK (mk []) 0 _ _ _ (Got.bad hT)),fun h=>by simp at h⟩
   | cons x r=>
    have hx:(bl s)[i + 1]? = some x:=by
     have:(List.drop (i + 1) (bl s))[0]? = some x:=by rw [hrest]; rfl
     simpa using this
    have hltx:i + 1 < (bl s).length:=(bC.1 hx).1
    have hrx:r=List.drop (i + 2) (bl s):=by
     have:=dC hx
     rw [hrest] at this; simpa using this
    have h8:decide (((bl s).length:Int)<=i + 1)=false:=by simp; omega
    rw [hrest] at hT hr
    have hi1:((i:Int) + 1).toNat=i + 1:=by omega
    have hi2:((i:Int) + 1 + 1).toNat=i + 2:=by omega
    rw [h8,hi1,hx] at hd he
    simp only [Bool.not_false,Bool.true_and,true_implies,aH] at hd he
    obtain rfl:=hd
    have hE:(x == 34 || x == 92)=!(!x == 34 && !e == 92):=by
     cases h7:x == 34 with
     | true=>rfl
     | false=>rw [h7] at he; obtain rfl:=he rfl; simp
    rw [h8]
    simp only [hE] at hT hr
    generalize (!x == 34 && !e == 92)=b at hT hr ⊢
    cases b with
    | true=>exact ⟨fun _=>.done (hK (mk []) 0 _ _ _ (Got.bad hT)),fun h=>by simp at h⟩
    | false=>
     simp only [Bool.not_false,aK] at hr
     have hsub:List.drop (i + 1) (List.take (i + 2) (bl s))=[x]:=by rw [List.drop_take,dC hx]; simp
     refine ⟨fun h=>by simp at h,fun _=>⟨fun _=>?_,fun h=>by simp at h⟩⟩
     and_intros
     all_goals first
      | omega
      | (simp; omega)
      | skip
     refine aC (out ++ [x],i + 2) 0 ⟨by simp only; omega,by simp; omega,by rw [<-hr,hrx]⟩ (by simp only; omega) ?_ ?_
     · simp -dsimp only [go_sem]; simp [hi1,hi2,hsub]; omega
     · simp [go_sem]
theorem aHK:Meets Tryz.prog 90 QX:=by
 refine aG Tryz.func90 aMW 2 (by rw [Tryz.ntmps90]; decide) (aI AL (aA aIS (aI P0 (aB _)))) y7 ?_
 intro xs H K h
 obtain ⟨s,a,rfl,rfl,h0,h1,h2,⟨c0,hc0⟩,hK⟩:=p8 h
 have h45:∀ c:UInt8,((c.toNat:Int) == 45)=(c == 45):=fun c=>gX 45
 have hlt:a.toNat < (bl s).length:=(bC.1 hc0).1
 generalize hneg:((bl s)[a.toNat]? == some 45)=neg at hK
 generalize hfe:(bif neg then a.toNat + 1 else a.toNat)=f
 have hf1:a.toNat<=f/\f<=(bl s).length:=by subst hfe; cases neg<;>simp<;>omega
 generalize hz:b5 bO (bl s) f=z
 have rest:vc [(89,.f (kW fun c=>.bool (hZ c))),(118,.s uL),(117,.f (kW fun c=>.bool (fP c)))] 0 pc90_6.ungh (cJ [(0,tS s),(1,iS .i64 a),(8,iS .i64 z)]) [] (eO 0 M4 K):=by
  simp -dsimp only [go_sem,pc90_6,M4,h45,FU]
  have hz1:f<=z:=by rw [<-hz]; exact rX
  have hz2:z<=(bl s).length:=by rw [<-hz]; exact oT hf1.2
  generalize hq:List.drop a.toNat (List.take z (bl s))=q
  have hq0:(q[0]? == some 45)=neg:=by
   have e:q[0]? = (List.take z (bl s))[a.toNat]?:=by rw [<-hq,List.getElem?_drop]; rfl
   rw [e,List.getElem?_take]
   split
   · exact hneg
   · cases neg with
     | false=>rfl
     | true=>simp at hfe; omega
  have hqs:List.drop (bif neg then 1 else 0) q=List.drop f (List.take z (bl s)):=by
   rw [<-hq,List.drop_drop,<-hfe]; cases neg<;>rfl
  have hdig:∀ c ∈ List.drop f (List.take z (bl s)),bO c=true:=fun c hc=>by rw [<-hz] at hc; exact s7 c hc
  have hV:((oZ q).2=2->gY (bl s) a.toNat=.bad 2 a.toNat)/\((oZ q).2=1->gY (bl s) a.toNat=.bad 4 a.toNat)/\
   ((oZ q).2 ≠ 2->(oZ q).2 ≠ 1->gY (bl s) a.toNat=bif mT (bl s) z then .bad 2 z else .ok 2 [] (oZ q).1 z):=by
   simp only [oZ,hq0,hqs,gY,hneg,hfe,hz]
   generalize List.drop f (List.take z (bl s))=r
   cases (r == [] || (r[0]? == some 48 && (decide (1 < r.length) || neg))) with
   | true=>simp
   | false=>
    simp only [aF]
    cases valL (cY neg) 0 r with
    | none=>simp
    | some n=>simp
  have hwm:∀ c e:UInt8,(decide ((z:Int) < (bl s).length)=true->(bl s)[z]? = some c)->((decide ((z:Int) < (bl s).length) && !fP c.toNat)=true->(bl s)[z]? = some e)->
   (decide ((z:Int) < (bl s).length) && (fP c.toNat || e == 45))=mT (bl s) z:=by
   intro c e hc he
   unfold mT
   cases hd:(bl s)[z]? with
   | none=>
    have:decide ((z:Int) < (bl s).length)=false:=by have:=List.getElem?_eq_none_iff.1 hd; simp; omega
    rw [this]; rfl
   | some d=>
    have hlt:z < (bl s).length:=(bC.1 hd).1
    have:decide ((z:Int) < (bl s).length)=true:=by simp; omega
    rw [this,hd] at hc he
    rw [this]
    obtain rfl:=bK (hc rfl)
    have hnd:bO d=false:=by rw [<-hz] at hd; exact Y7 hd
    simp only [Bool.true_and,hnd,Bool.not_false,Bool.and_true,a8] at he ⊢
    cases hw:fP d.toNat with
    | true=>rfl
    | false=>rw [hw] at he; obtain rfl:=bK (he rfl); rfl
  obtain ⟨v1,v2,v3⟩:=hV
  have ha:((a.toNat:Nat):Int)=a:=Int.toNat_of_nonneg h0
  refine ⟨by omega,⟨by rw [<-hq]; simp; omega,by rw [hq0,hqs]; exact hdig⟩,fun h=>.done (hK (mk []) _ _ _ _ (by rw [v1 (by simpa using h),ha]; exact ⟨rfl,rfl⟩)),fun h=>⟨fun h5=>.done (hK (mk []) _ _ _ _ (by rw [v2 (by simpa using h5),ha]; exact ⟨rfl,rfl⟩)),fun h5=>⟨fun h6=>⟨by omega,by simpa using h6⟩,fun c hc=>⟨fun _=>by have:=c.toNat_lt; omega,fun h6=>⟨by omega,by simp at h6; omega⟩,fun e he=>⟨fun h6 h7=>by rw [h6,h7]; rfl,?_⟩⟩⟩⟩⟩
  rw [hwm c e hc he]
  have v3:=v3 (by simpa using h) (by simpa using h5)
  refine ⟨fun h6=>.done (hK (mk []) _ _ _ _ ?_),fun h6=>.done (hK (mk []) _ _ _ _ ?_)⟩
  · rw [v3,h6]; exact ⟨rfl,rfl⟩
  · rw [v3,h6]; exact ⟨rfl,rfl,rfl,rfl,rfl⟩
 simp -dsimp only [go_sem,aB5,M4,h45]
 refine ⟨⟨by omega,by omega⟩,fun c hc=>?_⟩
 have hcn:(c == 45)=neg:=by rw [<-hneg,hc]; rfl
 rw [hcn]
 refine ⟨fun h=>⟨by omega,?_⟩,fun h=>?_⟩
 · have hfi:(f:Int)=a + 1:=by subst h; simp at hfe; omega
   refine aR (α:=Nat) (fun i=>[(0,tS s),(1,iS .i64 a),(8,iS .i64 i)]) (fun i=>[]) (fun i=>f<=i/\i<=(bl s).length/\b5 bO (bl s) i=z) (fun i=>(bl s).length - i) f 0 ⟨by omega,by omega,hz⟩ ?_ ?_ ?_
   · simp -dsimp only [go_sem]; simp [hfi]
   · simp [go_sem]
   rintro i ⟨hai,hi,hr⟩
   simp -dsimp only [go_sem]
   refine ⟨fun hlt=>⟨by omega,by simpa using hlt⟩,fun d hd=>⟨fun _=>by have:=d.toNat_lt; omega,fun h3=>?_,fun h3=>?_⟩⟩
   · simp only [Bool.and_eq_true,decide_eq_true_eq] at h3
     have hd:=hd (by simpa using h3.1)
     have hlt:i < (bl s).length:=(bC.1 hd).1
     refine ⟨by omega,aC (i + 1) 0 ⟨by omega,hlt,by rw [jE hd h3.2,hr]⟩ (by omega) ?_ ?_⟩
     · simp -dsimp only [go_sem]; simp
     · simp [go_sem]
   · have hiz:i=z:=by
      rw [<-hr]
      refine (nL fun e he=>?_).symm
      have hlt:i < (bl s).length:=(bC.1 he).1
      have hd2:=hd (by simp; omega)
      rw [he] at hd2; obtain rfl:=bK hd2
      have hlt2:decide ((i:Int) < (bl s).length)=true:=by simp; omega
      rw [hlt2,Bool.true_and] at h3
      exact h3
     subst hiz
     refine cA 0 rest ?_ ?_
     · simp -dsimp only [go_sem]
     · simp [go_sem]
 · have hfi:(f:Int)=a:=by subst h; simp at hfe; omega
   refine aR (α:=Nat) (fun i=>[(0,tS s),(1,iS .i64 a),(8,iS .i64 i)]) (fun i=>[]) (fun i=>f<=i/\i<=(bl s).length/\b5 bO (bl s) i=z) (fun i=>(bl s).length - i) f 0 ⟨by omega,by omega,hz⟩ ?_ ?_ ?_
   · simp -dsimp only [go_sem]; simp [hfi]
   · simp [go_sem]
   rintro i ⟨hai,hi,hr⟩
   simp -dsimp only [go_sem]
   refine ⟨fun hlt=>⟨by omega,by simpa using hlt⟩,fun d hd=>⟨fun _=>by have:=d.toNat_lt; omega,fun h3=>?_,fun h3=>?_⟩⟩
   · simp only [Bool.and_eq_true,decide_eq_true_eq] at h3
     have hd:=hd (by simpa using h3.1)
     have hlt:i < (bl s).length:=(bC.1 hd).1
     refine ⟨by omega,aC (i + 1) 0 ⟨by omega,hlt,by rw [jE hd h3.2,hr]⟩ (by omega) ?_ ?_⟩
     · simp -dsimp only [go_sem]; simp
     · simp [go_sem]
   · have hiz:i=z:=by
      rw [<-hr]
      refine (nL fun e he=>?_).symm
      have hlt:i < (bl s).length:=(bC.1 he).1
      have hd2:=hd (by simp; omega)
      rw [he] at hd2; obtain rfl:=bK hd2
      have hlt2:decide ((i:Int) < (bl s).length)=true:=by simp; omega
      rw [hlt2,Bool.true_and] at h3
      exact h3
     subst hiz
     refine cA 0 rest ?_ ?_
     · simp -dsimp only [go_sem]
     · simp [go_sem]
theorem R0 {l:List UInt8} {a:Nat} {k:Int} {x:List UInt8} {n:Int} {z:Nat} (h:hJ l a=.ok k x n z):k=1/\n=0/\z=b5 a8 l a/\z - a<=16/\x=(l.take z).drop a/\l[z]? ≠ some 45:=by
 unfold hJ at h
 simp only at h
 revert h
 cases h1:decide (16 < b5 a8 l a - a)<;>cases h2:(l[b5 a8 l a]? == some 45)<;>simp [R.ok.injEq]
 rintro rfl rfl rfl rfl
 simp at h1 h2
 exact ⟨rfl,rfl,rfl,by omega,rfl,h2⟩
theorem IK (l:List UInt8):bX l=true ↔ ∃ c,l[0]? = some c/\l.length<=16/\bR c.toNat=true/\∀ x ∈ l,a8 x=true:=by
 cases l with
 | nil=>simp [bX]
 | cons c l=>simp [bX,and_assoc]
theorem aET {l:List UInt8} {a:Nat} {k:Int} {x:List UInt8} {n:Int} {z:Nat} (h:gY l a=.ok k x n z):x=[]:=by
 unfold gY at h
 simp only at h
 revert h
 generalize (List.drop (bif l[a]? == some 45 then a + 1 else a) (List.take (b5 bO l (bif l[a]? == some 45 then a + 1 else a)) l))=q
 cases (q == [] || (q[0]? == some 48 && (decide (1 < q.length) || l[a]? == some 45))) with
 | true=>intro h; cases h
 | false=>
  simp only [aF]
  split
  · intro h; cases h
  · cases mT l (b5 bO l (bif l[a]? == some 45 then a + 1 else a))<;>intro h<;>cases h
    rfl
theorem XY {l:List UInt8} {a:Nat} {k:Int} {x:List UInt8} {n:Int} {z:Nat} (h:gG l a=.ok k x n z):n=0:=by
 unfold gG at h
 split at h
 · cases h
 · revert h
   rename_i o _
   cases decide (200 < o.length)<;>intro h<;>cases h
   rfl
theorem aAK:Meets Tryz.prog 45 i7:=by
 refine aG Tryz.func45 aJ9 1 (by rw [Tryz.ntmps45]; decide)
  (aI ZV (aI J9 (aA aBH (aI AL (aA aHK (aA aGU (aI aH8 (aB _)))))))) (fun xs H K h=>by obtain ⟨s,rfl,_⟩:=nC h; rfl) ?_
 intro xs H K h
 obtain ⟨s,rfl,rfl,hK⟩:=nC h
 have h34:∀ c:UInt8,((c.toNat:Int) == 34)=(c == 34):=fun c=>gX 34
 have h45:∀ c:UInt8,((c.toNat:Int) == 45)=(c == 45):=fun c=>gX 45
 simp -dsimp only [go_sem,aEJ,aC3,h34,h45]
 refine ⟨fun h1=>?_,fun h1=>?_⟩
 · have h2:decide (4000 < (bl s).length)=true:=by simp at h1 ⊢; omega
   simp only [bD,h2,aK,SR.toks,SR.err,SR.off] at hK
   exact .done hK
 have h2:decide (4000 < (bl s).length)=false:=by simp at h1 ⊢; omega
 have hlen:(bl s).length<=4000:=by simpa using h2
 refine ⟨⟨by omega,by omega,hlen⟩,cI (α:=Nat × Nat × List Tk) (fun z=>[(0,tS s),(5,.va (.c1 (.sl 0 z.2.2.length))),(6,iS .i64 (b7 (bl s) z.2.1))]) (fun z=>[.row (z.2.2.map cQ) 74 4])
  (fun z=>(bl s).length < z.1 + z.2.1/\z.2.1<=(bl s).length/\z.2.2.length<=z.2.1/\SR.app z.2.2 (eV z.1 (bl s) z.2.1)=bD (bl s)) (fun z=>z.1)
  (.nil 5 74 4 ?_ (hY ((bl s).length + 1,0,[]) 1 ⟨by simp only; omega,by simp,by simp,?_⟩ ?_ ?_)) ?_⟩
 · simp -dsimp only [go_sem]; rfl
 · simp only [bD,h2,aF]
   cases eV ((bl s).length + 1) (bl s) 0<;>rfl
 · simp -dsimp only [go_sem]
 · simp -dsimp only [go_sem]
 rintro ⟨f,a,acc⟩ ⟨hf,ha,hac,hr⟩
 simp only at hf ha hac hr
 have hpl:b7 (bl s) a<=(bl s).length:=pT ha
 have hpa:a<=b7 (bl s) a:=yB
 obtain ⟨hb,ho⟩:=qH hpl
 obtain ⟨f,rfl⟩:∃ g,f=g + 1:=⟨f - 1,by omega⟩
 rw [eV] at hr
 simp -dsimp only [go_sem,h34,h45]
 generalize hp:b7 (bl s) a=p at hb ho hr hpl hpa ⊢
 have hbad:∀ {e t:Int} {H2:Hp},dH (bl s) p=.bad e t->W.Fin 0 K (.tu [.c1 (.fz []),iA .i64 e,iA .i64 t]) H2:=by
  intro e t H2 h
  rw [h] at hr; simp only [SR.app] at hr; rw [<-hr] at hK; simp only [SR.toks,SR.err,SR.off] at hK
  exact .z ((by simpa [go_sem] using hK))
 have hinv:∀ {k:Int} {x:List UInt8} {n:Int} {z:Nat},dH (bl s) p=.ok k x n z->k ≠ 0->(bl s).length < f + z/\z<=(bl s).length/\(acc ++ [Tk.mk k x n p]).length<=z/\SR.app (acc ++ [Tk.mk k x n p]) (eV f (bl s) z)=bD (bl s):=by
  intro k x n z h hk
  obtain ⟨c,_,g1,g2,_⟩:=(ho h).one hk
  rw [h] at hr
  have hk2:(k == 0)=false:=by simpa using hk
  simp only [hk2,aF,SR.app_cons] at hr
  exact ⟨by omega,g2,by simp; omega,hr⟩
 refine ⟨fun hlt=>⟨by omega,⟨by omega,by simpa using hlt⟩,fun c hc=>⟨by have:=c.toNat_lt; omega,fun q1=>?_,fun q1=>?_⟩⟩,fun hge=>?_⟩
 · have htok:dH (bl s) p=hJ (bl s) p:=by rw [dH,hc]; simp only [q1,aK]
   refine ⟨by omega,fun x n z e t ht hz=>⟨by rw [hz]; have:=rX (p:=a8) (l:=bl s) (a:=p); have:=oT (p:=a8) hpl; omega,?_⟩⟩
   cases hR:hJ (bl s) p with
   | bad e' t'=>
    rw [hR] at ht
    obtain ⟨rfl,rfl⟩:=ht
    exact ⟨fun _=>hbad (htok.trans hR),fun h=>absurd h (by simpa using (hb (htok.trans hR)).1)⟩
   | ok k x' n' z'=>
    rw [hR] at ht
    obtain ⟨rfl,rfl,rfl,rfl,rfl⟩:=ht
    obtain ⟨rfl,rfl,-,-,hx,-⟩:=R0 hR
    have hi:=hinv (htok.trans hR) (by decide)
    refine ⟨fun h=>absurd h (by simp),fun _=>⟨by omega,by omega,aC (f,z',acc ++ [⟨1,x',0,p⟩]) 1 hi (by simp only; omega) ?_ ?_⟩⟩
    · simp -dsimp only [go_sem]<;>simp
    · simp -dsimp only [go_sem]<;>simp [go_sem,hx]
 refine ⟨by have:=c.toNat_lt; omega,fun q2=>?_,fun q2=>⟨fun q3=>?_,fun q3=>⟨by have:=c.toNat_lt; omega,fun q4=>?_,fun q4=>?_⟩⟩⟩
 · have htok:dH (bl s) p=gY (bl s) p:=by rw [dH,hc]; simp only [q1,aF]; rw [show (bO c || c == 45)=true from q2]; rfl
   refine ⟨⟨by omega,by omega,hlen,c,hc⟩,fun x n z e t ht=>?_⟩
   cases hR:gY (bl s) p with
   | bad e' t'=>
    rw [hR] at ht
    obtain ⟨rfl,rfl⟩:=ht
    exact ⟨fun _=>hbad (htok.trans hR),fun h=>absurd h (by simpa using (hb (htok.trans hR)).1)⟩
   | ok k x' n' z'=>
    rw [hR] at ht
    obtain ⟨rfl,rfl,rfl,rfl,rfl⟩:=ht
    obtain rfl:=(uI hc).2 hR
    obtain rfl:=aET hR
    have hi:=hinv (htok.trans hR) (by decide)
    refine ⟨fun h=>absurd h (by simp),fun _=>⟨by omega,by omega,aC (f,z',acc ++ [⟨2,[],n,p⟩]) 1 hi (by simp only; omega) ?_ ?_⟩⟩
    · simp -dsimp only [go_sem]<;>simp
    · simp -dsimp only [go_sem]<;>simp [go_sem]
 · have hc3:c=34:=by simpa using q3
   have hlt2:p < (bl s).length:=(bC.1 hc).1
   have htok:dH (bl s) p=gG (bl s) p:=by rw [dH,hc]; simp only [q1,aF]; rw [show (bO c || c == 45)=false from q2]; simp only [q3,aF,aK]
   refine ⟨⟨by omega,by omega,hlen,by rw [hc,hc3]⟩,fun x n z e t ht=>?_⟩
   cases hR:gG (bl s) p with
   | bad e' t'=>
    rw [hR] at ht
    obtain ⟨rfl,rfl⟩:=ht
    exact ⟨fun _=>hbad (htok.trans hR),fun h=>absurd h (by simpa using (hb (htok.trans hR)).1)⟩
   | ok k x' n' z'=>
    rw [hR] at ht
    obtain ⟨rfl,rfl,rfl,rfl,rfl⟩:=ht
    obtain rfl:=(sC hlt2).2 hR
    obtain rfl:=XY hR
    have hi:=hinv (htok.trans hR) (by decide)
    refine ⟨fun h=>absurd h (by simp),fun _=>⟨by omega,by omega,aC (f,z',acc ++ [⟨3,x',0,p⟩]) 1 hi (by simp only; omega) ?_ ?_⟩⟩
    · simp -dsimp only [go_sem]<;>simp
    · simp -dsimp only [go_sem]<;>simp [go_sem]
 · have hlt2:p < (bl s).length:=(bC.1 hc).1
   have hR:dH (bl s) p=.ok 4 [c] 0 (p + 1):=by rw [dH,hc]; simp only [q1,aF]; rw [show (bO c || c == 45)=false from q2]; simp only [q3,q4,aF,aK]
   have hi:=hinv hR (by decide)
   have hi1:((p:Int) + 1).toNat=p + 1:=by omega
   have hsub:List.drop p (List.take (p + 1) (bl s))=[c]:=by rw [List.drop_take,dC hc]; simp
   refine ⟨by omega,fun h=>absurd h (by decide),fun _=>⟨by omega,by omega,?_⟩⟩
   refine aC (f,p + 1,acc ++ [⟨4,[c],0,p⟩]) 1 hi (by simp only; omega) ?_ ?_
   · simp -dsimp only [go_sem]<;>simp [hi1]
   · simp -dsimp only [go_sem]<;>simp [go_sem,hi1,hsub]
 · have hR:dH (bl s) p=.bad 2 p:=by rw [dH,hc]; simp only [q1,aF]; rw [show (bO c || c == 45)=false from q2]; simp only [q3,q4,aF]
   exact hbad hR
 · have hpe:p=(bl s).length:=by simp at hge; omega
   have hR:dH (bl s) p=.ok 0 [] 0 p:=by rw [dH,List.getElem?_eq_none (by omega)]
   rw [hR] at hr
   simp only [beq_self_eq_true,aK,SR.app] at hr
   rw [<-hr] at hK
   simp only [SR.toks,SR.err,SR.off,List.map_append,List.map_cons,List.map_nil] at hK
   refine ⟨by omega,.pub 0 _ _ _ rfl (.sel [] (by simp) (by simp [cC]) rfl (.done ?_))⟩
   rw [hpe] at hK
   simpa [go_sem] using hK
structure Ends (ts:List Tk):Prop where
 pos:0 < ts.length
 le:ts.length<=4001
 last:∀ (i:Nat) (t:Tk),ts[i]? = some t->(t.k=0 ↔ i + 1=ts.length)
abbrev gQ (T:TypeId) (ts:List Tk) (n:Nat):B:=.cells [.fz (ts.map cQ),.vl (.int .i64 n)] T
theorem R5 (T:TypeId) (ts:List Tk) (n:Nat):gQ T ts (n + 1)=.cells [.fz (ts.map cQ),.vl (.int .i64 ((n:Int) + 1))] T:=rfl
def lI (T:TypeId) (post:List Tk->Nat->(S->Hp->Prop)->Prop):W.Spec:=fun xs H K=>
 match xs,H with
 | [.va (.c1 (.pt 0 0))],[.cells [.fz r,.vl (.int .i64 a)] T']=>T'=T/\∃ (ts:List Tk) (n:Nat),r=ts.map cQ/\a=n/\Ends ts/\n < ts.length/\post ts n K
 | _,_=>False
theorem u6 {T:TypeId} {post:List Tk->Nat->(S->Hp->Prop)->Prop} {xs:List S} {H:Hp} {K:S->Hp->Prop} (h:lI T post xs H K) :
 ∃ ts n,xs=[.va (.c1 (.pt 0 0))]/\H=[gQ T ts n]/\Ends ts/\n < ts.length/\post ts n K:=by
 unfold lI at h
 split at h
 · obtain ⟨rfl,ts,n,rfl,rfl,h1,h2,h3⟩:=h; exact ⟨ts,n,rfl,rfl,h1,h2,h3⟩
 · exact h.elim
theorem G4 {T:TypeId} {post:List Tk->Nat->(S->Hp->Prop)->Prop}:∀ xs H K,lI T post xs H K->xs.length=1:=fun xs H K h=>by obtain ⟨ts,n,rfl,_⟩:=u6 h; rfl
attribute [go_sem ↓] lI
def dG (ts:List Tk) (n:Nat):Nat:=if n + 1 < ts.length then n + 1 else n
def gT (T:TypeId):W.Spec:=lI T fun ts n K=>∀ t,ts[n]? = some t->K (.va (.gs (cQ t))) [gQ T ts n]
def jR (T:TypeId):W.Spec:=lI T fun ts n K=>∀ t,ts[n]? = some t->K (.va (.gs (cQ t))) [gQ T ts (dG ts n)]
attribute [go_sem ↓] gT jR
theorem tE:Meets Tryz.prog 38 (gT 123):=by
 refine aG Tryz.func38 aLB 1 (by rw [Tryz.ntmps38]; decide) (aB _) G4 ?_
 intro xs H K h
 obtain ⟨ts,n,rfl,rfl,hE,hn,hK⟩:=u6 h
 simp -dsimp only [go_sem,aA2,aAQ]
 refine ⟨fun h=>?_,fun _=>⟨by omega,fun t ht=>.sel [0] (by simp) (by simp) rfl (.done (hK t ht))⟩⟩
 have:=hE.pos; simp at h; simp [h] at this
theorem MR:Meets Tryz.prog 81 (jR 123):=by
 refine aG Tryz.func81 aLA 1 (by rw [Tryz.ntmps81]; decide) (aA tE (aB _)) G4 ?_
 intro xs H K h
 obtain ⟨ts,n,rfl,rfl,hE,hn,hK⟩:=u6 h
 simp -dsimp only [go_sem,aEY,aD6]
 refine ⟨ts,n,rfl,rfl,hE,hn,fun t ht=>?_⟩
 have hK:=hK t ht
 have hle:=hE.le
 refine ⟨by omega,fun h=>⟨by omega,?_⟩,fun h=>?_⟩
 · have e:dG ts n=n + 1:=if_pos (by simp at h; omega)
   rw [e,R5] at hK
   exact .sel [0] (by simp) (by simp) rfl (.done hK)
 · have e:dG ts n=n:=if_neg (by simp at h; omega)
   rw [e] at hK
   exact .sel [0] (by simp) (by simp) rfl (.done hK)
def gC (k:Int) (w:List UInt8) (t:Tk):Bool:=t.k == k && t.x == w
def uD (k:Int) (w:List UInt8) (ts:List Tk) (n:Nat) (t:Tk):Nat:=bif gC k w t then dG ts n else n
def f7 (k:Int) (T:TypeId):W.Spec:=fun xs H K=>
 match xs,H with
 | [.va (.c1 (.pt 0 0)),.va (.c1 (.vl (.string w)))],[.cells [.fz r,.vl (.int .i64 a)] T']=>T'=T/\∃ (ts:List Tk) (n:Nat),r=ts.map cQ/\a=n/\Ends ts/\n < ts.length/\
  ∀ t,ts[n]? = some t->K (bS (gC k (bl w) t)) [gQ T ts (uD k (bl w) ts n t)]
 | _,_=>False
theorem qQ {k:Int} {T:TypeId} {xs:List S} {H:Hp} {K:S->Hp->Prop} (h:f7 k T xs H K) :
 ∃ w ts n,xs=[.va (.c1 (.pt 0 0)),tS w]/\H=[gQ T ts n]/\Ends ts/\n < ts.length/\∀ t,ts[n]? = some t->K (bS (gC k (bl w) t)) [gQ T ts (uD k (bl w) ts n t)]:=by
 unfold f7 at h
 split at h
 · obtain ⟨rfl,ts,n,rfl,rfl,h1,h2,h3⟩:=h; exact ⟨_,ts,n,rfl,rfl,h1,h2,h3⟩
 · exact h.elim
theorem zP {k:Int} {T:TypeId}:∀ xs H K,f7 k T xs H K->xs.length=2:=fun xs H K h=>by obtain ⟨w,ts,n,rfl,_⟩:=qQ h; rfl
def iI (T:TypeId):W.Spec:=fun xs H K=>
 match xs,H with
 | [.va (.c1 (.pt 0 0)),.va (.c1 (.vl (.int .i64 k))),.va (.c1 (.vl (.string w)))],[.cells [.fz r,.vl (.int .i64 a)] T']=>T'=T/\∃ (ts:List Tk) (n:Nat),r=ts.map cQ/\a=n/\Ends ts/\n < ts.length/\
  ∀ t,ts[n]? = some t->K (bS (gC k (bl w) t)) [gQ T ts (uD k (bl w) ts n t)]
 | _,_=>False
theorem xT {T:TypeId} {xs:List S} {H:Hp} {K:S->Hp->Prop} (h:iI T xs H K) :
 ∃ k w ts n,xs=[.va (.c1 (.pt 0 0)),iS .i64 k,tS w]/\H=[gQ T ts n]/\Ends ts/\n < ts.length/\∀ t,ts[n]? = some t->K (bS (gC k (bl w) t)) [gQ T ts (uD k (bl w) ts n t)]:=by
 unfold iI at h
 split at h
 · obtain ⟨rfl,ts,n,rfl,rfl,h1,h2,h3⟩:=h; exact ⟨_,_,ts,n,rfl,rfl,h1,h2,h3⟩
 · exact h.elim
theorem M5 {T:TypeId}:∀ xs H K,iI T xs H K->xs.length=3:=fun xs H K h=>by obtain ⟨k,w,ts,n,rfl,_⟩:=xT h; rfl
attribute [go_sem ↓] f7 iI
theorem WR:Meets Tryz.prog 116 (iI 123):=by
 refine aG Tryz.func116 aG5 3 (by rw [Tryz.ntmps116]; decide) (aA tE (aA MR (aB _))) M5 ?_
 intro xs H K h
 obtain ⟨k,w,ts,n,rfl,rfl,hE,hn,hK⟩:=xT h
 simp -dsimp only [go_sem,VA,VR]
 refine ⟨ts,n,rfl,rfl,hE,hn,fun t ht=>?_⟩
 have hK:=hK t ht
 have hg:(t.k != k || !t.x == bl w)=!(gC k (bl w) t):=by simp [gC,bne,Bool.not_and]
 rw [hg]
 refine ⟨fun h=>?_,fun h=>⟨ts,n,rfl,rfl,hE,hn,fun u hu=>?_⟩⟩
 · have h:gC k (bl w) t=false:=by simpa using h
   simp only [uD,h,aF] at hK
   exact .sel [0] (by simp) (by simp) rfl (.done hK)
 · have h:gC k (bl w) t=true:=by simpa using h
   simp only [uD,h,aK] at hK
   exact .sel [0] (by simp) (by simp) rfl (.done hK)
theorem OY:Meets Tryz.prog 82 (f7 4 123):=by
 refine aG Tryz.func82 aKE 2 (by rw [Tryz.ntmps82]; decide) (aA WR (aB _)) zP ?_
 intro xs H K h
 obtain ⟨w,ts,n,rfl,rfl,hE,hn,hK⟩:=qQ h
 simp -dsimp only [go_sem,aF7,aC8]
 refine ⟨ts,n,rfl,rfl,hE,hn,fun t ht=>.done ?_⟩
 exact hK t ht
theorem aFL:Meets Tryz.prog 80 (f7 1 123):=by
 refine aG Tryz.func80 aLQ 2 (by rw [Tryz.ntmps80]; decide) (aA WR (aB _)) zP ?_
 intro xs H K h
 obtain ⟨w,ts,n,rfl,rfl,hE,hn,hK⟩:=qQ h
 simp -dsimp only [go_sem,aDE,aCG]
 refine ⟨ts,n,rfl,rfl,hE,hn,fun t ht=>.done ?_⟩
 exact hK t ht
def lY:W.Spec:=fun xs H K=>
 match xs,H with
 | [.va (.c1 (.vl (.string s)))],[]=>((bD (bl s)).err=0->K (.tu [.c1 (.pt 0 0),iA .i64 0,iA .i64 0]) [gQ 123 (bD (bl s)).toks 0])/\
  ((bD (bl s)).err ≠ 0->K (.tu [.c1 (.vl (.pointer none)),iA .i64 (bD (bl s)).err,iA .i64 (bD (bl s)).off]) [])
 | _,_=>False
theorem zW {xs:List S} {H:Hp} {K:S->Hp->Prop} (h:lY xs H K):∃ s,xs=[tS s]/\H=[]/\((bD (bl s)).err=0->K (.tu [.c1 (.pt 0 0),iA .i64 0,iA .i64 0]) [gQ 123 (bD (bl s)).toks 0])/\
 ((bD (bl s)).err ≠ 0->K (.tu [.c1 (.vl (.pointer none)),iA .i64 (bD (bl s)).err,iA .i64 (bD (bl s)).off]) []):=by
 unfold lY at h
 split at h
 · exact ⟨_,rfl,rfl,h.1,h.2⟩
 · exact h.elim
attribute [go_sem ↓] lY
theorem aLF:Meets Tryz.prog 33 lY:=by
 refine aG Tryz.func33 aN6 1 (by rw [Tryz.ntmps33]; decide) (aA aI5 (aB _)) (fun xs H K h=>by obtain ⟨s,rfl,_⟩:=zW h; rfl) ?_
 intro xs H K h
 obtain ⟨s,rfl,rfl,hK1,hK2⟩:=zW h
 simp -dsimp only [go_sem,ZX,aBL]
 refine ⟨fun h=>.done (hK2 (by simpa using h)),fun h=>?_⟩
 have hK:=hK1 (by simpa using h)
 exact .sel [0] (by simp) (by simp) rfl (.done hK)
def digs (n:Nat):List UInt8:=(if h:n < 10 then [] else digs (n / 10)) ++ [(48 + n % 10).toUInt8]
 termination_by n
 decreasing_by omega
theorem oM {n:Nat} (h:n < 10):digs n=[(48 + n).toUInt8]:=by
 rw [digs.eq_1,dif_pos h,Nat.mod_eq_of_lt h]; rfl
theorem wM {n:Nat} (h:10<=n):digs n=digs (n / 10) ++ [(48 + n % 10).toUInt8]:=by
 rw [digs.eq_1,dif_neg (by omega)]
theorem JW:∀ (k n:Nat),n < 10 ^ (k + 1)->(digs n).length<=k + 1
 | 0,n,h=>by rw [oM (by omega)]; simp
 | k + 1,n,h=>by
  rcases bL n 10 with h1 | h1
  · rw [oM h1]; simp
  · rw [wM h1,List.length_append]
    have:=JW k (n / 10) (by rw [Nat.pow_succ] at h; omega)
    simp; omega
def bU (n:Int):List UInt8:=bif decide (n < 0) then 45 :: digs n.natAbs else digs n.natAbs
def HI (c:UInt8):List UInt8:=bif c == 34 || c == 92 then [92,c] else [c]
def BW (l:List UInt8):List UInt8:=34 :: l.flatMap HI ++ [34]
def uA (c:UInt8):Bool:=decide (32<=c) && decide (c<=126)
def jQ (k:Int) (x:List UInt8) (n:Int):List UInt8:=bif k == 1 then x else bif k == 2 then bU n else bif k == 3 then BW x else bif k == 4 then x else []
def I3 (k:Int) (x:List UInt8) (n:Int):Bool:=
 bif k == 1 then n == 0 && bX x else bif k == 2 then x == [] else bif k == 3 then n == 0 && (decide (x.length<=200) && x.all uA) else bif k == 4 then n == 0 && (match x with | [c]=>eK c.toNat | _=>false) else false
structure Tx where
 k:Int
 x:List UInt8
 n:Int
 a:Int
structure TkFit (t:Tx):Prop where
 lo:-9223372036854775808<=t.n
 hi:t.n<=9223372036854775807
 len:t.x.length<=100000
theorem kG {n:Int} (h1:-9223372036854775808<=n) (h2:n<=9223372036854775807):(bU n).length<=21:=by
 have:=JW 19 n.natAbs (by omega)
 unfold bU
 cases decide (n < 0)<;>simp<;>omega
theorem IC {l x rest:List UInt8} {a:Nat} (h:l.drop a=x ++ rest):(l.take (a + x.length)).drop a=x:=by
 rw [List.drop_take,h,Nat.add_sub_cancel_left,List.take_left]
theorem GD {l x rest:List UInt8} {a:Nat} (h:l.drop a=x ++ rest) (j:Nat):l[a + x.length + j]? = rest[j]?:=by
 have:(l.drop a)[x.length + j]? = rest[j]?:=by rw [h,List.getElem?_append_right (by omega)]; congr 1; omega
 rw [<-this,List.getElem?_drop]; congr 1; omega
theorem vQ {l x:List UInt8} {a:Nat} {c:UInt8} (h:l.drop a=c :: x):l[a]? = some c:=by
 have:(l.drop a)[0]? = some c:=by rw [h]; rfl
 rwa [List.getElem?_drop,Nat.add_zero] at this
theorem LB {l x:List UInt8} {a:Nat} {c:UInt8} (h:l.drop a=c :: x):l.drop (a + 1)=x:=by
 rw [<-List.drop_drop,h]; rfl
theorem D8 {l rest:List UInt8} {a:Nat} {c:UInt8} (h:l.drop a=c :: rest) (hx:eK c.toNat=true):dH l a=.ok 4 [c] 0 (a + 1)/\∃ c,l[a]? = some c/\(c == 32 || c == 9 || c == 10)=false/\(c == 35)=false:=by
 have hc:=vQ h
 have hsk:=dL (p:=fun c=>!(eK c.toNat) || ((!(c == 32 || c == 9 || c == 10) && !(c == 35)) && (!(bR c.toNat) && !(bO c || c == 45) && !(c == 34)))) (by decide +kernel) c
 simp only [hx,Bool.not_true,Bool.false_or,Bool.and_eq_true,Bool.not_eq_true'] at hsk
 obtain ⟨h1,⟨h2,h3⟩,h4⟩:=hsk
 exact ⟨by simp only [dH,hc,h2,h3,h4,hx,aK,aF],c,hc,h1⟩
theorem KN:∀ (x rest out:List UInt8) (i:Nat),x.all uA=true->quoL i (x.flatMap HI ++ 34 :: rest) out=(i + (x.flatMap HI).length + 1,some (out ++ x))
 | [],rest,out,i,_=>by
  rw [List.flatMap_nil,List.nil_append,gK]
  simp
 | c :: x,rest,out,i,h=>by
  rw [List.all_cons,Bool.and_eq_true] at h
  obtain ⟨h1,h2⟩:=h
  have ih:=fun i out=>KN x rest out i h2
  rw [List.flatMap_cons,List.append_assoc]
  unfold uA at h1
  have hlo:(decide (c < 32) || decide (126 < c))=false:=by
   simp only [Bool.and_eq_true,decide_eq_true_eq,UInt8.le_iff_toNat_le] at h1
   simp only [Bool.or_eq_false_iff,decide_eq_false_iff_not,UInt8.lt_iff_toNat_lt]
   exact ⟨by omega,by omega⟩
  rw [show HI c=bif c == 34 || c == 92 then [92,c] else [c] from rfl]
  cases hq:(c == 34 || c == 92) with
  | true=>
   rw [aK,List.cons_append,gK]
   have e1:(decide ((92:UInt8) < 32) || decide ((126:UInt8) < 92))=false:=by decide
   have e2:((92:UInt8) == 34)=false:=by decide
   have e3:((92:UInt8) == 92)=true:=by decide
   rw [e1,e2,e3]
   simp only [aK,aF,List.cons_append,List.nil_append,hq]
   rw [ih]
   simp; omega
  | false=>
   simp only [Bool.or_eq_false_iff] at hq
   rw [aF,List.cons_append,List.nil_append,gK,hlo,hq.1,hq.2]
   simp only [aF]
   rw [ih]
   simp; omega
theorem DF {l x rest:List UInt8} {a:Nat} (h:l.drop a=BW x ++ rest) (hl:x.length<=200) (hx:x.all uA=true):dH l a=.ok 3 x 0 (a + (BW x).length)/\∃ c,l[a]? = some c/\(c == 32 || c == 9 || c == 10)=false/\(c == 35)=false:=by
 have h':l.drop a=34 :: (x.flatMap HI ++ 34 :: rest):=by rw [h]; simp [BW]
 have hc:=vQ h'
 refine ⟨?_,34,hc,by decide,by decide⟩
 have e1:bR ((34:UInt8).toNat:Int)=false:=by decide
 have e2:(bO 34 || (34:UInt8) == 45)=false:=by decide
 have h200:decide (200 < x.length)=false:=by simp; omega
 simp only [dH,hc,e1,e2,aF,gG,LB h',KN x rest [] (a + 1) hx,List.nil_append,h200]
 simp [BW]
 omega
theorem x7:∀ (k m:Nat),m < 10 ^ (k + 1)->∀ c ∈ digs m,bO c=true
 | 0,m,h=>fun c hc=>by
  rw [oM (by omega)] at hc
  simp only [List.mem_cons,List.not_mem_nil,or_false] at hc
  subst hc
  rw [kD,UInt8.toNat_ofNat']
  omega
 | k + 1,m,h=>fun c hc=>by
  rcases bL m 10 with h1 | h1
  · exact x7 0 m (by omega) c hc
  · rw [wM h1,List.mem_append] at hc
    rcases hc with hc | hc
    · exact x7 k (m / 10) (by rw [Nat.pow_succ] at h; omega) c hc
    · simp only [List.mem_cons,List.not_mem_nil,or_false] at hc
      subst hc
      rw [kD,UInt8.toNat_ofNat']
      omega
theorem C3 (m:Nat):digs m ≠ []:=by rw [digs.eq_1]; simp
theorem v6:∀ (k m:Nat),m < 10 ^ (k + 1)->0 < m->(digs m)[0]? ≠ some 48
 | 0,m,h,h0=>by
  rw [oM (by omega)]
  simp only [List.getElem?_cons_zero,ne_eq,aH]
  intro e
  have:=congrArg UInt8.toNat e
  rw [UInt8.toNat_ofNat'] at this
  have:(48 + m) % 256=48:=this
  omega
 | k + 1,m,h,h0=>by
  rcases bL m 10 with h1 | h1
  · exact v6 0 m (by omega) h0
  · rw [wM h1,List.getElem?_append_left (List.length_pos_iff.2 (C3 _))]
    exact v6 k (m / 10) (by rw [Nat.pow_succ] at h; omega) (by omega)
theorem I2 (c:UInt8):∀ (l:List UInt8) (n:Nat),decV n (l ++ [c])=10 * decV n l + (c.toNat - 48)
 | [],n=>by rw [List.nil_append,iG,mW,mW]
 | d :: l,n=>by rw [List.cons_append,iG,iG,I2 c l]
theorem uH:∀ (k m:Nat),m < 10 ^ (k + 1)->decV 0 (digs m)=m
 | 0,m,h=>by
  rw [oM (by omega),iG,mW,UInt8.toNat_ofNat']
  omega
 | k + 1,m,h=>by
  rcases bL m 10 with h1 | h1
  · exact uH 0 m (by omega)
  · rw [wM h1,I2,uH k (m / 10) (by rw [Nat.pow_succ] at h; omega),UInt8.toNat_ofNat']
    omega
abbrev okT (t:Tx):Bool:=I3 t.k t.x t.n
abbrev kB (t:Tx):List UInt8:=jQ t.k t.x t.n
abbrev GC (t:Tx):Int × List UInt8 × Int:=(t.k,t.x,t.n)
abbrev cK (t:Tk):Int × List UInt8 × Int:=(t.k,t.x,t.n)
def Z5:PC:=.seq (.reg [.e 1 (.bx 25 (.t 0)),.q 2 (.mv (.k (.string (mk []))))]) (.seq (.seq (.reg [.l 12 (.ldn 3 (.t 1)),.a 13 (.cq 31 [(.t 12)]),.q 14 (.bin .neq true (.t 13) (.i 0))]) (.cond (.t 14) (.seq (.reg [.q 2 (.mv (.k (.string (mk []))))]) .ret) .skip)) (.seq (.reg [.q 15 (.fa 0 (.t 1)),.l 16 (.ld1 (.t 15)),.a 17 (.cq 32 [(.t 16)]),.q 18 (.bin .add true (.k (.string (mk [118,101,114,115,105,111,110,32]))) (.t 17)),.q 19 (.bin .add true (.t 18) (.k (.string (mk [59,10])))),.v 3 19]) (.seq (.seq (.reg [.q 20 (.fa 1 (.t 1)),.l 21 (.ld1 (.t 20)),.q 22 (.lnL (.t 21)),.q 23 (.mv (.i 0))]) (.block 0 (.loop (.seq (.reg [.q 24 (.bin .lss true (.t 23) (.t 22))]) (.seq (.cond (.t 24) .skip (.exit 0)) (.seq (.block 1 (.seq (.reg [.l 25 (.ia 3 (.t 21) (.t 23)),.l 26 (.ldn 3 (.t 25)),.e 5 (.al (.agg #[(.string (mk [])),(.slice none 0 0),(.slice none 0 0)]) 62),.s (.st 3 (.t 5) (.t 26))]) (.seq (.reg [.v 27 3,.q 28 (.fa 0 (.t 5)),.l 29 (.ld1 (.t 28)),.q 30 (.bin .add true (.k (.string (mk [101,110,117,109,32]))) (.t 29)),.q 31 (.bin .add true (.t 30) (.k (.string (mk [32,123,32])))),.q 32 (.bin .add true (.t 27) (.t 31)),.v 3 32]) (.seq (.seq (.reg [.q 33 (.fa 1 (.t 5)),.l 34 (.ld1 (.t 33)),.q 35 (.lnL (.t 34)),.q 36 (.mv (.i 0))]) (.block 2 (.loop (.seq (.reg [.q 37 (.bin .lss true (.t 36) (.t 35))]) (.seq (.cond (.t 37) .skip (.exit 2)) (.seq (.block 3 (.seq (.reg [.v 38 36,.l 39 (.ia 1 (.t 34) (.t 36)),.l 40 (.ld1 (.t 39)),.v 6 38,.v 7 40]) (.seq (.seq (.reg [.v 41 6,.q 42 (.bin .gtr true (.t 41) (.i 0))]) (.cond (.t 42) (.reg [.v 43 3,.q 44 (.bin .add true (.t 43) (.k (.string (mk [44,32])))),.v 3 44]) .skip)) (.reg [.v 45 3,.v 46 7,.q 47 (.bin .add true (.t 46) (.k (.string (mk [32,61,32])))),.q 48 (.fa 2 (.t 5)),.l 49 (.ld1 (.t 48)),.v 50 6,.l 51 (.ia 1 (.t 49) (.t 50)),.l 52 (.ld1 (.t 51)),.a 53 (.cq 32 [(.t 52)]),.q 54 (.bin .add true (.t 47) (.t 53)),.q 55 (.bin .add true (.t 45) (.t 54)),.v 3 55])))) (.reg [.q 56 (.bin .add true (.t 36) (.i 1)),.v 36 56]))))))) (.reg [.v 57 3,.q 58 (.bin .add true (.t 57) (.k (.string (mk [32,125,10])))),.v 3 58]))))) (.reg [.q 59 (.bin .add true (.t 23) (.i 1)),.v 23 59]))))))) (.seq (.seq (.reg [.q 60 (.fa 2 (.t 1)),.l 61 (.ld1 (.t 60)),.q 62 (.lnL (.t 61)),.q 63 (.mv (.i 0))]) (.block 4 (.loop (.seq (.reg [.q 64 (.bin .lss true (.t 63) (.t 62))]) (.seq (.cond (.t 64) .skip (.exit 4)) (.seq (.block 5 (.seq (.reg [.l 65 (.ia 2 (.t 61) (.t 63)),.l 66 (.ldn 2 (.t 65)),.e 9 (.al (.agg #[(.string (mk [])),(.slice none 0 0)]) 56),.s (.st 2 (.t 9) (.t 66))]) (.seq (.reg [.v 67 3,.q 68 (.fa 0 (.t 9)),.l 69 (.ld1 (.t 68)),.q 70 (.bin .add true (.k (.string (mk [115,116,114,117,99,116,32]))) (.t 69)),.q 71 (.bin .add true (.t 70) (.k (.string (mk [32,123,10])))),.q 72 (.bin .add true (.t 67) (.t 71)),.v 3 72]) (.seq (.seq (.reg [.q 73 (.fa 1 (.t 9)),.l 74 (.ld1 (.t 73)),.q 75 (.lnL (.t 74)),.q 76 (.mv (.i 0))]) (.block 6 (.loop (.seq (.reg [.q 77 (.bin .lss true (.t 76) (.t 75))]) (.seq (.cond (.t 77) .skip (.exit 6)) (.seq (.block 7 (.seq (.reg [.l 78 (.ia 7 (.t 74) (.t 76)),.l 79 (.ldn 7 (.t 78)),.e 11 (.al (.agg #[(.int .i64 0),(.string (mk [])),(.int .i64 0),(.int .i64 0),(.string (mk [])),(.slice none 0 0),(.bool false)]) 64),.s (.st 7 (.t 11) (.t 79))]) (.seq (.reg [.v 80 3,.q 81 (.fa 0 (.t 11)),.l 82 (.ld1 (.t 81)),.a 83 (.cq 32 [(.t 82)]),.q 84 (.bin .add true (.k (.string (mk [32,32]))) (.t 83)),.q 85 (.bin .add true (.t 84) (.k (.string (mk [32])))),.q 86 (.fa 1 (.t 11)),.l 87 (.ld1 (.t 86)),.q 88 (.bin .add true (.t 85) (.t 87)),.q 89 (.bin .add true (.t 88) (.k (.string (mk [58,32])))),.q 90 (.fa 2 (.t 11)),.l 91 (.ldn 4 (.t 90)),.a 92 (.cq 16 [(.t 91)]),.q 93 (.bin .add true (.t 89) (.t 92)),.q 94 (.bin .add true (.t 80) (.t 93)),.v 3 94]) (.seq (.seq (.reg [.q 95 (.fa 6 (.t 11)),.l 96 (.ld1 (.t 95))]) (.cond (.t 96) (.reg [.v 97 3,.q 98 (.bin .add true (.t 97) (.k (.string (mk [63])))),.v 3 98]) .skip)) (.reg [.v 99 3,.q 100 (.bin .add true (.t 99) (.k (.string (mk [59,10])))),.v 3 100]))))) (.reg [.q 101 (.bin .add true (.t 76) (.i 1)),.v 76 101]))))))) (.reg [.v 102 3,.q 103 (.bin .add true (.t 102) (.k (.string (mk [125,10])))),.v 3 103]))))) (.reg [.q 104 (.bin .add true (.t 63) (.i 1)),.v 63 104]))))))) (.seq (.reg [.v 105 3,.v 2 105]) .ret)))))
def aE3:List RV:=[.mv (.t 2)]
theorem aKO:aY Tryz.prog true ⟨fun r k=>if r=1/\k=1 then .q else if r=3/\k=2 then .q else if r=13/\k=8 then .q else if r=24/\k=3 then .q else if r=24/\k=12 then .q else .own [],fun _=>false⟩ Tryz.f10=some (Z5,aE3):=by kernel_rfl
def aFE:PC:=.seq (.reg [.e 1 (.bx 37 (.t 0)),.q 2 (.mv (.k (.string (mk []))))]) (.seq (.reg [.q 3 (.mv (.k (.string (mk []))))]) (.seq (.seq (.reg [.q 4 (.mv (.i 0))]) (.block 0 (.loop (.seq (.seq (.reg [.q 6 (.fa 0 (.t 1)),.l 7 (.ld1 (.t 6)),.q 8 (.bin .eql true (.t 7) (.i 5))]) (.cond (.t 8) .skip (.exit 0))) (.seq (.block 1 (.seq (.seq (.reg [.q 11 (.fa 1 (.t 1)),.l 12 (.ld1 (.t 11)),.q 13 (.bin .lss true (.t 12) (.i 0)),.v 14 13,⟨some 15,(some (14,false)),.q (.fa 2 (.t 1))⟩,⟨some 16,(some (14,false)),.l (.ld1 (.t 15))⟩,⟨some 17,(some (14,false)),.q (.bin .neq true (.t 16) (.k (.string (mk []))))⟩,.a 18 (.pick (.t 14) (.k (.bool true)) (.t 17)),.v 19 18,⟨some 20,(some (19,false)),.q (.fa 3 (.t 1))⟩,⟨some 21,(some (19,false)),.l (.ld1 (.t 20))⟩,⟨some 22,(some (19,false)),.q (.lnL (.t 21))⟩,⟨some 23,(some (19,false)),.q (.bin .neq true (.t 22) (.i 1))⟩,.a 24 (.pick (.t 19) (.k (.bool true)) (.t 23)),.v 25 24,⟨some 26,(some (25,false)),.q (.mv (.t 4))⟩,⟨some 27,(some (25,false)),.q (.bin .eql true (.t 26) (.i 6))⟩,.a 28 (.pick (.t 25) (.k (.bool true)) (.t 27))]) (.cond (.t 28) (.seq (.reg [.q 2 (.mv (.k (.string (mk []))))]) .ret) .skip)) (.seq (.reg [.v 29 3,.q 30 (.fa 1 (.t 1)),.l 31 (.ld1 (.t 30)),.a 32 (.cq 32 [(.t 31)]),.q 33 (.bin .add true (.k (.string (mk [108,105,115,116,91]))) (.t 32)),.q 34 (.bin .add true (.t 33) (.k (.string (mk [93,32,111,102,32])))),.q 35 (.bin .add true (.t 29) (.t 34)),.v 3 35]) (.reg [.q 36 (.fa 3 (.t 1)),.l 37 (.ld1 (.t 36)),.l 38 (.ia 4 (.t 37) (.i 0)),.l 39 (.ldn 4 (.t 38)),.s (.st 4 (.t 1) (.t 39))])))) (.reg [.v 9 4,.q 10 (.bin .add true (.t 9) (.i 1)),.v 4 10])))))) (.seq (.reg [.l 40 (.ldn 4 (.t 1)),.a 41 (.cq 53 [(.t 40)]),.v 5 41]) (.seq (.seq (.reg [.v 42 5,.q 43 (.bin .eql true (.t 42) (.k (.string (mk []))))]) (.cond (.t 43) (.seq (.reg [.q 2 (.mv (.k (.string (mk []))))]) .ret) .skip)) (.seq (.reg [.v 44 3,.v 45 5,.q 46 (.bin .add true (.t 44) (.t 45)),.v 2 46]) .ret)))))
def aAN:List RV:=[.mv (.t 2)]
theorem aOH:aY Tryz.prog true ⟨fun r k=>if r=7/\k=3 then .q else if r=9/\k=1 then .q else .own [],fun _=>false⟩ Tryz.f16=some (aFE,aAN):=by kernel_rfl
def SW:PC:=.seq (.reg [.q 4 (.mv (.k (.bool false)))]) (.seq (.reg [.v 5 0,.q 6 (.nc (.t 5)),.q 7 (.fa 1 (.t 6)),.l 8 (.ld1 (.t 7)),.q 9 (.not (.t 8)),.v 10 9,⟨some 11,(some (10,true)),.q (.mv (.t 0))⟩,⟨some 12,(some (10,true)),.q (.nc (.t 11))⟩,⟨some 13,(some (10,true)),.q (.fa 0 (.t 12))⟩,⟨some 14,(some (10,true)),.l (.ld1 (.t 13))⟩,⟨some 15,(some (10,true)),.q (.mv (.t 1))⟩,⟨some 16,(some (10,true)),.cl 80 [(.t 14),(.t 15)] [1]⟩,.a 17 (.pick (.t 10) (.t 16) (.k (.bool false))),.v 4 17]) .ret)
def ST:List RV:=[.mv (.t 4)]
theorem aLH:aY Tryz.prog true ⟨fun r k=>if r=1/\k=11 then .own [1] else .own [],fun _=>false⟩ Tryz.f34=some (SW,ST):=by kernel_rfl
def T9:PC:=.seq (.reg [.v 2 0,.q 3 (.nc (.t 2)),.q 4 (.fa 1 (.t 3)),.l 5 (.ld1 (.t 4)),.q 6 (.not (.t 5))]) (.cond (.t 6) (.reg [.v 7 0,.v 8 0,.v 9 0,.q 10 (.nc (.t 9)),.q 11 (.fa 0 (.t 10)),.l 12 (.ld1 (.t 11)),.a 13 (.cl 38 [(.t 12)] [1]),.q 14 (.fld1 3 (.t 13)),.q 15 (.nc (.t 7)),.q 16 (.fa 1 (.t 15)),.s (.st 1 (.t 16) (.k (.bool true))),.q 17 (.nc (.t 8)),.q 18 (.fa 2 (.t 17)),.s (.st 1 (.t 18) (.t 14))]) .skip)
def R4:List RV:=[]
theorem aKV:aY Tryz.prog true ⟨fun r k=>if r=1/\k=6 then .own [1] else .own [],fun _=>false⟩ Tryz.f35=some (T9,R4):=by kernel_rfl
def JP:PC:=.seq (.gh (.reg [.v 30 0,.q 31 (.nc (.t 30)),.q 32 (.fa 0 (.t 31)),.l 33 (.ld1 (.t 32)),.a 34 (.cl 81 [(.t 33)] [1])])) (.seq (.reg [.q 35 (.fa 2 (.t 5)),.l 36 (.ld1 (.t 35)),.v 4 36]) .ret)
@[go_sem ↓] theorem aL4:bT JP:=bY _
def HF:PC:=.seq (.seq (.gh (.reg [.v 11 0,.q 12 (.nc (.t 11)),.q 13 (.fa 1 (.t 12)),.l 14 (.ld1 (.t 13)),.v 15 14,⟨some 16,(some (15,false)),.q (.fa 0 (.t 5))⟩,⟨some 17,(some (15,false)),.l (.ld1 (.t 16))⟩,⟨some 18,(some (15,false)),.q (.bin .neq true (.t 17) (.i 2))⟩,.a 19 (.pick (.t 15) (.k (.bool true)) (.t 18)),.v 20 19,⟨some 21,(some (20,false)),.q (.mv (.t 1))⟩,⟨some 22,(some (20,false)),.q (.mv (.t 21))⟩,⟨some 23,(some (22,true)),.q (.fa 2 (.t 5))⟩,⟨some 24,(some (22,true)),.l (.ld1 (.t 23))⟩,⟨some 25,(some (22,true)),.q (.bin .lss true (.t 24) (.i 0))⟩,⟨some 26,(some (20,false)),.pick (.t 22) (.t 25) (.k (.bool false))⟩,.a 27 (.pick (.t 20) (.k (.bool true)) (.t 26))])) (.cond (.t 27) (.seq (.reg [.v 28 0,.a 29 (.cl 35 [(.t 28)] [0,1,2,3])]) (.seq (.reg [.q 4 (.mv (.i 0))]) .ret)) .skip)) (JP)
@[go_sem ↓] theorem aKC:bT HF:=bY _
def aD4:PC:=.seq (.reg [.q 4 (.mv (.i 0))]) (.seq (.reg [.v 6 0,.q 7 (.nc (.t 6)),.q 8 (.fa 0 (.t 7)),.l 9 (.ld1 (.t 8)),.a 10 (.cl 38 [(.t 9)] [1]),.e 5 (.al (.agg #[(.int .i64 0),(.string (mk [])),(.int .i64 0),(.int .i64 0)]) 74),.s (.st 4 (.t 5) (.t 10))]) (HF))
def aF8:List RV:=[.mv (.t 4)]
theorem aK5:aY Tryz.prog true ⟨fun r k=>if r=1/\k=4 then .own [1] else if r=3/\k=1 then .own [0,1,2,3] else if r=5/\k=4 then .own [1] else .own [],fun r=>[2,5].contains r⟩ Tryz.f36=some (aD4,aF8):=by kernel_rfl
def RZ:PC:=.seq (.reg [.v 4 0,.q 5 (.nc (.t 4)),.q 6 (.fa 1 (.t 5)),.l 7 (.ld1 (.t 6)),.q 8 (.not (.t 7)),.v 9 8,⟨some 10,(some (9,true)),.q (.mv (.t 0))⟩,⟨some 11,(some (9,true)),.q (.nc (.t 10))⟩,⟨some 12,(some (9,true)),.q (.fa 0 (.t 11))⟩,⟨some 13,(some (9,true)),.l (.ld1 (.t 12))⟩,⟨some 14,(some (9,true)),.q (.mv (.t 1))⟩,⟨some 15,(some (9,true)),.cl 82 [(.t 13),(.t 14)] [1]⟩,⟨some 16,(some (9,true)),.q (.not (.t 15))⟩,.a 17 (.pick (.t 9) (.t 16) (.k (.bool false)))]) (.cond (.t 17) (.reg [.v 18 0,.a 19 (.cl 35 [(.t 18)] [0,1,2,3])]) .skip)
def T5:List RV:=[]
theorem aMM:aY Tryz.prog true ⟨fun r k=>if r=0/\k=11 then .own [1] else if r=1/\k=1 then .own [0,1,2,3] else .own [],fun _=>false⟩ Tryz.f37=some (RZ,T5):=by kernel_rfl
def GB:PC:=.seq (.gh (.reg [.v 27 0,.a 28 (.cl 37 [(.t 27),(.k (.string (mk [61])))] [0,1,2,3])])) (.gh (.ord  [.q (.q 29 (.fa 2 (.t 3))),.q (.l 30 (.ld1 (.t 29))),.q (.v 31 0),.m (.a 32 (.cl 36 [(.t 31),(.k (.bool false))] [0,1,2,3])),.rc (.q 29 (.fa 2 (.t 3))),.rc (.l 30 (.ld1 (.t 29))),.m (.e 33 (.bsl 3 1 [(.t 32)])),.rc (.q 29 (.fa 2 (.t 3))),.rc (.l 30 (.ld1 (.t 29))),.m (.e 34 (.ap 3 1 8 (.t 30) (.t 33))),.q (.q 35 (.fa 2 (.t 3))),.m (.s (.st 1 (.t 35) (.t 34)))]))
@[go_sem ↓] theorem aLJ:bT GB:=bY _
def HV:PC:=.gh (.reg [.v 18 0,.a 19 (.cl 84 [(.t 18),(.k (.string (mk [44])))] [0,1,2,3]),.v 4 19])
@[go_sem ↓] theorem aK9:bT HV:=bY _
def pc39_9:PC:=.seq (.gh (.reg [.v 36 0,.a 37 (.cl 37 [(.t 36),(.k (.string (mk [125])))] [0,1,2,3])])) (.seq (.reg [.l 38 (.ldn 3 (.t 3)),.s (.st 3 (.t 2) (.t 38))]) .ret)
@[go_sem ↓] theorem aKI:bT pc39_9:=bY _
def aFB:PC:=.seq (.reg [.e 2 (.al (.agg #[(.string (mk [])),(.slice none 0 0),(.slice none 0 0)]) 62)]) (.seq (.reg [.v 5 0,.a 6 (.cl 83 [(.t 5),(.k (.bool true))] [0,1,2,3]),.q 7 (.bd [(.string (mk [])),(.slice none 0 0),(.slice none 0 0)] [(0,1,(.t 6))]),.e 3 (.al (.agg #[(.string (mk [])),(.slice none 0 0),(.slice none 0 0)]) 62),.s (.st 3 (.t 3) (.t 7))]) (.seq (.reg [.v 8 0,.a 9 (.cl 37 [(.t 8),(.k (.string (mk [123])))] [0,1,2,3])]) (.seq (.seq (.reg [.q 4 (.mv (.k (.bool true)))]) (.block 0 (.loop (.seq (.seq (.reg [.v 10 4,.v 11 10,⟨some 12,(some (11,true)),.q (.mv (.t 0))⟩,⟨some 13,(some (11,true)),.q (.nc (.t 12))⟩,⟨some 14,(some (11,true)),.q (.fa 1 (.t 13))⟩,⟨some 15,(some (11,true)),.l (.ld1 (.t 14))⟩,⟨some 16,(some (11,true)),.q (.not (.t 15))⟩,.a 17 (.pick (.t 11) (.t 16) (.k (.bool false)))]) (.cond (.t 17) .skip (.exit 0))) (.seq (.block 1 (.seq (.ord  [.q (.q 20 (.fa 1 (.t 3))),.q (.l 21 (.ld1 (.t 20))),.q (.v 22 0),.m (.a 23 (.cl 83 [(.t 22),(.k (.bool false))] [0,1,2,3])),.rc (.q 20 (.fa 1 (.t 3))),.rc (.l 21 (.ld1 (.t 20))),.m (.e 24 (.bsl 9 1 [(.t 23)])),.rc (.q 20 (.fa 1 (.t 3))),.rc (.l 21 (.ld1 (.t 20))),.m (.e 25 (.ap 9 1 16 (.t 21) (.t 24))),.q (.q 26 (.fa 1 (.t 3))),.m (.s (.st 1 (.t 26) (.t 25)))]) (GB))) (HV)))))) (pc39_9))))
def OD:List RV:=[.ld (.ldn 3 (.t 2))]
theorem aM1:aY Tryz.prog true ⟨fun r k=>if r=1/\k=1 then .own [0,1,2,3] else if r=2/\k=1 then .own [0,1,2,3] else if r=6/\k=3 then .own [0,1,2,3] else if r=7/\k=1 then .own [0,1,2,3] else if r=8/\k=3 then .own [0,1,2,3] else if r=5/\k=1 then .own [0,1,2,3] else if r=9/\k=1 then .own [0,1,2,3] else .own [],fun r=>[7,8,9,5].contains r⟩ Tryz.f39=some (aFB,OD):=by kernel_rfl
def CD:PC:=.gh (.reg [.q 44 (.fa 1 (.t 3)),.l 45 (.ld1 (.t 44)),.l 46 (.ldn 7 (.t 4)),.e 47 (.bsl 64 7 [(.t 46)]),.e 48 (.ap 64 7 88 (.t 45) (.t 47)),.q 49 (.fa 1 (.t 3)),.s (.st 1 (.t 49) (.t 48))])
@[go_sem ↓] theorem aJU:bT CD:=bY _
def C1:PC:=.seq (.gh (.reg [.v 42 0,.a 43 (.cl 37 [(.t 42),(.k (.string (mk [59])))] [0,1,2,3])])) (CD)
@[go_sem ↓] theorem aJS:bT C1:=bY _
def GO:PC:=.seq (.gh (.reg [.v 39 0,.a 40 (.cl 84 [(.t 39),(.k (.string (mk [63])))] [0,1,2,3]),.q 41 (.fa 6 (.t 4)),.s (.st 1 (.t 41) (.t 40))])) (C1)
@[go_sem ↓] theorem aLU:bT GO:=bY _
def IB:PC:=.seq (.gh (.reg [.v 36 0,.a 37 (.cl 55 [(.t 36)] [0,1,2,3]),.q 38 (.fa 2 (.t 4)),.s (.st 4 (.t 38) (.t 37))])) (GO)
@[go_sem ↓] theorem aNC:bT IB:=bY _
def IV:PC:=.seq (.gh (.reg [.v 34 0,.a 35 (.cl 37 [(.t 34),(.k (.string (mk [58])))] [0,1,2,3])])) (IB)
@[go_sem ↓] theorem aOA:bT IV:=bY _
def I8:PC:=.seq (.gh (.reg [.v 29 0,.a 30 (.cl 36 [(.t 29),(.k (.bool false))] [0,1,2,3]),.v 31 0,.a 32 (.cl 83 [(.t 31),(.k (.bool false))] [0,1,2,3]),.q 33 (.bd [(.int .i64 0),(.string (mk [])),(.int .i64 0),(.int .i64 0),(.string (mk [])),(.slice none 0 0),(.bool false)] [(0,1,(.t 30)),(1,1,(.t 32))]),.e 4 (.al (.agg #[(.int .i64 0),(.string (mk [])),(.int .i64 0),(.int .i64 0),(.string (mk [])),(.slice none 0 0),(.bool false)]) 64),.s (.st 7 (.t 4) (.t 33))])) (IV)
@[go_sem ↓] theorem aN9:bT I8:=bY _
def HR:PC:=.seq (.seq (.gh (.reg [.v 20 0,.q 21 (.nc (.t 20)),.q 22 (.fa 0 (.t 21)),.l 23 (.ld1 (.t 22)),.a 24 (.cl 38 [(.t 23)] [1]),.q 25 (.fld1 0 (.t 24)),.q 26 (.bin .neq true (.t 25) (.i 2))])) (.cond (.t 26) (.seq (.reg [.v 27 0,.a 28 (.cl 35 [(.t 27)] [0,1,2,3])]) (.exit 0)) .skip)) (I8)
@[go_sem ↓] theorem aNR:bT HR:=bY _
def pc40_12:PC:=.seq (.gh (.reg [.l 50 (.ldn 2 (.t 3)),.s (.st 2 (.t 2) (.t 50))])) .ret
@[go_sem ↓] theorem aJY:bT pc40_12:=bY _
def aE8:PC:=.seq (.reg [.e 2 (.al (.agg #[(.string (mk [])),(.slice none 0 0)]) 56)]) (.seq (.reg [.v 5 0,.a 6 (.cl 83 [(.t 5),(.k (.bool true))] [0,1,2,3]),.q 7 (.bd [(.string (mk [])),(.slice none 0 0)] [(0,1,(.t 6))]),.e 3 (.al (.agg #[(.string (mk [])),(.slice none 0 0)]) 56),.s (.st 2 (.t 3) (.t 7))]) (.seq (.reg [.v 8 0,.a 9 (.cl 37 [(.t 8),(.k (.string (mk [123])))] [0,1,2,3])]) (.seq (.block 0 (.loop (.seq (.seq (.reg [.v 10 0,.q 11 (.nc (.t 10)),.q 12 (.fa 1 (.t 11)),.l 13 (.ld1 (.t 12)),.q 14 (.not (.t 13)),.v 15 14,⟨some 16,(some (15,true)),.q (.mv (.t 0))⟩,⟨some 17,(some (15,true)),.cl 84 [(.t 16),(.k (.string (mk [125])))] [0,1,2,3]⟩,⟨some 18,(some (15,true)),.q (.not (.t 17))⟩,.a 19 (.pick (.t 15) (.t 18) (.k (.bool false)))]) (.cond (.t 19) .skip (.exit 0))) (.block 1 (HR))))) (pc40_12))))
def OL:List RV:=[.ld (.ldn 2 (.t 2))]
theorem aKA:aY Tryz.prog true ⟨fun r k=>if r=1/\k=1 then .own [0,1,2,3] else if r=2/\k=1 then .own [0,1,2,3] else if r=3/\k=7 then .own [0,1,2,3] else if r=4/\k=4 then .own [1] else if r=5/\k=1 then .own [0,1,2,3] else if r=6/\k=1 then .own [0,1,2,3] else if r=6/\k=3 then .own [0,1,2,3] else if r=7/\k=1 then .own [0,1,2,3] else if r=8/\k=1 then .own [0,1,2,3] else if r=9/\k=1 then .own [0,1,2,3] else if r=10/\k=1 then .own [0,1,2,3] else .own [],fun r=>[4,6,7,8,9,10,12,11].contains r⟩ Tryz.f40=some (aE8,OL):=by kernel_rfl
def aEG:PC:=.seq (.reg [.e 1 (.bx 37 (.t 0)),.q 2 (.mv (.k (.string (mk []))))]) (.seq (.seq (.reg [.q 5 (.fa 3 (.t 1)),.l 6 (.ld1 (.t 5)),.q 7 (.lnL (.t 6)),.q 8 (.bin .gtr true (.t 7) (.i 0))]) (.cond (.t 8) (.seq (.reg [.q 2 (.mv (.k (.string (mk []))))]) .ret) .skip)) (.seq (.reg [.q 3 (.mv (.k (.string (mk [105,110,116]))))]) (.seq (.seq (.reg [.q 9 (.fa 0 (.t 1)),.l 10 (.ld1 (.t 9))]) (.block 0 (.seq (.block 5 (.seq (.block 4 (.seq (.block 3 (.seq (.block 2 (.seq (.block 1 (.seq (.seq (.seq (.reg [.q 12 (.bin .eql true (.t 10) (.i 1)),.v 11 12]) (.cond (.t 11) (.exit 1) .skip)) (.seq (.seq (.reg [.q 14 (.bin .eql true (.t 10) (.i 3)),.v 13 14]) (.cond (.t 13) (.exit 2) .skip)) (.seq (.seq (.reg [.q 16 (.bin .eql true (.t 10) (.i 2)),.v 15 16]) (.cond (.t 15) (.exit 3) .skip)) (.seq (.seq (.reg [.q 18 (.bin .eql true (.t 10) (.i 4)),.v 17 18]) (.cond (.t 17) (.exit 4) .skip)) (.seq (.seq (.reg [.q 20 (.bin .eql true (.t 10) (.i 6)),.v 19 20]) (.cond (.t 19) .skip (.reg [.q 21 (.bin .eql true (.t 10) (.i 7)),.v 19 21]))) (.cond (.t 19) (.exit 5) .skip)))))) (.exit 0))) (.seq (.seq (.reg [.q 22 (.fa 1 (.t 1)),.l 23 (.ld1 (.t 22)),.q 24 (.bin .eql true (.t 23) (.i 0)),.v 25 24,⟨some 26,(some (25,true)),.q (.fa 2 (.t 1))⟩,⟨some 27,(some (25,true)),.l (.ld1 (.t 26))⟩,⟨some 28,(some (25,true)),.q (.bin .eql true (.t 27) (.k (.string (mk []))))⟩,.a 29 (.pick (.t 25) (.t 28) (.k (.bool false)))]) (.cond (.t 29) (.seq (.reg [.q 2 (.mv (.k (.string (mk [98,111,111,108]))))]) .ret) .skip)) (.exit 0)))) (.reg [.q 3 (.mv (.k (.string (mk [117,105,110,116]))))]))) (.seq (.seq (.reg [.q 30 (.fa 1 (.t 1)),.l 31 (.ld1 (.t 30)),.q 32 (.bin .eql true (.t 31) (.i 64)),.v 33 32,⟨some 34,(some (33,true)),.q (.fa 0 (.t 1))⟩,⟨some 35,(some (33,true)),.l (.ld1 (.t 34))⟩,⟨some 36,(some (33,true)),.q (.bin .eql true (.t 35) (.i 2))⟩,.a 37 (.pick (.t 33) (.t 36) (.k (.bool false))),.v 4 37]) (.seq (.reg [.q 38 (.fa 2 (.t 1)),.l 39 (.ld1 (.t 38)),.q 40 (.bin .eql true (.t 39) (.k (.string (mk [])))),.v 41 40,⟨some 42,(some (41,true)),.q (.fa 1 (.t 1))⟩,⟨some 43,(some (41,true)),.l (.ld1 (.t 42))⟩,⟨some 44,(some (41,true)),.q (.bin .eql true (.t 43) (.i 8))⟩,⟨some 45,(some (41,true)),.q (.mv (.t 44))⟩,⟨some 46,(some (45,false)),.q (.fa 1 (.t 1))⟩,⟨some 47,(some (45,false)),.l (.ld1 (.t 46))⟩,⟨some 48,(some (45,false)),.q (.bin .eql true (.t 47) (.i 16))⟩,⟨some 49,(some (41,true)),.pick (.t 45) (.k (.bool true)) (.t 48)⟩,⟨some 50,(some (41,true)),.q (.mv (.t 49))⟩,⟨some 51,(some (50,false)),.q (.fa 1 (.t 1))⟩,⟨some 52,(some (50,false)),.l (.ld1 (.t 51))⟩,⟨some 53,(some (50,false)),.q (.bin .eql true (.t 52) (.i 32))⟩,⟨some 54,(some (41,true)),.pick (.t 50) (.k (.bool true)) (.t 53)⟩,⟨some 55,(some (41,true)),.q (.mv (.t 54))⟩,⟨some 56,(some (55,false)),.q (.mv (.t 4))⟩,⟨some 57,(some (41,true)),.pick (.t 55) (.k (.bool true)) (.t 56)⟩,.a 58 (.pick (.t 41) (.t 57) (.k (.bool false)))]) (.cond (.t 58) (.seq (.reg [.v 59 3,.q 60 (.fa 1 (.t 1)),.l 61 (.ld1 (.t 60)),.a 62 (.cq 32 [(.t 61)]),.q 63 (.bin .add true (.t 59) (.t 62)),.v 2 63]) .ret) .skip))) (.exit 0)))) (.seq (.seq (.reg [.q 64 (.fa 1 (.t 1)),.l 65 (.ld1 (.t 64)),.q 66 (.bin .geq true (.t 65) (.i 0)),.v 67 66,⟨some 68,(some (67,true)),.q (.fa 2 (.t 1))⟩,⟨some 69,(some (67,true)),.l (.ld1 (.t 68))⟩,⟨some 70,(some (67,true)),.q (.bin .eql true (.t 69) (.k (.string (mk []))))⟩,.a 71 (.pick (.t 67) (.t 70) (.k (.bool false)))]) (.cond (.t 71) (.seq (.reg [.q 72 (.fa 1 (.t 1)),.l 73 (.ld1 (.t 72)),.a 74 (.cq 32 [(.t 73)]),.q 75 (.bin .add true (.k (.string (mk [116,101,120,116,91]))) (.t 74)),.q 76 (.bin .add true (.t 75) (.k (.string (mk [93])))),.v 2 76]) .ret) .skip)) (.exit 0)))) (.seq (.seq (.reg [.q 77 (.fa 1 (.t 1)),.l 78 (.ld1 (.t 77)),.q 79 (.bin .eql true (.t 78) (.i 0)),.v 80 79,⟨some 81,(some (80,true)),.q (.fa 2 (.t 1))⟩,⟨some 82,(some (80,true)),.l (.ld1 (.t 81))⟩,⟨some 83,(some (80,true)),.cq 95 [(.t 82)]⟩,.a 84 (.pick (.t 80) (.t 83) (.k (.bool false))),.v 85 84,⟨some 86,(some (85,true)),.q (.fa 2 (.t 1))⟩,⟨some 87,(some (85,true)),.l (.ld1 (.t 86))⟩,⟨some 88,(some (85,true)),.ix (.t 87) (.i 0)⟩,⟨some 89,(some (85,true)),.q (.bin .geq true (.t 88) (.k (.int .u8 65)))⟩,.a 90 (.pick (.t 85) (.t 89) (.k (.bool false))),.v 91 90,⟨some 92,(some (91,true)),.q (.fa 2 (.t 1))⟩,⟨some 93,(some (91,true)),.l (.ld1 (.t 92))⟩,⟨some 94,(some (91,true)),.ix (.t 93) (.i 0)⟩,⟨some 95,(some (91,true)),.q (.bin .leq true (.t 94) (.k (.int .u8 90)))⟩,.a 96 (.pick (.t 91) (.t 95) (.k (.bool false)))]) (.cond (.t 96) (.seq (.reg [.q 97 (.fa 2 (.t 1)),.l 98 (.ld1 (.t 97)),.v 2 98]) .ret) .skip)) (.exit 0))))) (.seq (.reg [.q 2 (.mv (.k (.string (mk []))))]) .ret))))
def aEK:List RV:=[.mv (.t 2)]
theorem aLK:aY Tryz.prog true ⟨fun r k=>if r=16/\k=3 then .q else if r=18/\k=2 then .q else if r=19/\k=6 then .q else .own [],fun _=>false⟩ Tryz.f53=some (aEG,aEK):=by kernel_rfl
def BM:PC:=.seq (.gh (.reg [.v 13 0,.q 14 (.nc (.t 13)),.q 15 (.fa 1 (.t 14)),.l 16 (.ld1 (.t 15)),.q 17 (.not (.t 16)),.v 18 17,⟨some 19,(some (18,true)),.q (.mv (.t 0))⟩,⟨some 20,(some (18,true)),.cl 34 [(.t 19),(.k (.string (mk [111,102])))] [0,1,2,3]⟩,⟨some 21,(some (18,true)),.q (.not (.t 20))⟩,.a 22 (.pick (.t 18) (.t 21) (.k (.bool false)))])) (.cond (.t 22) (.reg [.v 23 0,.a 24 (.cl 35 [(.t 23)] [0,1,2,3])]) .skip)
@[go_sem ↓] theorem aKU:bT BM:=bY _
def BX:PC:=.gh (.reg [.v 32 5,.q 33 (.bin .sub true (.t 32) (.i 1)),.v 5 33])
@[go_sem ↓] theorem aJK:bT BX:=bY _
def DC:PC:=.seq (.gh (.reg [.l 41 (.ldn 4 (.t 3)),.s (.st 4 (.t 2) (.t 41))])) .ret
@[go_sem ↓] theorem aJW:bT DC:=bY _
def HL:PC:=.seq (.seq (.gh (.reg [.v 27 4,.q 28 (.lnL (.t 27)),.q 29 (.bin .sub true (.t 28) (.i 1)),.v 5 29])) (.block 2 (.loop (.seq (.seq (.reg [.v 30 5,.q 31 (.bin .geq true (.t 30) (.i 0))]) (.cond (.t 31) .skip (.exit 2))) (.seq (.block 3 (.reg [.v 34 4,.v 35 5,.l 36 (.ia 1 (.t 34) (.t 35)),.l 37 (.ld1 (.t 36)),.l 38 (.ldn 4 (.t 3)),.e 39 (.bsl 37 4 [(.t 38)]),.q 40 (.bd [(.int .i64 0),(.int .i64 0),(.string (mk [])),(.slice none 0 0)] [(0,1,(.i 5)),(1,1,(.t 37)),(3,1,(.t 39))]),.s (.st 4 (.t 3) (.t 40))])) (BX)))))) (DC)
@[go_sem ↓] theorem aM4:bT HL:=bY _
def HT:PC:=.seq (.gh (.reg [.v 25 0,.a 26 (.cl 98 [(.t 25)] [0,1,2,3]),.s (.st 4 (.t 3) (.t 26))])) (HL)
@[go_sem ↓] theorem aLL:bT HT:=bY _
def aE5:PC:=.seq (.reg [.e 2 (.al (.agg #[(.int .i64 0),(.int .i64 0),(.string (mk [])),(.slice none 0 0)]) 37)]) (.seq (.reg [.e 3 (.al (.agg #[(.int .i64 0),(.int .i64 0),(.string (mk [])),(.slice none 0 0)]) 37)]) (.seq (.reg [.q 4 (.mv (.k (.slice none 0 0)))]) (.seq (.block 0 (.loop (.seq (.seq (.reg [.v 6 0,.a 7 (.cl 34 [(.t 6),(.k (.string (mk [108,105,115,116])))] [0,1,2,3])]) (.cond (.t 7) .skip (.exit 0))) (.block 1 (.seq (.reg [.v 8 4,.v 9 0,.a 10 (.cl 97 [(.t 9)] [0,1,2,3]),.e 11 (.bsl 3 1 [(.t 10)]),.e 12 (.ap 3 1 8 (.t 8) (.t 11)),.v 4 12]) (BM)))))) (HT))))
def aA5:List RV:=[.ld (.ldn 4 (.t 2))]
theorem aNO:aY Tryz.prog true ⟨fun r k=>if r=3/\k=1 then .own [0,1,2,3] else if r=4/\k=2 then .own [0,1,2,3] else if r=5/\k=7 then .own [0,1,2,3] else if r=6/\k=1 then .own [0,1,2,3] else if r=7/\k=1 then .own [0,1,2,3] else .own [],fun r=>[5,7,8,12,10].contains r⟩ Tryz.f55=some (aE5,aA5):=by kernel_rfl
def GT:PC:=.seq (.gh (.reg [.v 37 0,.q 38 (.nc (.t 37)),.q 39 (.fa 0 (.t 38)),.l 40 (.ld1 (.t 39)),.a 41 (.cl 81 [(.t 40)] [1])])) (.seq (.reg [.q 42 (.fa 1 (.t 5)),.l 43 (.ld1 (.t 42)),.v 4 43]) .ret)
@[go_sem ↓] theorem aKX:bT GT:=bY _
def IH:PC:=.seq (.seq (.gh (.reg [.v 11 0,.q 12 (.nc (.t 11)),.q 13 (.fa 1 (.t 12)),.l 14 (.ld1 (.t 13)),.v 15 14,⟨some 16,(some (15,false)),.q (.fa 0 (.t 5))⟩,⟨some 17,(some (15,false)),.l (.ld1 (.t 16))⟩,⟨some 18,(some (15,false)),.q (.bin .neq true (.t 17) (.i 1))⟩,.a 19 (.pick (.t 15) (.k (.bool true)) (.t 18)),.v 20 19,⟨some 21,(some (20,false)),.q (.mv (.t 1))⟩,⟨some 22,(some (20,false)),.q (.mv (.t 21))⟩,⟨some 23,(some (22,true)),.q (.fa 1 (.t 5))⟩,⟨some 24,(some (22,true)),.l (.ld1 (.t 23))⟩,⟨some 25,(some (22,true)),.ix (.t 24) (.i 0)⟩,⟨some 26,(some (22,true)),.q (.bin .lss true (.t 25) (.k (.int .u8 65)))⟩,⟨some 27,(some (22,true)),.q (.mv (.t 26))⟩,⟨some 28,(some (27,false)),.q (.fa 1 (.t 5))⟩,⟨some 29,(some (27,false)),.l (.ld1 (.t 28))⟩,⟨some 30,(some (27,false)),.ix (.t 29) (.i 0)⟩,⟨some 31,(some (27,false)),.q (.bin .gtr true (.t 30) (.k (.int .u8 90)))⟩,⟨some 32,(some (22,true)),.pick (.t 27) (.k (.bool true)) (.t 31)⟩,⟨some 33,(some (20,false)),.pick (.t 22) (.t 32) (.k (.bool false))⟩,.a 34 (.pick (.t 20) (.k (.bool true)) (.t 33))])) (.cond (.t 34) (.seq (.reg [.v 35 0,.a 36 (.cl 35 [(.t 35)] [0,1,2,3])]) (.seq (.reg [.q 4 (.mv (.k (.string (mk []))))]) .ret)) .skip)) (GT)
@[go_sem ↓] theorem aLS:bT IH:=bY _
def aBI:PC:=.seq (.reg [.q 4 (.mv (.k (.string (mk []))))]) (.seq (.reg [.v 6 0,.q 7 (.nc (.t 6)),.q 8 (.fa 0 (.t 7)),.l 9 (.ld1 (.t 8)),.a 10 (.cl 38 [(.t 9)] [1]),.e 5 (.al (.agg #[(.int .i64 0),(.string (mk [])),(.int .i64 0),(.int .i64 0)]) 74),.s (.st 4 (.t 5) (.t 10))]) (IH))
def aFZ:List RV:=[.mv (.t 4)]
theorem aNS:aY Tryz.prog true ⟨fun r k=>if r=1/\k=4 then .own [1] else if r=3/\k=1 then .own [0,1,2,3] else if r=5/\k=4 then .own [1] else .own [],fun r=>[2,5].contains r⟩ Tryz.f83=some (aBI,aFZ):=by kernel_rfl
def SH:PC:=.seq (.reg [.q 4 (.mv (.k (.bool false)))]) (.seq (.reg [.v 5 0,.q 6 (.nc (.t 5)),.q 7 (.fa 1 (.t 6)),.l 8 (.ld1 (.t 7)),.q 9 (.not (.t 8)),.v 10 9,⟨some 11,(some (10,true)),.q (.mv (.t 0))⟩,⟨some 12,(some (10,true)),.q (.nc (.t 11))⟩,⟨some 13,(some (10,true)),.q (.fa 0 (.t 12))⟩,⟨some 14,(some (10,true)),.l (.ld1 (.t 13))⟩,⟨some 15,(some (10,true)),.q (.mv (.t 1))⟩,⟨some 16,(some (10,true)),.cl 82 [(.t 14),(.t 15)] [1]⟩,.a 17 (.pick (.t 10) (.t 16) (.k (.bool false))),.v 4 17]) .ret)
def TW:List RV:=[.mv (.t 4)]
theorem aMJ:aY Tryz.prog true ⟨fun r k=>if r=1/\k=11 then .own [1] else .own [],fun _=>false⟩ Tryz.f84=some (SH,TW):=by kernel_rfl
def aEL:PC:=.seq (.reg [.q 2 (.mv (.i 0))]) (.seq (.reg [.v 4 0,.a 5 (.cl 37 [(.t 4),(.k (.string (mk [91])))] [0,1,2,3])]) (.seq (.reg [.v 6 0,.a 7 (.cl 36 [(.t 6),(.k (.bool true))] [0,1,2,3]),.v 3 7]) (.seq (.reg [.v 8 0,.a 9 (.cl 37 [(.t 8),(.k (.string (mk [93])))] [0,1,2,3])]) (.seq (.reg [.v 10 3,.v 2 10]) .ret))))
def aB3:List RV:=[.mv (.t 2)]
theorem aMY:aY Tryz.prog true ⟨fun r k=>if r=1/\k=1 then .own [0,1,2,3] else if r=2/\k=1 then .own [0,1,2,3] else if r=3/\k=1 then .own [0,1,2,3] else .own [],fun _=>false⟩ Tryz.f97=some (aEL,aB3):=by kernel_rfl
def wJ:PC:=.gh (.reg [.v 28 4,.q 29 (.bin .lss true (.t 28) (.i 64)),.v 30 29,⟨some 31,(some (30,true)),.q (.mv (.t 0))⟩,⟨some 32,(some (30,true)),.q (.mv (.t 4))⟩,⟨some 33,(some (30,true)),.cq 32 [(.t 32)]⟩,⟨some 34,(some (30,true)),.q (.bin .add true (.k (.string (mk [117,105,110,116]))) (.t 33))⟩,⟨some 35,(some (30,true)),.cl 34 [(.t 31),(.t 34)] [0,1,2,3]⟩,.a 36 (.pick (.t 30) (.t 35) (.k (.bool false)))])
@[go_sem ↓] theorem aJZ:bT wJ:=bY _
def C0:PC:=.seq (.gh (.reg [.v 40 0,.a 41 (.cl 83 [(.t 40),(.k (.bool true))] [0,1,2,3]),.q 42 (.bd [(.int .i64 0),(.int .i64 0),(.string (mk [])),(.slice none 0 0)] [(0,1,(.i 6)),(2,1,(.t 41))]),.s (.st 4 (.t 2) (.t 42))])) .ret
@[go_sem ↓] theorem aJL:bT C0:=bY _
def H9:PC:=.seq (.seq (.gh (.reg [.e 15 (.bsl 3 1 [(.i 8),(.i 16),(.i 32),(.i 64)]),.q 16 (.lnL (.t 15)),.q 17 (.mv (.i 0))])) (.block 1 (.loop (.seq (.reg [.q 18 (.bin .lss true (.t 17) (.t 16))]) (.seq (.cond (.t 18) .skip (.exit 1)) (.seq (.block 2 (.seq (.reg [.l 19 (.ia 1 (.t 15) (.t 17)),.l 20 (.ld1 (.t 19)),.v 4 20]) (.seq (.seq (.reg [.v 21 0,.v 22 4,.a 23 (.cq 32 [(.t 22)]),.q 24 (.bin .add true (.k (.string (mk [105,110,116]))) (.t 23)),.a 25 (.cl 34 [(.t 21),(.t 24)] [0,1,2,3])]) (.cond (.t 25) (.seq (.reg [.v 26 4,.q 27 (.bd [(.int .i64 0),(.int .i64 0),(.string (mk [])),(.slice none 0 0)] [(0,1,(.i 2)),(1,1,(.t 26))]),.s (.st 4 (.t 2) (.t 27))]) .ret) .skip)) (.seq (wJ) (.cond (.t 36) (.seq (.reg [.v 37 4,.q 38 (.bd [(.int .i64 0),(.int .i64 0),(.string (mk [])),(.slice none 0 0)] [(0,1,(.i 3)),(1,1,(.t 37))]),.s (.st 4 (.t 2) (.t 38))]) .ret) .skip))))) (.reg [.q 39 (.bin .add true (.t 17) (.i 1)),.v 17 39]))))))) (C0)
@[go_sem ↓] theorem aM9:bT H9:=bY _
def aCO:PC:=.seq (.reg [.e 2 (.al (.agg #[(.int .i64 0),(.int .i64 0),(.string (mk [])),(.slice none 0 0)]) 37)]) (.seq (.block 0 (.seq (.reg [.v 6 0,.a 7 (.cl 34 [(.t 6),(.k (.string (mk [98,111,111,108])))] [0,1,2,3]),.v 5 7]) (.cond (.t 5) (.seq (.reg [.q 8 (.bd [(.int .i64 0),(.int .i64 0),(.string (mk [])),(.slice none 0 0)] [(0,1,(.i 1))]),.s (.st 4 (.t 2) (.t 8))]) .ret) (.seq (.reg [.v 10 0,.a 11 (.cl 34 [(.t 10),(.k (.string (mk [116,101,120,116])))] [0,1,2,3]),.v 9 11]) (.cond (.t 9) (.seq (.reg [.v 12 0,.a 13 (.cl 97 [(.t 12)] [0,1,2,3]),.q 14 (.bd [(.int .i64 0),(.int .i64 0),(.string (mk [])),(.slice none 0 0)] [(0,1,(.i 4)),(1,1,(.t 13))]),.s (.st 4 (.t 2) (.t 14))]) .ret) .skip))))) (H9))
def aC9:List RV:=[.ld (.ldn 4 (.t 2))]
theorem aNE:aY Tryz.prog true ⟨fun r k=>if r=1/\k=1 then .own [0,1,2,3] else if r=3/\k=1 then .own [0,1,2,3] else if r=4/\k=1 then .own [0,1,2,3] else if r=8/\k=2 then .q else if r=8/\k=4 then .own [0,1,2,3] else if r=10/\k=5 then .q else if r=10/\k=7 then .own [0,1,2,3] else if r=13/\k=1 then .own [0,1,2,3] else .own [],fun r=>[5,13,10].contains r⟩ Tryz.f98=some (aCO,aC9):=by kernel_rfl
end Go.Proofs.YtgogpogophflhaaGreatDoor
namespace Go.Proofs
open Go.Shelf
def Tryz.laysM171_ren:Go.Shelf.Ren:=⟨fun | 171=>32 | 243=>79 | 246=>115 | 283=>127 | 284=>128 | 285=>129 | 286=>130 | 129=>135 | 317=>134 | 318=>136 | 319=>137 | 320=>138 | 337=>150 | 338=>151 | n=>n,fun | 3=>3 | 9=>9 | 2=>2 | 4=>4 | 171=>161 | 0=>0 | 53=>127 | 37=>44 | 5=>5 | 173=>164 | 212=>170 | 51=>171 | 20=>20 | 213=>172 | 46=>168 | 232=>189 | 233=>190 | n=>n,fun | 17=>0 | 18=>2 | 19=>3 | n=>n⟩
theorem Tryz.lays171:Go.Proofs.Lays.n171 Tryz.prog Tryz.laysM171_ren:={
 mixed:=by kernel_rfl
 f129:=Tryz.func135.trans (congrArg some (by kernel_rfl))
 f171:=Tryz.func32.trans (congrArg some (by kernel_rfl))
 f243:=Tryz.func79.trans (congrArg some (by kernel_rfl))
 f246:=Tryz.func115.trans (congrArg some (by kernel_rfl))
 f283:=Tryz.func127.trans (congrArg some (by kernel_rfl))
 f284:=Tryz.func128.trans (congrArg some (by kernel_rfl))
 f285:=Tryz.func129.trans (congrArg some (by kernel_rfl))
 f286:=Tryz.func130.trans (congrArg some (by kernel_rfl))
 f317:=Tryz.func134.trans (congrArg some (by kernel_rfl))
 f318:=Tryz.func136.trans (congrArg some (by kernel_rfl))
 f319:=Tryz.func137.trans (congrArg some (by kernel_rfl))
 f320:=Tryz.func138.trans (congrArg some (by kernel_rfl))
 f337:=Tryz.func150.trans (congrArg some (by kernel_rfl))
 f338:=Tryz.func151.trans (congrArg some (by kernel_rfl))
 t0:=Tryz.underlying0
 a0:=Tryz.isAgg0
 z0:=Tryz.sizeOf0
 v0:=Tryz.zeroValue0
 t2:=Tryz.underlying2
 a2:=Tryz.isAgg2
 z2:=Tryz.sizeOf2
 v2:=Tryz.zeroValue2
 t3:=Tryz.underlying3
 a3:=Tryz.isAgg3
 z3:=Tryz.sizeOf3
 v3:=Tryz.zeroValue3
 t4:=Tryz.underlying4
 a4:=Tryz.isAgg4
 z4:=Tryz.sizeOf4
 v4:=Tryz.zeroValue4
 t5:=Tryz.underlying5
 a5:=Tryz.isAgg5
 z5:=Tryz.sizeOf5
 v5:=Tryz.zeroValue5
 t9:=Tryz.underlying9
 a9:=Tryz.isAgg9
 z9:=Tryz.sizeOf9
 v9:=Tryz.zeroValue9
 t20:=Tryz.underlying20
 a20:=Tryz.isAgg20
 z20:=Tryz.sizeOf20
 v20:=Tryz.zeroValue20
 t37:=Tryz.underlying44
 a37:=Tryz.isAgg44
 z37:=Tryz.sizeOf44
 v37:=Tryz.zeroValue44
 t46:=Tryz.underlying168
 a46:=Tryz.isAgg168
 z46:=Tryz.sizeOf168
 v46:=Tryz.zeroValue168
 t51:=Tryz.underlying171
 a51:=Tryz.isAgg171
 z51:=Tryz.sizeOf171
 v51:=Tryz.zeroValue171
 t53:=Tryz.underlying127
 a53:=Tryz.isAgg127
 z53:=Tryz.sizeOf127
 v53:=Tryz.zeroValue127
 t171:=Tryz.underlying161
 a171:=Tryz.isAgg161
 z171:=Tryz.sizeOf161
 v171:=Tryz.zeroValue161
 t173:=Tryz.underlying164
 a173:=Tryz.isAgg164
 z173:=Tryz.sizeOf164
 v173:=Tryz.zeroValue164
 t212:=Tryz.underlying170
 a212:=Tryz.isAgg170
 z212:=Tryz.sizeOf170
 v212:=Tryz.zeroValue170
 t213:=Tryz.underlying172
 a213:=Tryz.isAgg172
 z213:=Tryz.sizeOf172
 t232:=Tryz.underlying189
 a232:=Tryz.isAgg189
 z232:=Tryz.sizeOf189
 v232:=Tryz.zeroValue189
 t233:=Tryz.underlying190
 a233:=Tryz.isAgg190
 z233:=Tryz.sizeOf190
 v233:=Tryz.zeroValue190
 g17:=by kernel_rfl
 g18:=by kernel_rfl
 g19:=by kernel_rfl }
theorem Tryz.laysM171:Go.Proofs.LaysM.n171 Tryz.prog Tryz.laysM171_ren:={ Tryz.lays171 with
 i0:=by kernel_rfl
 i2:=by kernel_rfl
 i3:=by kernel_rfl
 i4:=by kernel_rfl
 i5:=by kernel_rfl
 i9:=by kernel_rfl
 i20:=by kernel_rfl
 i37:=by kernel_rfl
 i46:=by kernel_rfl
 i51:=by kernel_rfl
 i53:=by kernel_rfl
 i171:=by kernel_rfl
 i173:=by kernel_rfl
 i212:=by kernel_rfl
 i232:=by kernel_rfl
 i233:=by kernel_rfl
 m17:=by kernel_rfl
 m18:=by kernel_rfl
 m19:=by kernel_rfl }
open Go.RowKit Go.Sort Go.Lib in
theorem Tryz.strconv_Itoa (n:Int) (h0:-9223372036854775808<=n) (h1:n<=9223372036854775807) (w:World) (htab:Lib.TabIs Tryz.prog w "internal/strconv.uint64pow10" .u64 Lib.pow10Tab) :
 Calls Tryz.prog 32 #[.int .i64 n] w fun e w'=>e=.returned (.string ⟨(Lib.itoa n).toArray⟩)/\∃ k os,w'=grow (w.drewN k) os:=Any.strconv_Itoa Tryz.laysM171 n h0 h1 w htab
end Go.Proofs
namespace Go.Proofs.YtgogpogophflhaaGreatDoor
open Go.W
theorem lG {x:List UInt8} (h:bX x=true):x.length<=16:=by
 rcases bL 16 x.length with h1 | h1
 · rw [qG h1] at h; cases h
 · exact h1
theorem vC:∀ (m:Nat) (r:List UInt8) (i:Nat) (out:List UInt8) (z:Nat) (o:List UInt8),r.length<=m->out.all uA=true->quoL i r out=(z,some o)->o.all uA=true
 | _,[],i,out,z,o,_,_,h=>by rw [pS] at h; cases h
 | 0,c :: r,i,out,z,o,hm,_,_=>by simp at hm
 | m + 1,c :: r,i,out,z,o,hm,ho,h=>by
  rw [gK] at h
  have app:∀ d:UInt8,uA d=true->(out ++ [d]).all uA=true:=fun d hd=>by rw [List.all_append,ho]; simp [hd]
  cases c1:decide (c < 32) || decide (126 < c) with
  | true=>rw [c1] at h; cases h
  | false=>
  rw [c1,aF] at h
  have hp:uA c=true:=by
   unfold uA
   simp only [Bool.or_eq_false_iff,decide_eq_false_iff_not,UInt8.not_lt] at c1
   simp [c1.1,c1.2]
  cases c2:c == 34 with
  | true=>
   rw [c2] at h
   simp only [aK,Prod.mk.injEq,aH] at h
   rw [<-h.2]; exact ho
  | false=>
  rw [c2,aF] at h
  cases c3:c == 92 with
  | false=>
   rw [c3,aF] at h
   exact vC m r _ _ z o (by simp at hm; omega) (app c hp) h
  | true=>
   rw [c3,aK] at h
   cases r with
   | nil=>cases h
   | cons d r=>
    simp only at h
    cases c4:d == 34 || d == 92 with
    | false=>rw [c4] at h; cases h
    | true=>
     rw [c4,aK] at h
     refine vC m r _ _ z o (by simp at hm; omega) (app d ?_) h
     rw [Bool.or_eq_true] at c4
     rcases c4 with e | e<;>rw [eq_of_beq e]<;>decide
structure Gtk (k:Int) (x:List UInt8) (n:Int):Prop where
 e:k=0->x=[]/\n=0
 o:k ≠ 0->I3 k x n=true
 i:dS n
theorem RH {l:List UInt8} {p:Nat} {k n:Int} {x:List UInt8} {z:Nat} (h:dH l p=.ok k x n z):Gtk k x n:=by
 have z0:dS 0:=⟨by decide,by decide⟩
 unfold dH at h
 split at h
 · simp only [R.ok.injEq] at h
   obtain ⟨rfl,rfl,rfl,_⟩:=h
   exact ⟨fun _=>⟨rfl,rfl⟩,fun h=>absurd rfl h,z0⟩
 · rename_i c hc
   cases c1:bR c.toNat with
   | true=>
    rw [c1,aK] at h
    unfold hJ at h
    simp only at h
    cases d1:decide (16 < b5 a8 l p - p) with
    | true=>rw [d1] at h; cases h
    | false=>
     rw [d1,aF] at h
     cases d2:l[b5 a8 l p]? == some 45 with
     | true=>rw [d2] at h; cases h
     | false=>
      rw [d2,aF] at h
      simp only [R.ok.injEq] at h
      obtain ⟨rfl,rfl,rfl,rfl⟩:=h
      refine ⟨fun h=>absurd h (by decide),fun _=>?_,z0⟩
      have hx:bX ((l.take (b5 a8 l p)).drop p)=true:=by
       have hlt:=(bC.1 hc).1
       have hw:a8 c=true:=by
        have:=dL (p:=fun c=>!bR c.toNat || a8 c) (by decide +kernel) c
        rw [c1] at this; exact this
       have hg:p + 1<=b5 a8 l p:=by rw [<-jE hc hw]; exact rX
       refine (IK _).2 ⟨c,?_,?_,c1,fun d hd=>s7 d hd⟩
       · rw [List.getElem?_drop,Nat.add_zero,List.getElem?_take_of_lt (by omega),hc]
       · have:=of_decide_eq_false d1
         simp only [List.length_drop,List.length_take]; omega
      show ((0:Int) == 0 && bX _)=true
      rw [hx]; rfl
   | false=>
   rw [c1,aF] at h
   cases c2:bO c || c == 45 with
   | true=>
    rw [c2,aK] at h
    unfold gY at h
    simp only at h
    have hd:∀ d ∈ (l.take (b5 bO l (bif l[p]? == some 45 then p + 1 else p))).drop (bif l[p]? == some 45 then p + 1 else p),bO d=true:=fun d hd=>s7 d hd
    generalize (l.take (b5 bO l (bif l[p]? == some 45 then p + 1 else p))).drop (bif l[p]? == some 45 then p + 1 else p)=s at *
    generalize (l[p]? == some 45)=neg at *
    cases d1:s == [] || (s[0]? == some 48 && (decide (1 < s.length) || neg)) with
    | true=>rw [d1] at h; cases h
    | false=>
    rw [d1,aF] at h
    cases hv:valL (cY neg) 0 s with
    | none=>rw [hv] at h; cases h
    | some m=>
    rw [hv] at h
    simp only at h
    have hm:=LW (lim:=cY neg) (by cases neg<;>decide) (Nat.zero_le _) hd hv
    cases d2:mT l (b5 bO l (bif neg then p + 1 else p)) with
    | true=>rw [d2] at h; cases h
    | false=>
     rw [d2,aF] at h
     simp only [R.ok.injEq] at h
     obtain ⟨rfl,rfl,rfl,rfl⟩:=h
     refine ⟨fun h=>absurd h (by decide),fun _=>rfl,?_⟩
     cases neg with
     | true=>have hm:m<=9223372036854775808:=hm; show dS (-(m:Int)); unfold dS; omega
     | false=>have hm:m<=9223372036854775807:=hm; show dS (m:Int); unfold dS; omega
   | false=>
   rw [c2,aF] at h
   cases c3:c == 34 with
   | true=>
    rw [c3,aK] at h
    unfold gG at h
    split at h
    · cases h
    · rename_i z' o ho
      cases d1:decide (200 < o.length) with
      | true=>rw [d1] at h; cases h
      | false=>
       rw [d1,aF] at h
       simp only [R.ok.injEq] at h
       obtain ⟨rfl,rfl,rfl,rfl⟩:=h
       refine ⟨fun h=>absurd h (by decide),fun _=>?_,z0⟩
       have h1:=vC _ _ _ [] _ _ (Nat.le_refl _) rfl ho
       have h2:decide (o.length<=200)=true:=by have:=of_decide_eq_false d1; simp; omega
       show ((0:Int) == 0 && (decide (o.length<=200) && o.all uA))=true
       rw [h1,h2]; rfl
   | false=>
   rw [c3,aF] at h
   cases c4:eK c.toNat with
   | false=>rw [c4] at h; cases h
   | true=>
    rw [c4,aK] at h
    simp only [R.ok.injEq] at h
    obtain ⟨rfl,rfl,rfl,rfl⟩:=h
    refine ⟨fun h=>absurd h (by decide),fun _=>?_,z0⟩
    show ((0:Int) == 0 && eK c.toNat)=true
    rw [c4]; rfl
theorem BD {l:List UInt8}:∀ (f a:Nat) (ts:List Tk),eV f l a=.ok ts->∀ t ∈ ts,Gtk t.k t.x t.n
 | 0,a,ts,h=>by cases h; intro t ht; cases ht
 | f + 1,a,ts,h=>by
  rw [eV] at h
  split at h
  · cases h
  · rename_i k x n z hR
    have hg:=RH hR
    cases hk:k == 0 with
    | true=>
     rw [hk] at h
     simp only [aK,SR.ok.injEq] at h
     subst h
     intro t ht
     rw [List.mem_singleton.1 ht]; exact hg
    | false=>
     rw [hk] at h
     cases hr:eV f l z with
     | bad e t=>rw [hr] at h; cases h
     | ok us=>
      rw [hr] at h
      simp only [aF,SR.cons,SR.ok.injEq] at h
      subst h
      intro t ht
      rcases List.mem_cons.1 ht with rfl | ht
      · exact hg
      · exact BD f z us hr t ht
theorem NW (l:List UInt8):∀ t ∈ (bD l).toks,Gtk t.k t.x t.n:=by
 unfold bD
 cases h:decide (4000 < l.length) with
 | true=>intro t ht; cases ht
 | false=>
  rw [aF]
  cases hr:eV (l.length + 1) l 0 with
  | bad e t=>intro t ht; cases ht
  | ok ts=>exact BD _ _ _ hr
theorem X4 {k:Int} {x:List UInt8} {n:Int} (h:I3 k x n=true):x.length<=200:=by
 unfold I3 at h
 cases c1:k == 1 with
 | true=>rw [c1,aK,Bool.and_eq_true] at h; have:=lG h.2; omega
 | false=>
 rw [c1,aF] at h
 cases c2:k == 2 with
 | true=>rw [c2,aK] at h; rw [eq_of_beq h]; exact Nat.zero_le _
 | false=>
 rw [c2,aF] at h
 cases c3:k == 3 with
 | true=>rw [c3,aK,Bool.and_eq_true,Bool.and_eq_true] at h; exact of_decide_eq_true h.2.1
 | false=>
 rw [c3,aF] at h
 cases c4:k == 4 with
 | false=>rw [c4] at h; cases h
 | true=>
  rw [c4,aK,Bool.and_eq_true] at h
  match x,h with
  | [],_=>exact Nat.zero_le _
  | [_],_=>exact (by decide:1<=200)
  | _ :: _ :: _,h=>exact absurd h.2 (by simp)
theorem Gtk.len {k:Int} {x:List UInt8} {n:Int} (h:Gtk k x n):x.length<=200:=by
 by_cases hk:k=0
 · rw [(h.e hk).1]; exact Nat.zero_le _
 · exact X4 (h.o hk)
theorem QN {l:List UInt8} {ts:List Tk} (h:uR l 0 ts) (hl:l.length<=4000):Ends ts:=
 ⟨MA h,by have:=H3 h; omega,fun i t ht=>(LV h ht).2.2.2.1⟩
theorem RK {l:List UInt8}:∀ {a:Nat} {ts:List Tk},uR l a ts->∀ t ∈ ts,t.a<=l.length
 | _,[],_=>fun t ht=>by cases ht
 | _,t :: ts,⟨_,h2,z,_,h4,h5⟩=>fun u hu=>by
  rcases List.mem_cons.1 hu with rfl | hu
  · exact h2
  · by_cases h0:t.k=0
    · rw [h4 h0] at hu; cases hu
    · exact RK (h5 h0) u hu
structure Tks (ts:List Tk):Prop where
 e:Ends ts
 g:∀ t ∈ ts,Gtk t.k t.x t.n
 a:∀ t ∈ ts,t.a<=4000
theorem AT {l:List UInt8} (h:(bD l).err=0):Tks (bD l).toks:=by
 rcases NA l with ⟨h1,_⟩ | ⟨_,_,h3,h4⟩
 · exact absurd h h1
 · exact ⟨QN h4 h3,NW l,fun t ht=>by have:=RK h4 t ht; omega⟩
theorem DO:∀ n:Nat,Lib.decDigits n=digs n:=fun n=>by
 induction n using Nat.strongRecOn with
 | _ n ih=>
  rw [Lib.decDigits,digs]
  by_cases h:n < 10
  · have e:n % 10=n:=Nat.mod_eq_of_lt h
    simp [h,e,Nat.toUInt8]
  · rw [dif_neg h,dif_neg h,ih (n / 10) (by omega)]
theorem P1 (n:Int):Lib.itoa n=bU n:=by
 unfold Lib.itoa bU
 by_cases h:n < 0
 · rw [if_pos h,decide_eq_true h,DO]; rfl
 · rw [if_neg h,decide_eq_false h,DO,show n.toNat=n.natAbs by omega]; rfl
def FY:List S->Prop:=fun av=>match av with
 | [.va (.c1 (.vl (.int .i64 n)))]=>-9223372036854775808<=n/\n<=9223372036854775807
 | _=>False
theorem BP {av:List S} (h:FY av):∃ n:Int,av=[iS .i64 n]/\-9223372036854775808<=n/\n<=9223372036854775807:=by
 unfold FY at h
 split at h
 · exact ⟨_,rfl,h⟩
 · exact h.elim
def U4:List S->A:=fun av=>match av with
 | [.va (.c1 (.vl (.int .i64 n)))]=>tA (mk (bU n))
 | _=>.gs []
def itFn:Fun:=⟨FY,U4,fun av h=>by obtain ⟨_,rfl,_⟩:=BP h; trivial⟩
attribute [go_sem ↓] FY U4 itFn
theorem aF2 {ro:RO} {w:World} (h:GR Tryz.prog ro w):Lib.TabIs Tryz.prog w "internal/strconv.uint64pow10" .u64 Lib.pow10Tab:=by
 have:=(h _ (List.mem_singleton.2 rfl) _ Tryz.laysM171.m17).2
 unfold Lib.TabIs
 rw [this,Lib.pow10Tab,List.map_map]
 rfl
theorem FF:Meets Tryz.prog 32 itFn.sp:=by
 refine ⟨by kernel_rfl,?_⟩
 rintro xs vs E ro w K hl hrel hr ⟨⟨h,hE⟩,hK⟩ hG
 obtain ⟨n,rfl,h0,h1⟩:=BP h
 obtain ⟨v0,rfl⟩:∃ v0,vs=[v0]:=by
  match vs,hl with
  | [v0],_=>exact ⟨v0,rfl⟩
 have e0:v0=.int .i64 n:=hrel 0 _ _ rfl rfl
 subst e0
 refine (Tryz.strconv_Itoa n h0 h1 w (aF2 hG)).mono ?_
 rintro e w' ⟨rfl,k,os,rfl⟩
 refine ⟨tS (mk (bU n)),_,E,ro,rfl,by rw [P1]; rfl,by rw [hE]; exact hK,?_⟩
 have hk:∀ j,j < w.heap.size->(Sort.grow (w.drewN k) os).heap[j]? = w.heap[j]?:=fun j hj=>by
  simp [Sort.grow,World.drewN,Array.getElem?_append_left hj]
 exact hr.grown hk (by simp [Sort.grow,World.drewN]) rfl rfl rfl
structure Fs where
 bad:Bool
 off:Int
 n:Nat
structure Po where
 ver:Int
 es:List (List C)
 ss:List (List C)
instance:Inhabited Tk:=⟨⟨0,[],0,0⟩⟩
def aT (ts:List Tk) (n:Nat):Tk:=ts.getD n default
abbrev pB (o:Po) (b:Bool) (a:Int):B:=.cells [.pt 1 0,.vl (.bool b),.vl (.int .i64 a),.vl (.int .i64 o.ver),.sl 2 o.es.length,.sl 3 o.ss.length] 70
abbrev pH (o:Po) (ts:List Tk) (z:Fs):Hp:=[pB o z.bad z.off,gQ 123 ts z.n,.row o.es 62 3,.row o.ss 56 2]
def bP (ts:List Tk) (z:Fs):Fs:=bif z.bad then z else ⟨true,(aT ts z.n).a,z.n⟩
def aN (k:Int) (w:List UInt8) (ts:List Tk) (z:Fs):Bool:=!z.bad && gC k w (aT ts z.n)
def aX (k:Int) (w:List UInt8) (ts:List Tk) (z:Fs):Fs:=bif aN k w ts z then ⟨false,z.off,dG ts z.n⟩ else z
def bG (w:List UInt8) (ts:List Tk) (z:Fs):Fs:=bif aN 4 w ts z then ⟨false,z.off,dG ts z.n⟩ else bP ts z
def fO (c:Bool) (ts:List Tk) (z:Fs):Bool:=!z.bad && ((aT ts z.n).k == 1 && (!c || (match (aT ts z.n).x with | b :: _=>decide (65<=b) && decide (b<=90) | []=>false)))
def cB (c:Bool) (ts:List Tk) (z:Fs):ByteArray:=bif fO c ts z then mk (aT ts z.n).x else mk []
def bJ (c:Bool) (ts:List Tk) (z:Fs):Fs:=bif fO c ts z then ⟨false,z.off,dG ts z.n⟩ else bP ts z
def gI (c:Bool) (ts:List Tk) (z:Fs):Bool:=!z.bad && ((aT ts z.n).k == 2 && (!c || decide (0<=(aT ts z.n).n)))
def eQ (c:Bool) (ts:List Tk) (z:Fs):Int:=bif gI c ts z then (aT ts z.n).n else 0
def dU (c:Bool) (ts:List Tk) (z:Fs):Fs:=bif gI c ts z then ⟨false,z.off,dG ts z.n⟩ else bP ts z
def g9 (ts:List Tk) (z:Fs):Int:=eQ true ts (bG [91] ts z)
def fG (ts:List Tk) (z:Fs):Fs:=bG [93] ts (dU true ts (bG [91] ts z))
theorem eJ {ts:List Tk} {n:Nat} (h:n < ts.length):ts[n]? = some (aT ts n):=by simp [aT,List.getD_eq_getElem?_getD,bB h]
theorem sW {ts:List Tk} {n:Nat} (h:n < ts.length):aT ts n ∈ ts:=bW (eJ h)
theorem oX {T:TypeId} {ts:List Tk} {n:Nat} {K:S->Hp->Prop} (he:Ends ts) (h:n < ts.length) (hK:K (.va (.gs (cQ (aT ts n)))) [gQ T ts n]):gT T [.va (.c1 (.pt 0 0))] [gQ T ts n] K:=
 ⟨rfl,ts,n,rfl,rfl,he,h,fun t ht=>by rw [eJ h] at ht; cases ht; exact hK⟩
theorem I9 {T:TypeId} {ts:List Tk} {n:Nat} {K:S->Hp->Prop} (he:Ends ts) (h:n < ts.length) (hK:K (.va (.gs (cQ (aT ts n)))) [gQ T ts (dG ts n)]):jR T [.va (.c1 (.pt 0 0))] [gQ T ts n] K:=
 ⟨rfl,ts,n,rfl,rfl,he,h,fun t ht=>by rw [eJ h] at ht; cases ht; exact hK⟩
theorem vS {k:Int} {T:TypeId} {w:ByteArray} {ts:List Tk} {n:Nat} {K:S->Hp->Prop} (he:Ends ts) (h:n < ts.length) (hK:K (bS (gC k (bl w) (aT ts n))) [gQ T ts (uD k (bl w) ts n (aT ts n))]):f7 k T [.va (.c1 (.pt 0 0)),tS w] [gQ T ts n] K:=
 ⟨rfl,ts,n,rfl,rfl,he,h,fun t ht=>by rw [eJ h] at ht; cases ht; exact hK⟩
theorem B6 (k:Int) (w:List UInt8) (ts:List Tk) (n:Nat) (t:Tk):uD k w ts n t=bif gC k w t then dG ts n else n:=rfl
attribute [-go_sem] gT jR f7 lI iI
end Go.Proofs.YtgogpogophflhaaGreatDoor
namespace Go.Proofs.YtgogpogophflhaaGreatDoor
open Go.W
attribute [-go_sem] gT jR f7 lI iI
def pK (av0:List S) (V:List Tk->Fs->S) (F:List Tk->Fs->Fs):List S->Hp->(S->Hp->Prop)->Prop:=fun av H K=>
 ∃ o ts z,av=.va (.c1 (.pt 0 0)) :: av0/\H=pH o ts z/\Tks ts/\z.n < ts.length/\K (V ts z) (pH o ts (F ts z))
theorem kS {av0:List S} {V:List Tk->Fs->S} {F:List Tk->Fs->Fs} {o:Po} {ts:List Tk} {z:Fs} {K:S->Hp->Prop} (h1:Tks ts) (h2:z.n < ts.length) (hK:K (V ts z) (pH o ts (F ts z))) :
 pK av0 V F (.va (.c1 (.pt 0 0)) :: av0) (pH o ts z) K:=⟨o,ts,z,rfl,rfl,h1,h2,hK⟩
def DL:List Tk->Fs->S:=fun _ _=>.tu []
def rS:W.Spec:=pK [] DL bP
def wG:W.Spec:=fun av H K=>∃ w,pK [tS w] (fun ts z=>bS (aN 1 (bl w) ts z)) (aX 1 (bl w)) av H K
def zU:W.Spec:=fun av H K=>∃ w,pK [tS w] (fun ts z=>bS (aN 4 (bl w) ts z)) (aX 4 (bl w)) av H K
def oR:W.Spec:=fun av H K=>∃ w,pK [tS w] DL (bG (bl w)) av H K
def wS:W.Spec:=fun av H K=>∃ c,pK [bS c] (fun ts z=>tS (cB c ts z)) (bJ c) av H K
def pG:W.Spec:=fun av H K=>∃ c,pK [bS c] (fun ts z=>iS .i64 (eQ c ts z)) (dU c) av H K
def O1:W.Spec:=pK [] (fun ts z=>iS .i64 (g9 ts z)) fG
section
variable {o:Po} {ts:List Tk} {z:Fs} {K:S->Hp->Prop}
theorem lD (h1:Tks ts) (h2:z.n < ts.length) (hK:K (.tu []) (pH o ts (bP ts z))):rS [.va (.c1 (.pt 0 0))] (pH o ts z) K:=kS h1 h2 hK
theorem jP {w:ByteArray} (h1:Tks ts) (h2:z.n < ts.length) (hK:K (bS (aN 1 (bl w) ts z)) (pH o ts (aX 1 (bl w) ts z))):wG [.va (.c1 (.pt 0 0)),tS w] (pH o ts z) K:=⟨w,kS (F:=aX 1 (bl w)) h1 h2 hK⟩
theorem B7 {w:ByteArray} (h1:Tks ts) (h2:z.n < ts.length) (hK:K (bS (aN 4 (bl w) ts z)) (pH o ts (aX 4 (bl w) ts z))):zU [.va (.c1 (.pt 0 0)),tS w] (pH o ts z) K:=⟨w,kS (F:=aX 4 (bl w)) h1 h2 hK⟩
theorem jJ {w:ByteArray} (h1:Tks ts) (h2:z.n < ts.length) (hK:K (.tu []) (pH o ts (bG (bl w) ts z))):oR [.va (.c1 (.pt 0 0)),tS w] (pH o ts z) K:=⟨w,kS (F:=bG (bl w)) h1 h2 hK⟩
theorem o8 {c:Bool} (h1:Tks ts) (h2:z.n < ts.length) (hK:K (tS (cB c ts z)) (pH o ts (bJ c ts z))):wS [.va (.c1 (.pt 0 0)),bS c] (pH o ts z) K:=⟨c,kS (F:=bJ c) h1 h2 hK⟩
theorem xA {c:Bool} (h1:Tks ts) (h2:z.n < ts.length) (hK:K (iS .i64 (eQ c ts z)) (pH o ts (dU c ts z))):pG [.va (.c1 (.pt 0 0)),bS c] (pH o ts z) K:=⟨c,kS (F:=dU c) h1 h2 hK⟩
theorem LG (h1:Tks ts) (h2:z.n < ts.length) (hK:K (iS .i64 (g9 ts z)) (pH o ts (fG ts z))):O1 [.va (.c1 (.pt 0 0))] (pH o ts z) K:=kS h1 h2 hK
end
theorem pV {ts:List Tk} {n:Nat} (h:n < ts.length):n<=dG ts n/\dG ts n < ts.length:=by
 unfold dG; split<;>omega
theorem jC (ts:List Tk) (z:Fs):(bP ts z).n=z.n:=by unfold bP; cases z.bad<;>rfl
theorem cF {w:List UInt8} {ts:List Tk} {z:Fs} (h:z.n < ts.length):z.n<=(bG w ts z).n/\(bG w ts z).n < ts.length:=by
 unfold bG
 cases aN 4 w ts z
 · rw [aF,jC]; exact ⟨Nat.le_refl _,h⟩
 · exact pV h
theorem fJ {k:Int} {w:List UInt8} {ts:List Tk} {z:Fs} (h:z.n < ts.length):z.n<=(aX k w ts z).n/\(aX k w ts z).n < ts.length:=by
 unfold aX
 cases aN k w ts z
 · exact ⟨Nat.le_refl _,h⟩
 · exact pV h
theorem dY {c:Bool} {ts:List Tk} {z:Fs} (h:z.n < ts.length):z.n<=(bJ c ts z).n/\(bJ c ts z).n < ts.length:=by
 unfold bJ
 cases fO c ts z
 · rw [aF,jC]; exact ⟨Nat.le_refl _,h⟩
 · exact pV h
theorem j3 {c:Bool} {ts:List Tk} {z:Fs} (h:z.n < ts.length):z.n<=(dU c ts z).n/\(dU c ts z).n < ts.length:=by
 unfold dU
 cases gI c ts z
 · rw [aF,jC]; exact ⟨Nat.le_refl _,h⟩
 · exact pV h
theorem pN {ts:List Tk} {z:Fs} (h:z.n < ts.length):z.n<=(fG ts z).n/\(fG ts z).n < ts.length:=by
 unfold fG
 have h1:=cF (w:=[91]) h
 have h2:=j3 (c:=true) h1.2
 have h3:=cF (w:=[93]) h2.2
 omega
theorem rL:Meets Tryz.prog 35 rS:=by
 refine aG Tryz.func35 aKV 1 (by rw [Tryz.ntmps35]; decide) (aA tE (aB _)) (fun av H K h=>by obtain ⟨_,_,_,rfl,_⟩:=h; rfl) ?_
 rintro av H K ⟨o,ts,⟨b,a,n⟩,rfl,rfl,ht,hn,hK⟩
 unfold bP DL at hK
 cases b with
 | true=>
  simp (maxSteps:=9^6) -dsimp only [go_sem,T9,R4]
  exact .done hK
 | false=>
  simp (maxSteps:=9^6) -dsimp only [go_sem,T9,R4]
  refine oX ht.e hn ?_
  simp (maxSteps:=9^6) -dsimp only [go_sem]
  exact .done hK
theorem JD:Meets Tryz.prog 34 wG:=by
 refine aG Tryz.func34 aLH 2 (by rw [Tryz.ntmps34]; decide) (aA aFL (aB _)) (fun av H K h=>by obtain ⟨_,_,_,_,rfl,_⟩:=h; rfl) ?_
 rintro av H K ⟨w,o,ts,⟨b,a,n⟩,rfl,rfl,ht,hn,hK⟩
 unfold aX aN at hK
 cases b with
 | true=>
  simp (maxSteps:=9^6) -dsimp only [go_sem,SW,ST]
  exact .done hK
 | false=>
  simp (maxSteps:=9^6) -dsimp only [go_sem,SW,ST]
  refine vS ht.e hn ?_
  rw [B6]
  have hK:K (bS (!false && gC 1 (bl w) (aT ts n))) (pH o ts (bif !false && gC 1 (bl w) (aT ts n) then ⟨false,a,dG ts n⟩ else ⟨false,a,n⟩)):=hK
  cases hh:gC 1 (bl w) (aT ts n)<;>rw [hh] at hK<;>(simp (maxSteps:=9^6) -dsimp only [go_sem]; exact .done hK)
theorem VS:Meets Tryz.prog 84 zU:=by
 refine aG Tryz.func84 aMJ 2 (by rw [Tryz.ntmps84]; decide) (aA OY (aB _)) (fun av H K h=>by obtain ⟨_,_,_,_,rfl,_⟩:=h; rfl) ?_
 rintro av H K ⟨w,o,ts,⟨b,a,n⟩,rfl,rfl,ht,hn,hK⟩
 unfold aX aN at hK
 cases b with
 | true=>
  simp (maxSteps:=9^6) -dsimp only [go_sem,SH,TW]
  exact .done hK
 | false=>
  simp (maxSteps:=9^6) -dsimp only [go_sem,SH,TW]
  refine vS ht.e hn ?_
  rw [B6]
  have hK:K (bS (!false && gC 4 (bl w) (aT ts n))) (pH o ts (bif !false && gC 4 (bl w) (aT ts n) then ⟨false,a,dG ts n⟩ else ⟨false,a,n⟩)):=hK
  cases hh:gC 4 (bl w) (aT ts n)<;>rw [hh] at hK<;>(simp (maxSteps:=9^6) -dsimp only [go_sem]; exact .done hK)
theorem zF:Meets Tryz.prog 37 oR:=by
 refine aG Tryz.func37 aMM 2 (by rw [Tryz.ntmps37]; decide) (aA OY (aA rL (aB _))) (fun av H K h=>by obtain ⟨_,_,_,_,rfl,_⟩:=h; rfl) ?_
 rintro av H K ⟨w,o,ts,⟨b,a,n⟩,rfl,rfl,ht,hn,hK⟩
 unfold bG aN DL at hK
 cases b with
 | true=>
  simp (maxSteps:=9^6) -dsimp only [go_sem,RZ,T5]
  exact .done hK
 | false=>
  simp (maxSteps:=9^6) -dsimp only [go_sem,RZ,T5]
  refine vS ht.e hn ?_
  rw [B6]
  cases hh:gC 4 (bl w) (aT ts n) with
  | true=>
   rw [hh] at hK
   simp (maxSteps:=9^6) -dsimp only [go_sem]
   exact .done hK
  | false=>
   rw [hh] at hK
   simp (maxSteps:=9^6) -dsimp only [go_sem]
   refine lD (z:=⟨false,a,n⟩) ht hn ?_
   simp (maxSteps:=9^6) -dsimp only [go_sem]
   exact .done hK
theorem aGG {c b:Bool} {ts:List Tk} {a:Int} {n:Nat} (h:(b || (aT ts n).k != 2 || c && decide ((aT ts n).n < 0))=true):gI c ts ⟨b,a,n⟩=false:=by
 unfold gI
 simp only
 cases b
 · cases hk:(aT ts n).k == 2
   · rfl
   · rw [bne,hk] at h
     cases c
     · cases h
     · have:(aT ts n).n < 0:=by simpa using h
       simp; omega
 · rfl
theorem aEI {c b:Bool} {ts:List Tk} {a:Int} {n:Nat} (h:(b || (aT ts n).k != 2 || c && decide ((aT ts n).n < 0))=false):gI c ts ⟨b,a,n⟩=true/\b=false:=by
 unfold gI
 simp only
 cases b
 · cases hk:(aT ts n).k == 2
   · rw [bne,hk] at h; cases h
   · rw [bne,hk] at h
     cases c
     · exact ⟨rfl,rfl⟩
     · have:¬ (aT ts n).n < 0:=by simpa using h
       refine ⟨?_,rfl⟩
       simp; omega
 · cases h
theorem A0:Meets Tryz.prog 36 pG:=by
 refine aG Tryz.func36 aK5 2 (by rw [Tryz.ntmps36]; decide) (aA tE (aA MR (aA rL (aB _)))) (fun av H K h=>by obtain ⟨_,_,_,_,rfl,_⟩:=h; rfl) ?_
 rintro av H K ⟨c,o,ts,⟨b,a,n⟩,rfl,rfl,ht,hn,hK⟩
 have hK:K (iS .i64 (eQ c ts ⟨b,a,n⟩)) (pH o ts (dU c ts ⟨b,a,n⟩)):=hK
 have bad:gI c ts ⟨b,a,n⟩=false->K (iS .i64 0) (pH o ts (bP ts ⟨b,a,n⟩)):=fun h=>by
  unfold eQ dU at hK; rw [h] at hK; exact hK
 have good:gI c ts ⟨b,a,n⟩=true->K (iS .i64 (aT ts n).n) (pH o ts ⟨false,a,dG ts n⟩):=fun h=>by
  unfold eQ dU at hK; rw [h] at hK; exact hK
 clear hK
 simp (maxSteps:=9^6) -dsimp only [go_sem,aD4,aF8]
 refine oX ht.e hn ?_
 simp (maxSteps:=9^6) -dsimp only [go_sem,cQ]
 refine aU rfl (.done ?_)
 simp (maxSteps:=9^6) -dsimp only [go_sem,HF]
 refine ⟨fun h1 h2=>by rw [h1,h2]; rfl,fun h=>?_,fun h=>?_⟩
 · refine lD (z:=⟨b,a,n⟩) ht hn ?_
   simp (maxSteps:=9^6) -dsimp only [go_sem]
   refine .sel [0,1,2,3] (by simp) (by simp) rfl (.done ?_)
   simp (maxSteps:=9^6) -dsimp only [go_sem]
   exact bad (aGG h)
 · refine aU rfl (.done ?_)
   simp (maxSteps:=9^6) -dsimp only [go_sem,JP]
   refine I9 ht.e hn ?_
   simp (maxSteps:=9^6) -dsimp only [go_sem]
   refine .sel [0,1,2,3] (by simp) (by simp) rfl (.done ?_)
   simp (maxSteps:=9^6) -dsimp only [go_sem]
   have g:=aEI (a:=a) h
   obtain ⟨g,rfl⟩:=g
   exact good g
theorem XJ {t:Tk} (h:Gtk t.k t.x t.n) (hk:t.k=1):t.x ≠ []:=by
 have:=h.o (by rw [hk]; decide)
 rw [hk] at this
 have h2:bX t.x=true:=by
  have h3:(t.n == 0 && bX t.x)=true:=this
  rw [Bool.and_eq_true] at h3; exact h3.2
 intro e
 rw [e] at h2
 cases h2
theorem aHH {c b:Bool} {ts:List Tk} {a:Int} {n:Nat} {c1 c2:UInt8} (h1:(!(b || (aT ts n).k != 1) && c)=true->(aT ts n).x[0]? = some c1)
 (h2:(!(b || (aT ts n).k != 1) && c && !decide ((c1.toNat:Int) < 65))=true->(aT ts n).x[0]? = some c2)
 (h:(b || (aT ts n).k != 1 || c && (decide ((c1.toNat:Int) < 65) || decide (90 < (c2.toNat:Int))))=true):fO c ts ⟨b,a,n⟩=false:=by
 unfold fO
 simp only
 cases b
 · cases hk:(aT ts n).k == 1
   · rfl
   · rw [bne,hk] at h h1 h2
     cases c
     · cases h
     · have g1:=h1 rfl
       cases hx:(aT ts n).x with
       | nil=>rfl
       | cons d r=>
        rw [hx] at g1 h2
        have e1:d=c1:=bK g1
        subst e1
        have h64:∀ m:Nat,(m:Int) < 65->m < 65:=fun m=>by omega
        by_cases hd:(d.toNat:Int) < 65
        · have:¬ (65:UInt8)<=d:=fun hh=>by
           have:=UInt8.le_iff_toNat_le.1 hh
           simp at this; omega
          simp [this]
        · have e2:d=c2:=bK (h2 (by simpa using hd))
          subst e2
          have:90 < (d.toNat:Int):=by
           simp [hd] at h; exact h
          have:¬ d<=(90:UInt8):=fun hh=>by
           have:=UInt8.le_iff_toNat_le.1 hh
           simp at this; omega
          simp [this]
 · rfl
theorem aES {c b:Bool} {ts:List Tk} {a:Int} {n:Nat} {c1 c2:UInt8} (h1:(!(b || (aT ts n).k != 1) && c)=true->(aT ts n).x[0]? = some c1)
 (h2:(!(b || (aT ts n).k != 1) && c && !decide ((c1.toNat:Int) < 65))=true->(aT ts n).x[0]? = some c2)
 (h:(b || (aT ts n).k != 1 || c && (decide ((c1.toNat:Int) < 65) || decide (90 < (c2.toNat:Int))))=false):fO c ts ⟨b,a,n⟩=true/\b=false:=by
 unfold fO
 simp only
 cases b
 · refine ⟨?_,rfl⟩
   cases hk:(aT ts n).k == 1
   · rw [bne,hk] at h; cases h
   · rw [bne,hk] at h h1 h2
     cases c
     · rfl
     · have g1:=h1 rfl
       cases hx:(aT ts n).x with
       | nil=>rw [hx] at g1; cases g1
       | cons d r=>
        rw [hx] at g1 h2
        have e1:d=c1:=bK g1
        subst e1
        have hd:¬ (d.toNat:Int) < 65:=fun hd=>by simp [hd] at h
        have e2:d=c2:=bK (h2 (by simpa using hd))
        subst e2
        have h90:¬ 90 < (d.toNat:Int):=fun hd=>by simp [hd] at h
        have q1:(65:UInt8)<=d:=UInt8.le_iff_toNat_le.2 (by simp; omega)
        have q2:d<=(90:UInt8):=UInt8.le_iff_toNat_le.2 (by simp; omega)
        simp [q1,q2]
 · cases h
theorem F3:Meets Tryz.prog 83 wS:=by
 refine aG Tryz.func83 aNS 2 (by rw [Tryz.ntmps83]; decide) (aA tE (aA MR (aA rL (aB _)))) (fun av H K h=>by obtain ⟨_,_,_,_,rfl,_⟩:=h; rfl) ?_
 rintro av H K ⟨c,o,ts,⟨b,a,n⟩,rfl,rfl,ht,hn,hK⟩
 have hK:K (tS (cB c ts ⟨b,a,n⟩)) (pH o ts (bJ c ts ⟨b,a,n⟩)):=hK
 have bad:fO c ts ⟨b,a,n⟩=false->K (tS (mk [])) (pH o ts (bP ts ⟨b,a,n⟩)):=fun h=>by
  unfold cB bJ at hK; rw [h] at hK; exact hK
 have good:fO c ts ⟨b,a,n⟩=true->K (tS (mk (aT ts n).x)) (pH o ts ⟨false,a,dG ts n⟩):=fun h=>by
  unfold cB bJ at hK; rw [h] at hK; exact hK
 clear hK
 simp (maxSteps:=9^6) -dsimp only [go_sem,aBI,aFZ]
 refine oX ht.e hn ?_
 simp (maxSteps:=9^6) -dsimp only [go_sem,cQ]
 refine aU rfl (.done ?_)
 simp (maxSteps:=9^6) -dsimp only [go_sem,IH]
 have ne:((!(b || (aT ts n).k != 1) && c)=true)->(0:Int)<=0/\(0:Int) < ((aT ts n).x.length:Int):=fun h=>by
  have hk:(aT ts n).k=1:=by
   cases b
   · cases hk:(aT ts n).k == 1
     · rw [bne,hk] at h; cases c<;>cases h
     · exact eq_of_beq hk
   · cases h
  have this:(aT ts n).x ≠ []:=XJ (ht.g _ (sW hn)) hk
  have:=List.length_pos_iff.2 this
  omega
 refine ⟨ne,fun c1 h1=>⟨fun h=>ne (by rw [Bool.and_eq_true] at h; exact h.1),fun c2 h2=>⟨fun hA hB=>by rw [hA,hB]; rfl,fun hA hB=>by rw [hA,hB]; rfl,fun h=>?_,fun h=>?_⟩⟩⟩
 · refine lD (z:=⟨b,a,n⟩) ht hn ?_
   simp (maxSteps:=9^6) -dsimp only [go_sem]
   refine .sel [0,1,2,3] (by simp) (by simp) rfl (.done ?_)
   simp (maxSteps:=9^6) -dsimp only [go_sem]
   exact bad (aHH h1 h2 h)
 · refine aU rfl (.done ?_)
   simp (maxSteps:=9^6) -dsimp only [go_sem,GT]
   refine I9 ht.e hn ?_
   simp (maxSteps:=9^6) -dsimp only [go_sem]
   refine .sel [0,1,2,3] (by simp) (by simp) rfl (.done ?_)
   simp (maxSteps:=9^6) -dsimp only [go_sem]
   have g:=aES (a:=a) h1 h2 h
   obtain ⟨g,rfl⟩:=g
   exact good g
theorem WK:Meets Tryz.prog 36 pG->Meets Tryz.prog 97 O1:=by
 intro hnum
 refine aG Tryz.func97 aMY 1 (by rw [Tryz.ntmps97]; decide) (aA zF (aA hnum (aB _))) (fun av H K h=>by obtain ⟨_,_,_,rfl,_⟩:=h; rfl) ?_
 rintro av H K ⟨o,ts,z,rfl,rfl,ht,hn,hK⟩
 have hK:K (iS .i64 (g9 ts z)) (pH o ts (fG ts z)):=hK
 unfold fG g9 at hK
 simp (maxSteps:=9^6) -dsimp only [go_sem,aEL,aB3]
 refine jJ ht hn ?_
 have h1:=cF (w:=[91]) hn
 have e1:bG (bl (mk [91])) ts z=bG [91] ts z:=rfl
 rw [e1]
 generalize bG [91] ts z=z1 at *
 simp (maxSteps:=9^6) -dsimp only [go_sem]
 refine xA ht h1.2 ?_
 have h2:=j3 (c:=true) h1.2
 simp (maxSteps:=9^6) -dsimp only [go_sem]
 refine jJ ht h2.2 ?_
 simp (maxSteps:=9^6) -dsimp only [go_sem]
 exact .done hK
end Go.Proofs.YtgogpogophflhaaGreatDoor
namespace Go.Proofs.YtgogpogophflhaaGreatDoor
open Go.W
attribute [-go_sem] gT jR f7 lI iI
def szs:List Int:=[8,16,32,64]
def qV (n:Int):List UInt8:=[105,110,116] ++ bU n
def m7 (n:Int):List UInt8:=[117,105,110,116] ++ bU n
def gD:List UInt8:=[98,111,111,108]
def wText:List UInt8:=[116,101,120,116]
def lZ (ts:List Tk) (z:Fs):List Int->Ty × Fs
 | []=>(.mk 6 0 (cB true ts z) [],bJ true ts z)
 | s :: r=>bif aN 1 (qV s) ts z then (.mk 2 s (mk []) [],aX 1 (qV s) ts z) else bif decide (s < 64) && aN 1 (m7 s) ts z then (.mk 3 s (mk []) [],aX 1 (m7 s) ts z) else lZ ts z r
def gV (ts:List Tk) (z:Fs):Ty × Fs:=
 bif aN 1 gD ts z then (.mk 1 0 (mk []) [],aX 1 gD ts z)
 else bif aN 1 wText ts z then (.mk 4 (g9 ts (aX 1 wText ts z)) (mk []) [],fG ts (aX 1 wText ts z))
 else lZ ts z szs
def NX (F:List Tk->Fs->Ty × Fs):W.Spec:=pK [] (fun ts z=>.va (.gs (aP (F ts z).1))) fun ts z=>(F ts z).2
theorem RF {F:List Tk->Fs->Ty × Fs} {o:Po} {ts:List Tk} {z:Fs} {K:S->Hp->Prop} (h1:Tks ts) (h2:z.n < ts.length) (hK:K (.va (.gs (aP (F ts z).1))) (pH o ts (F ts z).2)):NX F [.va (.c1 (.pt 0 0))] (pH o ts z) K:=kS (V:=fun ts z=>.va (.gs (aP (F ts z).1))) (F:=fun ts z=>(F ts z).2) h1 h2 hK
theorem fM {k:Int} {w:List UInt8} {ts:List Tk} {z:Fs} (h:aN k w ts z=false):aX k w ts z=z:=by unfold aX; rw [h]; rfl
theorem Z4:bU 8=[56]:=by simp [bU,digs,Nat.toUInt8]
theorem RW:bU 16=[49,54]:=by simp [bU,digs,Nat.toUInt8]
theorem TP:bU 32=[51,50]:=by simp [bU,digs,Nat.toUInt8]
theorem aDS:bU 64=[54,52]:=by simp [bU,digs,Nat.toUInt8]
theorem YH:Meets Tryz.prog 98 (NX gV):=by
 refine aG Tryz.func98 aNE 1 (by rw [Tryz.ntmps98]; decide) (aA JD (aA (WK A0) (aA F3 (aI FF (aB _))))) (fun av H K h=>by obtain ⟨_,_,_,rfl,_⟩:=h; rfl) ?_
 rintro av H K ⟨o,ts,z,rfl,rfl,ht,hn,hK⟩
 have hK:K (.va (.gs (aP (gV ts z).1))) (pH o ts (gV ts z).2):=hK
 have fin:∀ (t:Ty) (z':Fs) (R:Hp),gV ts z=(t,z')->W.Fin 4 K (.va (.gs [.vl (.int .i64 t.k),.vl (.int .i64 t.s),.vl (.string t.n),.fz (t.e.map aP)])) (pH o ts z' ++ R):=fun t z' R h=>by
  rw [h] at hK
  refine .sel [0,1,2,3] (by simp) (by simp) rfl (.done ?_)
  rw [bM] at hK
  simpa [go_sem] using hK
 unfold gV at fin
 simp (maxSteps:=9^6) -dsimp only [go_sem,aCO,aC9]
 refine jP ht hn ?_
 rw [show bl (mk [98,111,111,108])=gD from rfl]
 cases h1:aN 1 gD ts z with
 | true=>
  rw [h1] at fin
  simp (maxSteps:=9^6) -dsimp only [go_sem]
  exact fin _ _ _ rfl
 | false=>
 rw [h1] at fin
 rw [fM h1]
 simp (maxSteps:=9^6) -dsimp only [go_sem]
 refine jP ht hn ?_
 rw [show bl (mk [116,101,120,116])=wText from rfl]
 have hn1:=fJ (k:=1) (w:=wText) hn
 cases h2:aN 1 wText ts z with
 | true=>
  rw [h2] at fin
  simp (maxSteps:=9^6) -dsimp only [go_sem]
  refine LG ht hn1.2 ?_
  simp (maxSteps:=9^6) -dsimp only [go_sem]
  exact fin _ _ _ rfl
 | false=>
 rw [h2] at fin
 rw [fM h2]
 simp (maxSteps:=9^6) -dsimp only [go_sem]
 refine aU rfl (.done ?_)
 simp (maxSteps:=9^6) -dsimp only [go_sem,H9]
 refine aR (α:=Nat) (fun i=>[(0,.va (.c1 (.pt 0 0))),(2,.va (.c1 (.pt 4 0))),(15,.va (.c1 (.sl 5 4))),(16,iS .i64 4),(17,iS .i64 i)]) (fun _=>[pB o z.bad z.off,gQ 123 ts z.n,.row o.es 62 3,.row o.ss 56 2,.cells [.vl (.int .i64 0),.vl (.int .i64 0),.vl (.string (mk [])),.vl (.slice none 0 0)] 37,.row (szs.map eD) 3 1])
  (fun i=>i<=4/\lZ ts z (szs.drop i)=lZ ts z szs) (fun i=>4 - i) 0 6 ⟨Nat.zero_le _,rfl⟩ ?_ ?_ ?_
 · simp -dsimp only [go_sem]<;>simp
 · simp -dsimp only [go_sem,szs,List.map_cons,List.map_nil]<;>simp
 rintro i ⟨hi,ho⟩
 have hl4:szs.length=4:=rfl
 rcases bL i 4 with hlt | hge
 · have hg:decide ((i:Int) < 4)=true:=by simp; omega
   obtain ⟨s,hx⟩:∃ s,szs[i]? = some s:=⟨_,bB (by omega)⟩
   have hd:szs.drop i=s :: szs.drop (i + 1):=List.drop_eq_getElem_cons (by omega) |>.trans (by rw [(bC.1 hx).2])
   have hs:8<=s/\s<=64:=by
    have:=bW hx
    simp only [szs,List.mem_cons,List.not_mem_nil,or_false] at this
    omega
   have hsl:=kG (n:=s) (by omega) (by omega)
   rw [hd,lZ] at ho
   simp (maxSteps:=9^6) -dsimp only [go_sem,hg,List.length_map,hl4]
   refine ⟨⟨by omega,by omega⟩,by omega,fun x hx'=>?_⟩
   obtain rfl:s=x:=bK (hx.symm.trans hx')
   refine ⟨⟨by omega,by omega⟩,by omega,jP ht hn ?_⟩
   rw [show bl (mk (105 :: 110 :: 116 :: bU s))=qV s from rfl]
   cases h3:aN 1 (qV s) ts z with
   | true=>
    rw [h3] at ho
    rw [aF,aF,<-ho] at fin
    simp (maxSteps:=9^6) -dsimp only [go_sem]
    exact fin _ _ _ rfl
   | false=>
   rw [h3,aF] at ho
   rw [fM h3]
   simp (maxSteps:=9^6) -dsimp only [go_sem]
   cases h4:decide (s < 64) with
   | false=>
    rw [h4] at ho
    refine aU rfl (.done ?_)
    simp (maxSteps:=9^6) -dsimp only [go_sem,wJ,h4]
    refine ⟨by omega,aC (i + 1) 6 ⟨by omega,ho⟩ (by omega) ?_ ?_⟩
    · simp -dsimp only [go_sem]<;>simp
    · simp -dsimp only [go_sem]<;>simp
   | true=>
   rw [h4,Bool.true_and] at ho
   refine aU rfl (.done ?_)
   simp (maxSteps:=9^6) -dsimp only [go_sem,wJ,h4]
   refine ⟨⟨by omega,by omega⟩,by omega,jP ht hn ?_⟩
   rw [show bl (mk (117 :: 105 :: 110 :: 116 :: bU s))=m7 s from rfl]
   cases h5:aN 1 (m7 s) ts z with
   | true=>
    rw [h5] at ho
    rw [aF,aF,<-ho] at fin
    simp (maxSteps:=9^6) -dsimp only [go_sem]
    exact fin _ _ _ rfl
   | false=>
   rw [h5,aF] at ho
   rw [fM h5]
   simp (maxSteps:=9^6) -dsimp only [go_sem]
   refine ⟨by omega,aC (i + 1) 6 ⟨by omega,ho⟩ (by omega) ?_ ?_⟩
   · simp -dsimp only [go_sem]<;>simp
   · simp -dsimp only [go_sem]<;>simp
 · have hg:decide ((i:Int) < 4)=false:=by simp; omega
   obtain rfl:i=4:=by omega
   rw [aF,aF,<-ho] at fin
   simp (maxSteps:=9^6) -dsimp only [go_sem,hg]
   refine aU rfl (.done ?_)
   simp (maxSteps:=9^6) -dsimp only [go_sem,C0]
   refine o8 ht hn ?_
   simp (maxSteps:=9^6) -dsimp only [go_sem]
   exact fin _ _ _ rfl
end Go.Proofs.YtgogpogophflhaaGreatDoor
namespace Go.Proofs.YtgogpogophflhaaGreatDoor
open Go.W
attribute [-go_sem] gT jR f7 lI iI
def cL:List UInt8:=[108,105,115,116]
def rI:List UInt8:=[111,102]
def kE (ts:List Tk) (z:Fs):Fs:=bif aN 1 rI ts z then ⟨false,z.off,dG ts z.n⟩ else bP ts z
def lQ (ts:List Tk):Nat->List Int->Fs->List Int × Fs
 | 0,d,z=>(d,z)
 | f + 1,d,z=>bif aN 1 cL ts z then lQ ts f (d ++ [g9 ts (aX 1 cL ts z)]) (kE ts (fG ts (aX 1 cL ts z))) else (d,z)
def b8 (d:List Int) (t:Ty):Ty:=d.foldr (fun s t=>.mk 5 s (mk []) [t]) t
def mO (ts:List Tk) (z:Fs):Ty × Fs:=(b8 (lQ ts (ts.length + 1) [] z).1 (gV ts (lQ ts (ts.length + 1) [] z).2).1,(gV ts (lQ ts (ts.length + 1) [] z).2).2)
theorem j6 (ts:List Tk) (f:Nat) (d:List Int) (z:Fs):lQ ts (f + 1) d z=bif aN 1 cL ts z then lQ ts f (d ++ [g9 ts (aX 1 cL ts z)]) (kE ts (fG ts (aX 1 cL ts z))) else (d,z):=rfl
theorem jV {k:Int} {w:List UInt8} {ts:List Tk} {z:Fs} (hk0:k ≠ 0) (he:Ends ts) (hn:z.n < ts.length) (h:aN k w ts z=true):dG ts z.n=z.n + 1/\z.n + 1 < ts.length/\z.bad=false:=by
 unfold aN at h
 rw [Bool.and_eq_true] at h
 obtain ⟨h1,h2⟩:=h
 have hb:z.bad=false:=by cases hb:z.bad with
  | false=>rfl
  | true=>rw [hb] at h1; cases h1
 have hk:(aT ts z.n).k=k:=by
  unfold gC at h2
  rw [Bool.and_eq_true] at h2
  exact eq_of_beq h2.1
 have hne:¬ (z.n + 1=ts.length):=fun e=>by
  have:=(he.last _ _ (eJ hn)).2 e
  rw [hk] at this; exact hk0 this
 have hlt:z.n + 1 < ts.length:=by omega
 exact ⟨if_pos hlt,hlt,hb⟩
theorem zN {ts:List Tk} {z:Fs} (h:z.n < ts.length):z.n<=(kE ts z).n/\(kE ts z).n < ts.length:=by
 unfold kE
 cases aN 1 rI ts z
 · rw [aF,jC]; exact ⟨Nat.le_refl _,h⟩
 · exact pV h
theorem U3 {ts:List Tk} {z:Fs} (h:z.n < ts.length):∀ l:List Int,z.n<=(lZ ts z l).2.n/\(lZ ts z l).2.n < ts.length
 | []=>dY h
 | s :: r=>by
  rw [lZ]
  cases aN 1 (qV s) ts z
  · cases decide (s < 64) && aN 1 (m7 s) ts z
    · exact U3 h r
    · exact fJ h
  · exact fJ h
theorem NZ {ts:List Tk} {z:Fs} (h:z.n < ts.length):z.n<=(gV ts z).2.n/\(gV ts z).2.n < ts.length:=by
 unfold gV
 cases aN 1 gD ts z
 · cases aN 1 wText ts z
   · exact U3 h _
   · have h1:=fJ (k:=1) (w:=wText) h
     have h2:=pN h1.2
     exact ⟨Nat.le_trans h1.1 h2.1,h2.2⟩
 · exact fJ h
theorem N4 {ts:List Tk}:∀ (f:Nat) (d:List Int) (z:Fs),z.n < ts.length->z.n<=(lQ ts f d z).2.n/\(lQ ts f d z).2.n < ts.length
 | 0,d,z,h=>⟨Nat.le_refl _,h⟩
 | f + 1,d,z,h=>by
  rw [j6]
  cases aN 1 cL ts z
  · exact ⟨Nat.le_refl _,h⟩
  · have h1:=fJ (k:=1) (w:=cL) h
    have h2:=pN h1.2
    have h3:=zN h2.2
    have h4:=N4 f (d ++ [g9 ts (aX 1 cL ts z)]) _ h3.2
    rw [aK]
    omega
theorem VZ {ts:List Tk} {z:Fs} (h:z.n < ts.length):z.n<=(mO ts z).2.n/\(mO ts z).2.n < ts.length:=by
 have h1:=N4 (ts.length + 1) [] z h
 have h2:=NZ h1.2
 exact ⟨Nat.le_trans h1.1 h2.1,h2.2⟩
theorem zH (d:List Int) (s:Int) (t:Ty):b8 (d ++ [s]) t=b8 d (.mk 5 s (mk []) [t]):=by simp [b8]
theorem aBD:Meets Tryz.prog 55 (NX mO):=by
 refine aG Tryz.func55 aNO 1 (by rw [Tryz.ntmps55]; decide) (aA JD (aA (WK A0) (aA rL (aA YH (aB _))))) (fun av H K h=>by obtain ⟨_,_,_,rfl,_⟩:=h; rfl) ?_
 rintro av H K ⟨o,ts,z0,rfl,rfl,ht,hn0,hK⟩
 have hK:K (.va (.gs (aP (mO ts z0).1))) (pH o ts (mO ts z0).2):=hK
 have hle:=ht.e.le
 unfold mO at hK
 simp (maxSteps:=9^6) -dsimp only [go_sem,aE5,aA5]
 refine cI (α:=Nat × List Int × Fs) (fun x=>[(0,.va (.c1 (.pt 0 0))),(2,.va (.c1 (.pt 4 0))),(3,.va (.c1 (.pt 5 0))),(4,.va (.c1 (.sl 6 x.2.1.length)))])
  (fun x=>[pB o x.2.2.bad x.2.2.off,gQ 123 ts x.2.2.n,.row o.es 62 3,.row o.ss 56 2,.cells [.vl (.int .i64 0),.vl (.int .i64 0),.vl (.string (mk [])),.vl (.slice none 0 0)] 37,.cells [.vl (.int .i64 0),.vl (.int .i64 0),.vl (.string (mk [])),.vl (.slice none 0 0)] 37,.row (x.2.1.map eD) 3 1])
  (fun x=>x.2.2.n < ts.length/\x.2.1.length + x.1<=ts.length + 1/\ts.length < x.2.2.n + x.1/\lQ ts x.1 x.2.1 x.2.2=lQ ts (ts.length + 1) [] z0)
  (fun x=>x.1) (.nil 4 3 1 rfl (hY (ts.length + 1,[],z0) 7 ⟨hn0,by simp,by simp only; omega,rfl⟩ ?_ ?_)) ?_
 · simp -dsimp only [go_sem]<;>simp
 · simp -dsimp only [go_sem]<;>simp
 rintro ⟨f,d,z⟩ ⟨h1,h2,h3,h4⟩
 simp only at h1 h2 h3 h4
 obtain ⟨f,rfl⟩:∃ g,f=g + 1:=⟨f - 1,by omega⟩
 rw [j6] at h4
 simp (maxSteps:=9^6) -dsimp only [go_sem]
 refine jP ht h1 ?_
 rw [show bl (mk [108,105,115,116])=cL from rfl]
 cases hl:aN 1 cL ts z with
 | true=>
  rw [hl,aK] at h4
  obtain ⟨g1,g2,g3⟩:=jV (by decide) ht.e h1 hl
  have e1:aX 1 cL ts z=⟨false,z.off,z.n + 1⟩:=by unfold aX; rw [hl,g1]; rfl
  rw [e1] at h4 ⊢
  simp (maxSteps:=9^6) -dsimp only [go_sem]
  have hb:=pN (z:=⟨false,z.off,z.n + 1⟩) g2
  refine LG (z:=⟨false,z.off,z.n + 1⟩) ht g2 ?_
  generalize g9 ts ⟨false,z.off,z.n + 1⟩=v at *
  generalize fG ts ⟨false,z.off,z.n + 1⟩=z1 at *
  simp only at hb
  simp (maxSteps:=9^6) -dsimp only [go_sem]
  have nxtl:∀ z2:Fs,z1.n<=z2.n->z2.n < ts.length->kE ts z1=z2->z2.n < ts.length/\(d ++ [v]).length + f<=ts.length + 1/\ts.length < z2.n + f/\lQ ts f (d ++ [v]) z2=lQ ts (ts.length + 1) [] z0:=fun z2 q1 q2 q3=>by
   subst q3
   refine ⟨q2,?_,by omega,h4⟩
   rw [List.length_append,List.length_singleton]; omega
  clear h4
  refine ⟨by omega,aU rfl (.done ?_)⟩
  obtain ⟨b1,o1,n1⟩:=z1
  simp only at hb nxtl
  cases b1 with
  | true=>
   simp (maxSteps:=9^6) -dsimp only [go_sem,BM]
   refine aC (f,d ++ [v],⟨true,o1,n1⟩) 7 (nxtl _ (Nat.le_refl _) hb.2 (by simp [kE,aN,bP])) (by simp) ?_ ?_
   · simp -dsimp only [go_sem]<;>simp
   · simp -dsimp only [go_sem]<;>simp
  | false=>
  simp (maxSteps:=9^6) -dsimp only [go_sem,BM]
  refine jP (z:=⟨false,o1,n1⟩) ht hb.2 ?_
  rw [show bl (mk [111,102])=rI from rfl]
  cases hw:aN 1 rI ts ⟨false,o1,n1⟩ with
  | true=>
   have e2:aX 1 rI ts ⟨false,o1,n1⟩=⟨false,o1,dG ts n1⟩:=by unfold aX; rw [hw]; rfl
   rw [e2]
   have g4:=pV hb.2
   simp (maxSteps:=9^6) -dsimp only [go_sem]
   refine aC (f,d ++ [v],⟨false,o1,dG ts n1⟩) 7 (nxtl _ g4.1 g4.2 (by simp [kE,hw])) (by simp) ?_ ?_
   · simp -dsimp only [go_sem]<;>simp
   · simp -dsimp only [go_sem]<;>simp
  | false=>
   rw [fM hw]
   simp (maxSteps:=9^6) -dsimp only [go_sem]
   refine lD (z:=⟨false,o1,n1⟩) ht hb.2 ?_
   simp (maxSteps:=9^6) -dsimp only [go_sem]
   refine aC (f,d ++ [v],bP ts ⟨false,o1,n1⟩) 7 (nxtl _ (by rw [jC]; exact Nat.le_refl _) (by rw [jC]; exact hb.2) (by simp [kE,hw])) (by simp) ?_ ?_
   · simp -dsimp only [go_sem]<;>simp
   · simp -dsimp only [go_sem]<;>simp
 | false=>
  rw [hl,aF] at h4
  rw [<-h4] at hK
  rw [fM hl]
  simp (maxSteps:=9^6) -dsimp only [go_sem]
  refine aU rfl (.done ?_)
  simp (maxSteps:=9^6) -dsimp only [go_sem,HT]
  refine RF ht h1 ?_
  simp only at hK
  generalize gV ts z=r at *
  obtain ⟨t,z'⟩:=r
  simp only at hK
  simp (maxSteps:=9^6) -dsimp only [go_sem,bM t]
  refine aU rfl (.done ?_)
  simp (maxSteps:=9^6) -dsimp only [go_sem,HL]
  refine ⟨by omega,?_⟩
  refine aR (α:=Nat × Ty) (fun x=>[(2,.va (.c1 (.pt 4 0))),(3,.va (.c1 (.pt 5 0))),(4,.va (.c1 (.sl 6 d.length))),(5,iS .i64 ((x.1:Int) - 1))])
   (fun x=>[pB o z'.bad z'.off,gQ 123 ts z'.n,.row o.es 62 3,.row o.ss 56 2,.cells [.vl (.int .i64 0),.vl (.int .i64 0),.vl (.string (mk [])),.vl (.slice none 0 0)] 37,.cells [.vl (.int .i64 x.2.k),.vl (.int .i64 x.2.s),.vl (.string x.2.n),.fz (x.2.e.map aP)] 37,.row (d.map eD) 3 1])
   (fun x=>x.1<=d.length/\b8 (d.take x.1) x.2=b8 d t) (fun x=>x.1) (d.length,t) 7 ⟨Nat.le_refl _,by rw [List.take_length]⟩ ?_ ?_ ?_
  · simp -dsimp only [go_sem]<;>simp
  · simp -dsimp only [go_sem]<;>simp
  rintro ⟨m,u⟩ ⟨hm,hu⟩
  simp only at hm hu
  cases m with
  | zero=>
   have g0:decide ((0:Int)<=((0:Nat):Int) - 1)=false:=rfl
   simp (maxSteps:=9^6) -dsimp only [go_sem,g0]
   refine aU rfl (.done ?_)
   simp (maxSteps:=9^6) -dsimp only [go_sem,DC]
   refine .sel [0,1,2,3] (by simp) (by simp) rfl (.done ?_)
   simp (maxSteps:=9^6) -dsimp only [go_sem]
   have e:u=b8 d t:=hu
   rw [bM,<-e] at hK
   exact hK
  | succ m=>
   have g0:decide ((0:Int)<=(m:Int))=true:=decide_eq_true (by omega)
   have em:((m + 1:Nat):Int) - 1=(m:Int):=by omega
   obtain ⟨s,hx⟩:∃ s,d[m]? = some s:=⟨_,bB (by omega)⟩
   have htk:d.take (m + 1)=d.take m ++ [s]:=by rw [List.take_add_one,hx]; rfl
   rw [htk,zH] at hu
   simp (maxSteps:=9^6) -dsimp only [go_sem,g0,em]
   refine ⟨⟨by omega,by omega⟩,by omega,fun x hx'=>?_⟩
   obtain rfl:s=x:=bK (hx.symm.trans hx')
   refine aU rfl (.pub 7 _ _ _ rfl (.done ?_))
   simp (maxSteps:=9^6) -dsimp only [go_sem,BX,cC]
   refine ⟨by omega,aC (m,.mk 5 s (mk []) [u]) 7 ⟨by omega,hu⟩ (by simp) ?_ ?_⟩
   · simp -dsimp only [go_sem,em]<;>simp
   · simp -dsimp only [go_sem,Ty.k,Ty.s,Ty.n,Ty.e,List.map_cons,List.map_nil,bM u]<;>simp
end Go.Proofs.YtgogpogophflhaaGreatDoor
namespace Go.Proofs.YtgogpogophflhaaGreatDoor
open Go.W
attribute [-go_sem] gT jR f7 lI iI
def iY (ts:List Tk) (z:Fs):Fs:=dU false ts (bG [61] ts (bJ false ts z))
def mL (ts:List Tk):Nat->List ByteArray->List Int->Fs->(List ByteArray × List Int) × Fs
 | 0,a,b,z=>((a,b),z)
 | f + 1,a,b,z=>bif z.bad then ((a,b),z) else
  bif aN 4 [44] ts (iY ts z) then mL ts f (a ++ [cB false ts z]) (b ++ [eQ false ts (bG [61] ts (bJ false ts z))]) (aX 4 [44] ts (iY ts z))
  else ((a ++ [cB false ts z],b ++ [eQ false ts (bG [61] ts (bJ false ts z))]),iY ts z)
theorem mU (ts:List Tk) (f:Nat) (a:List ByteArray) (b:List Int) (z:Fs):mL ts (f + 1) a b z=bif z.bad then ((a,b),z) else
 bif aN 4 [44] ts (iY ts z) then mL ts f (a ++ [cB false ts z]) (b ++ [eQ false ts (bG [61] ts (bJ false ts z))]) (aX 4 [44] ts (iY ts z))
 else ((a ++ [cB false ts z],b ++ [eQ false ts (bG [61] ts (bJ false ts z))]),iY ts z):=rfl
def gJ (ts:List Tk) (z:Fs):En × Fs:=
 (⟨cB true ts z,(mL ts (ts.length + 1) [] [] (bG [123] ts (bJ true ts z))).1.1,(mL ts (ts.length + 1) [] [] (bG [123] ts (bJ true ts z))).1.2⟩,bG [125] ts (mL ts (ts.length + 1) [] [] (bG [123] ts (bJ true ts z))).2)
theorem WD {ts:List Tk} {z:Fs} (h:z.n < ts.length):z.n<=(iY ts z).n/\(iY ts z).n < ts.length:=by
 have h1:=dY (c:=false) h
 have h2:=cF (w:=[61]) h1.2
 have h3:=j3 (c:=false) h2.2
 unfold iY
 omega
theorem WH {ts:List Tk}:∀ (f:Nat) (a:List ByteArray) (b:List Int) (z:Fs),z.n < ts.length->z.n<=(mL ts f a b z).2.n/\(mL ts f a b z).2.n < ts.length
 | 0,a,b,z,h=>⟨Nat.le_refl _,h⟩
 | f + 1,a,b,z,h=>by
  rw [mU]
  cases z.bad
  · have h1:=WD h
    cases aN 4 [44] ts (iY ts z)
    · exact h1
    · have h2:=fJ (k:=4) (w:=[44]) h1.2
      have h3:=WH f (a ++ [cB false ts z]) (b ++ [eQ false ts (bG [61] ts (bJ false ts z))]) _ h2.2
      rw [aF,aK]
      omega
  · exact ⟨Nat.le_refl _,h⟩
theorem FS {ts:List Tk} {z:Fs} (h:z.n < ts.length):z.n<=(gJ ts z).2.n/\(gJ ts z).2.n < ts.length:=by
 have h1:=dY (c:=true) h
 have h2:=cF (w:=[123]) h1.2
 have h3:=WH (ts.length + 1) [] [] _ h2.2
 have h4:=cF (w:=[125]) h3.2
 unfold gJ
 simp only
 omega
def MO:W.Spec:=pK [] (fun ts z=>.va (.gs (aO (gJ ts z).1))) fun ts z=>(gJ ts z).2
theorem aCE {o:Po} {ts:List Tk} {z:Fs} {K:S->Hp->Prop} (h1:Tks ts) (h2:z.n < ts.length) (hK:K (.va (.gs (aO (gJ ts z).1))) (pH o ts (gJ ts z).2)):MO [.va (.c1 (.pt 0 0))] (pH o ts z) K:=kS (V:=fun ts z=>.va (.gs (aO (gJ ts z).1))) (F:=fun ts z=>(gJ ts z).2) h1 h2 hK
theorem aEH:Meets Tryz.prog 39 MO:=by
 refine aG Tryz.func39 aM1 1 (by rw [Tryz.ntmps39]; decide) (aA F3 (aA zF (aA A0 (aA VS (aB _))))) (fun av H K h=>by obtain ⟨_,_,_,rfl,_⟩:=h; rfl) ?_
 rintro av H K ⟨o,ts,z0,rfl,rfl,ht,hn0,hK⟩
 have hK:K (.va (.gs (aO (gJ ts z0).1))) (pH o ts (gJ ts z0).2):=hK
 have hle:=ht.e.le
 unfold gJ at hK
 simp (maxSteps:=9^6) -dsimp only [go_sem,aFB,OD]
 refine o8 ht hn0 ?_
 have hn1:=(dY (c:=true) hn0).2
 simp only at hK
 generalize cB true ts z0=nm at *
 generalize bJ true ts z0=z1 at *
 simp (maxSteps:=9^6) -dsimp only [go_sem]
 refine jJ ht hn1 ?_
 rw [show bl (mk [123])=[123] from rfl]
 have hn2:=(cF (w:=[123]) hn1).2
 generalize bG [123] ts z1=z2 at *
 simp (maxSteps:=9^6) -dsimp only [go_sem]
 refine cI (α:=Nat × Bool × List ByteArray × List Int × Fs) (fun x=>[(0,.va (.c1 (.pt 0 0))),(2,.va (.c1 (.pt 4 0))),(3,.va (.c1 (.pt 5 0))),(4,bS x.2.1)])
  (fun x=>[pB o x.2.2.2.2.bad x.2.2.2.2.off,gQ 123 ts x.2.2.2.2.n,.row o.es 62 3,.row o.ss 56 2,.cells [.vl (.string (mk [])),.vl (.slice none 0 0),.vl (.slice none 0 0)] 62,.cells [.vl (.string nm),.sl 6 x.2.2.1.length,.sl 7 x.2.2.2.1.length] 62,.row (x.2.2.1.map bQ) 9 1,.row (x.2.2.2.1.map eD) 3 1])
  (fun x=>x.2.2.2.2.n < ts.length/\x.2.2.1.length + x.1<=ts.length + 1/\x.2.2.2.1.length + x.1<=ts.length + 1/\(x.2.1=true->ts.length < x.2.2.2.2.n + x.1)/\(bif x.2.1 then mL ts x.1 x.2.2.1 x.2.2.2.1 x.2.2.2.2 else ((x.2.2.1,x.2.2.2.1),x.2.2.2.2))=mL ts (ts.length + 1) [] [] z2)
  (fun x=>x.1) (.nilc 5 1 9 1 _ _ rfl rfl (.nilc 5 2 3 1 _ _ rfl rfl (hY (ts.length + 1,true,[],[],z2) 8 ⟨hn2,by simp,by simp,fun _=>by simp only; omega,rfl⟩ ?_ ?_))) ?_
 · simp -dsimp only [go_sem]<;>simp
 · simp -dsimp only [go_sem]<;>simp
 rintro ⟨f,m,a,b,z⟩ ⟨h1,h2,h2',h3,h4⟩
 simp only at h1 h2 h2' h3 h4
 have fin:mL ts (ts.length + 1) [] [] z2=((a,b),z)->vc [(83,Entry.s wS),(37,Entry.s oR),(36,Entry.s pG),(84,Entry.s zU)] 4 pc39_9.ungh
  (cJ [(0,.va (.c1 (.pt 0 0))),(2,.va (.c1 (.pt 4 0))),(3,.va (.c1 (.pt 5 0)))]) [pB o z.bad z.off,gQ 123 ts z.n,.row o.es 62 3,.row o.ss 56 2,.cells [.vl (.string (mk [])),.vl (.slice none 0 0),.vl (.slice none 0 0)] 62,.cells [.vl (.string nm),.sl 6 a.length,.sl 7 b.length] 62,.row (a.map bQ) 9 1,.row (b.map eD) 3 1] (eO 4 OD K):=fun e=>by
  rw [e] at hK
  simp (maxSteps:=9^6) -dsimp only [go_sem,pc39_9,OD]
  refine jJ ht h1 ?_
  rw [show bl (mk [125])=[125] from rfl]
  simp (maxSteps:=9^6) -dsimp only [go_sem]
  refine .pub 6 _ _ _ rfl (.pub 7 _ _ _ rfl (.sel [0,1,2,3] (by simp) (by simp [cC]) rfl (.done ?_)))
  simp (maxSteps:=9^6) -dsimp only [go_sem,cC]
  exact hK
 cases m with
 | false=>
  rw [aF] at h4
  simp (maxSteps:=9^6) -dsimp only [go_sem]
  refine cA 8 (fin h4.symm) ?_ ?_
  · simp -dsimp only [go_sem]<;>simp
  · simp -dsimp only [go_sem]<;>simp
 | true=>
  rw [aK] at h4
  have h3:=h3 rfl
  obtain ⟨f,rfl⟩:∃ g,f=g + 1:=⟨f - 1,by omega⟩
  rw [mU] at h4
  obtain ⟨bb,oo,n⟩:=z
  cases bb with
  | true=>
   rw [aK] at h4
   simp (maxSteps:=9^6) -dsimp only [go_sem]
   refine cA 8 (fin h4.symm) ?_ ?_
   · simp -dsimp only [go_sem]<;>simp
   · simp -dsimp only [go_sem]<;>simp
  | false=>
   clear fin
   rw [aF] at h4
   simp (maxSteps:=9^6) -dsimp only [go_sem]
   refine o8 (z:=⟨false,oo,n⟩) ht h1 ?_
   have g1:=dY (c:=false) (z:=⟨false,oo,n⟩) h1
   unfold iY at h4
   generalize cB false ts ⟨false,oo,n⟩=w at *
   generalize bJ false ts ⟨false,oo,n⟩=y1 at *
   simp (maxSteps:=9^6) -dsimp only [go_sem]
   refine ⟨by omega,aU rfl (.done ?_)⟩
   simp (maxSteps:=9^6) -dsimp only [go_sem,GB]
   refine jJ ht g1.2 ?_
   rw [show bl (mk [61])=[61] from rfl]
   have g2:=cF (w:=[61]) g1.2
   generalize bG [61] ts y1=y2 at *
   simp (maxSteps:=9^6) -dsimp only [go_sem]
   refine Gh.done ?_
   simp (maxSteps:=9^6) -dsimp only [go_sem]
   refine xA ht g2.2 ?_
   have g3:=j3 (c:=false) g2.2
   generalize eQ false ts y2=v at *
   generalize dU false ts y2=y3 at *
   simp (maxSteps:=9^6) -dsimp only [go_sem]
   refine ⟨by omega,aU rfl (.done ?_)⟩
   simp (maxSteps:=9^6) -dsimp only [go_sem,HV]
   refine B7 ht g3.2 ?_
   rw [show bl (mk [44])=[44] from rfl]
   cases hc:aN 4 [44] ts y3 with
   | true=>
    obtain ⟨q1,q2,q3⟩:=jV (by decide) ht.e g3.2 hc
    have e1:aX 4 [44] ts y3=⟨false,y3.off,y3.n + 1⟩:=by unfold aX; rw [hc,q1]; rfl
    rw [hc,aK,e1] at h4
    rw [e1]
    simp (maxSteps:=9^6) -dsimp only [go_sem]
    refine aC (f,true,a ++ [w],b ++ [v],⟨false,y3.off,y3.n + 1⟩) 8 ⟨q2,?_,?_,?_,h4⟩ (by simp) ?_ ?_
    · simp only [List.length_append,List.length_singleton]; omega
    · simp only [List.length_append,List.length_singleton]; omega
    · intro _
      simp only at g1 h3 ⊢
      omega
    · simp -dsimp only [go_sem]<;>simp
    · simp -dsimp only [go_sem]<;>simp
   | false=>
    rw [hc,aF] at h4
    rw [fM hc]
    simp (maxSteps:=9^6) -dsimp only [go_sem]
    refine aC (f,false,a ++ [w],b ++ [v],y3) 8 ⟨g3.2,?_,?_,fun h=>(by cases h),h4⟩ (by simp) ?_ ?_
    · simp only [List.length_append,List.length_singleton]; omega
    · simp only [List.length_append,List.length_singleton]; omega
    · simp -dsimp only [go_sem]<;>simp
    · simp -dsimp only [go_sem]<;>simp
end Go.Proofs.YtgogpogophflhaaGreatDoor
