/- Lemmas and walks for the proof. -/
import Derived.Test.YtgogpogophflhaaGreatDoorRe
import Derived.ChangeStays
import Derived.Deep.Slices
import Derived.JoinedCond
import Derived.KernelRfl
import Derived.Test.YtgogpogophflhaaGreatDoorRows
set_option maxRecDepth 100000
set_option maxHeartbeats 8000000
namespace Go.Proofs.YtgogpogophflhaaGreatDoor
open Go.W
theorem EL:∀ N,Meets Tryz.prog 19 (I5 N).sp
 | 0=>⟨by kernel_rfl,by rintro xs vs E ro w K _ _ _ ⟨⟨h,_⟩,_⟩; obtain ⟨a,_,_,_,_,h⟩:=mL h; have:=a.h_pos; omega⟩
 | N + 1=>by
  refine aI Tryz.func19 aBK 2 (by rw [Tryz.ntmps19]; decide) (aL (EL N) (aC _)) MQ ?_
  rintro av H K ⟨⟨h,rfl⟩,hK⟩
  obtain ⟨a,b,rfl,ha,hb,hh⟩:=mL h
  have hK:K (bS (qN a b)) []:=by
   have:(I5 (N + 1)).val [.va (.gs (aP a)),.va (.gs (aP b))]=bA (qN a b):=by simp -dsimp only [go_sem]
   rw [this] at hK; exact hK
  clear h
  have fin:∀ (x:Bool) (R:Hp),qN a b=x->W.Fin 0 K (bS x) R:=fun x R h=>by
   rw [h] at hK
   exact .z ((by simpa [go_sem] using hK))
  obtain ⟨k,s,n,e⟩:=a
  obtain ⟨k',s',n',e'⟩:=b
  have hla:=ha.len
  have hoa:=ha.e
  have hob:=hb.e
  simp only [Ty.e] at hla hoa hob
  simp (maxSteps:=9^6) -dsimp only [go_sem,aP,aU,S6,WP,c7]
  refine ⟨fun h1=>fin false _ (KG fun he=>?_),fun h1=>?_⟩
  · obtain ⟨rfl,rfl,rfl,rfl⟩:=HQ.1 he
    simp at h1
  simp only [Bool.or_eq_false_iff,bne_eq_false_iff_eq,Bool.not_eq_false',decide_eq_true_eq] at h1
  obtain ⟨⟨⟨rfl,rfl⟩,rfl⟩,hl⟩:=h1
  have hl:e.length=e'.length:=by omega
  refine aT (α:=Nat) (fun i=>[(2,.va (.c1 (.pt 0 0))),(3,.va (.c1 (.pt 1 0))),(5,iS .i64 i)]) (fun i=>[.cells (aP (.mk k s n e)) 37,.cells (aP (.mk k s n e')) 37])
   (fun i=>i<=e.length/\∀ j,j < i->e[j]? = e'[j]?) (fun i=>e.length - i) 0 2 ⟨Nat.zero_le _,fun j hj=>by omega⟩ ?_ ?_ ?_
  · simp -dsimp only [go_sem]<;>simp
  · simp -dsimp only [go_sem,aP,aU]<;>simp
  rintro i ⟨hi,ho⟩
  rcases bG i e.length with hlt | hge
  · have hg:decide ((i:Int) < (e.length:Int))=true:=by simp; omega
    obtain ⟨u,hx⟩:∃ t,e[i]? = some t:=⟨_,aV hlt⟩
    obtain ⟨v,hy⟩:∃ t,e'[i]? = some t:=⟨_,aV (by omega)⟩
    have q1:=aN (row:=aP) hx
    have q2:=aN (row:=aP) hy
    have hu:e8 (aP u):=eP (hoa u (bT hx))
    have hv:e8 (aP v):=eP (hob v (bT hy))
    have huh:u.h<=N:=by have:=Ty.hs_mem (bT hx); rw [Ty.h] at hh; omega
    simp (maxSteps:=9^6) -dsimp only [go_sem,hg,aP,aU]
    simp (maxSteps:=9^6) -dsimp only [go_sem,dO,hu,hv,hx,hy,aF,forall_eq']
    refine ⟨by omega,by omega,huh,fun h1=>fin false _ (KG fun he=>?_),fun h1=>?_⟩
    · obtain ⟨_,_,_,rfl⟩:=HQ.1 he
      rw [hx] at hy
      rw [J0 (bJ hy)] at h1
      simp at h1
    · have h1:u=v:=HE.1 (by simpa using h1)
      subst h1
      refine ⟨by omega,aB (i + 1) 2 ⟨by omega,fun j hj=>?_⟩ (by omega) ?_ ?_⟩
      · rcases bG j i with h4 | h4
        · exact ho j h4
        · obtain rfl:j=i:=by omega
          rw [hx,hy]
      · simp -dsimp only [go_sem]<;>simp
      · simp -dsimp only [go_sem,aP,aU]<;>simp
  · have hg:decide ((i:Int) < (e.length:Int))=false:=by simp; omega
    obtain rfl:i=e.length:=by omega
    simp (maxSteps:=9^6) -dsimp only [go_sem,hg,aP,aU]
    refine fin true _ (J0 ?_)
    rw [HQ]
    refine ⟨rfl,rfl,rfl,List.ext_getElem? fun j=>?_⟩
    rcases bG j e.length with h4 | h4
    · exact ho j h4
    · rw [List.getElem?_eq_none h4,List.getElem?_eq_none (by omega)]
theorem SE:Meets Tryz.prog 19 sFn.sp:=iX 0 EL fun av H K ⟨⟨h,e⟩,hK⟩=>by
 obtain ⟨a,b,rfl,ha,hb⟩:=AH h
 exact ⟨a.h,⟨⟨⟨eP ha,eP hb,by rw [iC]; exact Nat.le_refl _⟩,e⟩,hK⟩⟩
theorem H7:Meets Tryz.prog 42 seFn.sp:=by
 refine aI Tryz.func42 aDU 2 (by rw [Tryz.ntmps42]; decide) (aC _) uS ?_
 rintro av H K ⟨⟨h,rfl⟩,hK⟩
 obtain ⟨_,_,rfl,⟨a,rfl,ha⟩,⟨b,rfl,hb⟩⟩:=kB h
 have hK:K (bS (eqB a b)) []:=by
  have:seFn.val [.va (.gs (aQ a)),.va (.gs (aQ b))]=bA (eqB a b):=by simp -dsimp only [go_sem]
  rw [this] at hK; exact hK
 clear h
 have fin:∀ (x:Bool) (R:Hp),eqB a b=x->W.Fin 0 K (bS x) R:=fun x R h=>by
  rw [h] at hK
  exact .z ((by simpa [go_sem] using hK))
 obtain ⟨n,e,d⟩:=a
 obtain ⟨n',e',d'⟩:=b
 obtain ⟨_,hla,hla2,_,_⟩:=ha
 simp only at hla hla2
 simp (maxSteps:=9^6) -dsimp only [go_sem,aQ,XS,SX,c7]
 refine ⟨fun h1=>fin false _ (l7 fun he=>?_),fun h1=>?_⟩
 · obtain ⟨rfl,rfl,rfl⟩:n=n'/\e=e'/\d=d':=by simpa using he
   simp at h1
 simp only [Bool.or_eq_false_iff,bne_eq_false_iff_eq,Bool.not_eq_false',decide_eq_true_eq] at h1
 obtain ⟨⟨rfl,hl⟩,hl2⟩:=h1
 have hl:e.length=e'.length:=by omega
 have hl2:d.length=d'.length:=by omega
 refine aT (α:=Nat) (fun i=>[(2,.va (.c1 (.pt 0 0))),(3,.va (.c1 (.pt 1 0))),(5,iS .i64 i)]) (fun i=>[.cells (aQ ⟨n,e,d⟩) 62,.cells (aQ ⟨n,e',d'⟩) 62])
  (fun i=>i<=e.length/\∀ j,j < i->e[j]? = e'[j]?) (fun i=>e.length - i) 0 2 ⟨Nat.zero_le _,fun j hj=>by omega⟩ ?_ ?_ ?_
 · simp -dsimp only [go_sem]<;>simp
 · simp -dsimp only [go_sem,aQ]<;>simp
 rintro i ⟨hi,ho⟩
 rcases bG i e.length with hlt | hge
 · have hg:decide ((i:Int) < (e.length:Int))=true:=by simp; omega
   obtain ⟨u,hx⟩:∃ t,e[i]? = some t:=⟨_,aV hlt⟩
   obtain ⟨v,hy⟩:∃ t,e'[i]? = some t:=⟨_,aV (by omega)⟩
   have q1:=aN (row:=bI) hx
   have q2:=aN (row:=bI) hy
   simp (maxSteps:=9^6) -dsimp only [go_sem,hg,aQ]
   simp (maxSteps:=9^6) -dsimp only [go_sem,c7,hx,hy,aF,forall_eq']
   refine ⟨by omega,by omega,fun h1=>fin false _ (l7 fun he=>?_),fun h1=>?_⟩
   · obtain ⟨rfl,rfl⟩:e=e'/\d=d':=by simpa using he
     rw [hx] at hy
     obtain rfl:=bJ hy
     simp at h1
   · have h1:u=v:=by simpa using h1
     subst h1
     refine ⟨by omega,aB (i + 1) 2 ⟨by omega,fun j hj=>?_⟩ (by omega) ?_ ?_⟩
     · rcases bG j i with h4 | h4
       · exact ho j h4
       · obtain rfl:j=i:=by omega
         rw [hx,hy]
     · simp -dsimp only [go_sem]<;>simp
     · simp -dsimp only [go_sem,aQ]<;>simp
 · have hg:decide ((i:Int) < (e.length:Int))=false:=by simp; omega
   obtain rfl:i=e.length:=by omega
   obtain rfl:=jO hl ho
   simp (maxSteps:=9^6) -dsimp only [go_sem,hg,aQ]
   refine aT (α:=Nat) (fun i=>[(2,.va (.c1 (.pt 0 0))),(3,.va (.c1 (.pt 1 0))),(6,iS .i64 i)]) (fun i=>[.cells (aQ ⟨n,e,d⟩) 62,.cells (aQ ⟨n,e,d'⟩) 62])
    (fun i=>i<=d.length/\∀ j,j < i->d[j]? = d'[j]?) (fun i=>d.length - i) 0 2 ⟨Nat.zero_le _,fun j hj=>by omega⟩ ?_ ?_ ?_
   · simp -dsimp only [go_sem]<;>simp
   · simp -dsimp only [go_sem,aQ]<;>simp
   clear ho hi hg hge
   rintro i ⟨hi,ho⟩
   rcases bG i d.length with hlt | hge
   · have hg:decide ((i:Int) < (d.length:Int))=true:=by simp; omega
     obtain ⟨u,hx⟩:∃ t,d[i]? = some t:=⟨_,aV hlt⟩
     obtain ⟨v,hy⟩:∃ t,d'[i]? = some t:=⟨_,aV (by omega)⟩
     have q1:=aN (row:=dS) hx
     have q2:=aN (row:=dS) hy
     simp (maxSteps:=9^6) -dsimp only [go_sem,hg,aQ]
     simp (maxSteps:=9^6) -dsimp only [go_sem,hx,hy,aF,forall_eq']
     refine ⟨by omega,by omega,fun h1=>fin false _ (l7 fun he=>?_),fun h1=>?_⟩
     · obtain rfl:d=d':=by simpa using he
       rw [hx] at hy
       obtain rfl:=bJ hy
       simp at h1
     · have h1:u=v:=by simpa using h1
       subst h1
       refine ⟨by omega,aB (i + 1) 2 ⟨by omega,fun j hj=>?_⟩ (by omega) ?_ ?_⟩
       · rcases bG j i with h4 | h4
         · exact ho j h4
         · obtain rfl:j=i:=by omega
           rw [hx,hy]
       · simp -dsimp only [go_sem]<;>simp
       · simp -dsimp only [go_sem,aQ]<;>simp
   · have hg:decide ((i:Int) < (d.length:Int))=false:=by simp; omega
     obtain rfl:i=d.length:=by omega
     simp (maxSteps:=9^6) -dsimp only [go_sem,hg,aQ]
     exact fin true _ (nM (by rw [jO hl2 ho]))
theorem CS:Meets Tryz.prog 43 ssFn.sp:=by
 refine aI Tryz.func43 aEF 2 (by rw [Tryz.ntmps43]; decide) (aL SE (aC _)) uS ?_
 rintro av H K ⟨⟨h,rfl⟩,hK⟩
 obtain ⟨_,_,rfl,⟨a,rfl,ha⟩,⟨b,rfl,hb⟩⟩:=kB h
 have hK:K (bS (eqB a b)) []:=by
  have:ssFn.val [.va (.gs (aJ a)),.va (.gs (aJ b))]=bA (eqB a b):=by simp -dsimp only [go_sem]
  rw [this] at hK; exact hK
 clear h
 have fin:∀ (x:Bool) (R:Hp),eqB a b=x->W.Fin 0 K (bS x) R:=fun x R h=>by
  rw [h] at hK
  exact .z ((by simpa [go_sem] using hK))
 obtain ⟨n,e⟩:=a
 obtain ⟨n',e'⟩:=b
 obtain ⟨_,hla,hoa⟩:=ha
 obtain ⟨_,hlb,hob⟩:=hb
 simp only at hla hlb hoa hob
 simp (maxSteps:=9^6) -dsimp only [go_sem,aJ,VD,VJ,c7]
 refine ⟨fun h1=>fin false _ (l7 fun he=>?_),fun h1=>?_⟩
 · obtain ⟨rfl,rfl⟩:n=n'/\e=e':=by simpa using he
   simp at h1
 simp only [Bool.or_eq_false_iff,bne_eq_false_iff_eq,Bool.not_eq_false',decide_eq_true_eq] at h1
 obtain ⟨rfl,hl⟩:=h1
 have hl:e.length=e'.length:=by omega
 refine aT (α:=Nat) (fun i=>[(2,.va (.c1 (.pt 0 0))),(3,.va (.c1 (.pt 1 0))),(5,iS .i64 i)]) (fun i=>[.cells (aJ ⟨n,e⟩) 56,.cells (aJ ⟨n,e'⟩) 56])
  (fun i=>i<=e.length/\∀ j,j < i->e[j]? = e'[j]?) (fun i=>e.length - i) 0 2 ⟨Nat.zero_le _,fun j hj=>by omega⟩ ?_ ?_ ?_
 · simp -dsimp only [go_sem]<;>simp
 · simp -dsimp only [go_sem,aJ]<;>simp
 rintro i ⟨hi,ho⟩
 rcases bG i e.length with hlt | hge
 · have hg:decide ((i:Int) < (e.length:Int))=true:=by simp; omega
   obtain ⟨u,hx⟩:∃ t,e[i]? = some t:=⟨_,aV hlt⟩
   obtain ⟨v,hy⟩:∃ t,e'[i]? = some t:=⟨_,aV (by omega)⟩
   have q1:=aN (row:=bD) hx
   have q2:=aN (row:=bD) hy
   have hu:e8 (aP u.ty):=eP (hoa u (bT hx)).ty
   have hv:e8 (aP v.ty):=eP (hob v (bT hy)).ty
   simp (maxSteps:=9^6) -dsimp only [go_sem,hg,aJ,↓q1,↓q2,bD,jC,c7,hu,hv]
   rw [show (u.num != v.num || !decide (u.nm=v.nm) || !(u.opt == v.opt) || !qN u.ty v.ty)=!(eqB u v) by rw [WJ]; simp only [Bool.not_and]; rfl]
   refine ⟨by omega,by omega,by omega,by omega,by omega,by omega,by omega,fun h1=>fin false _ (l7 fun he=>?_),fun h1=>?_⟩
   · obtain rfl:e=e':=by simpa using he
     rw [hx] at hy
     rw [nM (bJ hy)] at h1
     simp at h1
   · have h1:u=v:=tM.1 (by simpa using h1)
     subst h1
     refine ⟨by omega,aB (i + 1) 2 ⟨by omega,fun j hj=>?_⟩ (by omega) ?_ ?_⟩
     · rcases bG j i with h4 | h4
       · exact ho j h4
       · obtain rfl:j=i:=by omega
         rw [hx,hy]
     · simp -dsimp only [go_sem]<;>simp
     · simp -dsimp only [go_sem,aJ]<;>simp
 · have hg:decide ((i:Int) < (e.length:Int))=false:=by simp; omega
   obtain rfl:i=e.length:=by omega
   simp (maxSteps:=9^6) -dsimp only [go_sem,hg,aJ]
   exact fin true _ (nM (by rw [jO hl ho]))
noncomputable def sqFn:Fun:=E6 oH C.sc fun a b=>.bool (eqB a b)
attribute [go_sem] sqFn
theorem TU:Meets Tryz.prog 13 sqFn.sp:=by
 refine aI Tryz.func13 aC0 2 (by rw [Tryz.ntmps13]; decide) (aL H7 (aL CS (aC _))) uS ?_
 rintro av H K ⟨⟨h,rfl⟩,hK⟩
 obtain ⟨_,_,rfl,⟨a,rfl,ha⟩,⟨b,rfl,hb⟩⟩:=kB h
 have hK:K (bS (eqB a b)) []:=by
  have:sqFn.val [.va (.gs (aA a)),.va (.gs (aA b))]=bA (eqB a b):=by simp -dsimp only [go_sem]
  rw [this] at hK; exact hK
 clear h
 have fin:∀ (x:Bool) (R:Hp),eqB a b=x->W.Fin 0 K (bS x) R:=fun x R h=>by
  rw [h] at hK
  exact .z ((by simpa [go_sem] using hK))
 obtain ⟨n,e,d⟩:=a
 obtain ⟨n',e',d'⟩:=b
 obtain ⟨_,hle,hls,hoe,hos⟩:=ha
 obtain ⟨_,hle',hls',hoe',hos'⟩:=hb
 simp only at hle hls hoe hos hle' hls' hoe' hos'
 simp (maxSteps:=9^6) -dsimp only [go_sem,aA,UA,TC,c7]
 refine ⟨fun h1=>fin false _ (l7 fun he=>?_),fun h1=>?_⟩
 · obtain ⟨rfl,rfl,rfl⟩:n=n'/\e=e'/\d=d':=by simpa using he
   simp at h1
 simp only [Bool.or_eq_false_iff,bne_eq_false_iff_eq,Bool.not_eq_false',decide_eq_true_eq] at h1
 obtain ⟨⟨rfl,hl⟩,hl2⟩:=h1
 have hl:e.length=e'.length:=by omega
 have hl2:d.length=d'.length:=by omega
 refine aT (α:=Nat) (fun i=>[(2,.va (.c1 (.pt 0 0))),(3,.va (.c1 (.pt 1 0))),(5,iS .i64 i)]) (fun i=>[.cells (aA ⟨n,e,d⟩) 25,.cells (aA ⟨n,e',d'⟩) 25])
  (fun i=>i<=e.length/\∀ j,j < i->e[j]? = e'[j]?) (fun i=>e.length - i) 0 2 ⟨Nat.zero_le _,fun j hj=>by omega⟩ ?_ ?_ ?_
 · simp -dsimp only [go_sem]<;>simp
 · simp -dsimp only [go_sem,aA]<;>simp
 rintro i ⟨hi,ho⟩
 rcases bG i e.length with hlt | hge
 · have hg:decide ((i:Int) < (e.length:Int))=true:=by simp; omega
   obtain ⟨u,hx⟩:∃ t,e[i]? = some t:=⟨_,aV hlt⟩
   obtain ⟨v,hy⟩:∃ t,e'[i]? = some t:=⟨_,aV (by omega)⟩
   have q1:=aN (row:=aQ) hx
   have q2:=aN (row:=aQ) hy
   have hu:vQ (aQ u):=y6 (hoe u (bT hx))
   have hv:vQ (aQ v):=y6 (hoe' v (bT hy))
   have hud:=DG u
   have hvd:=DG v
   simp only [aQ] at hu hv hud hvd
   simp (maxSteps:=9^6) -dsimp only [go_sem,hg,aA,↓q1,↓q2]
   simp (maxSteps:=9^6) -dsimp only [go_sem,aQ,hu,hv,hud,hvd]
   refine ⟨by omega,by omega,fun h1=>fin false _ (l7 fun he=>?_),fun h1=>?_⟩
   · obtain ⟨rfl,rfl⟩:e=e'/\d=d':=by simpa using he
     rw [hx] at hy
     rw [nM (bJ hy)] at h1
     simp at h1
   · have h1:u=v:=tM.1 (by simpa using h1)
     subst h1
     refine ⟨by omega,aB (i + 1) 2 ⟨by omega,fun j hj=>?_⟩ (by omega) ?_ ?_⟩
     · rcases bG j i with h4 | h4
       · exact ho j h4
       · obtain rfl:j=i:=by omega
         rw [hx,hy]
     · simp -dsimp only [go_sem]<;>simp
     · simp -dsimp only [go_sem,aA]<;>simp
 · have hg:decide ((i:Int) < (e.length:Int))=false:=by simp; omega
   obtain rfl:i=e.length:=by omega
   obtain rfl:=jO hl ho
   simp (maxSteps:=9^6) -dsimp only [go_sem,hg,aA]
   refine aT (α:=Nat) (fun i=>[(2,.va (.c1 (.pt 0 0))),(3,.va (.c1 (.pt 1 0))),(6,iS .i64 i)]) (fun i=>[.cells (aA ⟨n,e,d⟩) 25,.cells (aA ⟨n,e,d'⟩) 25])
    (fun i=>i<=d.length/\∀ j,j < i->d[j]? = d'[j]?) (fun i=>d.length - i) 0 2 ⟨Nat.zero_le _,fun j hj=>by omega⟩ ?_ ?_ ?_
   · simp -dsimp only [go_sem]<;>simp
   · simp -dsimp only [go_sem,aA]<;>simp
   clear ho hi hg hge
   rintro i ⟨hi,ho⟩
   rcases bG i d.length with hlt | hge
   · have hg:decide ((i:Int) < (d.length:Int))=true:=by simp; omega
     obtain ⟨u,hx⟩:∃ t,d[i]? = some t:=⟨_,aV hlt⟩
     obtain ⟨v,hy⟩:∃ t,d'[i]? = some t:=⟨_,aV (by omega)⟩
     have q1:=aN (row:=aJ) hx
     have q2:=aN (row:=aJ) hy
     have hu:JH (aJ u):=FT (hos u (bT hx))
     have hv:JH (aJ v):=FT (hos' v (bT hy))
     have hud:=KB u
     have hvd:=KB v
     simp only [aJ] at hu hv hud hvd
     simp (maxSteps:=9^6) -dsimp only [go_sem,hg,aA,↓q1,↓q2]
     simp (maxSteps:=9^6) -dsimp only [go_sem,aJ,hu,hv,hud,hvd]
     refine ⟨by omega,by omega,fun h1=>fin false _ (l7 fun he=>?_),fun h1=>?_⟩
     · obtain rfl:d=d':=by simpa using he
       rw [hx] at hy
       rw [nM (bJ hy)] at h1
       simp at h1
     · have h1:u=v:=tM.1 (by simpa using h1)
       subst h1
       refine ⟨by omega,aB (i + 1) 2 ⟨by omega,fun j hj=>?_⟩ (by omega) ?_ ?_⟩
       · rcases bG j i with h4 | h4
         · exact ho j h4
         · obtain rfl:j=i:=by omega
           rw [hx,hy]
       · simp -dsimp only [go_sem]<;>simp
       · simp -dsimp only [go_sem,aA]<;>simp
   · have hg:decide ((i:Int) < (d.length:Int))=false:=by simp; omega
     obtain rfl:i=d.length:=by omega
     simp (maxSteps:=9^6) -dsimp only [go_sem,hg,aA]
     exact fin true _ (nM (by rw [jO hl2 ho]))
noncomputable def lrFn8:Fun:=mX jT C.sc fun _=>.bool true
attribute [go_sem] lrFn8
noncomputable def yT:dH:=[(9,.f ckFn),(10,.f fmFn),(12,.s mI),(13,.f sqFn),(11,.f qTrue)]
theorem YA:kO yT 9=some ckFn:=rfl
theorem WS:kO yT 10=some fmFn:=rfl
theorem UF:sp yT 12=mI:=rfl
theorem TA:kO yT 13=some sqFn:=rfl
theorem S7:kO yT 11=some qTrue:=rfl
attribute [local go_sem] YA WS UF TA S7
theorem JI:Meets Tryz.prog 3 lrFn8.sp:=by
 refine aI (Γ:=yT) Tryz.func3 ok3 1 (by rw [Tryz.ntmps3]; decide) (aL SM (aL GV (aD LL (aL TU (aL Q1 (aC _)))))) iE ?_
 rintro av H K ⟨⟨h,rfl⟩,hK⟩
 obtain ⟨_,rfl,s,rfl,hs⟩:=eK h
 have hK:K (bS true) []:=hK
 clear h
 have fin:∀ R:Hp,W.Fin 0 K (bS true) R:=fun R=>.z ((by simpa [go_sem] using hK))
 clear hK
 have k1:=g6 hs
 have k2:=fX s
 have k3:=yQ hs.ok
 have k1:jT [C.vl (Value.int IntKind.i64 s.ver),C.fz (List.map aQ s.es),C.fz (List.map aJ s.ss)]:=k1
 have k2:C.sc [C.vl (Value.int IntKind.i64 s.ver),C.fz (List.map aQ s.es),C.fz (List.map aJ s.ss)]=s:=k2
 have k3:oH [C.vl (Value.int IntKind.i64 s.ver),C.fz (List.map aQ s.es),C.fz (List.map aJ s.ss)]:=k3
 by_cases hc:cH s=0
 case neg=>
  have hc':(cH s != 0)=true:=bne_iff_ne.2 hc
  have hf:iJ s=[]:=by unfold iJ; rw [hc']; rfl
  simp (maxSteps:=9^6) -dsimp only [go_sem,aA,XD,X3,k1,k2,k3,hc',hf]
  exact fin _
 have hc':(cH s != 0)=false:=bne_eq_false_iff_eq.2 hc
 have hx:(iJ s == [])=false:=by
  unfold iJ
  rw [hc',aG]
  rfl
 simp (maxSteps:=9^6) -dsimp only [go_sem,aA,XD,X3,k1,k2,k3,hc']
 refine bL rfl (.done ?_)
 simp (maxSteps:=9^6) -dsimp only [go_sem,IM,k1,k2,hx]
 refine bL rfl (.done ?_)
 cases hl:decide (4000 < ((iJ s).length:Int)) with
 | true=>
  simp (maxSteps:=9^6) -dsimp only [go_sem,BR,hl]
  exact fin _
 | false=>
 have hp:=RD hs hc (by have:=of_decide_eq_false hl; omega)
 simp (maxSteps:=9^6) -dsimp only [go_sem,BR,hl]
 refine bL rfl (.done ?_)
 simp (maxSteps:=9^6) -dsimp only [go_sem,H5]
 refine EH hp ?_
 have s3:eqB s s=true:=nM rfl
 simp (maxSteps:=9^6) -dsimp only [go_sem,aA]
 refine bL rfl (.done ?_)
 have g0:((0:Int) == 0)=true:=rfl
 simp (maxSteps:=9^6) -dsimp only [go_sem,ID,k1,k2,k3,s3,g0]
 exact fin _
end Go.Proofs.YtgogpogophflhaaGreatDoor
namespace Go.W
open Go.RowKit
def m3 (W:World):RO:=⟨fun b off=>W.cell? ⟨b,off,none⟩,fun _=>0⟩
theorem UZ (W:World):∀ (b off:Nat) (v:Value),m3 W b off=some v->W.cell? ⟨b,off,none⟩=some v:=fun _ _ _ h=>h
theorem US (ro:RO):FzR ro [] (.slice none 0 0):=
 FzR.mk [] 1 none none (fun h=>absurd rfl h) 0 (fun _=>.bool true) (by simp) (by simp) (by simp) (by simp) (by simp) (by simp) (by simp) (by simp)
def qA (P:Program):Bool:=(List.range P.types.size).all fun t=>match P.underlying t with | some (.slice e)=>decide (0 < P.cellsOf e) | _=>true
section
variable {H:Type} {enc:TypeId × Value->H} {P:Program}
theorem LP {W W':World} (h:Stay W W') {p:MemPlace} (hp:p.block < W.heap.size):W.sameAt W' p:=by
 cases p with
 | cell b off=>exact h.cell (a:=⟨b,off,none⟩) hp
 | map b=>exact h.keep b hp
theorem sA {W W':World} {sp:Nat->Bool} (hl:laidOutB P=true) (hm:mapsRowed P=true) (hs:qA P=true) (hst:Stay W W') :
 ∀ {ts:List TypeId} {vs:List Value} {ds:List (DataW H)} {ps:List MemPlace},(∀ t ∈ ts,t < P.types.size)->DataW.TrodAll enc P W 0 (fun _=>true) true ts vs ds ps->(∀ p ∈ ps,p.block < W.heap.size)->(∀ p ∈ ps,sp p.block=true)->
  DataW.TrodAll enc P W' 0 sp true ts vs ds ps
 | [],[],[],ps,_,h,_,_=>h
 | t :: ts,v :: vs,d :: ds,ps,ht,h,hb,hp=>by
  obtain ⟨p,q,⟨n,h1⟩,h2,rfl⟩:=h
  have hsz:∀ {t e:TypeId},t < P.types.size->P.underlying t=some (.slice e)->0 < P.cellsOf e:=fun {t e} ht hu=>by
   have:=List.all_eq_true.1 hs t (List.mem_range.2 ht)
   rw [hu] at this
   simpa using this
  exact ⟨p,q,⟨n,DataW.trod_stays (T:=(· < P.types.size)) (kids_rows hl hm) hsz (fun h=>by cases h) (ht t (by simp)) h1 (fun x hx=>LP hst (hb x (by simp [hx]))) (fun x hx=>hp x (by simp [hx]))⟩,
   sA hl hm hs hst (fun u hu=>ht u (by simp [hu])) h2 (fun x hx=>hb x (by simp [hx])) (fun x hx=>hp x (by simp [hx])),rfl⟩
 | [],_ :: _,_,_,_,h,_,_=>h.elim
 | [],[],_ :: _,_,_,h,_,_=>h.elim
 | _ :: _,[],_,_,_,h,_,_=>h.elim
 | _ :: _,_ :: _,[],_,_,h,_,_=>h.elim
theorem NJ {f:Func} {s:ChangeSpec} {apart fresh handsOn again:Bool} {W W':World} {args:Array Value} {ds gs:List (DataW H)} {before:List MemPlace} {tb:TypeId}
 (hl:laidOutB P=true) (hm:mapsRowed P=true) (hsr:qA P=true) (hps:∀ t ∈ f.params.toList,t < P.types.size) (hrt:f.resultTypes=#[tb]) (htb:P.underlying tb=some .bool)
 (hvars:s.vars=[]) (hW:DataW.Whole enc P f.params.toList s.vars apart W args.toList ds gs before) (hfn:s.fn H (ds ++ gs)={ results:=[.lit (.bool true)],args:=ds,vars:=[] }) (hst:Stay W W') :
 s.post enc P f apart fresh handsOn again W args (.bool true) W':=by
 have hlt:∀ p ∈ before,p.block < W.heap.size:=fun p hp=>hW.lt p hp
 obtain ⟨p,q,hA,hV,hb,_,_⟩:=id hW
 have hq:q=[]:=by
  rw [hvars] at hV
  cases gs with
  | nil=>exact hV
  | cons g gs=>exact hV.elim
 subst hq
 have hbp:before=p:=by rw [hb]; simp
 refine C4 (pa:=p) (pv:=[]) hW (fun b sp hd=>?_) (fun sp hsp=>?_) (fun sp hsp=>?_) hb hst ?_
 · rw [hrt,hfn]
   exact ⟨[],[],⟨1,by simp [DataW.trod,Value.cells,htb]⟩,rfl,rfl⟩
 · rw [hfn]
   rw [hbp] at hlt hsp
   exact sA hl hm hsr hst hps hA hlt hsp
 · rw [hfn,hvars]; rfl
 · intro j t r h1 h2
   rw [hrt] at h1 h2
   match j with
   | 0=>
    cases h1
    cases h2
    simp [Value.okWide,Cell.okWide,Cell.ok,htb]
   | j + 1=>cases h1
end
open Go.RowKit
inductive Fit (P:Program):TypeId->List C->Prop
 | int {t:TypeId} {k:IntKind} {n:Int}:P.underlying t=some (.int k)->(Lit.int k n).wf=true->Fit P t [.vl (.int k n)]
 | bool {t:TypeId} {b:Bool}:P.underlying t=some .bool->Fit P t [.vl (.bool b)]
 | str {t:TypeId} {s:ByteArray}:P.underlying t=some .string->s.size<=maxLen->Fit P t [.vl (.string s)]
 | sl {t e:TypeId} {xs:List (List C)}:P.underlying t=some (.slice e)->xs.length<=maxLen->(∀ r ∈ xs,Fit P e r)->Fit P t [.fz xs]
 | st {t:TypeId} {fs:Array Field} {parts:List (List C)}:P.underlying t=some (.struct fs)->parts.length=fs.size->(∀ (i:Nat) (f:Field) (p:List C),fs[i]? = some f->parts[i]? = some p->Fit P f.type p)->Fit P t parts.flatten
section
variable {P:Program} {t e:TypeId} {xs:List C}
theorem Fit.inv_int {k:IntKind} (ht:P.underlying t=some (.int k)) (h:Fit P t xs):∃ n:Int,xs=[.vl (.int k n)]/\(Lit.int k n).wf=true:=by
 cases h with
 | int h1 h2=>rw [ht] at h1; cases h1; exact ⟨_,rfl,h2⟩
 | bool h1=>rw [ht] at h1; cases h1
 | str h1=>rw [ht] at h1; cases h1
 | sl h1=>rw [ht] at h1; cases h1
 | st h1=>rw [ht] at h1; cases h1
theorem Fit.inv_bool (ht:P.underlying t=some .bool) (h:Fit P t xs):∃ b:Bool,xs=[.vl (.bool b)]:=by
 cases h with
 | int h1 h2=>rw [ht] at h1; cases h1
 | bool h1=>exact ⟨_,rfl⟩
 | str h1=>rw [ht] at h1; cases h1
 | sl h1=>rw [ht] at h1; cases h1
 | st h1=>rw [ht] at h1; cases h1
theorem Fit.inv_str (ht:P.underlying t=some .string) (h:Fit P t xs):∃ s:ByteArray,xs=[.vl (.string s)]/\s.size<=maxLen:=by
 cases h with
 | int h1 h2=>rw [ht] at h1; cases h1
 | bool h1=>rw [ht] at h1; cases h1
 | str h1 h2=>exact ⟨_,rfl,h2⟩
 | sl h1=>rw [ht] at h1; cases h1
 | st h1=>rw [ht] at h1; cases h1
theorem Fit.inv_sl (ht:P.underlying t=some (.slice e)) (h:Fit P t xs):∃ ys:List (List C),xs=[.fz ys]/\ys.length<=maxLen/\∀ r ∈ ys,Fit P e r:=by
 cases h with
 | int h1 h2=>rw [ht] at h1; cases h1
 | bool h1=>rw [ht] at h1; cases h1
 | str h1=>rw [ht] at h1; cases h1
 | sl h1 h2 h3=>rw [ht] at h1; cases h1; exact ⟨_,rfl,h2,h3⟩
 | st h1=>rw [ht] at h1; cases h1
theorem Fit.inv_st {fs:Array Field} (ht:P.underlying t=some (.struct fs)) (h:Fit P t xs):∃ parts:List (List C),xs=parts.flatten/\parts.length=fs.size/\∀ (i:Nat) (f:Field) (p:List C),fs[i]? = some f->parts[i]? = some p->Fit P f.type p:=by
 cases h with
 | int h1 h2=>rw [ht] at h1; cases h1
 | bool h1=>rw [ht] at h1; cases h1
 | str h1=>rw [ht] at h1; cases h1
 | sl h1=>rw [ht] at h1; cases h1
 | st h1 h2 h3=>rw [ht] at h1; cases h1; exact ⟨_,rfl,h2,h3⟩
end
theorem Fit.rows {P:Program} {e:TypeId} {α:Type} {row:α->List C} {Q:α->Prop} {ys:List (List C)} (hi:∀ r,Fit P e r->∃ a,r=row a/\Q a) (h:∀ r ∈ ys,Fit P e r):∃ l:List α,ys=l.map row/\∀ a ∈ l,Q a:=by
 induction ys with
 | nil=>exact ⟨[],rfl,fun a h=>by cases h⟩
 | cons r ys ih=>
  obtain ⟨l,h1,h2⟩:=ih fun r hr=>h r (List.mem_cons_of_mem _ hr)
  obtain ⟨a,h3,h4⟩:=hi r (h r (by simp))
  refine ⟨a :: l,by rw [h1,h3]; rfl,fun x hx=>?_⟩
  rcases List.mem_cons.1 hx with rfl | hx
  · exact h4
  · exact h2 x hx
def FE (P:Program):Nat->List Field->Option Nat
 | o,[]=>some o
 | o,f :: r=>if f.offset=o then FE P (o + P.cellsOf f.type) r else none
def I2 (P:Program) (ts:List TypeId):Bool:=ts.all fun t=>match P.underlying t with
 | some (.int _) | some .bool | some .string=>true
 | some (.slice e)=>ts.contains e && decide (0 < P.cellsOf e)
 | some (.struct fs)=>fs.toList.all (fun f=>ts.contains f.type) && FE P 0 fs.toList == some (P.cellsOf t)
 | _=>false
theorem VE {P:Program} {R:C->Value->Prop} {Q:Field->List C->Prop} {cs:List Value}:∀ (fs:List Field) (o:Nat),FE P o fs=some cs.length->
 (∀ (i:Nat) (f:Field),fs[i]? = some f->∃ p,Q f p/\All2 R p ((cs.drop f.offset).take (P.cellsOf f.type)))->
 ∃ parts:List (List C),parts.length=fs.length/\(∀ (i:Nat) (f:Field) (p:List C),fs[i]? = some f->parts[i]? = some p->Q f p)/\All2 R parts.flatten (cs.drop o)
 | [],o,ho,_=>by
  simp only [FE,aF] at ho
  subst ho
  exact ⟨[],rfl,fun i f p h=>by simp at h,by simpa using All2.nil⟩
 | f :: fs,o,ho,h=>by
  simp only [FE] at ho
  split at ho
  · rename_i hf
    obtain ⟨parts,h1,h2,h3⟩:=VE fs _ ho fun i f hf=>h (i + 1) f (by simpa using hf)
    obtain ⟨p,h4,h5⟩:=h 0 f rfl
    refine ⟨p :: parts,by simp [h1],fun i g q hg hq=>?_,?_⟩
    · cases i with
      | zero=>simp at hg hq; subst hg hq; exact h4
      | succ i=>exact h2 i g q (by simpa using hg) (by simpa using hq)
    · have:cs.drop o=(cs.drop f.offset).take (P.cellsOf f.type) ++ cs.drop (o + P.cellsOf f.type):=by
       rw [hf,<-List.drop_drop,List.take_append_drop]
      rw [List.flatten_cons,this]
      exact h5.app h3
  · cases ho
section
variable {H:Type} {enc:TypeId × Value->H} {P:Program} {W:World} {ts:List TypeId}
theorem JZ {b off len cap sz:Nat} {oa:Option Addr} (hoa:len ≠ 0->oa=some ⟨b,off,none⟩) (hsz:0 < sz) (X:Nat->List C) (hl:∀ i,i < len->(X i).length=sz) (hc:len<=cap)
 (h:∀ i,i < len->∀ j c,(X i)[j]? = some c->∃ v,W.cell? ⟨b,off + (i * sz + j),none⟩=some v/\c.fv (m3 W) v/\c.shut=true) :
 FzR (m3 W) ((List.range len).map X) (.slice oa len cap):=by
 have hz:∀ x ∈ (List.range len).map X,x.length=sz:=fun x hx=>by
  obtain ⟨i,hi,rfl⟩:=List.mem_map.1 hx
  exact hl i (List.mem_range.1 hi)
 have hfl:∀ k c,((List.range len).map X).flatten[k]? = some c->∃ v,W.cell? ⟨b,off + k,none⟩=some v/\c.fv (m3 W) v/\c.shut=true:=fun k c hk=>by
  have hkl:k < len * sz:=by
   have h1:=(a8.1 hk).1
   rw [jY _ hz] at h1
   simpa using h1
  have hi:k / sz < len:=(Nat.div_lt_iff_lt_mul hsz).2 hkl
  have hj:=Nat.mod_lt k hsz
  have hg:=hJ hz (i:=k / sz) (j:=k % sz) (by simpa using hi) hj
  rw [Nat.mul_comm,Nat.div_add_mod,hk] at hg
  have hxi:((List.range len).map X)[k / sz]? = some (X (k / sz)):=by simp [hi]
  rw [hxi,Option.bind_some] at hg
  have:=h (k / sz) hi (k % sz) c hg.symm
  rwa [Nat.mul_comm,Nat.div_add_mod] at this
 have hr:=FzR.mk (ro:=m3 W) ((List.range len).map X) sz (some (b,off)) oa (fun hne=>hoa (fun e=>by subst e; simp at hne)) cap (fun k=>(W.cell? ⟨b,off + k,none⟩).getD undef) hz (by simpa using hc) (fun _=>rfl)
  (fun k c hk=>by
    obtain ⟨v,h2,_⟩:=hfl k c hk
    simp [m3,h2])
  (fun k v hk=>by
    obtain ⟨u,h1,h2,_⟩:=hfl k _ hk
    have:u=v:=h2
    simp [h1,this])
  (fun k ys hk=>by
    obtain ⟨u,h1,h2,_⟩:=hfl k _ hk
    have:FzR (m3 W) ys u:=h2
    simpa [h1] using this)
  (fun c hc=>by
    obtain ⟨k,hk⟩:=List.mem_iff_getElem?.1 hc
    obtain ⟨u,_,_,h3⟩:=hfl k c hk
    exact h3)
  (fun _ _ _=>.inl rfl)
 simpa using hr
theorem WT {cs:List C} {vs:Array Value} (h:All2 (C.fv (m3 W)) cs (Value.agg vs).cells.toList) (hs:∀ c ∈ cs,c.shut=true):(S.va (.gs cs)).rel (gm []) (m3 W) (.agg vs):=
 ⟨vs.toList,by simp,⟨by simpa [Value.cells] using h.1,fun i c v hc hv=>(C.rel_shut (hs c (bT hc))).2 (h.2 i c v hc (by simpa [Value.cells] using hv))⟩⟩
end
end Go.W
namespace Go.Proofs.YtgogpogophflhaaGreatDoor
open Go.W
theorem v3:Tryz.prog.underlying 3=some (.int .i64):=by kernel_rfl
theorem v4:Tryz.prog.underlying 4=some .bool:=by kernel_rfl
theorem v9:Tryz.prog.underlying 9=some .string:=by kernel_rfl
theorem v22:Tryz.prog.underlying 22=some (.slice 62):=by kernel_rfl
theorem v23:Tryz.prog.underlying 23=some (.slice 56):=by kernel_rfl
theorem v30:Tryz.prog.underlying 54=some (.slice 64):=by kernel_rfl
theorem v35:Tryz.prog.underlying 52=some (.slice 9):=by kernel_rfl
theorem K5:Tryz.prog.underlying 35=some (.slice 37):=by kernel_rfl
theorem v45:Tryz.prog.underlying 58=some (.slice 3):=by kernel_rfl
theorem LV:Tryz.prog.underlying 37=some (.struct #[⟨"Kind",3,0,false,"","",0⟩,⟨"Size",3,1,false,"","",8⟩,⟨"Name",9,2,false,"","",16⟩,⟨"Elem",35,3,false,"","",32⟩]):=by kernel_rfl
theorem v53:Tryz.prog.underlying 64=some (.struct #[⟨"Number",3,0,false,"","",0⟩,⟨"Name",9,1,false,"","",8⟩,⟨"Type",37,2,false,"","",24⟩,⟨"Optional",4,6,false,"","",80⟩]):=by kernel_rfl
theorem v32:Tryz.prog.underlying 56=some (.struct #[⟨"Name",9,0,false,"","",0⟩,⟨"Fields",54,1,false,"","",16⟩]):=by kernel_rfl
theorem v47:Tryz.prog.underlying 62=some (.struct #[⟨"Name",9,0,false,"","",0⟩,⟨"Names",52,1,false,"","",16⟩,⟨"Numbers",58,2,false,"","",40⟩]):=by kernel_rfl
theorem v25:Tryz.prog.underlying 25=some (.struct #[⟨"Version",3,0,false,"","",0⟩,⟨"Enums",22,1,false,"","",8⟩,⟨"Structs",23,2,false,"","",32⟩]):=by kernel_rfl
theorem mV {α:Type} {row:α->List C} {Q:α->Prop} {ys:List (List C)} (h:∀ r ∈ ys,∃ a,r=row a/\Q a):∃ l:List α,ys=l.map row/\∀ a ∈ l,Q a:=by
 induction ys with
 | nil=>exact ⟨[],rfl,fun a h=>by cases h⟩
 | cons r ys ih=>
  obtain ⟨l,h1,h2⟩:=ih fun r hr=>h r (List.mem_cons_of_mem _ hr)
  obtain ⟨a,h3,h4⟩:=h r List.mem_cons_self
  refine ⟨a :: l,by rw [h1,h3]; rfl,fun x hx=>?_⟩
  rcases List.mem_cons.1 hx with rfl | hx
  · exact h4
  · exact h2 x hx
theorem CI {n:Int} (h:(Lit.int .i64 n).wf=true):cD n:=by simpa [cD,Lit.wf,IntKind.min,IntKind.max,IntKind.signed,IntKind.bits] using h
theorem DW {n:Nat} (h:n<=maxLen):n<=9223372036854775807:=by unfold maxLen at h; exact h
inductive Vl where
 | mk (k n:Int) (s:ByteArray) (l:List Vl) (f:List (Int × Vl))
instance:Inhabited Vl:=⟨.mk 0 0 ByteArray.empty [] []⟩
def Vl.k:Vl->Int | .mk k _ _ _ _=>k
def Vl.n:Vl->Int | .mk _ n _ _ _=>n
def Vl.s:Vl->ByteArray | .mk _ _ s _ _=>s
def Vl.l:Vl->List Vl | .mk _ _ _ l _=>l
def Vl.f:Vl->List (Int × Vl) | .mk _ _ _ _ f=>f
mutual
def zW:Vl->List C
 | .mk k n s l f=>[.vl (.int .i64 k),.vl (.int .i64 n),.vl (.string s),.fz (oP l),.fz (oJ f)]
def oP:List Vl->List (List C)
 | []=>[]
 | v :: r=>zW v :: oP r
def oJ:List (Int × Vl)->List (List C)
 | []=>[]
 | (i,v) :: r=>(.vl (.int .i64 i) :: zW v) :: oJ r
end
mutual
theorem yM:∀ {a b:Vl},zW a=zW b->a=b
 | .mk k n s l f,.mk k' n' s' l' f',h=>by
  rw [zW,zW] at h
  simp only [List.cons.injEq,C.vl.injEq,Value.int.injEq,Value.string.injEq,C.fz.injEq,true_and,and_true] at h
  obtain ⟨rfl,rfl,rfl,h4,h5⟩:=h
  rw [B7 h4,C6 h5]
theorem B7:∀ {a b:List Vl},oP a=oP b->a=b
 | [],[],_=>rfl
 | [],_ :: _,h=>by rw [oP,oP] at h; cases h
 | _ :: _,[],h=>by rw [oP,oP] at h; cases h
 | x :: a,y :: b,h=>by
  rw [oP,oP] at h
  obtain ⟨h1,h2⟩:=List.cons.inj h
  rw [yM h1,B7 h2]
theorem C6:∀ {a b:List (Int × Vl)},oJ a=oJ b->a=b
 | [],[],_=>rfl
 | [],(_,_) :: _,h=>by rw [oJ,oJ] at h; cases h
 | (_,_) :: _,[],h=>by rw [oJ,oJ] at h; cases h
 | (i,x) :: a,(j,y) :: b,h=>by
  rw [oJ,oJ] at h
  obtain ⟨h1,h2⟩:=List.cons.inj h
  obtain ⟨h3,h4⟩:=List.cons.inj h1
  have e:i=j:=by simpa using h3
  rw [e,yM h4,C6 h2]
end
noncomputable def C.vv:=rA zW
@[go_sem] theorem aH2 (v:Vl):C.vv (zW v)=v:=kQ yM v
mutual
def Vl.h:Vl->Nat
 | .mk _ _ _ l f=>max (Vl.hl l) (Vl.hf f) + 1
def Vl.hl:List Vl->Nat
 | []=>0
 | v :: r=>max v.h (Vl.hl r)
def Vl.hf:List (Int × Vl)->Nat
 | []=>0
 | (_,v) :: r=>max v.h (Vl.hf r)
end
theorem Vl.h_pos (v:Vl):0 < v.h:=by cases v; rw [Vl.h]; omega
inductive VlOk:Vl->Prop
 | mk {k n:Int} {s:ByteArray} {l:List Vl} {f:List (Int × Vl)}:cD k->cD n->s.size<=9223372036854775807->l.length * 80<=140737488355328->f.length * 88<=140737488355328->(∀ v ∈ l,VlOk v)->(∀ x ∈ f,cD x.1)->(∀ x ∈ f,VlOk x.2)->VlOk (.mk k n s l f)
theorem VlOk.k {v:Vl} (h:VlOk v):cD v.k:=by cases h; assumption
theorem VlOk.n {v:Vl} (h:VlOk v):cD v.n:=by cases h; assumption
theorem VlOk.s {v:Vl} (h:VlOk v):v.s.size<=9223372036854775807:=by cases h; assumption
theorem VlOk.l {v:Vl} (h:VlOk v):∀ x ∈ v.l,VlOk x:=by cases h; assumption
theorem VlOk.fn {v:Vl} (h:VlOk v):∀ x ∈ v.f,cD x.1:=by cases h; assumption
theorem VlOk.f {v:Vl} (h:VlOk v):∀ x ∈ v.f,VlOk x.2:=by cases h; assumption
theorem uY {H:Type} {d:DataW H}:∀ {l:List (DataW H)},d ∈ l->Rows.uptoBulk d<=Rows.uptoBulkAll l
 | x :: r,h=>by
  simp only [Rows.uptoBulkAll]
  rcases List.mem_cons.1 h with rfl | e
  · omega
  · have:=uY e; omega
theorem EE {H:Type} (d:DataW H):0 < Rows.uptoBulk d:=by
 cases d with
 | lit l=>cases l<;>simp [Rows.uptoBulk]
 | _=>simp [Rows.uptoBulk]
theorem AV {H:Type}:∀ l:List (DataW H),l.length<=Rows.uptoBulkAll l
 | []=>Nat.zero_le _
 | d :: l=>by have:=AV l; have:=EE d; simp only [Rows.uptoBulkAll,List.length_cons]; omega
inductive FitB (P:Program):TypeId->List C->Nat->Prop
 | int {t:TypeId} {k:IntKind} {n:Int} {m:Nat}:P.underlying t=some (.int k)->(Lit.int k n).wf=true->FitB P t [.vl (.int k n)] m
 | bool {t:TypeId} {b:Bool} {m:Nat}:P.underlying t=some .bool->FitB P t [.vl (.bool b)] m
 | str {t:TypeId} {s:ByteArray} {m:Nat}:P.underlying t=some .string->s.size<=maxLen->FitB P t [.vl (.string s)] m
 | sl {t e:TypeId} {xs:List (List C)} {m:Nat}:P.underlying t=some (.slice e)->xs.length<=maxLen->xs.length<=m->(∀ r ∈ xs,FitB P e r m)->FitB P t [.fz xs] (m + 1)
 | st {t:TypeId} {fs:Array Field} {parts:List (List C)} {m:Nat}:P.underlying t=some (.struct fs)->parts.length=fs.size->(∀ (i:Nat) (f:Field) (p:List C),fs[i]? = some f->parts[i]? = some p->FitB P f.type p m)->FitB P t parts.flatten (m + 1)
theorem FitB.fit {P:Program} {t:TypeId} {xs:List C} {m:Nat} (h:FitB P t xs m):Fit P t xs:=by
 induction h with
 | int h1 h2=>exact .int h1 h2
 | bool h1=>exact .bool h1
 | str h1 h2=>exact .str h1 h2
 | sl h1 h2 _ _ ih=>exact .sl h1 h2 ih
 | st h1 h2 _ ih=>exact .st h1 h2 ih
theorem FitB.mono {P:Program} {t:TypeId} {xs:List C} {m:Nat} (h:FitB P t xs m):∀ {n:Nat},m<=n->FitB P t xs n:=by
 induction h with
 | int h1 h2=>exact fun _=>.int h1 h2
 | bool h1=>exact fun _=>.bool h1
 | str h1 h2=>exact fun _=>.str h1 h2
 | @sl t e xs m h1 h2 h3 _ ih=>
  intro n hn
  obtain ⟨n,rfl⟩:∃ k,n=k + 1:=⟨n - 1,by omega⟩
  exact .sl h1 h2 (by omega) fun r hr=>ih r hr (by omega)
 | @st t fs parts m h1 h2 _ ih=>
  intro n hn
  obtain ⟨n,rfl⟩:∃ k,n=k + 1:=⟨n - 1,by omega⟩
  exact .st h1 h2 fun i f p hf hp=>ih i f p hf hp (by omega)
section
variable {P:Program} {t e:TypeId} {xs:List C} {m:Nat}
theorem FitB.inv_sl (ht:P.underlying t=some (.slice e)) (h:FitB P t xs (m + 1)):∃ ys:List (List C),xs=[.fz ys]/\ys.length<=m/\∀ r ∈ ys,FitB P e r m:=by
 generalize hm:m + 1=k at h
 cases h with
 | int h1 h2=>rw [ht] at h1; cases h1
 | bool h1=>rw [ht] at h1; cases h1
 | str h1=>rw [ht] at h1; cases h1
 | sl h1 h2 h3 h4=>rw [ht] at h1; cases h1; cases hm; exact ⟨_,rfl,h3,h4⟩
 | st h1 h2 h3=>rw [ht] at h1; cases h1
theorem FitB.inv_st {fs:Array Field} (ht:P.underlying t=some (.struct fs)) (h:FitB P t xs (m + 1)):∃ parts:List (List C),xs=parts.flatten/\parts.length=fs.size/\∀ (i:Nat) (f:Field) (p:List C),fs[i]? = some f->parts[i]? = some p->FitB P f.type p m:=by
 generalize hm:m + 1=k at h
 cases h with
 | int h1 h2=>rw [ht] at h1; cases h1
 | bool h1=>rw [ht] at h1; cases h1
 | str h1=>rw [ht] at h1; cases h1
 | sl h1=>rw [ht] at h1; cases h1
 | st h1 h2 h3=>rw [ht] at h1; cases h1; cases hm; exact ⟨_,rfl,h2,h3⟩
theorem FitB.inv_sl' (ht:P.underlying t=some (.slice e)) (h:FitB P t xs m):∃ ys:List (List C),xs=[.fz ys]/\ys.length<=m/\∀ r ∈ ys,FitB P e r m:=by
 obtain ⟨ys,h1,h2,h3⟩:=FitB.inv_sl ht (h.mono (Nat.le_succ m))
 exact ⟨ys,h1,h2,h3⟩
theorem FitB.inv_st' {fs:Array Field} (ht:P.underlying t=some (.struct fs)) (h:FitB P t xs m):∃ parts:List (List C),xs=parts.flatten/\parts.length=fs.size/\∀ (i:Nat) (f:Field) (p:List C),fs[i]? = some f->parts[i]? = some p->FitB P f.type p m:=
 FitB.inv_st ht (h.mono (Nat.le_succ m))
end
section
variable {H:Type} {enc:TypeId × Value->H} {P:Program} {W:World} {ts:List TypeId}
theorem mY (hok:I2 P ts=true):∀ (n:Nat) (t:TypeId) (cs:List Value) (y:DataW H × List MemPlace),t ∈ ts->DataW.trod enc P W 0 (fun _=>true) true n t cs=some y->
 ∃ xs,FitB P t xs (Rows.uptoBulk y.1)/\All2 (C.fv (m3 W)) xs cs/\∀ c ∈ xs,c.shut=true
 | 0,t,cs,y,_,h=>by simp [DataW.trod] at h
 | n + 1,t,cs,y,ht,h=>by
  have h1:=List.all_eq_true.1 hok t ht
  split at h1
  · rename_i k hu
    obtain ⟨m,rfl,_,hw⟩:=DataW.trod_int hu h
    exact ⟨_,.int hu hw,.cons rfl .nil,fun c hc=>by simp at hc; subst hc; rfl⟩
  · rename_i hu
    obtain ⟨b,rfl,_⟩:=DataW.trod_bool hu h
    exact ⟨_,.bool hu,.cons rfl .nil,fun c hc=>by simp at hc; subst hc; rfl⟩
  · rename_i hu
    obtain ⟨s,rfl,_,hs⟩:=DataW.trod_string hu h
    exact ⟨_,.str hu hs,.cons rfl .nil,fun c hc=>by simp at hc; subst hc; rfl⟩
  · rename_i e hu
    simp only [Bool.and_eq_true,List.contains_iff_mem,decide_eq_true_eq] at h1
    obtain ⟨he,hpos⟩:=h1
    rcases DataW.trod_slice hu h with ⟨rfl,hy⟩ | ⟨a,len,cap,elems,rest,n',hn',rfl,hy,_,hl,hm,hel,hi,_⟩
    · refine ⟨_,(FitB.sl (m:=0) hu (Nat.zero_le _) (Nat.zero_le _) (fun r hr=>by cases hr)).mono (EE _),.cons (US _) .nil,fun c hc=>by simp at hc; subst hc; rfl⟩
    · obtain rfl:n=n':=by omega
      subst hy
      have hbk:Rows.uptoBulk (DataW.slice (elems.map (·.1)) (rest.map (·.1)))=Rows.uptoBulkAll (elems.map (·.1)) + Rows.uptoBulkAll (rest.map (·.1)) + 1:=by simp only [Rows.uptoBulk]
      generalize hM:Rows.uptoBulkAll (elems.map (·.1)) + Rows.uptoBulkAll (rest.map (·.1))=M at hbk
      show ∃ xs,FitB P t xs (Rows.uptoBulk (DataW.slice (elems.map (·.1)) (rest.map (·.1))))/\_
      rw [hbk]
      have hlM:len<=M:=by
       have:=AV (elems.map (·.1))
       rw [List.length_map,hel] at this
       omega
      have hall:∀ i,i < len->∃ x:List C,FitB P e x M/\x.length=P.cellsOf e/\(∀ j c,x[j]? = some c->∃ v,W.cell? ((a.add (i * P.cellsOf e)).add j)=some v/\c.fv (m3 W) v/\c.shut=true):=fun i hil=>by
       have h1:=hi i hil
       rw [aV (by omega)] at h1
       obtain ⟨cs',h2,h3⟩:=Option.bind_eq_some_iff.1 h1
       obtain ⟨x,h4,h5,h6⟩:=mY hok n e cs' _ he h3
       obtain ⟨_,h7,h8⟩:=World.cells?_some h2
       refine ⟨x,h4.mono ?_,h5.1.trans h7,fun j c hj=>?_⟩
       · have:=uY (List.mem_map_of_mem (f:=(·.1)) (List.getElem_mem (show i < elems.length by omega)))
         omega
       obtain ⟨v,h9,h10⟩:=h5.get hj
       have hjl:j < P.cellsOf e:=by rw [<-h7,<-h5.1]; exact (a8.1 hj).1
       refine ⟨v,?_,h10,h6 c (bT hj)⟩
       have:=h8 j hjl
       rwa [h9] at this
      by_cases h0:len=0
      · subst h0
        refine ⟨[.fz []],.sl hu (Nat.zero_le _) (Nat.zero_le _) (fun r hr=>by cases hr),.cons ?_ .nil,fun c hc=>by simp at hc; subst hc; rfl⟩
        exact JZ (b:=0) (off:=0) (fun h=>absurd rfl h) hpos (fun _=>[]) (fun i hi=>by omega) (Nat.zero_le _) (fun i hi=>by omega)
      · obtain ⟨x0,_,hx0l,hx0⟩:=hall 0 (by omega)
        have hsp:a.spot=none:=by
         have hx:∃ c,x0[0]? = some c:=⟨_,aV (by omega)⟩
         obtain ⟨c,hc⟩:=hx
         obtain ⟨v,hv,_⟩:=hx0 0 c hc
         unfold World.cell? at hv
         split at hv
         · split at hv
           · cases hv
           · rename_i hs; simpa [Addr.add] using hs
         · cases hv
        obtain ⟨b,off,spot⟩:=a
        obtain rfl:spot=none:=hsp
        haveI:Inhabited (List C):=⟨[]⟩
        obtain ⟨X,hX⟩:=Go.Deep.choose_lt hall
        refine ⟨[.fz ((List.range len).map X)],.sl hu (by simp; omega) (by simpa using hlM) (fun r hr=>?_),.cons ?_ .nil,fun c hc=>by simp at hc; subst hc; rfl⟩
        · obtain ⟨i,hi,rfl⟩:=List.mem_map.1 hr
          exact (hX i (List.mem_range.1 hi)).1
        · exact JZ (fun _=>rfl) hpos X (fun i hi=>(hX i hi).2.1) hl (fun i hi j c hj=>by
           obtain ⟨v,h2,h3⟩:=(hX i hi).2.2 j c hj
           exact ⟨v,by simpa [Go.WideShapes.add_plain,Nat.add_assoc] using h2,h3⟩)
  · rename_i fs hu
    simp only [Bool.and_eq_true,List.all_eq_true,List.contains_iff_mem,beq_iff_eq] at h1
    obtain ⟨hft,hof⟩:=h1
    obtain ⟨ys,n',hn,hy,hcl,hyl,hf⟩:=DataW.trod_struct hu h
    obtain rfl:n=n':=by omega
    subst hy
    show ∃ xs,FitB P t xs (Rows.uptoBulk (DataW.agg (ys.map (·.1))))/\_
    rw [show Rows.uptoBulk (DataW.agg (ys.map (·.1)))=Rows.uptoBulkAll (ys.map (·.1)) + 1 by simp only [Rows.uptoBulk]]
    obtain ⟨parts,k1,k2,k3⟩:=VE (P:=P) (R:=fun c v=>C.fv (m3 W) c v/\c.shut=true) (Q:=fun f p=>FitB P f.type p (Rows.uptoBulkAll (ys.map (·.1)))) (cs:=cs) fs.toList 0 (by rw [hcl]; exact hof) (fun i f hfi=>by
     have hfi':fs[i]? = some f:=by simpa using hfi
     have h2:=hf i f hfi'
     have hil:i < fs.size:=(Array.getElem?_eq_some_iff.1 hfi').1
     rw [aV (by omega)] at h2
     obtain ⟨x,h4,h5,h6⟩:=mY hok n f.type _ _ (hft f (bT hfi)) h2
     exact ⟨x,h4.mono (uY (List.mem_map_of_mem (f:=(·.1)) (List.getElem_mem (show i < ys.length by omega)))),⟨h5.1,fun j c v hc hv=>⟨h5.2 j c v hc hv,h6 c (bT hc)⟩⟩⟩)
    refine ⟨parts.flatten,.st hu (by simpa using k1) (fun i f p hfi hp=>k2 i f p (by simpa using hfi) hp),?_,fun c hc=>?_⟩
    · simpa using k3.imp (fun _ _ h=>h.1)
    · obtain ⟨j,hj⟩:=List.mem_iff_getElem?.1 hc
      obtain ⟨v,_,_,h3⟩:=k3.get hj
      exact h3
  · cases h1
theorem FJ (hok:I2 P ts=true) {t:TypeId} {v:Value} {d:DataW H} {ps:List MemPlace} (ht:t ∈ ts) (h:DataW.Trod enc P W 0 (fun _=>true) true t v d ps):∃ xs,FitB P t xs (Rows.uptoBulk d)/\All2 (C.fv (m3 W)) xs v.cells.toList/\∀ c ∈ xs,c.shut=true:=by
 obtain ⟨n,h⟩:=h
 exact mY hok n t _ _ ht h
end
theorem aAF:∀ {t:TypeId} {cs:List C} {m:Nat},FitB Tryz.prog t cs m->m<=1048576->(t=37->∃ a,cs=aP a/\TyOk a/\TySm a/\(bO a).1<=m)/\(t=35->∃ l:List Ty,cs=[.fz (l.map aP)]/\l.length<=m/\∀ a ∈ l,TyOk a/\TySm a/\(bO a).1 + 1<=m):=by
 intro t cs m h
 induction h with
 | int h1 _=>exact fun _=>⟨fun e=>(by rw [e,LV] at h1; cases h1),fun e=>(by rw [e,K5] at h1; cases h1)⟩
 | bool h1=>exact fun _=>⟨fun e=>(by rw [e,LV] at h1; cases h1),fun e=>(by rw [e,K5] at h1; cases h1)⟩
 | str h1 _=>exact fun _=>⟨fun e=>(by rw [e,LV] at h1; cases h1),fun e=>(by rw [e,K5] at h1; cases h1)⟩
 | @sl t e xs m h1 h2 h3 h4 ih=>
  intro hm
  refine ⟨fun e=>(by rw [e,LV] at h1; cases h1),fun e=>?_⟩
  subst e
  rw [K5] at h1
  cases h1
  obtain ⟨l,rfl,hl⟩:=mV (row:=aP) (Q:=fun a=>TyOk a/\TySm a/\(bO a).1<=m) fun r hr=>(ih r hr (by omega)).1 rfl
  exact ⟨l,rfl,by simp at h3; omega,fun a ha=>⟨(hl a ha).1,(hl a ha).2.1,Nat.succ_le_succ (hl a ha).2.2⟩⟩
 | @st t fs parts m h1 h2 h3 ih=>
  intro hm
  refine ⟨fun e=>?_,fun e=>(by rw [e,K5] at h1; cases h1)⟩
  subst e
  rw [LV] at h1
  cases h1
  match parts,h2 with
  | [p0,p1,p2,p3],_=>
   obtain ⟨k,rfl,hk⟩:=Fit.inv_int v3 (h3 0 _ p0 rfl rfl).fit
   obtain ⟨s,rfl,hs⟩:=Fit.inv_int v3 (h3 1 _ p1 rfl rfl).fit
   obtain ⟨n,rfl,hn⟩:=Fit.inv_str v9 (h3 2 _ p2 rfl rfl).fit
   obtain ⟨l,rfl,hl,ho⟩:=(ih 3 _ p3 rfl rfl (by omega)).2 rfl
   refine ⟨.mk k s n l,by rw [aP,aU]; rfl,.mk (CI hk) (CI hs) (DW hn) (by omega) fun a ha=>(ho a ha).1,.mk (by omega) fun a ha=>(ho a ha).2.1,?_⟩
   rw [bO]
   cases k == 5 with
   | false=>exact Nat.zero_le _
   | true=>
    show (D6 l _).1<=m + 1
    cases l with
    | nil=>rw [D6]; exact Nat.zero_le _
    | cons u r=>rw [D6]; have:=(ho u List.mem_cons_self).2.2; show (bO u).1 + 1<=m + 1; omega
theorem UL (m:Nat) (hm:m<=1048576) (cs:List C) (h:FitB Tryz.prog 37 cs m):∃ a,cs=aP a/\TyOk a/\TySm a/\(bO a).1<=m:=(aAF h hm).1 rfl
theorem TR {m:Nat} (hm:m<=1048576) {cs:List C} (h:FitB Tryz.prog 64 cs m):∃ a:Fl,cs=bD a/\a.ok/\TySm a.ty/\(bO a.ty).1<=1000000000:=by
 obtain ⟨parts,rfl,h2,h3⟩:=FitB.inv_st' v53 h
 match parts,h2 with
 | [p0,p1,p2,p3],_=>
  obtain ⟨k,rfl,hk⟩:=Fit.inv_int v3 (h3 0 _ p0 rfl rfl).fit
  obtain ⟨n,rfl,hn⟩:=Fit.inv_str v9 (h3 1 _ p1 rfl rfl).fit
  obtain ⟨t,rfl,ht,hs,hl⟩:=UL _ hm _ (h3 2 _ p2 rfl rfl)
  obtain ⟨b,rfl⟩:=Fit.inv_bool v4 (h3 3 _ p3 rfl rfl).fit
  exact ⟨⟨k,n,t,b⟩,by rw [bX]; rfl,⟨CI hk,DW hn,ht⟩,hs,by show (bO t).1<=_; omega⟩
theorem WL {m:Nat} (hm:m<=1048576) {cs:List C} (h:FitB Tryz.prog 56 cs m):∃ a:St,cs=aJ a/\a.ok/\a.fs.length<=1000000000/\(∀ f ∈ a.fs,TySm f.ty)/\∀ f ∈ a.fs,(bO f.ty).1<=1000000000:=by
 obtain ⟨parts,rfl,h2,h3⟩:=FitB.inv_st' v32 h
 match parts,h2 with
 | [p0,p1],_=>
  obtain ⟨n,rfl,hn⟩:=Fit.inv_str v9 (h3 0 _ p0 rfl rfl).fit
  obtain ⟨ys,rfl,hl,hy⟩:=FitB.inv_sl' v30 (h3 1 _ p1 rfl rfl)
  obtain ⟨l,rfl,ho⟩:=mV (row:=bD) (Q:=fun f=>f.ok/\TySm f.ty/\(bO f.ty).1<=1000000000) fun r hr=>TR hm (hy r hr)
  rw [List.length_map] at hl
  exact ⟨⟨n,l⟩,rfl,⟨DW hn,by show l.length<=_; omega,fun f hf=>(ho f hf).1⟩,by show l.length<=_; omega,fun f hf=>(ho f hf).2.1,fun f hf=>(ho f hf).2.2⟩
theorem V3 {m:Nat} (hm:m<=1048576) {cs:List C} (h:FitB Tryz.prog 62 cs m):∃ a:En,cs=aQ a/\a.ok/\a.ns.length<=1000000000/\a.vs.length<=1000000000:=by
 obtain ⟨parts,rfl,h2,h3⟩:=FitB.inv_st' v47 h
 match parts,h2 with
 | [p0,p1,p2],_=>
  obtain ⟨n,rfl,hn⟩:=Fit.inv_str v9 (h3 0 _ p0 rfl rfl).fit
  obtain ⟨ys,rfl,hl,hy⟩:=FitB.inv_sl' v35 (h3 1 _ p1 rfl rfl)
  obtain ⟨zs,rfl,hl2,hz⟩:=FitB.inv_sl' v45 (h3 2 _ p2 rfl rfl)
  obtain ⟨l,rfl,ho⟩:=mV (row:=bI) (Q:=fun b=>b.size<=9223372036854775807) fun r hr=>by
   obtain ⟨s,rfl,hs⟩:=Fit.inv_str v9 (hy r hr).fit; exact ⟨s,rfl,DW hs⟩
  obtain ⟨k,rfl,hk⟩:=mV (row:=dS) (Q:=cD) fun r hr=>by
   obtain ⟨s,rfl,hs⟩:=Fit.inv_int v3 (hz r hr).fit; exact ⟨s,rfl,CI hs⟩
  rw [List.length_map] at hl hl2
  exact ⟨⟨n,l,k⟩,rfl,⟨DW hn,by show l.length<=_; omega,by show k.length<=_; omega,ho,hk⟩,by show l.length<=_; omega,by show k.length<=_; omega⟩
theorem V8 (m:Nat) (hm:m<=1048576) (cs:List C) (h:FitB Tryz.prog 25 cs m):∃ a:Sc,cs=aA a/\a.fit:=by
 obtain ⟨parts,rfl,h2,h3⟩:=FitB.inv_st' v25 h
 match parts,h2 with
 | [p0,p1,p2],_=>
  obtain ⟨n,rfl,hn⟩:=Fit.inv_int v3 (h3 0 _ p0 rfl rfl).fit
  obtain ⟨ys,rfl,hl,hy⟩:=FitB.inv_sl' v22 (h3 1 _ p1 rfl rfl)
  obtain ⟨zs,rfl,hl2,hz⟩:=FitB.inv_sl' v23 (h3 2 _ p2 rfl rfl)
  obtain ⟨l,rfl,ho⟩:=mV (row:=aQ) (Q:=fun e:En=>e.ok/\e.ns.length<=1000000000/\e.vs.length<=1000000000) fun r hr=>V3 hm (hy r hr)
  obtain ⟨k,rfl,hk⟩:=mV (row:=aJ) (Q:=fun a:St=>a.ok/\a.fs.length<=1000000000/\(∀ f ∈ a.fs,TySm f.ty)/\∀ f ∈ a.fs,(bO f.ty).1<=1000000000) fun r hr=>WL hm (hz r hr)
  rw [List.length_map] at hl hl2
  exact ⟨⟨n,l,k⟩,rfl,⟨⟨CI hn,by show l.length<=_; omega,by show k.length<=_; omega,fun e he=>(ho e he).1,fun t ht=>(hk t ht).1⟩,fun t ht=>(hk t ht).2.2.2,fun t ht=>⟨(hk t ht).2.1,(hk t ht).2.2.1⟩,fun e he=>(ho e he).2⟩⟩
end Go.Proofs.YtgogpogophflhaaGreatDoor
