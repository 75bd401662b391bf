/- Lemmas and walks for the proof. -/
import Derived.Test.YtkpohmhenegkiaaGreatDoorQe
import Derived.Test.YtkpohmhenegkiaaGreatDoorProg
import Derived.ProofKit
import Derived.OpenShut
import Derived.ChangeStays
import Derived.Deep.Slices
import Derived.JoinedCond
import Derived.KernelRfl
set_option maxRecDepth 100000
set_option maxHeartbeats 8000000
namespace Go.Proofs.YtkpohmhenegkiaaGreatDoor
open Go.W
theorem v6:Meets Tryz.prog 32 r0Fn.sp:=by
 refine aE Tryz.func32 aQU 2 (by rw [Tryz.ntmps32]; decide) (aG K0 (aA _)) (fun av H K h=>by obtain ⟨_,_,rfl,_⟩:=kL h.1.1; rfl) ?_
 rintro av H K ⟨⟨h,rfl⟩,hK⟩
 obtain ⟨s,t,rfl,hs,ht⟩:=kL h
 have k4:=eJ ht
 have k5:=iV t
 have k6:=fV hs
 have k7:=jS s
 have e:r0Fn.val [.va (.gs (aF s)),.va (.gs (aQ t))]=bA (valF s.ss s.es t):=by
  show bA (valF (C.sc (aF s)).ss (C.sc (aF s)).es (C.ty (aQ t)))=_
  rw [fB,eT]
 rw [e] at hK
 simp (maxSteps:=1000000) -dsimp only [go_sem,aF,aJ t,aD6,aIO,k4,k5,k6,k7]
 exact .sel [] (by simp) (by simp) rfl (.done (by simpa [go_sem] using hK))
def FL:List S->Prop:=fun av=>match av with
 | [.va (.gs r),.va (.gs q)]=>GC r/\tQ q/\(C.vv q).k=6
 | _=>False
theorem rM {av:List S} (h:FL av):∃ (u:St) (v:Vl),av=[.va (.gs (aR u)),.va (.gs (a8 v))]/\u.ok/\(∀ f ∈ u.fs,TySm f.ty)/\VlOk v/\v.k=6:=by
 unfold FL at h
 split at h
 · obtain ⟨⟨u,rfl,h1,h2⟩,⟨v,rfl,h3⟩,h4⟩:=h
   rw [lX] at h4
   exact ⟨u,v,rfl,h1,h2,h3,h4⟩
 · exact h.elim
noncomputable def YU:List S->A:=fun av=>match av with
 | [.va (.gs r),.va (.gs q)]=>bA (dI (C.st r).fs (C.vv q).f)
 | _=>.gs []
noncomputable def s9Fn:Fun:=⟨FL,YU,fun av h=>by obtain ⟨_,_,rfl,_⟩:=rM h; trivial⟩
attribute [go_sem] s9Fn FL YU
theorem aAS (l:List (Int × Vl)) (k:Int):(sD l k).isSome=lB l k:=by
 unfold sD lB
 rw [Bool.eq_iff_iff,List.find?_isSome,List.any_eq_true]
 simp
theorem TP {α:Type} {l:List α} {i:Nat} {x:α} (h:l[i]? = some x) (p:α->Bool):(l.drop i).all p=(p x && (l.drop (i + 1)).all p):=by
 obtain ⟨h1,h2⟩:=bC.1 h
 subst h2
 rw [List.drop_eq_getElem_cons h1,List.all_cons]
theorem UG:Meets Tryz.prog 132 s9Fn.sp:=by
 refine aE Tryz.func132 aEB 2 (by rw [Tryz.ntmps132]; decide) (aB LL (aB aCB (aA _))) (fun av H K h=>by obtain ⟨_,_,rfl,_⟩:=rM h.1.1; rfl) ?_
 rintro av H K ⟨⟨h,rfl⟩,hK⟩
 obtain ⟨u,v,rfl,hu,hus,hv,hk6⟩:=rM h
 replace hK:K (bS (dI u.fs v.f)) []:=by
  have:s9Fn.val [.va (.gs (aR u)),.va (.gs (a8 v))]=bA (dI u.fs v.f):=by simp -dsimp only [go_sem]
  rw [this] at hK; exact hK
 clear h
 have fin:∀ (b:Bool) (R:Hp),dI u.fs v.f=b->W.Fin 0 K (bS b) R:=fun b R h=>by
  rw [h] at hK; exact .sel [] (by simp) (by simp) rfl (.done (by simpa [go_sem] using hK))
 clear hK
 have hfl:=hu.len
 have hll:=hv.lf
 generalize hR:u.fs.all (fun f=>f.opt || lB v.f f.num)=R2
 have hF:dI u.fs v.f=(ftA u.fs none v.f && R2):=by rw [<-hR]; rfl
 rw [hF] at fin
 generalize hR0:(ftA u.fs none v.f && R2)=R0 at fin
 clear hF
 simp (maxSteps:=1000000) -dsimp only [go_sem,aR,aM v,R9,QS]
 refine aK (α:=Nat) (fun i=>[(2,.va (.c1 (.pt 0 0))),(3,.va (.c1 (.pt 1 0))),(5,iS .i64 i)]) (fun _=>[.cells [.vl (.string u.nm),.fz (u.fs.map aY)] 95,.cells [.vl (.int .i64 v.k),.vl (.int .i64 v.n),.vl (.string v.s),.fz (v.l.map a8),.fz (v.f.map bH)] 32])
  (fun i=>i<=v.f.length/\(ftA u.fs (wG v.f i) (v.f.drop i) && R2)=R0) (fun i=>v.f.length - i) 0 2 ⟨Nat.zero_le _,hR0⟩ ?_ ?_ ?_
 · simp -dsimp only [go_sem]<;>simp
 · simp -dsimp only [go_sem]<;>simp
 rintro i ⟨hi,ho⟩
 rcases bF i v.f.length with hlt | hge
 · have hg:decide ((i:Int) < (v.f.length:Int))=true:=by simp; omega
   obtain ⟨x,hx⟩:∃ t,v.f[i]? = some t:=⟨_,a7 hlt⟩
   have q1:=oJ hx
   have hdr:v.f.drop i=x :: v.f.drop (i + 1):=by
    obtain ⟨h,rfl⟩:=bC.1 hx
    exact List.drop_eq_getElem_cons h
   have hpv:wG v.f (i + 1)=some x.1:=by rw [wG,hx]; rfl
   rw [hdr,wW,<-hpv] at ho
   simp (maxSteps:=1000000) -dsimp only [go_sem,hg,↓q1]
   refine ⟨by omega,qX hu hus ?_⟩
   cases hf:(fF u.fs x.1).isSome with
   | false=>
    rw [hf,Bool.false_and,Bool.false_and,Bool.false_and] at ho
    simp (maxSteps:=1000000) -dsimp only [go_sem,aY]
    refine aD rfl (.done ?_)
    simp (maxSteps:=1000000) -dsimp only [go_sem,lC,Bool.false_and]
    exact fin _ _ ho.symm
   | true=>
    rw [hf,Bool.true_and] at ho
    simp (maxSteps:=1000000) -dsimp only [go_sem,aY]
    refine aD rfl (.done ?_)
    cases hz:decide ((0:Int) < (i:Int)) with
    | false=>
     obtain rfl:i=0:=by have:=of_decide_eq_false hz; omega
     simp (maxSteps:=1000000) -dsimp only [go_sem,lC,hz]
     refine ⟨by omega,aC (0 + 1) 2 ⟨by omega,ho⟩ (by omega) ?_ ?_⟩
     · simp -dsimp only [go_sem]<;>simp
     · simp -dsimp only [go_sem]<;>simp
    | true=>
     have hz':=of_decide_eq_true hz
     obtain ⟨y,hy⟩:∃ t,v.f[i - 1]? = some t:=⟨_,a7 (by omega)⟩
     have hti:((i:Int) - 1).toNat=i - 1:=by omega
     have q2:=fun p=>H3 (n:=(i:Int) - 1) (x:=y) (by rw [hti]; exact hy) p
     have hpi:wG v.f i=some y.1:=by
      match i,hz',hy with
      | j + 1,_,hy=>rw [wG]; rw [show j + 1 - 1=j by omega] at hy; rw [hy]; rfl
     rw [hpi,YL] at ho
     have f1:(0<=(i:Int) - 1)=True:=eq_true (by omega)
     have f2:((i:Int) - 1 < (v.f.length:Int))=True:=eq_true (by omega)
     cases hc:decide (x.1<=y.1) with
     | true=>
      have:decide (y.1 < x.1)=false:=by have:=of_decide_eq_true hc; simp; omega
      rw [this] at ho
      simp (maxSteps:=1000000) -dsimp only [go_sem,lC,hz,↓q1,↓q2,hc,f1,f2]
      exact ⟨⟨by omega,by omega⟩,⟨by omega,by omega⟩,fin _ _ ho.symm⟩
     | false=>
      have:decide (y.1 < x.1)=true:=by have:=of_decide_eq_false hc; simp; omega
      rw [this,Bool.true_and] at ho
      simp (maxSteps:=1000000) -dsimp only [go_sem,lC,hz,↓q1,↓q2,hc,f1,f2]
      refine ⟨⟨by omega,by omega⟩,⟨by omega,by omega⟩,⟨by omega,by omega⟩,aC (i + 1) 2 ⟨by omega,ho⟩ (by omega) ?_ ?_⟩
      · simp -dsimp only [go_sem]<;>simp
      · simp -dsimp only [go_sem]<;>simp
 · have hg:decide ((i:Int) < (v.f.length:Int))=false:=by simp; omega
   obtain rfl:i=v.f.length:=by omega
   rw [List.drop_length,CO,Bool.true_and] at ho
   simp (maxSteps:=1000000) -dsimp only [go_sem,hg]
   clear hi hge hg hR0
   rw [<-hR] at ho
   refine aK (α:=Nat) (fun i=>[(2,.va (.c1 (.pt 0 0))),(3,.va (.c1 (.pt 1 0))),(8,iS .i64 i)]) (fun _=>[.cells [.vl (.string u.nm),.fz (u.fs.map aY)] 95,.cells [.vl (.int .i64 v.k),.vl (.int .i64 v.n),.vl (.string v.s),.fz (v.l.map a8),.fz (v.f.map bH)] 32])
    (fun i=>i<=u.fs.length/\((u.fs.drop i).all fun f=>f.opt || lB v.f f.num)=R0) (fun i=>u.fs.length - i) 0 2 ⟨Nat.zero_le _,ho⟩ ?_ ?_ ?_
   · simp -dsimp only [go_sem]<;>simp
   · simp -dsimp only [go_sem]<;>simp
   clear ho
   rintro i ⟨hi,ho⟩
   rcases bF i u.fs.length with hlt | hge
   · have hg:decide ((i:Int) < (u.fs.length:Int))=true:=by simp; omega
     obtain ⟨f,hx⟩:∃ t,u.fs[i]? = some t:=⟨_,a7 hlt⟩
     have q1:=aV (row:=aY) hx
     rw [TP hx,<-aAS] at ho
     simp (maxSteps:=1000000) -dsimp only [go_sem,hg,↓q1,aY]
     refine ⟨by omega,aFX hv hk6 ?_⟩
     generalize ((sD v.f f.num).map (·.2)).getD default=w
     cases h1:(sD v.f f.num).isSome with
     | true=>
      rw [h1,Bool.or_true,Bool.true_and] at ho
      simp (maxSteps:=1000000) -dsimp only [go_sem,aM w]
      refine aD rfl (.done ?_)
      simp (maxSteps:=1000000) -dsimp only [go_sem,l9]
      refine ⟨by omega,aC (i + 1) 2 ⟨by omega,ho⟩ (by omega) ?_ ?_⟩
      · simp -dsimp only [go_sem]<;>simp
      · simp -dsimp only [go_sem]<;>simp
     | false=>
      rw [h1,Bool.or_false] at ho
      cases h2:f.opt with
      | true=>
       rw [h2,Bool.true_and] at ho
       simp (maxSteps:=1000000) -dsimp only [go_sem,aM w]
       refine aD rfl (.done ?_)
       simp (maxSteps:=1000000) -dsimp only [go_sem,l9,↓q1,aY,h2]
       refine ⟨⟨by omega,by omega⟩,by omega,aC (i + 1) 2 ⟨by omega,ho⟩ (by omega) ?_ ?_⟩
       · simp -dsimp only [go_sem]<;>simp
       · simp -dsimp only [go_sem]<;>simp
      | false=>
       rw [h2,Bool.false_and] at ho
       simp (maxSteps:=1000000) -dsimp only [go_sem,aM w]
       refine aD rfl (.done ?_)
       simp (maxSteps:=1000000) -dsimp only [go_sem,l9,↓q1,aY,h2]
       exact ⟨⟨by omega,by omega⟩,fin _ _ ho.symm⟩
   · have hg:decide ((i:Int) < (u.fs.length:Int))=false:=by simp; omega
     obtain rfl:i=u.fs.length:=by omega
     rw [List.drop_length] at ho
     simp (maxSteps:=1000000) -dsimp only [go_sem,hg]
     exact fin _ _ ho.symm
def DL (v:Vl):Bool:=(v.k != 4 && !(bl v.s == [])) || (v.k != 5 && decide (0 < (v.l.length:Int))) || (v.k != 6 && decide (0 < (v.f.length:Int)))
def JE (v:Vl):Bool:=(v.k == 4 || v.k == 5 || v.k == 6) && v.n != 0
def jE (s:Sc) (t:Ty) (v:Vl):Bool:=bif !(valF s.ss s.es t) || v.k != t.k || DL v then false else bif JE v then false else bif v.k != 6 then true else dI (stOf s t).fs v.f
theorem VM {s:Sc} (hs:s.fit) (t:Ty):GC (aR (stOf s t)):=JO hs t.n
theorem aAK:Meets Tryz.prog 110 (eL (fun _ _ _=>True) fun s t v=>.bool (jE s t v)).sp:=by
 refine aE Tryz.func110 aIA 3 (by rw [Tryz.ntmps110]; decide) (aG v6 (aB HD (aG UG (aA _)))) gK ?_
 intro av H K h
 obtain ⟨s,t,v,rfl,rfl,hs,ht,hv,_,hK⟩:=eW h
 clear h
 have fin:∀ (b:Bool) (R:Hp),jE s t v=b->W.Fin 0 K (bS b) R:=fun b R h=>by
  rw [h] at hK; exact .sel [] (by simp) (by simp) rfl (.done (by simpa [go_sem] using hK))
 clear hK
 unfold jE at fin
 have k1:=dB hv
 have k2:=gW v
 have k4:=eJ ht
 have k5:=iV t
 have k6:=fV hs
 have k7:=jS s
 have e:∀ (a b:Bool),(a=true->b=true)->True:=fun _ _ _=>trivial
 clear e
 have tail7:(v.k == 6)=true->(∀ (b:Bool) (R:Hp),dI (stOf s t).fs v.f=b->W.Fin 0 K (bS b) R)->vc [(32,.f r0Fn),(112,.s kR),(132,.f s9Fn)] 0 pcN110_7.ungh
  (dS [(3,.va (.c1 (.pt 0 0))),(4,.va (.c1 (.pt 1 0))),(5,.va (.c1 (.pt 2 0)))]) [.cells [.vl (.int .i64 s.ver),.fz (s.es.map bG),.fz (s.ss.map aR)] 25,.cells [.vl (.int .i64 t.k),.vl (.int .i64 t.s),.vl (.string t.n),.fz (t.e.map aQ)] 28,.cells [.vl (.int .i64 v.k),.vl (.int .i64 v.n),.vl (.string v.s),.fz (v.l.map a8),.fz (v.f.map bH)] 32] (f7 0 kQ K):=fun h6 fin=>by
  have hk6:v.k=6:=eq_of_beq h6
  have u1:=VM hs t
  have u2:C.st (aR (stOf s t))=stOf s t:=QM _
  simp (maxSteps:=1000000) -dsimp only [go_sem,pcN110_7,kQ]
  refine iR hs ?_
  rw [show (fS s.ss t.n).getD default=stOf s t from rfl]
  generalize stOf s t=u at *
  unfold aR at u1 u2
  simp (maxSteps:=1000000) -dsimp only [go_sem,aR]
  refine aD rfl (.done ?_)
  simp (maxSteps:=1000000) -dsimp only [go_sem,w8,k1,k2,u1,u2]
  exact ⟨hk6,fin _ _ rfl⟩
 have tail3:(∀ (b:Bool) (R:Hp),(bif JE v then false else bif v.k != 6 then true else dI (stOf s t).fs v.f)=b->W.Fin 0 K (bS b) R)->vc [(32,.f r0Fn),(112,.s kR),(132,.f s9Fn)] 0 pcN110_3.ungh
  (dS [(3,.va (.c1 (.pt 0 0))),(4,.va (.c1 (.pt 1 0))),(5,.va (.c1 (.pt 2 0)))]) [.cells [.vl (.int .i64 s.ver),.fz (s.es.map bG),.fz (s.ss.map aR)] 25,.cells [.vl (.int .i64 t.k),.vl (.int .i64 t.s),.vl (.string t.n),.fz (t.e.map aQ)] 28,.cells [.vl (.int .i64 v.k),.vl (.int .i64 v.n),.vl (.string v.s),.fz (v.l.map a8),.fz (v.f.map bH)] 32] (f7 0 kQ K):=fun fin=>by
  unfold JE at fin
  cases b4:v.k == 4<;>cases b5:v.k == 5<;>cases b6:v.k == 6<;>cases bn:v.n != 0<;>rw [b4,b5,b6,bn] at fin <;>
  · simp (maxSteps:=1000000) -dsimp only [go_sem,pcN110_3,kQ,b4,b5,b6,bn]
    first
     | exact fin false _ rfl
     | (refine aD rfl (.done ?_)
        have c6:(v.k != 6)=!(v.k == 6):=rfl
        rw [b6] at c6
        simp (maxSteps:=1000000) -dsimp only [go_sem,xI,c6,Bool.not_false,Bool.not_true]
        first
         | exact fin true _ (by rw [c6]; rfl)
         | (refine b8 3 (tail7 b6 fun b R h=>fin b R (by rw [c6]; exact h)) ?_ ?_
            · simp -dsimp only [go_sem]<;>simp
            · simp -dsimp only [go_sem]<;>simp))
 cases h1:valF s.ss s.es t with
 | false=>
  rw [h1] at fin
  simp (maxSteps:=1000000) -dsimp only [go_sem,aF,aJ t,aM v,tY,kQ,k4,k5,k6,k7,h1,Bool.not_false]
  exact fin false _ rfl
 | true=>
 cases h2:v.k != t.k with
 | true=>
  rw [h1,h2] at fin
  simp (maxSteps:=1000000) -dsimp only [go_sem,aF,aJ t,aM v,tY,kQ,k4,k5,k6,k7,h1,h2,Bool.not_true]
  exact fin false _ rfl
 | false=>
 rw [h1,h2,Bool.not_true,Bool.false_or,Bool.false_or] at fin
 have hA:∀ b:Bool,DL v=b->((v.k != 4 && !(bl v.s == [])) || (v.k != 5 && decide (0 < (v.l.length:Int))) || (v.k != 6 && decide (0 < (v.f.length:Int))))=b:=fun b h=>h
 cases hA':DL v with
 | true=>
  have hA:=hA true hA'
  rw [hA'] at fin
  cases a1:v.k != 4<;>cases a2:bl v.s == []<;>cases a3:v.k != 5<;>cases a4:decide (0 < (v.l.length:Int))<;>cases a5:v.k != 6<;>cases a6:decide (0 < (v.f.length:Int)) <;>
  first
   | (exfalso; rw [a1,a2,a3,a4,a5,a6] at hA; exact absurd hA (by decide))
   | (simp (maxSteps:=1000000) -dsimp only [go_sem,aF,aJ t,aM v,tY,kQ,k4,k5,k6,k7,h1,h2,a1,a2,a3,a4,a5,a6,Bool.not_true,Bool.false_and]
      exact fin false _ rfl)
 | false=>
  have hA:=hA false hA'
  rw [hA',aH] at fin
  cases a1:v.k != 4<;>cases a2:bl v.s == []<;>cases a3:v.k != 5<;>cases a4:decide (0 < (v.l.length:Int))<;>cases a5:v.k != 6<;>cases a6:decide (0 < (v.f.length:Int)) <;>
  first
   | (exfalso; rw [a1,a2,a3,a4,a5,a6] at hA; exact absurd hA (by decide))
   | (simp (maxSteps:=1000000) -dsimp only [go_sem,aF,aJ t,aM v,tY,kQ,k4,k5,k6,k7,h1,h2,a1,a2,a3,a4,a5,a6,Bool.not_true,Bool.not_false,Bool.true_and,Bool.and_false]
      refine b8 3 (tail3 fin) ?_ ?_
      · simp -dsimp only [go_sem]<;>simp
      · simp -dsimp only [go_sem]<;>simp)
def rC:PC:=.seq (.gh (.reg [.v 105 14,.q 106 (.bin .neq true (.t 105) (.i 0))])) (.cond (.t 106) (.seq (.reg [.v 107 14,.v 6 107]) .ret) .skip)
@[go_sem ↓] theorem aLH:aT rC:=aU _
def rK:PC:=.seq (.gh (.reg [.l 95 (.ldn 3 (.t 3)),.q 96 (.fa 2 (.t 12)),.l 97 (.ldn 4 (.t 96)),.q 98 (.fa 4 (.t 5)),.l 99 (.ld1 (.t 98)),.v 100 11,.l 101 (.ia 6 (.t 99) (.t 100)),.q 102 (.fa 1 (.t 101)),.l 103 (.ldn 5 (.t 102)),.a 104 (.cq 67 [(.t 95),(.t 97),(.t 103)]),.v 14 104])) (rC)
@[go_sem ↓] theorem aK3:aT rK:=aU _
def xA:PC:=.seq (.seq (.gh (.reg [.q 11 (.mv (.i 0))])) (.block 2 (.loop (.seq (.seq (.reg [.v 77 11,.q 78 (.fa 4 (.t 5)),.l 79 (.ld1 (.t 78)),.q 80 (.lnL (.t 79)),.q 81 (.bin .lss true (.t 77) (.t 80))]) (.cond (.t 81) .skip (.exit 2))) (.seq (.block 3 (.seq (.ord  [.q (.l 85 (.ldn 2 (.t 9))),.q (.q 86 (.fa 4 (.t 5))),.q (.l 87 (.ld1 (.t 86))),.q (.v 88 11),.q (.l 89 (.ia 6 (.t 87) (.t 88))),.q (.q 90 (.fa 0 (.t 89))),.q (.l 91 (.ld1 (.t 90))),.m (.a 92 (.cl 113 [(.t 85),(.t 91)] [])),.q (.v 84 92),.q (.q 93 (.ex (.t 84) 0)),.q (.q 94 (.ex (.t 84) 1)),.m (.e 12 (.al (.agg #[(.int .i64 0),(.string (mk [])),(.int .i64 0),(.int .i64 0),(.string (mk [])),(.slice none 0 0),(.bool false)]) 97)),.rc (.v 84 92),.rc (.q 93 (.ex (.t 84) 0)),.rc (.q 94 (.ex (.t 84) 1)),.m (.s (.st 7 (.t 12) (.t 93))),.rc (.q 94 (.ex (.t 84) 1)),.m (.v 13 94)]) (rK))) (.reg [.v 82 11,.q 83 (.bin .add true (.t 82) (.i 1)),.v 11 83])))))) (.seq (.reg [.q 6 (.mv (.i 0))]) .ret)
@[go_sem ↓] theorem aK0:aT xA:=aU _
def wT:PC:=.seq (.gh (.reg [.l 71 (.ldn 3 (.t 3)),.q 72 (.fa 2 (.t 4)),.l 73 (.ld1 (.t 72)),.a 74 (.cl 112 [(.t 71),(.t 73)] []),.v 70 74,.q 75 (.ex (.t 70) 0),.q 76 (.ex (.t 70) 1),.e 9 (.al (.agg #[(.string (mk [])),(.slice none 0 0)]) 95),.s (.st 2 (.t 9) (.t 75)),.v 10 76])) (xA)
@[go_sem ↓] theorem aL4:aT wT:=aU _
def pcM67_7:PC:=.seq (.seq (.gh (.reg [.q 7 (.mv (.i 0))])) (.block 0 (.loop (.seq (.seq (.reg [.v 49 7,.q 50 (.fa 3 (.t 5)),.l 51 (.ld1 (.t 50)),.q 52 (.lnL (.t 51)),.q 53 (.bin .lss true (.t 49) (.t 52))]) (.cond (.t 53) .skip (.exit 0))) (.seq (.block 1 (.seq (.reg [.l 56 (.ldn 3 (.t 3)),.q 57 (.fa 3 (.t 4)),.l 58 (.ld1 (.t 57)),.l 59 (.ia 4 (.t 58) (.i 0)),.l 60 (.ldn 4 (.t 59)),.q 61 (.fa 3 (.t 5)),.l 62 (.ld1 (.t 61)),.v 63 7,.l 64 (.ia 5 (.t 62) (.t 63)),.l 65 (.ldn 5 (.t 64)),.a 66 (.cq 67 [(.t 56),(.t 60),(.t 65)]),.v 8 66]) (.seq (.reg [.v 67 8,.q 68 (.bin .neq true (.t 67) (.i 0))]) (.cond (.t 68) (.seq (.reg [.v 69 8,.v 6 69]) .ret) .skip)))) (.reg [.v 54 7,.q 55 (.bin .add true (.t 54) (.i 1)),.v 7 55])))))) (wT)
@[go_sem ↓] theorem aM7:aT pcM67_7:=aU _
def uK:PC:=.seq (.seq (.gh (.reg [.q 25 (.fa 0 (.t 4)),.l 26 (.ld1 (.t 25)),.q 27 (.bin .eql true (.t 26) (.i 4)),.v 28 27,⟨some 29,(some (28,true)),.q (.fa 2 (.t 5))⟩,⟨some 30,(some (28,true)),.l (.ld1 (.t 29))⟩,⟨some 31,(some (28,true)),.q (.lnS (.t 30))⟩,⟨some 32,(some (28,true)),.q (.fa 1 (.t 4))⟩,⟨some 33,(some (28,true)),.l (.ld1 (.t 32))⟩,⟨some 34,(some (28,true)),.q (.bin .gtr true (.t 31) (.t 33))⟩,.a 35 (.pick (.t 28) (.t 34) (.k (.bool false))),.v 36 35,⟨some 37,(some (36,false)),.q (.fa 0 (.t 4))⟩,⟨some 38,(some (36,false)),.l (.ld1 (.t 37))⟩,⟨some 39,(some (36,false)),.q (.bin .eql true (.t 38) (.i 5))⟩,⟨some 40,(some (36,false)),.q (.mv (.t 39))⟩,⟨some 41,(some (40,true)),.q (.fa 3 (.t 5))⟩,⟨some 42,(some (40,true)),.l (.ld1 (.t 41))⟩,⟨some 43,(some (40,true)),.q (.lnL (.t 42))⟩,⟨some 44,(some (40,true)),.q (.fa 1 (.t 4))⟩,⟨some 45,(some (40,true)),.l (.ld1 (.t 44))⟩,⟨some 46,(some (40,true)),.q (.bin .gtr true (.t 43) (.t 45))⟩,⟨some 47,(some (36,false)),.pick (.t 40) (.t 46) (.k (.bool false))⟩,.a 48 (.pick (.t 36) (.k (.bool true)) (.t 47))])) (.cond (.t 48) (.seq (.reg [.q 6 (.mv (.i 3))]) .ret) .skip)) (pcM67_7)
@[go_sem ↓] theorem aNC:aT uK:=aU _
def uS:PC:=.seq (.seq (.gh (.reg [.l 20 (.ldn 3 (.t 3)),.l 21 (.ldn 4 (.t 4)),.l 22 (.ldn 5 (.t 5)),.a 23 (.cq 111 [(.t 20),(.t 21),(.t 22)]),.q 24 (.not (.t 23))])) (.cond (.t 24) (.seq (.reg [.q 6 (.mv (.i 4))]) .ret) .skip)) (uK)
@[go_sem ↓] theorem aNO:aT uS:=aU _
def OF:PC:=.seq (.reg [.e 3 (.bx 25 (.t 0)),.e 4 (.bx 28 (.t 1)),.e 5 (.bx 32 (.t 2)),.q 6 (.mv (.i 0))]) (.seq (.seq (.reg [.l 15 (.ldn 3 (.t 3)),.l 16 (.ldn 4 (.t 4)),.l 17 (.ldn 5 (.t 5)),.a 18 (.cq 110 [(.t 15),(.t 16),(.t 17)]),.q 19 (.not (.t 18))]) (.cond (.t 19) (.seq (.reg [.q 6 (.mv (.i 13))]) .ret) .skip)) (uS))
def A3:List RV:=[.mv (.t 6)]
theorem aME:aP Tryz.prog true ⟨fun r k=>if r=1/\k=3 then .q else if r=3/\k=3 then .q else if r=10/\k=10 then .q else if r=18/\k=9 then .q else .own [],fun r=>[3,5,7,13,14,18,19].contains r⟩ Tryz.f67=some (OF,A3):=by kernel_rfl
def w5:PC:=.seq (.gh (.reg [.q 28 (.fa 1 (.t 5)),.l 29 (.ld1 (.t 28)),.q 30 (.bin .eql true (.t 29) (.i 0)),.v 31 30,⟨some 32,(some (31,false)),.q (.fa 1 (.t 5))⟩,⟨some 33,(some (31,false)),.l (.ld1 (.t 32))⟩,⟨some 34,(some (31,false)),.q (.bin .eql true (.t 33) (.i 1))⟩,.a 35 (.pick (.t 31) (.k (.bool true)) (.t 34)),.v 6 35])) .ret
@[go_sem ↓] theorem aMA:aT w5:=aU _
def oA:PC:=.seq (.gh (.reg [.q 38 (.fa 1 (.t 4)),.l 39 (.ld1 (.t 38)),.q 40 (.bin .eql true (.t 39) (.i 64)),.v 41 40,⟨some 42,(some (41,false)),.q (.fa 1 (.t 5))⟩,⟨some 43,(some (41,false)),.l (.ld1 (.t 42))⟩,⟨some 44,(some (41,false)),.q (.mv (.t 7))⟩,⟨some 45,(some (41,false)),.q (.bin .sub true (.i 0) (.t 44))⟩,⟨some 46,(some (41,false)),.q (.bin .geq true (.t 43) (.t 45))⟩,⟨some 47,(some (41,false)),.q (.mv (.t 46))⟩,⟨some 48,(some (47,true)),.q (.fa 1 (.t 5))⟩,⟨some 49,(some (47,true)),.l (.ld1 (.t 48))⟩,⟨some 50,(some (47,true)),.q (.mv (.t 7))⟩,⟨some 51,(some (47,true)),.q (.bin .lss true (.t 49) (.t 50))⟩,⟨some 52,(some (41,false)),.pick (.t 47) (.t 51) (.k (.bool false))⟩,.a 53 (.pick (.t 41) (.k (.bool true)) (.t 52)),.v 6 53])) .ret
@[go_sem ↓] theorem aJB:aT oA:=aU _
def uB:PC:=.seq (.gh (.reg [.q 56 (.fa 1 (.t 5)),.l 57 (.ld1 (.t 56)),.q 58 (.bin .geq true (.t 57) (.i 0)),.v 59 58,⟨some 60,(some (59,true)),.q (.fa 1 (.t 5))⟩,⟨some 61,(some (59,true)),.l (.ld1 (.t 60))⟩,⟨some 62,(some (59,true)),.q (.mv (.t 7))⟩,⟨some 63,(some (59,true)),.q (.bin .mul true (.i 2) (.t 62))⟩,⟨some 64,(some (59,true)),.q (.bin .lss true (.t 61) (.t 63))⟩,.a 65 (.pick (.t 59) (.t 64) (.k (.bool false))),.v 6 65])) .ret
@[go_sem ↓] theorem aI8:aT uB:=aU _
def sT:PC:=.seq (.gh (.reg [.l 69 (.ldn 3 (.t 3)),.q 70 (.fa 2 (.t 4)),.l 71 (.ld1 (.t 70)),.a 72 (.cl 133 [(.t 69),(.t 71)] []),.v 68 72,.q 73 (.ex (.t 68) 0),.q 74 (.ex (.t 68) 1),.e 9 (.al (.agg #[(.string (mk [])),(.slice none 0 0),(.slice none 0 0)]) 92),.s (.st 3 (.t 9) (.t 73)),.v 10 74])) (.seq (.seq (.reg [.q 11 (.mv (.i 0))]) (.block 3 (.loop (.seq (.seq (.reg [.v 75 11,.q 76 (.fa 2 (.t 9)),.l 77 (.ld1 (.t 76)),.q 78 (.lnL (.t 77)),.q 79 (.bin .lss true (.t 75) (.t 78))]) (.cond (.t 79) .skip (.exit 3))) (.seq (.block 4 (.seq (.reg [.q 82 (.fa 2 (.t 9)),.l 83 (.ld1 (.t 82)),.v 84 11,.l 85 (.ia 1 (.t 83) (.t 84)),.l 86 (.ld1 (.t 85)),.q 87 (.fa 1 (.t 5)),.l 88 (.ld1 (.t 87)),.q 89 (.bin .eql true (.t 86) (.t 88))]) (.cond (.t 89) (.seq (.reg [.q 6 (.mv (.k (.bool true)))]) .ret) .skip))) (.reg [.v 80 11,.q 81 (.bin .add true (.t 80) (.i 1)),.v 11 81])))))) (.seq (.reg [.q 6 (.mv (.k (.bool false)))]) .ret))
@[go_sem ↓] theorem aJA:aT sT:=aU _
def pcM111_6:PC:=.seq (.seq (.gh (.reg [.q 24 (.fa 0 (.t 4)),.l 25 (.ld1 (.t 24))])) (.block 2 (.seq (.reg [.q 27 (.bin .eql true (.t 25) (.i 1)),.v 26 27]) (.cond (.t 26) (w5) (.seq (.reg [.q 37 (.bin .eql true (.t 25) (.i 2)),.v 36 37]) (.cond (.t 36) (oA) (.seq (.reg [.q 55 (.bin .eql true (.t 25) (.i 3)),.v 54 55]) (.cond (.t 54) (uB) (.seq (.reg [.q 67 (.bin .eql true (.t 25) (.i 7)),.v 66 67]) (.cond (.t 66) (sT) .skip)))))))))) (.seq (.reg [.q 6 (.mv (.k (.bool true)))]) .ret)
@[go_sem ↓] theorem aKK:aT pcM111_6:=aU _
def SC:PC:=.seq (.reg [.e 3 (.bx 25 (.t 0)),.e 4 (.bx 28 (.t 1)),.e 5 (.bx 32 (.t 2)),.q 6 (.mv (.k (.bool false)))]) (.seq (.reg [.q 7 (.mv (.i 1))]) (.seq (.seq (.reg [.q 8 (.mv (.i 1))]) (.block 0 (.loop (.seq (.seq (.reg [.v 12 8,.q 13 (.fa 1 (.t 4)),.l 14 (.ld1 (.t 13)),.q 15 (.bin .lss true (.t 12) (.t 14)),.v 16 15,⟨some 17,(some (16,true)),.q (.mv (.t 8))⟩,⟨some 18,(some (16,true)),.q (.bin .lss true (.t 17) (.i 63))⟩,.a 19 (.pick (.t 16) (.t 18) (.k (.bool false)))]) (.cond (.t 19) .skip (.exit 0))) (.seq (.block 1 (.reg [.v 22 7,.q 23 (.bin .mul true (.i 2) (.t 22)),.v 7 23])) (.reg [.v 20 8,.q 21 (.bin .add true (.t 20) (.i 1)),.v 8 21])))))) (pcM111_6)))
def mA:List RV:=[.mv (.t 6)]
theorem aEH:aP Tryz.prog true ⟨fun _ _=>.own [],fun r=>[6,8,10,12,14].contains r⟩ Tryz.f111=some (SC,mA):=by kernel_rfl
def oQ (i:Nat):Int:=2 ^ (i - 1)
theorem L9 {i:Nat} (h:1<=i):2 * oQ i=oQ (i + 1):=by
 unfold oQ
 obtain ⟨j,rfl⟩:∃ j,i=j + 1:=⟨i - 1,by omega⟩
 rw [Nat.add_sub_cancel,Nat.add_sub_cancel,Int.pow_succ,Int.mul_comm]
theorem OD {i:Nat} (h:i<=63):1<=oQ i/\oQ i<=4611686018427387904:=by
 unfold oQ
 have h1:(2:Nat) ^ (i - 1)<=2 ^ 62:=Nat.pow_le_pow_right (by decide) (by omega)
 have h2:1<=(2:Nat) ^ (i - 1):=Nat.one_le_two_pow
 have e:((2:Int) ^ (i - 1))=(((2:Nat) ^ (i - 1):Nat):Int):=by rw [Int.natCast_pow]; rfl
 rw [e]
 have:(2:Nat) ^ 62=4611686018427387904:=by decide
 omega
theorem va2 {ss:List St} {es:List En} {t:Ty} (h:valF ss es t=true) (hk:(t.k == 2)=true):t.s=8\/t.s=16\/t.s=32\/t.s=64:=by
 obtain ⟨k,s,n,e⟩:=t
 have hk:k=2:=eq_of_beq hk
 subst hk
 rw [valF] at h
 simp at h
 show s=8\/s=16\/s=32\/s=64
 omega
theorem va3 {ss:List St} {es:List En} {t:Ty} (h:valF ss es t=true) (hk:(t.k == 3)=true):t.s=8\/t.s=16\/t.s=32:=by
 obtain ⟨k,s,n,e⟩:=t
 have hk:k=3:=eq_of_beq hk
 subst hk
 rw [valF] at h
 simp at h
 show s=8\/s=16\/s=32
 omega
def nY (s:Sc) (t:Ty) (n:Int):Bool:=
 bif t.k == 1 then n == 0 || n == 1
 else bif t.k == 2 then t.s == 64 || (decide (-(2 ^ (t.s.toNat - 1):Int)<=n) && decide (n < (2 ^ (t.s.toNat - 1):Int)))
 else bif t.k == 3 then decide (0<=n) && decide (n < (2 ^ t.s.toNat:Int))
 else bif t.k == 7 then (enOf s t).vs.any fun x=>x == n else true
theorem UK:Meets Tryz.prog 111 (eL (fun s t _=>valF s.ss s.es t=true) fun s t v=>.bool (nY s t v.n)).sp:=by
 refine aE Tryz.func111 aEH 3 (by rw [Tryz.ntmps111]; decide) (aB aGK (aA _)) gK ?_
 intro av H K h
 obtain ⟨s,t,v,rfl,rfl,hs,ht,hv,hp,hK⟩:=eW h
 clear h
 have fin:∀ (b:Bool) (R:Hp),nY s t v.n=b->W.Fin 0 K (bS b) R:=fun b R h=>by
  rw [h] at hK; exact .sel [] (by simp) (by simp) rfl (.done (by simpa [go_sem] using hK))
 clear hK
 unfold nY at fin
 have hts:=ht.s
 have hts1:=hts.1
 have hts2:=hts.2
 have he:=L4 hs t
 have tail:∀ i:Nat,i<=63->(i=1\/(i:Int)<=t.s)->(t.s<=(i:Int)\/i=63)->vc [(133,.s qW)] 0 pcM111_6.ungh
  (dS [(3,.va (.c1 (.pt 0 0))),(4,.va (.c1 (.pt 1 0))),(5,.va (.c1 (.pt 2 0))),(7,iS .i64 (oQ i))]) [.cells [.vl (.int .i64 s.ver),.fz (s.es.map bG),.fz (s.ss.map aR)] 25,.cells [.vl (.int .i64 t.k),.vl (.int .i64 t.s),.vl (.string t.n),.fz (t.e.map aQ)] 28,.cells [.vl (.int .i64 v.k),.vl (.int .i64 v.n),.vl (.string v.s),.fz (v.l.map a8),.fz (v.f.map bH)] 32] (f7 0 mA K):=fun i hi2 hi3 hi4=>by
  have hb:=OD hi2
  have hsz:2<=t.s->t.s<=63->oQ i=2 ^ (t.s.toNat - 1)/\2 * oQ i=2 ^ t.s.toNat:=fun h1 h2=>by
   have e:i=t.s.toNat:=by omega
   refine ⟨by rw [e]; rfl,?_⟩
   rw [L9 (by omega),e]; rfl
  cases h1:t.k == 1 with
  | true=>
   rw [h1,aN] at fin
   cases n0:v.n == 0<;>cases n1:v.n == 1<;>rw [n0,n1] at fin <;>
   · simp (maxSteps:=1000000) -dsimp only [go_sem,pcM111_6,mA,h1]
     refine aD rfl (.done ?_)
     simp (maxSteps:=1000000) -dsimp only [go_sem,w5,n0,n1]
     exact fin _ _ rfl
  | false=>
  cases h2:t.k == 2 with
  | true=>
   rw [h1,h2,aH,aN] at fin
   simp (maxSteps:=1000000) -dsimp only [go_sem,pcM111_6,mA,h1,h2]
   refine aD rfl (.done ?_)
   have hs:=va2 hp h2
   cases c64:t.s == 64 with
   | true=>
    rw [c64,Bool.true_or] at fin
    simp (maxSteps:=1000000) -dsimp only [go_sem,oA,c64]
    exact fin _ _ rfl
   | false=>
    have hne:t.s ≠ 64:=by simpa using c64
    rw [c64,Bool.false_or,<-(hsz (by omega) (by omega)).1] at fin
    generalize oQ i=hh at *
    cases d1:decide (0 - hh<=v.n)<;>cases d2:decide (v.n < hh) <;>
    · have d1':decide (-hh<=v.n)=decide (0 - hh<=v.n):=by rw [Int.zero_sub]
      rw [d1',d1,d2] at fin
      simp (maxSteps:=1000000) -dsimp only [go_sem,oA,c64,d1,d2]
      exact ⟨⟨by omega,by omega⟩,fin _ _ rfl⟩
  | false=>
  cases h3:t.k == 3 with
  | true=>
   rw [h1,h2,h3,aH,aH,aN] at fin
   simp (maxSteps:=1000000) -dsimp only [go_sem,pcM111_6,mA,h1,h2,h3]
   refine aD rfl (.done ?_)
   have hs:=va3 hp h3
   have hb3:2 * oQ i<=4294967296:=by rw [(hsz (by omega) (by omega)).2]; rcases hs with h | h | h<;>rw [h]<;>decide
   rw [<-(hsz (by omega) (by omega)).2] at fin
   generalize oQ i=hh at *
   cases d1:decide (0<=v.n)<;>cases d2:decide (v.n < 2 * hh)<;>rw [d1,d2] at fin <;>
   · simp (maxSteps:=1000000) -dsimp only [go_sem,uB,d1,d2]
     first
      | exact fin _ _ rfl
      | exact ⟨⟨by omega,by omega⟩,fin _ _ rfl⟩
  | false=>
  cases h7:t.k == 7 with
  | false=>
   rw [h1,h2,h3,h7,aH,aH,aH,aH] at fin
   simp (maxSteps:=1000000) -dsimp only [go_sem,pcM111_6,mA,h1,h2,h3,h7]
   exact fin _ _ rfl
  | true=>
   rw [h1,h2,h3,h7,aH,aH,aH,aN] at fin
   simp (maxSteps:=1000000) -dsimp only [go_sem,pcM111_6,mA,h1,h2,h3,h7]
   refine aD rfl (.done ?_)
   simp (maxSteps:=1000000) -dsimp only [go_sem,sT]
   refine kC hs ?_
   rw [show (dJ s.es t.n).getD default=enOf s t from rfl]
   generalize enOf s t=e at *
   simp (maxSteps:=1000000) -dsimp only [go_sem,bG]
   have hel:=he.lv
   refine aK (α:=Nat) (fun i=>[(5,.va (.c1 (.pt 2 0))),(9,.va (.c1 (.pt 3 0))),(11,iS .i64 i)]) (fun _=>[.cells [.vl (.int .i64 s.ver),.fz (s.es.map bG),.fz (s.ss.map aR)] 25,.cells [.vl (.int .i64 t.k),.vl (.int .i64 t.s),.vl (.string t.n),.fz (t.e.map aQ)] 28,.cells [.vl (.int .i64 v.k),.vl (.int .i64 v.n),.vl (.string v.s),.fz (v.l.map a8),.fz (v.f.map bH)] 32,.cells [.vl (.string e.nm),.fz (e.ns.map bM),.fz (e.vs.map cH)] 92])
    (fun i=>i<=e.vs.length/\((e.vs.drop i).any fun x=>x == v.n)=(e.vs.any fun x=>x == v.n)) (fun i=>e.vs.length - i) 0 4 ⟨Nat.zero_le _,rfl⟩ ?_ ?_ ?_
   · simp -dsimp only [go_sem]<;>simp
   · simp -dsimp only [go_sem]<;>simp
   rintro j ⟨hj,ho⟩
   rcases bF j e.vs.length with hlt | hge
   · have hg:decide ((j:Int) < (e.vs.length:Int))=true:=by simp; omega
     have hx:e.vs[j]? = some e.vs[j]:=a7 hlt
     have q2:=aV (row:=cH) hx
     rw [List.drop_eq_getElem_cons hlt,List.any_cons] at ho
     generalize e.vs[j]=m at *
     cases hc:m == v.n with
     | true=>
      rw [hc,Bool.true_or] at ho
      simp (maxSteps:=1000000) -dsimp only [go_sem,hg,↓q2,hc]
      exact ⟨⟨by omega,by omega⟩,fin _ _ ho.symm⟩
     | false=>
      rw [hc,Bool.false_or] at ho
      simp (maxSteps:=1000000) -dsimp only [go_sem,hg,↓q2,hc]
      refine ⟨⟨by omega,by omega⟩,⟨by omega,by omega⟩,aC (j + 1) 4 ⟨by omega,ho⟩ (by omega) ?_ ?_⟩
      · simp -dsimp only [go_sem]<;>simp
      · simp -dsimp only [go_sem]<;>simp
   · have hg:decide ((j:Int) < (e.vs.length:Int))=false:=by simp; omega
     have:e.vs.drop j=[]:=List.drop_eq_nil_iff.2 (by omega)
     rw [this,List.any_nil] at ho
     simp (maxSteps:=1000000) -dsimp only [go_sem,hg]
     exact fin _ _ ho.symm
 simp (maxSteps:=1000000) -dsimp only [go_sem,aF,aJ t,aM v,SC,mA]
 refine aK (α:=Nat) (fun i=>[(3,.va (.c1 (.pt 0 0))),(4,.va (.c1 (.pt 1 0))),(5,.va (.c1 (.pt 2 0))),(7,iS .i64 (oQ i)),(8,iS .i64 i)]) (fun _=>[.cells [.vl (.int .i64 s.ver),.fz (s.es.map bG),.fz (s.ss.map aR)] 25,.cells [.vl (.int .i64 t.k),.vl (.int .i64 t.s),.vl (.string t.n),.fz (t.e.map aQ)] 28,.cells [.vl (.int .i64 v.k),.vl (.int .i64 v.n),.vl (.string v.s),.fz (v.l.map a8),.fz (v.f.map bH)] 32])
  (fun i=>1<=i/\i<=63/\(i=1\/(i:Int)<=t.s)) (fun i=>63 - i) 1 3 ⟨by omega,by omega,.inl rfl⟩ ?_ ?_ ?_
 · simp -dsimp only [go_sem]<;>simp [oQ]
 · simp -dsimp only [go_sem]<;>simp
 rintro i ⟨hi1,hi2,hi3⟩
 have hb:=OD hi2
 cases hg:decide ((i:Int) < t.s) && decide ((i:Int) < 63) with
 | true=>
  obtain ⟨g1,g2⟩:decide ((i:Int) < t.s)=true/\decide ((i:Int) < 63)=true:=by simpa only [Bool.and_eq_true] using hg
  have hsu:=L9 hi1
  have h1:=of_decide_eq_true g1
  have h2:=of_decide_eq_true g2
  have hb2:=OD (i:=i + 1) (by omega)
  simp (maxSteps:=1000000) -dsimp only [go_sem,g1,g2]
  refine ⟨⟨by omega,by omega⟩,⟨by omega,by omega⟩,aC (i + 1) 3 ⟨by omega,by omega,.inr (by omega)⟩ (by omega) ?_ ?_⟩
  · simp -dsimp only [go_sem,hsu]<;>simp
  · simp -dsimp only [go_sem]<;>simp
 | false=>
  have hg':(decide ((i:Int) < t.s)=false)\/(decide ((i:Int) < t.s)=true/\decide ((i:Int) < 63)=false):=by
   cases h:decide ((i:Int) < t.s) with
   | false=>exact .inl rfl
   | true=>rw [h,Bool.true_and] at hg; exact .inr ⟨rfl,hg⟩
  rcases hg' with g1 | ⟨g1,g2⟩
  · simp (maxSteps:=1000000) -dsimp only [go_sem,g1]
    refine b8 3 (tail i hi2 hi3 (.inl (by have:=of_decide_eq_false g1; omega))) ?_ ?_
    · simp -dsimp only [go_sem]<;>simp
    · simp -dsimp only [go_sem]<;>simp
  · simp (maxSteps:=1000000) -dsimp only [go_sem,g1,g2]
    refine b8 3 (tail i hi2 hi3 (.inr (by have:=of_decide_eq_false g2; omega))) ?_ ?_
    · simp -dsimp only [go_sem]<;>simp
    · simp -dsimp only [go_sem]<;>simp
def GJ (t:Ty) (a b:Int):Bool:=(t.k == 4 && decide (t.s < a)) || (t.k == 5 && decide (t.s < b))
mutual
def oN (s:Sc) (t:Ty):Vl->Int
 | .mk k n str l f=>bif !(jE s t (.mk k n str l f)) then 13 else bif !(nY s t n) then 4 else bif GJ t (bl str).length l.length then 3
  else bif mB s (t.e.headD default) l != 0 then mB s (t.e.headD default) l else nH s (stOf s t) f
def mB (s:Sc) (t:Ty):List Vl->Int
 | []=>0
 | v :: r=>bif oN s t v != 0 then oN s t v else mB s t r
def nH (s:Sc) (u:St):List (Int × Vl)->Int
 | []=>0
 | (i,v) :: r=>bif oN s (gN u i).ty v != 0 then oN s (gN u i).ty v else nH s u r
end
theorem n7 {α:Type} {l:List α} (h:decide (0 < (l.length:Int))=false):l=[]:=by
 have:=of_decide_eq_false h
 exact List.length_eq_zero_iff.1 (by omega)
theorem aH6 {s:Sc} {t:Ty} {n:Int} (hp:valF s.ss s.es t=true) (h4:(t.k == 4)=false) (h5:(t.k == 5)=false) (h6:(t.k == 6)=false):nY s t n=EQ s t n:=by
 unfold nY EQ
 cases h1:t.k == 1 with
 | true=>rfl
 | false=>
 cases h2:t.k == 2 with
 | true=>rfl
 | false=>
 cases h3:t.k == 3 with
 | true=>rfl
 | false=>
 cases h7:t.k == 7 with
 | true=>rfl
 | false=>
  exfalso
  obtain ⟨k,sz,nm,e⟩:=t
  have h1:(k == 1)=false:=h1
  have h2:(k == 2)=false:=h2
  have h3:(k == 3)=false:=h3
  have h4:(k == 4)=false:=h4
  have h5:(k == 5)=false:=h5
  have h6:(k == 6)=false:=h6
  have h7:(k == 7)=false:=h7
  rw [valF,h1,h2,h3,h4,h5,h6,h7] at hp
  cases hp
mutual
theorem HY (s:Sc) (t:Ty):∀ v:Vl,oN s t v=jQ s t v
 | .mk k n str l f=>by
  have hL:∀ u,mB s u l=kV s u l:=fun u=>RC s u l
  have hE:nH s (stOf s t) f=kF s ((fS s.ss t.n).getD default).fs f:=RI s (stOf s t) f
  rw [oN,jQ,hL,hE]
  unfold jE
  cases hp:valF s.ss s.es t with
  | false=>rfl
  | true=>
  show (bif !(bif !true || k != t.k || DL (.mk k n str l f) then false else bif JE (.mk k n str l f) then false else bif k != 6 then true else dI (stOf s t).fs f) then 13 else _)=_
  cases hk:k != t.k with
  | true=>rfl
  | false=>
  have hk':k=t.k:=by simpa using hk
  subst hk'
  have eA:DL (.mk t.k n str l f)=((t.k != 4 && !(bl str == [])) || (t.k != 5 && decide (0 < (l.length:Int))) || (t.k != 6 && decide (0 < (f.length:Int)))):=rfl
  have eB:JE (.mk t.k n str l f)=((t.k == 4 || t.k == 5 || t.k == 6) && n != 0):=rfl
  rw [eA,eB]
  unfold GJ
  cases h4:t.k == 4 with
  | true=>
   have e4:t.k=4:=eq_of_beq h4
   have er:nY s t n=true:=by unfold nY; rw [e4]; rfl
   rw [er,e4]
   unfold oE
   cases hn:n != 0<;>cases hl:decide (0 < (l.length:Int))<;>cases hf:decide (0 < (f.length:Int))<;>cases hs:decide (t.s < ((bl str).length:Int))<;>(try rw [n7 hl])<;>(try rw [n7 hf])<;>simp [kV,kF]
  | false=>
  cases h5:t.k == 5 with
  | true=>
   have e5:t.k=5:=eq_of_beq h5
   have er:nY s t n=true:=by unfold nY; rw [e5]; rfl
   rw [er,e5]
   generalize kV s (t.e.headD default) l=q
   have hq:(bif q != 0 then q else 0)=q:=by
    cases hz:q != 0 with
    | true=>rfl
    | false=>
     have hq0:q=0:=by simpa using hz
     rw [hq0]; rfl
   cases hn:n != 0<;>cases hb:bl str == []<;>cases hf:decide (0 < (f.length:Int))<;>cases hs:decide (t.s < (l.length:Int))<;>(try rw [n7 hf])<;>simp [kF,hq]
  | false=>
  cases h6:t.k == 6 with
  | true=>
   have e6:t.k=6:=eq_of_beq h6
   have er:nY s t n=true:=by unfold nY; rw [e6]; rfl
   have ef:(stOf s t).fs=((fS s.ss t.n).getD default).fs:=rfl
   rw [er,e6,ef]
   cases hn:n != 0<;>cases hb:bl str == []<;>cases hl:decide (0 < (l.length:Int))<;>cases hs:dI ((fS s.ss t.n).getD default).fs f<;>(try rw [n7 hl])<;>simp [kV]
  | false=>
   rw [aH6 hp h4 h5 h6]
   have c4:(t.k != 4)=true:=by rw [bne,h4]; rfl
   have c5:(t.k != 5)=true:=by rw [bne,h5]; rfl
   have c6:(t.k != 6)=true:=by rw [bne,h6]; rfl
   rw [c4,c5,c6]
   unfold oC
   cases hb:bl str == []<;>cases hl:decide (0 < (l.length:Int))<;>cases hf:decide (0 < (f.length:Int))<;>cases hr:EQ s t n<;>(try rw [n7 hl])<;>(try rw [n7 hf])<;>simp [kV,kF]
theorem RC (s:Sc) (t:Ty):∀ l:List Vl,mB s t l=kV s t l
 | []=>by rw [mB,kV]
 | v :: r=>by rw [mB,kV,HY s t v,RC s t r]
theorem RI (s:Sc) (u:St):∀ l:List (Int × Vl),nH s u l=kF s u.fs l
 | []=>by rw [nH,kF]
 | (i,v) :: r=>by
  rw [nH,kF,HY s (gN u i).ty v,RI s u r]; rfl
end
theorem aA7 (s:Sc) (t:Ty) (v:Vl):oN s t v=bif !(jE s t v) then 13 else bif !(nY s t v.n) then 4 else bif GJ t (bl v.s).length v.l.length then 3
 else bif mB s (t.e.headD default) v.l != 0 then mB s (t.e.headD default) v.l else nH s (stOf s t) v.f:=by cases v; rw [oN]; rfl
theorem LC:∀ N,Meets Tryz.prog 67 (eL (sJ N) fun s t v=>.int .i64 (oN s t v)).sp
 | 0=>⟨by kernel_rfl,by rintro xs vs E ro w K _ _ _ h; obtain ⟨_,_,v,_,_,_,_,_,h,_⟩:=eW h; have:=v.h_pos; have h:v.h<=0:=h; omega⟩
 | N + 1=>by
  refine aE Tryz.func67 aME 3 (by rw [Tryz.ntmps67]; decide) (aG aAK (aG UK (aG (LC N) (aB HD (aB LL (aA _)))))) gK ?_
  intro av H K h
  obtain ⟨s,t,v,rfl,rfl,hs,ht,hv,hh,hK⟩:=eW h
  clear h
  have hh:v.h<=N + 1:=hh
  have fin:∀ (z:Int) (R:Hp),oN s t v=z->W.Fin 0 K (iS .i64 z) R:=fun z R h=>by
   have hK:K (iS .i64 (oN s t v)) []:=hK
   rw [h] at hK; exact .sel [] (by simp) (by simp) rfl (.done (by simpa [go_sem] using hK))
  clear hK
  rw [aA7] at fin
  have k1:=dB hv
  have k2:=gW v
  have k4:=eJ ht
  have k5:=iV t
  have k6:=fV hs
  have k7:=jS s
  cases h1:jE s t v with
  | false=>
   rw [h1] at fin
   simp (maxSteps:=1000000) -dsimp only [go_sem,aF,aJ t,aM v,OF,A3,k1,k2,k4,k5,k6,k7,h1]
   exact fin 13 _ rfl
  | true=>
  have hp:valF s.ss s.es t=true:=by
   cases hp:valF s.ss s.es t with
   | true=>rfl
   | false=>unfold jE at h1; rw [hp] at h1; cases h1
  rw [h1] at fin
  simp (maxSteps:=1000000) -dsimp only [go_sem,aF,aJ t,aM v,OF,A3,k1,k2,k4,k5,k6,k7,h1]
  refine aD rfl (.done ?_)
  cases h2:nY s t v.n with
  | false=>
   rw [h2] at fin
   simp (maxSteps:=1000000) -dsimp only [go_sem,uS,k1,k2,k4,k5,k6,k7,hp,h2]
   exact fin 4 _ rfl
  | true=>
  rw [h2] at fin
  simp (maxSteps:=1000000) -dsimp only [go_sem,uS,k1,k2,k4,k5,k6,k7,hp,h2]
  refine aD rfl (.done ?_)
  simp only [Bool.not_true,aH] at fin
  have hne:0 < v.l.length->∃ u,t.e=[u]/\TyOk u:=fun hl=>by
   have hk5:v.k=5:=by
    cases h5:v.k != 5 with
    | false=>simpa using h5
    | true=>
     unfold jE DL at h1
     rw [h5,decide_eq_true (show (0:Int) < (v.l.length:Int) by omega)] at h1
     simp at h1
   have hkt:v.k=t.k:=by
    cases hkt:v.k != t.k with
    | false=>simpa using hkt
    | true=>unfold jE at h1; rw [hkt] at h1; simp at h1
   obtain ⟨u,he,_⟩:=CL hp (by rw [<-hkt,hk5]; rfl)
   exact ⟨u,he,ht.e u (by rw [he]; simp)⟩
  have tail:(∀ (z:Int) (R:Hp),(bif mB s (t.e.headD default) v.l != 0 then mB s (t.e.headD default) v.l else nH s (stOf s t) v.f)=z->W.Fin 0 K (iS .i64 z) R)->vc [(110,.f (eL (fun _ _ _=>True) fun s t v=>.bool (jE s t v))),(111,.f (eL (fun s t _=>valF s.ss s.es t=true) fun s t v=>.bool (nY s t v.n))),(67,.f (eL (sJ N) fun s t v=>.int .i64 (oN s t v))),(112,.s kR),(113,.s rD)] 0 pcM67_7.ungh
   (dS [(3,.va (.c1 (.pt 0 0))),(4,.va (.c1 (.pt 1 0))),(5,.va (.c1 (.pt 2 0)))]) [.cells [.vl (.int .i64 s.ver),.fz (s.es.map bG),.fz (s.ss.map aR)] 25,.cells [.vl (.int .i64 t.k),.vl (.int .i64 t.s),.vl (.string t.n),.fz (t.e.map aQ)] 28,.cells [.vl (.int .i64 v.k),.vl (.int .i64 v.n),.vl (.string v.s),.fz (v.l.map a8),.fz (v.f.map bH)] 32] (f7 0 A3 K):=fun fin=>by
   have hll:=hv.ll
   simp (maxSteps:=1000000) -dsimp only [go_sem,pcM67_7,A3]
   refine aK (α:=Nat) (fun i=>[(3,.va (.c1 (.pt 0 0))),(4,.va (.c1 (.pt 1 0))),(5,.va (.c1 (.pt 2 0))),(7,iS .i64 i)]) (fun _=>[.cells [.vl (.int .i64 s.ver),.fz (s.es.map bG),.fz (s.ss.map aR)] 25,.cells [.vl (.int .i64 t.k),.vl (.int .i64 t.s),.vl (.string t.n),.fz (t.e.map aQ)] 28,.cells [.vl (.int .i64 v.k),.vl (.int .i64 v.n),.vl (.string v.s),.fz (v.l.map a8),.fz (v.f.map bH)] 32])
    (fun i=>i<=v.l.length/\(bif mB s (t.e.headD default) (v.l.drop i) != 0 then mB s (t.e.headD default) (v.l.drop i) else nH s (stOf s t) v.f)=(bif mB s (t.e.headD default) v.l != 0 then mB s (t.e.headD default) v.l else nH s (stOf s t) v.f)) (fun i=>v.l.length - i) 0 3 ⟨Nat.zero_le _,rfl⟩ ?_ ?_ ?_
   · simp -dsimp only [go_sem]<;>simp
   · simp -dsimp only [go_sem]<;>simp
   rintro i ⟨hi,ho⟩
   rcases bF i v.l.length with hlt | hge
   · have hg:decide ((i:Int) < (v.l.length:Int))=true:=by simp; omega
     have hx:v.l[i]? = some v.l[i]:=a7 hlt
     have q2:=aV (row:=a8) hx
     obtain ⟨u,he,hu⟩:=hne (by omega)
     rw [he,List.headD_cons] at ho
     rw [List.drop_eq_getElem_cons hlt,mB] at ho
     have hxo:=hv.l _ (List.getElem_mem hlt)
     have hxh:=Vl.h_l (List.getElem_mem hlt)
     generalize v.l[i]=x at *
     have j1:=dB hxo
     have j2:=gW x
     have j4:=eJ hu
     have j5:=iV u
     have j8:sJ N s u x:=show x.h<=N by omega
     have z0:(0:Int) < ((1:Nat):Int):=by decide
     have z1:(0:Int)<=0:=by decide
     cases hz:oN s u x != 0 with
     | true=>
      rw [hz,aN,hz,aN] at ho
      simp (maxSteps:=1000000) -dsimp only [go_sem,hg,↓q2,he,aJ u,aM x,forall_eq',z0,z1,List.length_cons,List.length_nil,List.take_succ_cons,List.take_zero,j1,j2,j4,j5,j8,k6,k7,hz]
      exact ⟨⟨by omega,by omega⟩,fin _ _ (by rw [he]; exact ho.symm)⟩
     | false=>
      rw [hz,aH] at ho
      simp (maxSteps:=1000000) -dsimp only [go_sem,hg,↓q2,he,aJ u,aM x,forall_eq',z0,z1,List.length_cons,List.length_nil,List.take_succ_cons,List.take_zero,j1,j2,j4,j5,j8,k6,k7,hz]
      refine ⟨⟨by omega,by omega⟩,⟨by omega,by omega⟩,aC (i + 1) 3 ⟨by omega,by rw [he]; exact ho⟩ (by omega) ?_ ?_⟩
      · simp -dsimp only [go_sem]<;>simp
      · simp -dsimp only [go_sem]<;>simp [he,aJ u]
   · have hg:decide ((i:Int) < (v.l.length:Int))=false:=by simp; omega
     have:v.l.drop i=[]:=List.drop_eq_nil_iff.2 (by omega)
     rw [this,mB] at ho
     have ho:nH s (stOf s t) v.f=_:=ho
     rw [<-ho] at fin
     simp (maxSteps:=1000000) -dsimp only [go_sem,hg]
     refine aD rfl (.done ?_)
     simp (maxSteps:=1000000) -dsimp only [go_sem,wT]
     refine iR hs ?_
     rw [show (fS s.ss t.n).getD default=stOf s t from rfl]
     have hwo:=jK hs t
     have hws:=J9 hs t
     generalize stOf s t=w at *
     have hlf:=hv.lf
     simp (maxSteps:=1000000) -dsimp only [go_sem,aR]
     refine aD rfl (.done ?_)
     simp (maxSteps:=1000000) -dsimp only [go_sem,xA]
     clear ho this hg hge hi
     refine aK (α:=Nat) (fun i=>[(3,.va (.c1 (.pt 0 0))),(5,.va (.c1 (.pt 2 0))),(9,.va (.c1 (.pt 3 0))),(11,iS .i64 i)]) (fun _=>[.cells [.vl (.int .i64 s.ver),.fz (s.es.map bG),.fz (s.ss.map aR)] 25,.cells [.vl (.int .i64 t.k),.vl (.int .i64 t.s),.vl (.string t.n),.fz (t.e.map aQ)] 28,.cells [.vl (.int .i64 v.k),.vl (.int .i64 v.n),.vl (.string v.s),.fz (v.l.map a8),.fz (v.f.map bH)] 32,.cells [.vl (.string w.nm),.fz (w.fs.map aY)] 95])
      (fun i=>i<=v.f.length/\nH s w (v.f.drop i)=nH s w v.f) (fun i=>v.f.length - i) 0 4 ⟨Nat.zero_le _,rfl⟩ ?_ ?_ ?_
     · simp -dsimp only [go_sem]<;>simp
     · simp -dsimp only [go_sem]<;>simp
     rintro j ⟨hj,ho⟩
     rcases bF j v.f.length with hlt | hge
     · have hg:decide ((j:Int) < (v.f.length:Int))=true:=by simp; omega
       have hx:v.f[j]? = some v.f[j]:=a7 hlt
       have q2:=oJ hx
       rw [List.drop_eq_getElem_cons hlt] at ho
       have hxo:=hv.f _ (List.getElem_mem hlt)
       have hxh:=Vl.h_f (List.getElem_mem hlt)
       generalize v.f[j]=x at *
       obtain ⟨n,x⟩:=x
       rw [nH] at ho
       have hdo:=LT hwo n
       simp only at hxo hxh q2
       have j1:=dB hxo
       have j2:=gW x
       have j8:∀ d:Ty,sJ N s d x:=fun d=>show x.h<=N by omega
       simp (maxSteps:=1000000) -dsimp only [go_sem,hg,↓q2]
       refine ⟨⟨by omega,by omega⟩,qX hwo hws ?_⟩
       generalize gN w n=d at *
       have j4:=eJ hdo.ty
       have j5:=iV d.ty
       have j8:=j8 d.ty
       simp (maxSteps:=1000000) -dsimp only [go_sem,aY]
       refine aD rfl (.done ?_)
       cases hz:oN s d.ty x != 0 with
       | true=>
        rw [hz,aN] at ho
        simp (maxSteps:=1000000) -dsimp only [go_sem,rK,↓q2,j1,j2,j4,j5,j8,k6,k7,List.take_succ_cons,List.take_zero,List.length_cons,List.length_nil]
        refine ⟨⟨by omega,by omega⟩,aD rfl (.done ?_)⟩
        simp (maxSteps:=1000000) -dsimp only [go_sem,rC,hz]
        exact fin _ _ ho.symm
       | false=>
        rw [hz,aH] at ho
        simp (maxSteps:=1000000) -dsimp only [go_sem,rK,↓q2,j1,j2,j4,j5,j8,k6,k7,List.take_succ_cons,List.take_zero,List.length_cons,List.length_nil]
        refine ⟨⟨by omega,by omega⟩,aD rfl (.done ?_)⟩
        simp (maxSteps:=1000000) -dsimp only [go_sem,rC,hz]
        refine ⟨⟨by omega,by omega⟩,aC (j + 1) 4 ⟨by omega,ho⟩ (by omega) ?_ ?_⟩
        · simp -dsimp only [go_sem]<;>simp
        · simp -dsimp only [go_sem]<;>simp
     · have hg:decide ((j:Int) < (v.f.length:Int))=false:=by simp; omega
       have:v.f.drop j=[]:=List.drop_eq_nil_iff.2 (by omega)
       rw [this,nH] at ho
       simp (maxSteps:=1000000) -dsimp only [go_sem,hg]
       exact fin _ _ ho.symm
  have hA:∀ b:Bool,GJ t (bl v.s).length v.l.length=b->((t.k == 4 && decide (t.s < ((bl v.s).length:Int))) || (t.k == 5 && decide (t.s < (v.l.length:Int))))=b:=fun b h=>h
  cases h3:GJ t (bl v.s).length v.l.length with
  | true=>
   have hA:=hA true h3
   rw [h3,aN] at fin
   cases a1:t.k == 4<;>cases a2:decide (t.s < ((bl v.s).length:Int))<;>cases a3:t.k == 5<;>cases a4:decide (t.s < (v.l.length:Int)) <;>
   first
    | (exfalso; rw [a1,a2,a3,a4] at hA; exact absurd hA (by decide))
    | (simp (maxSteps:=1000000) -dsimp only [go_sem,uK,a1,a2,a3,a4,Bool.false_and,Bool.true_and,Bool.and_false]
       exact fin 3 _ rfl)
  | false=>
   have hA:=hA false h3
   rw [h3,aH] at fin
   cases a1:t.k == 4<;>cases a2:decide (t.s < ((bl v.s).length:Int))<;>cases a3:t.k == 5<;>cases a4:decide (t.s < (v.l.length:Int)) <;>
   first
    | (exfalso; rw [a1,a2,a3,a4] at hA; exact absurd hA (by decide))
    | (simp (maxSteps:=1000000) -dsimp only [go_sem,uK,a1,a2,a3,a4,Bool.true_and,Bool.and_false]
       refine b8 3 (tail fin) ?_ ?_
       · simp -dsimp only [go_sem]<;>simp
       · simp -dsimp only [go_sem]<;>simp)
mutual
def dE:Vl->Int
 | .mk k n s l f=>bif nE (.mk k n s l f) then 0 else 1 + iM (gS 0 l) f
def gS (d:Int):List Vl->Int
 | []=>d
 | v :: r=>gS (max d (dE v)) r
def iM (d:Int):List (Int × Vl)->Int
 | []=>d
 | (_,v) :: r=>iM (max d (dE v)) r
end
theorem zD (v:Vl):dE v=bif nE v then 0 else 1 + iM (gS 0 v.l) v.f:=by cases v; rw [dE]; rfl
theorem GT {g:Vl->Int} {n:Nat} (hg:∀ x,g x=min (dE x) n) (D:Int) (x:Vl):lV g ((n:Int) - 1) (min D n) x=min (max D (dE x)) n:=by
 unfold lV
 rw [hg x]
 cases h:decide (min D (n:Int)<=(n:Int) - 1) with
 | true=>have:=of_decide_eq_true h; rw [aN]; omega
 | false=>have:=of_decide_eq_false h; rw [aH]; omega
theorem aAC {g:Vl->Int} {n:Nat} (hg:∀ x,g x=min (dE x) n):∀ (l:List Vl) (D:Int),l.foldl (lV g ((n:Int) - 1)) (min D n)=min (gS D l) n
 | [],D=>by rw [gS]; rfl
 | x :: l,D=>by rw [List.foldl_cons,GT hg,aAC hg l,gS]
theorem W8 {g:Vl->Int} {n:Nat} (hg:∀ x,g x=min (dE x) n):∀ (l:List (Int × Vl)) (D:Int),l.foldl (qJ g ((n:Int) - 1)) (min D n)=min (iM D l) n
 | [],D=>by rw [iM]; rfl
 | (i,x) :: l,D=>by
  rw [List.foldl_cons,show qJ g ((n:Int) - 1) (min D n) (i,x)=lV g ((n:Int) - 1) (min D n) x from rfl,GT hg,W8 hg l,iM]
theorem ZN {g:Vl->Int} {n:Nat} (hg:∀ x,g x=min (dE x) n) (v:Vl):IA g ((n:Int) - 1) v=min (dE v) ((n:Int) + 1):=by
 unfold IA
 rw [zD]
 cases nE v with
 | true=>rw [aN,aN]; omega
 | false=>
  rw [aH,aH]
  have h1:=aAC hg v.l 0
  rw [show min (0:Int) (n:Int)=0 by omega] at h1
  rw [h1,W8 hg v.f]
  omega
mutual
theorem aAU:∀ v:Vl,0<=dE v
 | .mk k n s l f=>by
  rw [dE]
  have h1:=CI l 0
  have h2:=DH f (gS 0 l)
  cases nE (.mk k n s l f) with
  | true=>exact Int.le_refl _
  | false=>rw [aH]; omega
theorem CI:∀ (l:List Vl) (d:Int),d<=gS d l
 | [],d=>by rw [gS]; exact Int.le_refl _
 | v :: r,d=>by
  rw [gS]
  have:=CI r (max d (dE v))
  omega
theorem DH:∀ (l:List (Int × Vl)) (d:Int),d<=iM d l
 | [],d=>by rw [iM]; exact Int.le_refl _
 | (_,v) :: r,d=>by
  rw [iM]
  have:=DH r (max d (dE v))
  omega
end
theorem MD:∀ (n:Nat) (x:Vl),jC n x=min (dE x) n
 | 0,x=>by have:=aAU x; show (0:Int)=min (dE x) 0; omega
 | n + 1,x=>by
  rw [jC,AV,ZN (MD n) x]
  omega
theorem aB4 (n:Nat) (v:Vl):sX n v=min (dE v) ((n:Int) + 1):=by rw [AV,ZN (MD n) v]
theorem MV (v:Vl):decide (6 < sX 7 v)=decide (6 < dE v):=by
 rw [aB4]
 rw [Bool.eq_iff_iff,decide_eq_true_iff,decide_eq_true_iff]
 omega
def pcL66_3:PC:=.seq (.gh (.reg [.q 3 (.mv (.i 0))])) (.seq (.seq (.reg [.q 4 (.mv (.i 0))]) (.block 0 (.loop (.seq (.seq (.reg [.v 28 4,.q 29 (.fa 3 (.t 1)),.l 30 (.ld1 (.t 29)),.q 31 (.lnL (.t 30)),.q 32 (.bin .lss true (.t 28) (.t 31))]) (.cond (.t 32) .skip (.exit 0))) (.seq (.block 1 (.seq (.reg [.q 35 (.fa 3 (.t 1)),.l 36 (.ld1 (.t 35)),.v 37 4,.l 38 (.ia 5 (.t 36) (.t 37)),.l 39 (.ldn 5 (.t 38)),.a 40 (.cq 66 [(.t 39)]),.v 5 40]) (.seq (.reg [.v 41 5,.v 42 3,.q 43 (.bin .gtr true (.t 41) (.t 42))]) (.cond (.t 43) (.reg [.v 44 5,.v 3 44]) .skip)))) (.reg [.v 33 4,.q 34 (.bin .add true (.t 33) (.i 1)),.v 4 34])))))) (.seq (.seq (.reg [.q 6 (.mv (.i 0))]) (.block 2 (.loop (.seq (.seq (.reg [.v 45 6,.q 46 (.fa 4 (.t 1)),.l 47 (.ld1 (.t 46)),.q 48 (.lnL (.t 47)),.q 49 (.bin .lss true (.t 45) (.t 48))]) (.cond (.t 49) .skip (.exit 2))) (.seq (.block 3 (.seq (.reg [.q 52 (.fa 4 (.t 1)),.l 53 (.ld1 (.t 52)),.v 54 6,.l 55 (.ia 6 (.t 53) (.t 54)),.q 56 (.fa 1 (.t 55)),.l 57 (.ldn 5 (.t 56)),.a 58 (.cq 66 [(.t 57)]),.v 7 58]) (.seq (.reg [.v 59 7,.v 60 3,.q 61 (.bin .gtr true (.t 59) (.t 60))]) (.cond (.t 61) (.reg [.v 62 7,.v 3 62]) .skip)))) (.reg [.v 50 6,.q 51 (.bin .add true (.t 50) (.i 1)),.v 6 51])))))) (.seq (.reg [.v 63 3,.q 64 (.bin .add true (.t 63) (.i 1)),.v 2 64]) .ret)))
@[go_sem ↓] theorem aOF:aT pcL66_3:=aU _
def OG:PC:=.seq (.reg [.e 1 (.bx 32 (.t 0)),.q 2 (.mv (.i 0))]) (.seq (.seq (.reg [.q 8 (.fa 0 (.t 1)),.l 9 (.ld1 (.t 8)),.q 10 (.bin .neq true (.t 9) (.i 5)),.v 11 10,⟨some 12,(some (11,true)),.q (.fa 0 (.t 1))⟩,⟨some 13,(some (11,true)),.l (.ld1 (.t 12))⟩,⟨some 14,(some (11,true)),.q (.bin .neq true (.t 13) (.i 6))⟩,.a 15 (.pick (.t 11) (.t 14) (.k (.bool false))),.v 16 15,⟨some 17,(some (16,true)),.q (.fa 3 (.t 1))⟩,⟨some 18,(some (16,true)),.l (.ld1 (.t 17))⟩,⟨some 19,(some (16,true)),.q (.lnL (.t 18))⟩,⟨some 20,(some (16,true)),.q (.bin .eql true (.t 19) (.i 0))⟩,.a 21 (.pick (.t 16) (.t 20) (.k (.bool false))),.v 22 21,⟨some 23,(some (22,true)),.q (.fa 4 (.t 1))⟩,⟨some 24,(some (22,true)),.l (.ld1 (.t 23))⟩,⟨some 25,(some (22,true)),.q (.lnL (.t 24))⟩,⟨some 26,(some (22,true)),.q (.bin .eql true (.t 25) (.i 0))⟩,.a 27 (.pick (.t 22) (.t 26) (.k (.bool false)))]) (.cond (.t 27) (.seq (.reg [.q 2 (.mv (.i 0))]) .ret) .skip)) (pcL66_3))
def zH:List RV:=[.mv (.t 2)]
theorem aLY:aP Tryz.prog true ⟨fun r k=>if r=7/\k=5 then .q else if r=13/\k=6 then .q else .own [],fun r=>[3].contains r⟩ Tryz.f66=some (OG,zH):=by kernel_rfl
mutual
theorem ON:∀ v:Vl,dE v<=v.h
 | .mk k n s l f=>by
  rw [dE,Vl.h]
  have h1:=YM l 0
  have h2:=XI f (gS 0 l)
  cases nE (.mk k n s l f) with
  | true=>rw [aN]; omega
  | false=>rw [aH]; omega
theorem YM:∀ (l:List Vl) (d:Int),gS d l<=max d (Vl.hl l)
 | [],d=>by rw [gS,Vl.hl]; omega
 | v :: r,d=>by
  rw [gS,Vl.hl]
  have h1:=ON v
  have h2:=YM r (max d (dE v))
  omega
theorem XI:∀ (l:List (Int × Vl)) (d:Int),iM d l<=max d (Vl.hf l)
 | [],d=>by rw [iM,Vl.hf]; omega
 | (i,v) :: r,d=>by
  rw [iM,Vl.hf]
  have h1:=ON v
  have h2:=XI r (max d (dE v))
  omega
end
def F7 (N:Nat):List S->Prop:=fun av=>match av with
 | [.va (.gs r)]=>tQ r/\(C.vv r).h<=N/\N<=1000000
 | _=>False
theorem mT {N:Nat} {av:List S} (h:F7 N av):∃ v,av=[.va (.gs (a8 v))]/\VlOk v/\v.h<=N/\N<=1000000:=by
 unfold F7 at h
 split at h
 · obtain ⟨⟨v,rfl,hv⟩,h1,h2⟩:=h; rw [lX] at h1; exact ⟨v,rfl,hv,h1,h2⟩
 · exact h.elim
noncomputable def X1:List S->A:=fun av=>match av with
 | [.va (.gs r)]=>iA .i64 (dE (C.vv r))
 | _=>.gs []
noncomputable def NK (N:Nat):Fun:=⟨F7 N,X1,fun av h=>by obtain ⟨_,rfl,_⟩:=mT h; trivial⟩
attribute [go_sem] NK F7 X1
theorem J8:∀ N,Meets Tryz.prog 66 (NK N).sp
 | 0=>⟨by kernel_rfl,by rintro xs vs E ro w K _ _ _ ⟨⟨h,_⟩,_⟩; obtain ⟨v,_,_,h,_⟩:=mT h; have:=v.h_pos; omega⟩
 | N + 1=>by
  refine aE Tryz.func66 aLY 1 (by rw [Tryz.ntmps66]; decide) (aG (J8 N) (aA _)) (fun av H K h=>by obtain ⟨_,rfl,_⟩:=mT h.1.1; rfl) ?_
  rintro av H K ⟨⟨h,rfl⟩,hK⟩
  obtain ⟨v,rfl,hv,hh,hN⟩:=mT h
  have hK:K (iS .i64 (dE v)) []:=by
   have:(NK (N + 1)).val [.va (.gs (a8 v))]=iA .i64 (dE v):=by show iA .i64 (dE (C.vv (a8 v)))=_; rw [lX]
   rw [this] at hK; exact hK
  have fin:∀ (z:Int) (R:Hp),dE v=z->W.Fin 0 K (iS .i64 z) R:=fun z R h=>by
   rw [h] at hK; exact .sel [] (by simp) (by simp) rfl (.done (by simpa [go_sem] using hK))
  clear hK h
  have hvh:=ON v
  rw [zD] at fin hvh
  have hll:=hv.ll
  have hlf:=hv.lf
  have hs:∀ b:Bool,nE v=b->((v.k != 5) && (v.k != 6) && ((v.l.length:Int) == 0) && ((v.f.length:Int) == 0))=b:=fun b h=>h
  have tail:(∀ (z:Int) (R:Hp),1 + iM (gS 0 v.l) v.f=z->W.Fin 0 K (iS .i64 z) R)->1 + iM (gS 0 v.l) v.f<=1000001->vc [(66,.f (NK N))] 0 pcL66_3.ungh (dS [(1,.va (.c1 (.pt 0 0)))]) [.cells [.vl (.int .i64 v.k),.vl (.int .i64 v.n),.vl (.string v.s),.fz (v.l.map a8),.fz (v.f.map bH)] 32] (f7 0 zH K):=fun fin hb=>by
   simp (maxSteps:=1000000) -dsimp only [go_sem,pcL66_3,zH]
   refine aK (α:=Nat × Int) (fun x=>[(1,.va (.c1 (.pt 0 0))),(3,iS .i64 x.2),(4,iS .i64 x.1)]) (fun _=>[.cells [.vl (.int .i64 v.k),.vl (.int .i64 v.n),.vl (.string v.s),.fz (v.l.map a8),.fz (v.f.map bH)] 32])
    (fun x=>x.1<=v.l.length/\gS x.2 (v.l.drop x.1)=gS 0 v.l) (fun x=>v.l.length - x.1) (0,0) 1 ⟨Nat.zero_le _,rfl⟩ ?_ ?_ ?_
   · simp -dsimp only [go_sem]<;>simp
   · simp -dsimp only [go_sem]<;>simp
   rintro ⟨i,m⟩ ⟨hi,ho⟩
   simp only at hi ho
   rcases bF i v.l.length with hlt | hge
   · have hg:decide ((i:Int) < (v.l.length:Int))=true:=by simp; omega
     have hx:v.l[i]? = some v.l[i]:=a7 hlt
     have q2:=aV (row:=a8) hx
     rw [List.drop_eq_getElem_cons hlt,gS] at ho
     have hxo:=hv.l _ (List.getElem_mem hlt)
     have hxh:=Vl.h_l (List.getElem_mem hlt)
     generalize v.l[i]=x at *
     have j1:=dB hxo
     have j2:=gW x
     have j3:(x.h<=N)=True:=eq_true (by omega)
     have j4:(N<=1000000)=True:=eq_true (by omega)
     cases hz:decide (m < dE x) with
     | true=>
      have:=of_decide_eq_true hz
      rw [show max m (dE x)=dE x by omega] at ho
      simp (maxSteps:=1000000) -dsimp only [go_sem,hg,↓q2,aM x,List.take_succ_cons,List.take_zero,List.length_cons,List.length_nil,j1,j2,j3,j4,hz]
      refine ⟨⟨by omega,by omega⟩,⟨by omega,by omega⟩,aC (i + 1,dE x) 1 ⟨by simp only; omega,ho⟩ (by simp only; omega) ?_ ?_⟩
      · simp -dsimp only [go_sem]<;>simp
      · simp -dsimp only [go_sem]<;>simp
     | false=>
      have:=of_decide_eq_false hz
      rw [show max m (dE x)=m by omega] at ho
      simp (maxSteps:=1000000) -dsimp only [go_sem,hg,↓q2,aM x,List.take_succ_cons,List.take_zero,List.length_cons,List.length_nil,j1,j2,j3,j4,hz]
      refine ⟨⟨by omega,by omega⟩,⟨by omega,by omega⟩,aC (i + 1,m) 1 ⟨by simp only; omega,ho⟩ (by simp only; omega) ?_ ?_⟩
      · simp -dsimp only [go_sem]<;>simp
      · simp -dsimp only [go_sem]<;>simp
   · have hg:decide ((i:Int) < (v.l.length:Int))=false:=by simp; omega
     have:v.l.drop i=[]:=List.drop_eq_nil_iff.2 (by omega)
     rw [this,gS] at ho
     simp (maxSteps:=1000000) -dsimp only [go_sem,hg]
     clear hg this hi hge
     subst ho
     refine aK (α:=Nat × Int) (fun x=>[(1,.va (.c1 (.pt 0 0))),(3,iS .i64 x.2),(6,iS .i64 x.1)]) (fun _=>[.cells [.vl (.int .i64 v.k),.vl (.int .i64 v.n),.vl (.string v.s),.fz (v.l.map a8),.fz (v.f.map bH)] 32])
      (fun x=>x.1<=v.f.length/\iM x.2 (v.f.drop x.1)=iM (gS 0 v.l) v.f) (fun x=>v.f.length - x.1) (0,gS 0 v.l) 1 ⟨Nat.zero_le _,rfl⟩ ?_ ?_ ?_
     · simp -dsimp only [go_sem]<;>simp
     · simp -dsimp only [go_sem]<;>simp
     rintro ⟨j,m⟩ ⟨hj,ho⟩
     simp only at hj ho
     rcases bF j v.f.length with hlt | hge
     · have hg:decide ((j:Int) < (v.f.length:Int))=true:=by simp; omega
       have hx:v.f[j]? = some v.f[j]:=a7 hlt
       have q2:=oJ hx
       rw [List.drop_eq_getElem_cons hlt] at ho
       have hxo:=hv.f _ (List.getElem_mem hlt)
       have hxh:=Vl.h_f (List.getElem_mem hlt)
       generalize v.f[j]=x at *
       obtain ⟨n,x⟩:=x
       rw [iM] at ho
       simp only at hxo hxh q2
       have j1:=dB hxo
       have j2:=gW x
       have j3:(x.h<=N)=True:=eq_true (by omega)
       have j4:(N<=1000000)=True:=eq_true (by omega)
       cases hz:decide (m < dE x) with
       | true=>
        have:=of_decide_eq_true hz
        rw [show max m (dE x)=dE x by omega] at ho
        simp (maxSteps:=1000000) -dsimp only [go_sem,hg,↓q2,List.take_succ_cons,List.take_zero,List.length_cons,List.length_nil,j1,j2,j3,j4,hz]
        refine ⟨⟨by omega,by omega⟩,⟨by omega,by omega⟩,aC (j + 1,dE x) 1 ⟨by simp only; omega,ho⟩ (by simp only; omega) ?_ ?_⟩
        · simp -dsimp only [go_sem]<;>simp
        · simp -dsimp only [go_sem]<;>simp
       | false=>
        have:=of_decide_eq_false hz
        rw [show max m (dE x)=m by omega] at ho
        simp (maxSteps:=1000000) -dsimp only [go_sem,hg,↓q2,List.take_succ_cons,List.take_zero,List.length_cons,List.length_nil,j1,j2,j3,j4,hz]
        refine ⟨⟨by omega,by omega⟩,⟨by omega,by omega⟩,aC (j + 1,m) 1 ⟨by simp only; omega,ho⟩ (by simp only; omega) ?_ ?_⟩
        · simp -dsimp only [go_sem]<;>simp
        · simp -dsimp only [go_sem]<;>simp
     · have hg:decide ((j:Int) < (v.f.length:Int))=false:=by simp; omega
       have:v.f.drop j=[]:=List.drop_eq_nil_iff.2 (by omega)
       rw [this,iM] at ho
       have hm0:0<=iM (gS 0 v.l) v.f:=Int.le_trans (CI v.l 0) (DH v.f _)
       simp (maxSteps:=1000000) -dsimp only [go_sem,hg]
       exact ⟨⟨by omega,by omega⟩,fin _ _ (by omega)⟩
  cases h0:nE v with
  | true=>
   have hs:=hs true h0
   rw [h0,aN] at fin
   simp only [Bool.and_eq_true] at hs
   obtain ⟨⟨⟨a1,a2⟩,a3⟩,a4⟩:=hs
   simp (maxSteps:=1000000) -dsimp only [go_sem,aM v,OG,zH,a1,a2,a3,a4]
   exact fin 0 _ rfl
  | false=>
   have hs:=hs false h0
   rw [h0,aH] at fin hvh
   cases a1:v.k != 5<;>cases a2:v.k != 6<;>cases a3:(v.l.length:Int) == 0<;>cases a4:(v.f.length:Int) == 0 <;>
   first
    | (exfalso; rw [a1,a2,a3,a4] at hs; exact absurd hs (by decide))
    | (simp (maxSteps:=1000000) -dsimp only [go_sem,aM v,OG,zH,a1,a2,a3,a4]
       refine b8 1 (tail fin (by omega)) ?_ ?_
       · simp -dsimp only [go_sem]<;>simp
       · simp -dsimp only [go_sem]<;>simp)
theorem aB6 (N:Nat) (hN:N<=1000000):Meets Tryz.prog 25 (eL (sJ N) fun s t v=>.int .i64 (f0 s t v)).sp:=by
 refine aE Tryz.func25 aPX 3 (by rw [Tryz.ntmps25]; decide) (aG (J8 N) (aG (LC N) (aA _))) gK ?_
 intro av H K h
 obtain ⟨s,t,v,rfl,rfl,hs,ht,hv,hh,hK⟩:=eW h
 clear h
 have fin:∀ (z:Int) (R:Hp),f0 s t v=z->W.Fin 0 K (iS .i64 z) R:=fun z R h=>by
  have hK:K (iS .i64 (f0 s t v)) []:=hK
  rw [h] at hK; exact .sel [] (by simp) (by simp) rfl (.done (by simpa [go_sem] using hK))
 clear hK
 unfold f0 at fin
 rw [MV,<-HY] at fin
 have k1:=dB hv
 have k2:=gW v
 have k4:=eJ ht
 have k5:=iV t
 have k6:=fV hs
 have k7:=jS s
 have k8:(v.h<=N)=True:=eq_true hh
 have k9:(N<=1000000)=True:=eq_true hN
 have k10:sJ N s t v:=hh
 cases h1:decide (6 < dE v) with
 | true=>
  rw [h1] at fin
  simp (maxSteps:=1000000) -dsimp only [go_sem,aF,aJ t,aM v,U6,UC,k1,k2,k8,k9,h1]
  exact fin 9 _ rfl
 | false=>
  rw [h1] at fin
  simp (maxSteps:=1000000) -dsimp only [go_sem,aF,aJ t,aM v,U6,UC,k1,k2,k4,k5,k6,k7,k8,k9,h1]
  exact fin _ _ rfl
def CK:PC:=.gh (.reg [.v 46 0,.q 47 (.fa 1 (.t 8)),.l 48 (.ld1 (.t 47)),.q 49 (.fa 2 (.t 8)),.l 50 (.ld1 (.t 49)),.a 51 (.cl 74 [(.t 46),(.t 48),(.t 50)] [0]),.q 52 (.fa 1 (.t 7)),.s (.st 1 (.t 52) (.t 51))])
@[go_sem ↓] theorem aNT:aT CK:=aU _
def vK:PC:=.gh (.reg [.v 87 0,.q 88 (.nc (.t 87)),.q 89 (.fa 2 (.t 88)),.l 90 (.ld1 (.t 89)),.q 91 (.not (.t 90)),.v 92 91,⟨some 93,(some (92,true)),.q (.mv (.t 0))⟩,⟨some 94,(some (92,true)),.cl 78 [(.t 93),(.k (.string (mk [93])))] [0]⟩,.a 95 (.pick (.t 92) (.t 94) (.k (.bool false))),.v 10 95])
@[go_sem ↓] theorem aN4:aT vK:=aU _
def C6:PC:=.seq (.gh (.reg [.q 10 (.mv (.k (.bool true)))])) (.block 1 (.loop (.seq (.seq (.reg [.v 65 10,.v 66 65,⟨some 67,(some (66,true)),.q (.mv (.t 0))⟩,⟨some 68,(some (66,true)),.q (.nc (.t 67))⟩,⟨some 69,(some (66,true)),.q (.fa 2 (.t 68))⟩,⟨some 70,(some (66,true)),.l (.ld1 (.t 69))⟩,⟨some 71,(some (66,true)),.q (.not (.t 70))⟩,.a 72 (.pick (.t 66) (.t 71) (.k (.bool false)))]) (.cond (.t 72) .skip (.exit 1))) (.block 2 (.seq (.ord  [.q (.q 73 (.fa 3 (.t 7))),.q (.l 74 (.ld1 (.t 73))),.q (.v 75 0),.q (.l 76 (.ldn 3 (.t 4))),.q (.q 77 (.fa 3 (.t 5))),.q (.l 78 (.ld1 (.t 77))),.q (.l 79 (.ia 4 (.t 78) (.i 0))),.q (.l 80 (.ldn 4 (.t 79))),.q (.q 82 (.lnL (.t 74))),.m (.a 81 (.cl 33 [(.t 75),(.t 76),(.t 80)] [0])),.rc (.q 73 (.fa 3 (.t 7))),.rc (.l 74 (.ld1 (.t 73))),.rc (.q 82 (.lnL (.t 74))),.m (.e 83 (.bsl 32 5 [(.k (.agg #[(.int .i64 0),(.int .i64 0),(.string (mk [])),(.slice none 0 0),(.slice none 0 0)]))])),.rc (.q 73 (.fa 3 (.t 7))),.rc (.l 74 (.ld1 (.t 73))),.rc (.q 82 (.lnL (.t 74))),.m (.e 84 (.ap 32 5 80 (.t 74) (.t 83))),.q (.l 85 (.ia 5 (.t 84) (.t 82))),.q (.q 86 (.fa 3 (.t 7))),.fk (.s (.st 5 (.t 85) (.t 81))) (.s (.st 1 (.t 86) (.t 84))) [.q 86 (.fa 3 (.t 7))] [.l 85 (.ia 5 (.t 84) (.t 82))]]) (vK))))))
@[go_sem ↓] theorem aM1:aT C6:=aU _
def CY:PC:=.seq (.seq (.gh (.reg [.v 62 0,.a 63 (.cl 77 [(.t 62),(.k (.string (mk [93])))] [0])])) (.cond (.t 63) (.seq (.reg [.l 64 (.ldn 5 (.t 7)),.s (.st 5 (.t 6) (.t 64))]) .ret) .skip)) (C6)
@[go_sem ↓] theorem aMX:aT CY:=aU _
def uN:PC:=.gh (.reg [.v 120 0,.q 121 (.nc (.t 120)),.q 122 (.fa 2 (.t 121)),.l 123 (.ld1 (.t 122)),.q 124 (.not (.t 123)),.v 125 124,⟨some 126,(some (125,true)),.q (.mv (.t 0))⟩,⟨some 127,(some (125,true)),.cl 78 [(.t 126),(.k (.string (mk [125])))] [0]⟩,.a 128 (.pick (.t 125) (.t 127) (.k (.bool false))),.v 11 128])
@[go_sem ↓] theorem aN1:aT uN:=aU _
def DD:PC:=.seq (.gh (.reg [.q 11 (.mv (.k (.bool true)))])) (.block 3 (.loop (.seq (.seq (.reg [.v 108 11,.v 109 108,⟨some 110,(some (109,true)),.q (.mv (.t 0))⟩,⟨some 111,(some (109,true)),.q (.nc (.t 110))⟩,⟨some 112,(some (109,true)),.q (.fa 2 (.t 111))⟩,⟨some 113,(some (109,true)),.l (.ld1 (.t 112))⟩,⟨some 114,(some (109,true)),.q (.not (.t 113))⟩,.a 115 (.pick (.t 109) (.t 114) (.k (.bool false)))]) (.cond (.t 115) .skip (.exit 3))) (.block 4 (.seq (.reg [.v 116 0,.l 117 (.ldn 3 (.t 4)),.l 118 (.ldn 4 (.t 5)),.a 119 (.cl 79 [(.t 116),(.t 117),(.t 118),(.t 7)] [0,4,5])]) (uN))))))
@[go_sem ↓] theorem aNU:aT DD:=aU _
def DK:PC:=.seq (.seq (.gh (.reg [.v 105 0,.a 106 (.cl 77 [(.t 105),(.k (.string (mk [125])))] [0])])) (.cond (.t 106) (.seq (.reg [.l 107 (.ldn 5 (.t 7)),.s (.st 5 (.t 6) (.t 107))]) .ret) .skip)) (DD)
@[go_sem ↓] theorem aMY:aT DK:=aU _
def pc33_33:PC:=.seq (.gh (.reg [.l 129 (.ldn 5 (.t 7)),.s (.st 5 (.t 6) (.t 129))])) .ret
@[go_sem ↓] theorem aNB:aT pc33_33:=aU _
def nI:PC:=.seq (.reg [.e 4 (.bx 25 (.t 1)),.e 5 (.bx 28 (.t 2)),.e 6 (.al (.agg #[(.int .i64 0),(.int .i64 0),(.string (mk [])),(.slice none 0 0),(.slice none 0 0)]) 32)]) (.seq (.reg [.q 12 (.fa 0 (.t 5)),.l 13 (.ld1 (.t 12)),.q 14 (.bd [(.int .i64 0),(.int .i64 0),(.string (mk [])),(.slice none 0 0),(.slice none 0 0)] [(0,1,(.t 13))]),.e 7 (.al (.agg #[(.int .i64 0),(.int .i64 0),(.string (mk [])),(.slice none 0 0),(.slice none 0 0)]) 32),.s (.st 5 (.t 7) (.t 14))]) (.seq (.seq (.reg [.q 15 (.fa 0 (.t 5)),.l 16 (.ld1 (.t 15))]) (.block 0 (.seq (.reg [.q 18 (.bin .eql true (.t 16) (.i 1)),.v 17 18]) (.cond (.t 17) (.reg [.v 19 0,.e 20 (.bsl 9 1 [(.k (.string (mk [102,97,108,115,101]))),(.k (.string (mk [116,114,117,101])))]),.e 21 (.bsl 3 1 [(.i 0),(.i 1)]),.a 22 (.cl 74 [(.t 19),(.t 20),(.t 21)] [0,5,6]),.q 23 (.fa 1 (.t 7)),.s (.st 1 (.t 23) (.t 22))]) (.seq (.seq (.reg [.q 25 (.bin .eql true (.t 16) (.i 2)),.v 24 25]) (.cond (.t 24) .skip (.reg [.q 26 (.bin .eql true (.t 16) (.i 3)),.v 24 26]))) (.cond (.t 24) (.reg [.v 27 0,.a 28 (.cl 75 [(.t 27),(.i 2)] [0]),.q 29 (.fld1 2 (.t 28)),.q 30 (.fa 1 (.t 7)),.s (.st 1 (.t 30) (.t 29))]) (.seq (.reg [.q 32 (.bin .eql true (.t 16) (.i 4)),.v 31 32]) (.cond (.t 31) (.reg [.v 33 0,.a 34 (.cl 75 [(.t 33),(.i 3)] [0]),.q 35 (.fld1 1 (.t 34)),.q 36 (.fa 2 (.t 7)),.s (.st 1 (.t 36) (.t 35))]) (.seq (.reg [.q 38 (.bin .eql true (.t 16) (.i 7)),.v 37 38]) (.cond (.t 37) (.seq (.reg [.l 40 (.ldn 3 (.t 4)),.q 41 (.fa 2 (.t 5)),.l 42 (.ld1 (.t 41)),.a 43 (.cl 76 [(.t 40),(.t 42)] []),.v 39 43,.q 44 (.ex (.t 39) 0),.q 45 (.ex (.t 39) 1),.e 8 (.al (.agg #[(.string (mk [])),(.slice none 0 0),(.slice none 0 0)]) 92),.s (.st 3 (.t 8) (.t 44)),.v 9 45]) (CK)) (.seq (.reg [.q 54 (.bin .eql true (.t 16) (.i 5)),.v 53 54]) (.cond (.t 53) (.seq (.seq (.reg [.v 55 0,.a 56 (.cl 77 [(.t 55),(.k (.string (mk [91])))] [0]),.q 57 (.not (.t 56))]) (.cond (.t 57) (.seq (.reg [.v 58 0,.q 59 (.nc (.t 58)),.q 60 (.fa 2 (.t 59)),.s (.st 1 (.t 60) (.k (.bool true)))]) (.seq (.reg [.l 61 (.ldn 5 (.t 7)),.s (.st 5 (.t 6) (.t 61))]) .ret)) .skip)) (CY)) (.seq (.reg [.q 97 (.bin .eql true (.t 16) (.i 6)),.v 96 97]) (.cond (.t 96) (.seq (.seq (.reg [.v 98 0,.a 99 (.cl 77 [(.t 98),(.k (.string (mk [123])))] [0]),.q 100 (.not (.t 99))]) (.cond (.t 100) (.seq (.reg [.v 101 0,.q 102 (.nc (.t 101)),.q 103 (.fa 2 (.t 102)),.s (.st 1 (.t 103) (.k (.bool true)))]) (.seq (.reg [.l 104 (.ldn 5 (.t 7)),.s (.st 5 (.t 6) (.t 104))]) .ret)) .skip)) (DK)) .skip)))))))))))))) (pc33_33)))
def kP:List RV:=[.ld (.ldn 5 (.t 6))]
theorem aP3:aP Tryz.prog true ⟨fun r k=>if r=4/\k=3 then .own [0,5,6] else if r=7/\k=1 then .own [0] else if r=9/\k=1 then .own [0] else if r=12/\k=5 then .own [0] else if r=14/\k=1 then .own [0] else if r=17/\k=1 then .own [0] else if r=21/\k=8 then .own [0] else if r=22/\k=7 then .own [0] else if r=24/\k=1 then .own [0] else if r=27/\k=1 then .own [0] else if r=31/\k=3 then .own [0,4,5] else if r=32/\k=7 then .own [0] else .own [],fun r=>[17,19,27,29,33,12,22,32].contains r⟩ Tryz.f33=some (nI,kP):=by kernel_rfl
def TW:PC:=.seq (.reg [.q 6 (.mv (.i 0))]) (.seq (.ord  [.q (.v 9 0),.q (.q 10 (.nc (.t 9))),.q (.q 11 (.fa 0 (.t 10))),.q (.l 12 (.ld1 (.t 11))),.q (.v 13 0),.q (.q 14 (.nc (.t 13))),.q (.q 15 (.fa 1 (.t 14))),.q (.l 16 (.ld1 (.t 15))),.q (.l 17 (.ia 4 (.t 12) (.t 16))),.q (.l 18 (.ldn 4 (.t 17))),.m (.e 7 (.al (.agg #[(.int .i64 0),(.string (mk [])),(.int .i64 0),(.int .i64 0)]) 71)),.rc (.v 9 0),.rc (.q 10 (.nc (.t 9))),.rc (.q 11 (.fa 0 (.t 10))),.rc (.l 12 (.ld1 (.t 11))),.rc (.v 13 0),.rc (.q 14 (.nc (.t 13))),.rc (.q 15 (.fa 1 (.t 14))),.rc (.l 16 (.ld1 (.t 15))),.rc (.l 17 (.ia 4 (.t 12) (.t 16))),.rc (.l 18 (.ldn 4 (.t 17))),.m (.s (.st 4 (.t 7) (.t 18)))]) (.seq (.seq (.reg [.q 8 (.mv (.i 0))]) (.block 0 (.loop (.seq (.seq (.reg [.q 19 (.fa 0 (.t 7)),.l 20 (.ld1 (.t 19)),.q 21 (.bin .eql true (.t 20) (.i 1)),.v 22 21,⟨some 23,(some (22,true)),.q (.mv (.t 8))⟩,⟨some 24,(some (22,true)),.q (.mv (.t 1))⟩,⟨some 25,(some (22,true)),.q (.lnL (.t 24))⟩,⟨some 26,(some (22,true)),.q (.bin .lss true (.t 23) (.t 25))⟩,.a 27 (.pick (.t 22) (.t 26) (.k (.bool false)))]) (.cond (.t 27) .skip (.exit 0))) (.seq (.block 1 (.seq (.reg [.v 30 1,.v 31 8,.l 32 (.ia 1 (.t 30) (.t 31)),.l 33 (.ld1 (.t 32)),.q 34 (.fa 1 (.t 7)),.l 35 (.ld1 (.t 34)),.q 36 (.bin .eql true (.t 33) (.t 35))]) (.cond (.t 36) (.seq (.reg [.v 37 0,.v 38 0,.q 39 (.nc (.t 38)),.q 40 (.fa 1 (.t 39)),.l 41 (.ld1 (.t 40)),.q 42 (.bin .add true (.t 41) (.i 1)),.q 43 (.nc (.t 37)),.q 44 (.fa 1 (.t 43)),.s (.st 1 (.t 44) (.t 42))]) (.seq (.reg [.v 45 2,.v 46 8,.l 47 (.ia 1 (.t 45) (.t 46)),.l 48 (.ld1 (.t 47)),.v 6 48]) .ret)) .skip))) (.reg [.v 28 8,.q 29 (.bin .add true (.t 28) (.i 1)),.v 8 29])))))) (.seq (.reg [.v 49 0,.q 50 (.nc (.t 49)),.q 51 (.fa 2 (.t 50)),.s (.st 1 (.t 51) (.k (.bool true)))]) (.seq (.reg [.q 6 (.mv (.i 0))]) .ret))))
def TX:List RV:=[.mv (.t 6)]
theorem aG6:aP Tryz.prog true ⟨fun _ _=>.own [],fun _=>false⟩ Tryz.f74=some (TW,TX):=by kernel_rfl
def VS:PC:=.seq (.reg [.e 4 (.al (.agg #[(.int .i64 0),(.string (mk [])),(.int .i64 0),(.int .i64 0)]) 71)]) (.seq (.ord  [.q (.v 6 0),.q (.q 7 (.nc (.t 6))),.q (.q 8 (.fa 0 (.t 7))),.q (.l 9 (.ld1 (.t 8))),.q (.v 10 0),.q (.q 11 (.nc (.t 10))),.q (.q 12 (.fa 1 (.t 11))),.q (.l 13 (.ld1 (.t 12))),.q (.l 14 (.ia 4 (.t 9) (.t 13))),.q (.l 15 (.ldn 4 (.t 14))),.m (.e 5 (.al (.agg #[(.int .i64 0),(.string (mk [])),(.int .i64 0),(.int .i64 0)]) 71)),.rc (.v 6 0),.rc (.q 7 (.nc (.t 6))),.rc (.q 8 (.fa 0 (.t 7))),.rc (.l 9 (.ld1 (.t 8))),.rc (.v 10 0),.rc (.q 11 (.nc (.t 10))),.rc (.q 12 (.fa 1 (.t 11))),.rc (.l 13 (.ld1 (.t 12))),.rc (.l 14 (.ia 4 (.t 9) (.t 13))),.rc (.l 15 (.ldn 4 (.t 14))),.m (.s (.st 4 (.t 5) (.t 15)))]) (.seq (.seq (.reg [.q 16 (.fa 0 (.t 5)),.l 17 (.ld1 (.t 16)),.v 18 1,.q 19 (.bin .neq true (.t 17) (.t 18))]) (.cond (.t 19) (.seq (.reg [.v 20 0,.q 21 (.nc (.t 20)),.q 22 (.fa 2 (.t 21)),.s (.st 1 (.t 22) (.k (.bool true)))]) (.seq (.reg [.q 23 (.bd [(.int .i64 0),(.string (mk [])),(.int .i64 0),(.int .i64 0)] []),.s (.st 4 (.t 4) (.t 23))]) .ret)) .skip)) (.seq (.reg [.v 24 0,.v 25 0,.q 26 (.nc (.t 25)),.q 27 (.fa 1 (.t 26)),.l 28 (.ld1 (.t 27)),.q 29 (.bin .add true (.t 28) (.i 1)),.q 30 (.nc (.t 24)),.q 31 (.fa 1 (.t 30)),.s (.st 1 (.t 31) (.t 29))]) (.seq (.reg [.l 32 (.ldn 4 (.t 5)),.s (.st 4 (.t 4) (.t 32))]) .ret))))
def VH:List RV:=[.ld (.ldn 4 (.t 4))]
theorem aRL:aP Tryz.prog true ⟨fun _ _=>.own [],fun _=>false⟩ Tryz.f75=some (VS,VH):=by kernel_rfl
def aCM:PC:=.seq (.reg [.q 4 (.mv (.k (.bool false)))]) (.seq (.ord  [.q (.v 6 0),.q (.q 7 (.nc (.t 6))),.q (.q 8 (.fa 0 (.t 7))),.q (.l 9 (.ld1 (.t 8))),.q (.v 10 0),.q (.q 11 (.nc (.t 10))),.q (.q 12 (.fa 1 (.t 11))),.q (.l 13 (.ld1 (.t 12))),.q (.l 14 (.ia 4 (.t 9) (.t 13))),.q (.l 15 (.ldn 4 (.t 14))),.m (.e 5 (.al (.agg #[(.int .i64 0),(.string (mk [])),(.int .i64 0),(.int .i64 0)]) 71)),.rc (.v 6 0),.rc (.q 7 (.nc (.t 6))),.rc (.q 8 (.fa 0 (.t 7))),.rc (.l 9 (.ld1 (.t 8))),.rc (.v 10 0),.rc (.q 11 (.nc (.t 10))),.rc (.q 12 (.fa 1 (.t 11))),.rc (.l 13 (.ld1 (.t 12))),.rc (.l 14 (.ia 4 (.t 9) (.t 13))),.rc (.l 15 (.ldn 4 (.t 14))),.m (.s (.st 4 (.t 5) (.t 15)))]) (.seq (.seq (.reg [.q 16 (.fa 0 (.t 5)),.l 17 (.ld1 (.t 16)),.q 18 (.bin .neq true (.t 17) (.i 4)),.v 19 18,⟨some 20,(some (19,false)),.q (.fa 1 (.t 5))⟩,⟨some 21,(some (19,false)),.l (.ld1 (.t 20))⟩,⟨some 22,(some (19,false)),.q (.mv (.t 1))⟩,⟨some 23,(some (19,false)),.q (.bin .neq true (.t 21) (.t 22))⟩,.a 24 (.pick (.t 19) (.k (.bool true)) (.t 23))]) (.cond (.t 24) (.seq (.reg [.q 4 (.mv (.k (.bool false)))]) .ret) .skip)) (.seq (.reg [.v 25 0,.v 26 0,.q 27 (.nc (.t 26)),.q 28 (.fa 1 (.t 27)),.l 29 (.ld1 (.t 28)),.q 30 (.bin .add true (.t 29) (.i 1)),.q 31 (.nc (.t 25)),.q 32 (.fa 1 (.t 31)),.s (.st 1 (.t 32) (.t 30))]) (.seq (.reg [.q 4 (.mv (.k (.bool true)))]) .ret))))
def aHR:List RV:=[.mv (.t 4)]
theorem aPI:aP Tryz.prog true ⟨fun _ _=>.own [],fun _=>false⟩ Tryz.f77=some (aCM,aHR):=by kernel_rfl
def J6:PC:=.seq (.seq (.gh (.reg [.v 7 0,.v 8 1,.a 9 (.cl 77 [(.t 7),(.t 8)] [0]),.q 10 (.not (.t 9))])) (.cond (.t 10) (.reg [.v 11 0,.q 12 (.nc (.t 11)),.q 13 (.fa 2 (.t 12)),.s (.st 1 (.t 13) (.k (.bool true)))]) .skip)) (.seq (.reg [.q 4 (.mv (.k (.bool false)))]) .ret)
@[go_sem ↓] theorem aP7:aT J6:=aU _
def aGP:PC:=.seq (.reg [.q 4 (.mv (.k (.bool false)))]) (.seq (.seq (.reg [.v 5 0,.a 6 (.cl 77 [(.t 5),(.k (.string (mk [44])))] [0])]) (.cond (.t 6) (.seq (.reg [.q 4 (.mv (.k (.bool true)))]) .ret) .skip)) (J6))
def aIF:List RV:=[.mv (.t 4)]
theorem aQ5:aP Tryz.prog true ⟨fun r k=>if r=1/\k=1 then .own [0] else if r=3/\k=2 then .own [0] else .own [],fun r=>[3].contains r⟩ Tryz.f78=some (aGP,aIF):=by kernel_rfl
def BL:PC:=.gh (.ord  [.q (.v 98 3),.q (.q 99 (.nc (.t 98))),.q (.q 100 (.fa 4 (.t 99))),.q (.l 101 (.ld1 (.t 100))),.q (.q 102 (.fa 0 (.t 13))),.q (.l 103 (.ld1 (.t 102))),.q (.l 104 (.ldn 5 (.t 14))),.q (.q 105 (.bd [(.int .i64 0),(.int .i64 0),(.int .i64 0),(.string (mk [])),(.slice none 0 0),(.slice none 0 0)] [(0,1,(.t 103)),(1,5,(.t 104))])),.q (.q 106 (.lnL (.t 101))),.m (.e 107 (.bsl 57 6 [(.k (.agg #[(.int .i64 0),(.int .i64 0),(.int .i64 0),(.string (mk [])),(.slice none 0 0),(.slice none 0 0)]))])),.rc (.v 98 3),.rc (.q 99 (.nc (.t 98))),.rc (.q 100 (.fa 4 (.t 99))),.rc (.l 101 (.ld1 (.t 100))),.rc (.q 102 (.fa 0 (.t 13))),.rc (.l 103 (.ld1 (.t 102))),.rc (.l 104 (.ldn 5 (.t 14))),.rc (.q 105 (.bd [(.int .i64 0),(.int .i64 0),(.int .i64 0),(.string (mk [])),(.slice none 0 0),(.slice none 0 0)] [(0,1,(.t 103)),(1,5,(.t 104))])),.rc (.q 106 (.lnL (.t 101))),.m (.e 108 (.ap 57 6 88 (.t 101) (.t 107))),.q (.l 109 (.ia 6 (.t 108) (.t 106))),.q (.q 110 (.nc (.t 98))),.q (.q 111 (.fa 4 (.t 110))),.fk (.s (.st 6 (.t 109) (.t 105))) (.s (.st 1 (.t 111) (.t 108))) [.q 110 (.nc (.t 98)),.q 111 (.fa 4 (.t 110))] [.l 109 (.ia 6 (.t 108) (.t 106))]])
@[go_sem ↓] theorem aOD:aT BL:=aU _
def BR:PC:=.seq (.gh (.reg [.v 93 0,.l 94 (.ldn 3 (.t 5)),.q 95 (.fa 2 (.t 13)),.l 96 (.ldn 4 (.t 95)),.a 97 (.cl 33 [(.t 93),(.t 94),(.t 96)] [0]),.e 14 (.al (.agg #[(.int .i64 0),(.int .i64 0),(.string (mk [])),(.slice none 0 0),(.slice none 0 0)]) 32),.s (.st 5 (.t 14) (.t 97))])) (.seq (BL) .ret)
@[go_sem ↓] theorem aMV:aT BR:=aU _
def DF:PC:=.seq (.seq (.gh (.reg [.v 87 0,.a 88 (.cl 77 [(.t 87),(.k (.string (mk [61])))] [0]),.q 89 (.not (.t 88))])) (.cond (.t 89) (.seq (.reg [.v 90 0,.q 91 (.nc (.t 90)),.q 92 (.fa 2 (.t 91)),.s (.st 1 (.t 92) (.k (.bool true)))]) .ret) .skip)) (BR)
@[go_sem ↓] theorem aNV:aT DF:=aU _
def CD:PC:=.seq (.gh (.reg [.v 79 0,.v 80 0,.q 81 (.nc (.t 80)),.q 82 (.fa 1 (.t 81)),.l 83 (.ld1 (.t 82)),.q 84 (.bin .add true (.t 83) (.i 1)),.q 85 (.nc (.t 79)),.q 86 (.fa 1 (.t 85)),.s (.st 1 (.t 86) (.t 84))])) (DF)
@[go_sem ↓] theorem aOH:aT CD:=aU _
def qB:PC:=.seq (.seq (.gh (.reg [.q 68 (.fa 1 (.t 13)),.l 69 (.ld1 (.t 68)),.q 70 (.fa 1 (.t 11)),.l 71 (.ld1 (.t 70)),.q 72 (.bin .neq true (.t 69) (.t 71)),.v 73 72,⟨some 74,(some (73,false)),.q (.fa 0 (.t 13))⟩,⟨some 75,(some (73,false)),.l (.ld1 (.t 74))⟩,⟨some 76,(some (73,false)),.q (.mv (.t 10))⟩,⟨some 77,(some (73,false)),.q (.bin .leq true (.t 75) (.t 76))⟩,.a 78 (.pick (.t 73) (.k (.bool true)) (.t 77))])) (.cond (.t 78) (.exit 1) .skip)) (CD)
@[go_sem ↓] theorem aNX:aT qB:=aU _
def JY:PC:=.seq (.seq (.gh (.reg [.q 12 (.mv (.i 0))])) (.block 0 (.loop (.seq (.seq (.reg [.q 51 (.fa 0 (.t 11)),.l 52 (.ld1 (.t 51)),.q 53 (.bin .eql true (.t 52) (.i 1)),.v 54 53,⟨some 55,(some (54,true)),.q (.mv (.t 12))⟩,⟨some 56,(some (54,true)),.q (.fa 1 (.t 8))⟩,⟨some 57,(some (54,true)),.l (.ld1 (.t 56))⟩,⟨some 58,(some (54,true)),.q (.lnL (.t 57))⟩,⟨some 59,(some (54,true)),.q (.bin .lss true (.t 55) (.t 58))⟩,.a 60 (.pick (.t 54) (.t 59) (.k (.bool false)))]) (.cond (.t 60) .skip (.exit 0))) (.seq (.block 1 (.seq (.reg [.q 63 (.fa 1 (.t 8)),.l 64 (.ld1 (.t 63)),.v 65 12,.l 66 (.ia 7 (.t 64) (.t 65)),.l 67 (.ldn 7 (.t 66)),.e 13 (.al (.agg #[(.int .i64 0),(.string (mk [])),(.int .i64 0),(.int .i64 0),(.string (mk [])),(.slice none 0 0),(.bool false)]) 97),.s (.st 7 (.t 13) (.t 67))]) (qB))) (.reg [.v 61 12,.q 62 (.bin .add true (.t 61) (.i 1)),.v 12 62])))))) (.reg [.v 112 0,.q 113 (.nc (.t 112)),.q 114 (.fa 2 (.t 113)),.s (.st 1 (.t 114) (.k (.bool true)))])
@[go_sem ↓] theorem aS4:aT JY:=aU _
def pc79_5:PC:=.seq (.gh (.ord  [.q (.v 41 0),.q (.q 42 (.nc (.t 41))),.q (.q 43 (.fa 0 (.t 42))),.q (.l 44 (.ld1 (.t 43))),.q (.v 45 0),.q (.q 46 (.nc (.t 45))),.q (.q 47 (.fa 1 (.t 46))),.q (.l 48 (.ld1 (.t 47))),.q (.l 49 (.ia 4 (.t 44) (.t 48))),.q (.l 50 (.ldn 4 (.t 49))),.m (.e 11 (.al (.agg #[(.int .i64 0),(.string (mk [])),(.int .i64 0),(.int .i64 0)]) 71)),.rc (.v 41 0),.rc (.q 42 (.nc (.t 41))),.rc (.q 43 (.fa 0 (.t 42))),.rc (.l 44 (.ld1 (.t 43))),.rc (.v 45 0),.rc (.q 46 (.nc (.t 45))),.rc (.q 47 (.fa 1 (.t 46))),.rc (.l 48 (.ld1 (.t 47))),.rc (.l 49 (.ia 4 (.t 44) (.t 48))),.rc (.l 50 (.ldn 4 (.t 49))),.m (.s (.st 4 (.t 11) (.t 50)))])) (JY)
@[go_sem ↓] theorem aO4:aT pc79_5:=aU _
def zA:PC:=.seq (.seq (.gh (.reg [.v 22 3,.q 23 (.nc (.t 22)),.q 24 (.fa 4 (.t 23)),.l 25 (.ld1 (.t 24)),.q 26 (.lnL (.t 25)),.q 27 (.bin .gtr true (.t 26) (.i 0))])) (.cond (.t 27) (.reg [.v 28 3,.q 29 (.nc (.t 28)),.q 30 (.fa 4 (.t 29)),.l 31 (.ld1 (.t 30)),.v 32 3,.q 33 (.nc (.t 32)),.q 34 (.fa 4 (.t 33)),.l 35 (.ld1 (.t 34)),.q 36 (.lnL (.t 35)),.q 37 (.bin .sub true (.t 36) (.i 1)),.l 38 (.ia 6 (.t 31) (.t 37)),.q 39 (.fa 0 (.t 38)),.l 40 (.ld1 (.t 39)),.v 10 40]) .skip)) (pc79_5)
@[go_sem ↓] theorem aQ8:aT zA:=aU _
def IQ:PC:=.seq (.gh (.reg [.q 10 (.mv (.i 0))])) (zA)
@[go_sem ↓] theorem aQY:aT IQ:=aU _
def aGJ:PC:=.seq (.reg [.e 5 (.bx 25 (.t 1)),.e 6 (.bx 28 (.t 2))]) (.seq (.reg [.l 16 (.ldn 3 (.t 5)),.q 17 (.fa 2 (.t 6)),.l 18 (.ld1 (.t 17)),.a 19 (.cl 69 [(.t 16),(.t 18)] []),.v 15 19,.q 20 (.ex (.t 15) 0),.q 21 (.ex (.t 15) 1),.e 8 (.al (.agg #[(.string (mk [])),(.slice none 0 0)]) 95),.s (.st 2 (.t 8) (.t 20)),.v 9 21]) (IQ))
def N1:List RV:=[]
theorem aSK:aP Tryz.prog true ⟨fun r k=>if r=12/\k=1 then .own [0] else if r=14/\k=4 then .own [0] else .own [],fun r=>[2,3,5,6,10,11,12,14,15].contains r⟩ Tryz.f79=some (aGJ,N1):=by kernel_rfl
mutual
def prV:Vl->Bool
 | .mk _ _ s l f=>(decide ((bl s).length<=200) && (bl s).all mJ) && (prL l && prG f)
def prL:List Vl->Bool
 | []=>true
 | v :: r=>prV v && prL r
def prG:List (Int × Vl)->Bool
 | []=>true
 | (_,v) :: r=>prV v && prG r
end
theorem aF2 (c:UInt8):decide ((c.toNat:Int) < 32)=!decide (32<=c):=by
 have:decide (32<=c)=decide (32<=c.toNat):=by rw [decide_eq_decide,UInt8.le_iff_toNat_le]; rfl
 rw [this,<-decide_not,decide_eq_decide]; omega
theorem ZP (c:UInt8):decide (126 < (c.toNat:Int))=!decide (c<=126):=by
 have:decide (c<=126)=decide (c.toNat<=126):=by rw [decide_eq_decide,UInt8.le_iff_toNat_le]; rfl
 rw [this,<-decide_not,decide_eq_decide]; omega
def aPR (s:Sc):Prop:=∀ e ∈ s.es,e.ns.length=e.vs.length
structure NSt (ss:List St) (es:List En) (u:St):Prop where
 l:u.fs.length<=16
 n:∀ f ∈ u.fs,1<=f.num/\f.num<=127
 m:∀ f ∈ u.fs,c8 (bl f.nm)=true
 v:∀ f ∈ u.fs,valF ss es f.ty=true
 a:∀ k f g,0 < k->u.fs[k - 1]? = some g->u.fs[k]? = some f->g.num < f.num
 d:∀ k f,u.fs[k]? = some f->(u.fs.take k).any (fun g=>decide (g.nm=f.nm))=false
structure NEn (e:En):Prop where
 l:e.ns.length=e.vs.length
 s:e.ns.length<=16
 m:∀ n ∈ e.ns,c8 (bl n)=true
 d:∀ k x,e.ns[k]? = some x->dM (e.ns.take k) x=false
 a:∀ k x y,0 < k->e.vs[k - 1]? = some x->e.vs[k]? = some y->x < y
 n:∀ x ∈ e.vs,0<=x/\x<=127
structure Nice (s:Sc):Prop where
 st:∀ u ∈ s.ss,NSt s.ss s.es u
 en:∀ e ∈ s.es,NEn e
theorem gB {b:Bool} {x y:Int} (h:(bif b then x else y)=0) (hx:x ≠ 0):b=false/\y=0:=by
 cases b with
 | true=>exact absurd h hx
 | false=>exact ⟨rfl,h⟩
theorem Q7 {x y:Int} (h:(bif x != 0 then x else y)=0):x=0/\y=0:=by
 by_cases c:x=0
 · subst c; exact ⟨rfl,h⟩
 · rw [show (x != 0)=true by simpa using c] at h; exact absurd h c
theorem R6 {ss:List St} {es:List En} {t:St} {k:Nat} {f:Fl} (hx:t.fs[k]? = some f) (h:o6 ss es t k=0) :
 (1<=f.num/\f.num<=127)/\(∀ g,0 < k->t.fs[k - 1]? = some g->g.num < f.num)/\c8 (bl f.nm)=true/\(t.fs.take k).any (fun g=>decide (g.nm=f.nm))=false/\valF ss es f.ty=true:=by
 unfold o6 at h
 rw [hx] at h
 simp only at h
 obtain ⟨c1,h⟩:=gB h (by decide)
 obtain ⟨c2,h⟩:=gB h (by decide)
 obtain ⟨c3,h⟩:=gB h (by decide)
 obtain ⟨c4,h⟩:=gB h (by decide)
 obtain ⟨c5,h⟩:=gB h (by decide)
 simp only [Bool.or_eq_false_iff,decide_eq_false_iff_not] at c1
 refine ⟨⟨by omega,by omega⟩,fun g hk hg=>?_,by simpa using c3,c4,by simpa using c5⟩
 rw [hg] at c2
 simp only at c2
 rw [show decide (0 < (k:Int))=true by simp; omega,Bool.true_and] at c2
 have:=of_decide_eq_false c2
 omega
theorem DY {e:En} {k:Nat} {x:ByteArray} {n:Int} (hx:e.ns[k]? = some x) (hn:e.vs[k]? = some n) (h:kN e k=0) :
 c8 (bl x)=true/\dM (e.ns.take k) x=false/\(0<=n/\n<=127)/\(k=0->n=0)/\∀ m,0 < k->e.vs[k - 1]? = some m->m < n:=by
 unfold kN at h
 rw [hx,hn] at h
 simp only at h
 obtain ⟨c3,h⟩:=gB h (by decide)
 obtain ⟨c4,h⟩:=gB h (by decide)
 obtain ⟨c1,h⟩:=gB h (by decide)
 obtain ⟨c2,h⟩:=gB h (by decide)
 rw [Bool.or_eq_false_iff] at c1 c2
 have a1:=of_decide_eq_false c1.1
 have a2:=of_decide_eq_false c1.2
 refine ⟨by simpa using c3,c4,⟨by omega,by omega⟩,fun hk=>?_,fun m hk hm=>?_⟩
 · have c2:=c2.1
   rw [show decide ((k:Int)=0)=true by simp; omega,Bool.true_and] at c2
   exact Decidable.of_not_not (of_decide_eq_false c2)
 · have c2:=c2.2
   rw [hm] at c2
   simp only at c2
   rw [show decide (0 < (k:Int))=true by simp; omega,Bool.true_and] at c2
   have:=of_decide_eq_false c2
   omega
theorem MX {e:En} (h:EA e=0):0 < e.ns.length/\e.ns.length=e.vs.length/\∀ k < e.ns.length,kN e k=0:=by
 unfold EA at h
 obtain ⟨c1,h⟩:=gB h (by decide)
 simp only [Bool.or_eq_false_iff,decide_eq_false_iff_not] at c1
 exact ⟨by omega,by omega,fun k hk=>lA (m:=e.ns.length) (by rw [Nat.sub_zero]; exact h) k hk⟩
theorem rR {s:Sc} (h:eP s=0):eS s=false/\JV s=0/\ED s=0/\vM s.ss=0:=by
 unfold eP at h
 obtain ⟨_,h⟩:=gB h (by decide)
 obtain ⟨c2,h⟩:=gB h (by decide)
 obtain ⟨c3,h⟩:=Q7 h
 obtain ⟨c4,h⟩:=Q7 h
 exact ⟨c2,c3,c4,h⟩
theorem LM {s:Sc} (h:eP s=0):Nice s:=by
 obtain ⟨c2,c3,c4,_⟩:=rR h
 obtain ⟨l1,l2,l3,l4⟩:=v7 c2
 refine ⟨fun u hu=>?_,fun e he=>?_⟩
 · obtain ⟨i,hi⟩:=List.mem_iff_getElem?.1 hu
   have hc:=(MS hi (lA c4 i (bC.1 hi).1)).2
   have key:=fun k f (hx:u.fs[k]? = some f)=>R6 hx (lA hc k (bC.1 hx).1)
   have mem:∀ f ∈ u.fs,∃ k,u.fs[k]? = some f:=fun f hf=>List.mem_iff_getElem?.1 hf
   exact ⟨l4 u hu,fun f hf=>(mem f hf).elim fun k hx=>(key k f hx).1,fun f hf=>(mem f hf).elim fun k hx=>(key k f hx).2.2.1,fun f hf=>(mem f hf).elim fun k hx=>(key k f hx).2.2.2.2,
    fun k f g hk hg hf=>(key k f hf).2.1 g hk hg,fun k f hf=>(key k f hf).2.2.2.1⟩
 · obtain ⟨i,hi⟩:=List.mem_iff_getElem?.1 he
   obtain ⟨hp,hl,hc⟩:=MX (KW hi (lA c3 i (bC.1 hi).1)).2.2
   have key:=fun k x n (hx:e.ns[k]? = some x) (hn:e.vs[k]? = some n)=>DY hx hn (hc k (bC.1 hx).1)
   have oth:∀ k x,e.ns[k]? = some x->∃ n,e.vs[k]? = some n:=fun k x hx=>⟨_,a7 (hl ▸ (bC.1 hx).1)⟩
   have oth2:∀ k n,e.vs[k]? = some n->∃ x,e.ns[k]? = some x:=fun k x hx=>⟨_,a7 (hl ▸ (bC.1 hx).1)⟩
   refine ⟨hl,l3 e he,fun x hx=>?_,fun k x hx=>?_,fun k x y hk hx hy=>?_,fun n hn=>?_⟩
   · obtain ⟨k,hk⟩:=List.mem_iff_getElem?.1 hx
     obtain ⟨n,hn⟩:=oth k x hk
     exact (key k x n hk hn).1
   · obtain ⟨n,hn⟩:=oth k x hx
     exact (key k x n hx hn).2.1
   · obtain ⟨z,hz⟩:=oth2 k y hy
     exact (key k z y hz hy).2.2.2.2 x hk hx
   · obtain ⟨k,hk⟩:=List.mem_iff_getElem?.1 hn
     obtain ⟨z,hz⟩:=oth2 k n hk
     exact (key k z n hz hk).2.2.1
theorem TI {s:Sc} (h:eP s=0) {e:En} (he:e ∈ s.es):e.vs[0]? = some 0:=by
 obtain ⟨c2,c3,c4,_⟩:=rR h
 obtain ⟨i,hi⟩:=List.mem_iff_getElem?.1 he
 obtain ⟨hp,hl,hc⟩:=MX (KW hi (lA c3 i (bC.1 hi).1)).2.2
 have h1:e.ns[0]? = some e.ns[0]:=a7 hp
 have h2:e.vs[0]? = some (e.vs[0]'(hl ▸ hp)):=a7 (hl ▸ hp)
 rw [h2,(DY h1 h2 (hc 0 hp)).2.2.2.1 rfl]
theorem Nice.stOf {s:Sc} (h:Nice s) (t:Ty):NSt s.ss s.es (stOf s t):=by
 unfold Proofs.YtkpohmhenegkiaaGreatDoor.stOf
 cases h1:fS s.ss t.n with
 | none=>exact ⟨by decide,fun _ h=>(by cases h),fun _ h=>(by cases h),fun _ h=>(by cases h),fun _ _ _ _ h=>(by cases h),fun _ _ h=>(by cases h)⟩
 | some u=>exact h.st u (List.mem_of_find?_eq_some h1)
theorem Nice.enOf {s:Sc} (h:Nice s) (t:Ty):NEn (enOf s t):=by
 unfold Proofs.YtkpohmhenegkiaaGreatDoor.enOf
 cases h1:dJ s.es t.n with
 | none=>exact ⟨rfl,by decide,fun _ h=>(by cases h),fun _ _ h=>(by cases h),fun _ _ _ _ h=>(by cases h),fun _ h=>(by cases h)⟩
 | some u=>exact h.en u (List.mem_of_find?_eq_some h1)
theorem Nice.eq {s:Sc} (h:Nice s):aPR s:=fun e he=>(h.en e he).l
theorem UO {x:List UInt8} (h:c8 x=true):x.length<=16:=by
 rcases bF 16 x.length with h1 | h1
 · rw [sN h1] at h; cases h
 · exact h1
structure Ck (s:Sc) (t:Ty) (v:Vl):Prop where
 va:valF s.ss s.es t=true
 kk:v.k=t.k
 tx:(t.k == 4)=true->v.n=0/\v.l=[]/\v.f=[]/\((bl v.s).length:Int)<=t.s
 ls:(t.k == 5)=true->v.n=0/\bl v.s=[]/\v.f=[]/\(v.l.length:Int)<=t.s/\∀ x ∈ v.l,jQ s (t.e.headD default) x=0
 st:(t.k == 6)=true->v.n=0/\bl v.s=[]/\v.l=[]/\dI (stOf s t).fs v.f=true/\∀ x ∈ v.f,jQ s (gN (stOf s t) x.1).ty x.2=0
 nu:(t.k == 4)=false->(t.k == 5)=false->(t.k == 6)=false->bl v.s=[]/\v.l=[]/\v.f=[]/\EQ s t v.n=true
theorem bR {k a b:Int} (h:(k == a)=true) (hab:a ≠ b):(k == b)=false:=by
 have:=eq_of_beq h; simp; omega
def iN:Nat->Nat
 | 0=>500
 | m + 1=>40 * iN m
def pc8:PC:=.seq (.reg [.e 2 (.bx 25 (.t 0)),.e 3 (.bx 28 (.t 1)),.q 4 (.mv (.k (.bool false)))]) (.seq (.reg [.l 5 (.ldn 3 (.t 2)),.a 6 (.cq 18 [(.t 5)]),.v 7 6,⟨some 8,(some (7,true)),.l (.ldn 4 (.t 3))⟩,⟨some 9,(some (7,true)),.cq 19 [(.t 8)]⟩,.a 10 (.pick (.t 7) (.t 9) (.k (.bool false))),.v 11 10,⟨some 12,(some (11,true)),.l (.ldn 3 (.t 2))⟩,⟨some 13,(some (11,true)),.cq 20 [(.t 12)]⟩,⟨some 14,(some (11,true)),.q (.bin .eql true (.t 13) (.i 0))⟩,.a 15 (.pick (.t 11) (.t 14) (.k (.bool false))),.v 4 15]) .ret)
def Y1:List RV:=[.mv (.t 4)]
theorem ok8:aP Tryz.prog true ⟨fun r k=>if r=1/\k=1 then .q else if r=1/\k=4 then .q else if r=1/\k=8 then .q else .own [],fun _=>false⟩ Tryz.f8=some (pc8,Y1):=by kernel_rfl
def JC:PC:=.seq (.gh (.reg [.v 49 5,.q 50 (.bin .eql true (.t 49) (.i 0)),.v 51 50,⟨some 52,(some (51,true)),.l (.ldn 3 (.t 1))⟩,⟨some 53,(some (51,true)),.l (.ldn 4 (.t 2))⟩,⟨some 54,(some (51,true)),.l (.ldn 5 (.t 4))⟩,⟨some 55,(some (51,true)),.cq 11 [(.t 52),(.t 53),(.t 54)]⟩,⟨some 56,(some (51,true)),.q (.mv (.t 3))⟩,⟨some 57,(some (51,true)),.q (.bin .eql true (.t 55) (.t 56))⟩,.a 58 (.pick (.t 51) (.t 57) (.k (.bool false))),.v 59 58,⟨some 60,(some (59,true)),.q (.fa 4 (.t 4))⟩,⟨some 61,(some (59,true)),.l (.ld1 (.t 60))⟩,⟨some 62,(some (59,true)),.q (.lnL (.t 61))⟩,⟨some 63,(some (59,true)),.q (.bin .eql true (.t 62) (.i 3))⟩,.a 64 (.pick (.t 59) (.t 63) (.k (.bool false))),.v 65 64,⟨some 66,(some (65,true)),.q (.fa 4 (.t 4))⟩,⟨some 67,(some (65,true)),.l (.ld1 (.t 66))⟩,⟨some 68,(some (65,true)),.l (.ia 6 (.t 67) (.i 1))⟩,⟨some 69,(some (65,true)),.q (.fa 0 (.t 68))⟩,⟨some 70,(some (65,true)),.l (.ld1 (.t 69))⟩,⟨some 71,(some (65,true)),.q (.bin .eql true (.t 70) (.i 4))⟩,.a 72 (.pick (.t 65) (.t 71) (.k (.bool false))),.v 73 72,⟨some 74,(some (73,true)),.q (.fa 4 (.t 4))⟩,⟨some 75,(some (73,true)),.l (.ld1 (.t 74))⟩,⟨some 76,(some (73,true)),.l (.ia 6 (.t 75) (.i 1))⟩,⟨some 77,(some (73,true)),.q (.fa 1 (.t 76))⟩,⟨some 78,(some (73,true)),.q (.fa 1 (.t 77))⟩,⟨some 79,(some (73,true)),.l (.ld1 (.t 78))⟩,⟨some 80,(some (73,true)),.q (.bin .eql true (.t 79) (.i 3))⟩,.a 81 (.pick (.t 73) (.t 80) (.k (.bool false))),.v 82 81,⟨some 83,(some (82,true)),.q (.mv (.t 8))⟩,⟨some 84,(some (82,true)),.q (.bin .eql true (.t 83) (.i 4))⟩,.a 85 (.pick (.t 82) (.t 84) (.k (.bool false))),.v 86 85,⟨some 87,(some (86,true)),.q (.mv (.t 9))⟩,⟨some 88,(some (86,true)),.q (.bin .eql true (.t 87) (.i 0))⟩,.a 89 (.pick (.t 86) (.t 88) (.k (.bool false))),.v 90 89,⟨some 91,(some (90,true)),.q (.mv (.t 11))⟩,⟨some 92,(some (90,true)),.q (.bin .eql true (.t 91) (.i 2))⟩,.a 93 (.pick (.t 90) (.t 92) (.k (.bool false))),.v 94 93,⟨some 95,(some (94,true)),.q (.mv (.t 12))⟩,⟨some 96,(some (94,true)),.q (.bin .eql true (.t 95) (.i 13))⟩,.a 97 (.pick (.t 94) (.t 96) (.k (.bool false))),.v 98 97,⟨some 99,(some (98,true)),.q (.mv (.t 14))⟩,⟨some 100,(some (98,true)),.q (.bin .eql true (.t 99) (.i 2))⟩,.a 101 (.pick (.t 98) (.t 100) (.k (.bool false))),.v 102 101,⟨some 103,(some (102,true)),.q (.mv (.t 15))⟩,⟨some 104,(some (102,true)),.q (.bin .eql true (.t 103) (.i 15))⟩,.a 105 (.pick (.t 102) (.t 104) (.k (.bool false))),.v 0 105])) .ret
@[go_sem ↓] theorem aQN:aT JC:=aU _
def II:PC:=.seq (.gh (.reg [.l 43 (.ldn 3 (.t 1)),.l 44 (.ldn 4 (.t 2)),.a 45 (.cl 13 [(.t 43),(.t 44),(.k (.string (mk [123,120,32,61,32,49,44,32,109,111,100,101,32,61,32,115,116,111,112,44,32,108,32,61,32,91,93,125])))] []),.v 42 45,.q 46 (.ex (.t 42) 0),.q 47 (.ex (.t 42) 1),.q 48 (.ex (.t 42) 2),.e 13 (.al (.agg #[(.int .i64 0),(.int .i64 0),(.string (mk [])),(.slice none 0 0),(.slice none 0 0)]) 32),.s (.st 5 (.t 13) (.t 46)),.v 14 47,.v 15 48])) (JC)
@[go_sem ↓] theorem aSD:aT II:=aU _
def KD:PC:=.seq (.gh (.reg [.l 36 (.ldn 3 (.t 1)),.l 37 (.ldn 4 (.t 2)),.a 38 (.cl 13 [(.t 36),(.t 37),(.k (.string (mk [123,109,111,100,101,32,61,32,114,117,110,44,32,120,32,61,32,49,125])))] []),.v 35 38,.q 39 (.ex (.t 35) 0),.q 40 (.ex (.t 35) 1),.q 41 (.ex (.t 35) 2),.e 10 (.al (.agg #[(.int .i64 0),(.int .i64 0),(.string (mk [])),(.slice none 0 0),(.slice none 0 0)]) 32),.s (.st 5 (.t 10) (.t 39)),.v 11 40,.v 12 41])) (II)
@[go_sem ↓] theorem aRV:aT KD:=aU _
def J3:PC:=.seq (.gh (.reg [.l 29 (.ldn 3 (.t 1)),.l 30 (.ldn 4 (.t 2)),.a 31 (.cl 13 [(.t 29),(.t 30),(.k (.string (mk [123,120,32,61,32,50,48,48,44,32,109,111,100,101,32,61,32,114,117,110,44,32,108,32,61,32,91,93,125])))] []),.v 28 31,.q 32 (.ex (.t 28) 0),.q 33 (.ex (.t 28) 1),.q 34 (.ex (.t 28) 2),.e 7 (.al (.agg #[(.int .i64 0),(.int .i64 0),(.string (mk [])),(.slice none 0 0),(.slice none 0 0)]) 32),.s (.st 5 (.t 7) (.t 32)),.v 8 33,.v 9 34])) (KD)
@[go_sem ↓] theorem aQG:aT J3:=aU _
def JH:PC:=.seq (.gh (.reg [.l 21 (.ldn 3 (.t 1)),.l 22 (.ldn 4 (.t 2)),.v 23 3,.a 24 (.cl 13 [(.t 21),(.t 22),(.t 23)] []),.v 20 24,.q 25 (.ex (.t 20) 0),.q 26 (.ex (.t 20) 1),.q 27 (.ex (.t 20) 2),.e 4 (.al (.agg #[(.int .i64 0),(.int .i64 0),(.string (mk [])),(.slice none 0 0),(.slice none 0 0)]) 32),.s (.st 5 (.t 4) (.t 25)),.v 5 26,.v 6 27])) (J3)
@[go_sem ↓] theorem aQK:aT JH:=aU _
def J5:PC:=.seq (.gh (.reg [.q 3 (.mv (.k (.string (mk [123,120,32,61,32,45,53,44,32,109,111,100,101,32,61,32,114,117,110,44,32,108,32,61,32,91,116,114,117,101,44,32,102,97,108,115,101,93,125]))))])) (JH)
@[go_sem ↓] theorem aR1:aT J5:=aU _
def aDH:PC:=.seq (.reg [.q 0 (.mv (.k (.bool false)))]) (.seq (.reg [.a 17 (.cl 22 [] []),.v 16 17,.q 18 (.ex (.t 16) 0),.q 19 (.ex (.t 16) 1),.e 1 (.al (.agg #[(.int .i64 0),(.slice none 0 0),(.slice none 0 0)]) 25),.e 2 (.al (.agg #[(.int .i64 0),(.int .i64 0),(.string (mk [])),(.slice none 0 0)]) 28),.s (.st 3 (.t 1) (.t 18)),.s (.st 4 (.t 2) (.t 19))]) (J5))
def aIG:List RV:=[.mv (.t 0)]
theorem aR3:aP Tryz.prog true ⟨fun r k=>if r=7/\k=6 then .q else .own [],fun r=>[2,3,4,5,6,7].contains r⟩ Tryz.f10=some (aDH,aIG):=by kernel_rfl
def aEV:PC:=.seq (.reg [.e 0 (.al (.agg #[(.int .i64 0),(.slice none 0 0),(.slice none 0 0)]) 25),.e 1 (.al (.agg #[(.int .i64 0),(.int .i64 0),(.string (mk [])),(.slice none 0 0)]) 28)]) (.seq (.reg [.q 5 (.bd [(.int .i64 0),(.int .i64 0),(.string (mk [])),(.slice none 0 0)] [(0,1,(.i 1))]),.e 6 (.bsl 28 4 [(.t 5)]),.q 7 (.bd [(.int .i64 0),(.int .i64 0),(.string (mk [])),(.slice none 0 0)] [(0,1,(.i 5)),(1,1,(.i 2)),(3,1,(.t 6))]),.e 2 (.al (.agg #[(.int .i64 0),(.int .i64 0),(.string (mk [])),(.slice none 0 0)]) 28),.s (.st 4 (.t 2) (.t 7))]) (.seq (.reg [.q 8 (.bd [(.int .i64 0),(.int .i64 0),(.string (mk [])),(.slice none 0 0)] [(0,1,(.i 2)),(1,1,(.i 8))]),.q 9 (.bd [(.int .i64 0),(.string (mk [])),(.int .i64 0),(.int .i64 0),(.string (mk [])),(.slice none 0 0),(.bool false)] [(0,1,(.i 1)),(1,1,(.k (.string (mk [120])))),(2,4,(.t 8))]),.q 10 (.bd [(.int .i64 0),(.int .i64 0),(.string (mk [])),(.slice none 0 0)] [(0,1,(.i 4)),(1,1,(.i 5))]),.q 11 (.bd [(.int .i64 0),(.string (mk [])),(.int .i64 0),(.int .i64 0),(.string (mk [])),(.slice none 0 0),(.bool false)] [(0,1,(.i 2)),(1,1,(.k (.string (mk [110,97,109,101])))),(2,4,(.t 10)),(6,1,(.k (.bool true)))]),.q 12 (.bd [(.int .i64 0),(.int .i64 0),(.string (mk [])),(.slice none 0 0)] [(0,1,(.i 7)),(2,1,(.k (.string (mk [77,111,100,101]))))]),.q 13 (.bd [(.int .i64 0),(.string (mk [])),(.int .i64 0),(.int .i64 0),(.string (mk [])),(.slice none 0 0),(.bool false)] [(0,1,(.i 4)),(1,1,(.k (.string (mk [109,111,100,101])))),(2,4,(.t 12))]),.l 14 (.ldn 4 (.t 2)),.q 15 (.bd [(.int .i64 0),(.string (mk [])),(.int .i64 0),(.int .i64 0),(.string (mk [])),(.slice none 0 0),(.bool false)] [(0,1,(.i 5)),(1,1,(.k (.string (mk [108])))),(2,4,(.t 14))]),.e 16 (.bslx 97 7 [(.t 9),(.t 11),(.t 13),(.t 15)]),.v 3 16]) (.seq (.reg [.e 17 (.bsl 9 1 [(.k (.string (mk [105,100,108,101]))),(.k (.string (mk [114,117,110])))]),.e 18 (.bsl 3 1 [(.i 0),(.i 3)]),.q 19 (.bd [(.string (mk [])),(.slice none 0 0),(.slice none 0 0)] [(0,1,(.k (.string (mk [77,111,100,101])))),(1,1,(.t 17)),(2,1,(.t 18))]),.e 20 (.bslx 92 3 [(.t 19)]),.v 21 3,.q 22 (.bd [(.string (mk [])),(.slice none 0 0)] [(0,1,(.k (.string (mk [80,111,115,101])))),(1,1,(.t 21))]),.e 23 (.bslx 95 2 [(.t 22)]),.q 24 (.bd [(.int .i64 0),(.slice none 0 0),(.slice none 0 0)] [(0,1,(.i 1)),(1,1,(.t 20)),(2,1,(.t 23))]),.e 4 (.al (.agg #[(.int .i64 0),(.slice none 0 0),(.slice none 0 0)]) 25),.s (.st 3 (.t 4) (.t 24))]) (.seq (.reg [.l 25 (.ldn 3 (.t 4)),.q 26 (.bd [(.int .i64 0),(.int .i64 0),(.string (mk [])),(.slice none 0 0)] [(0,1,(.i 6)),(2,1,(.k (.string (mk [80,111,115,101]))))]),.s (.st 3 (.t 0) (.t 25)),.s (.st 4 (.t 1) (.t 26))]) .ret))))
def aIQ:List RV:=[.ld (.ldn 3 (.t 0)),.ld (.ldn 4 (.t 1))]
theorem aTN:aP Tryz.prog true ⟨fun r k=>if r=2/\k=8 then .q else if r=3/\k=3 then .q else if r=3/\k=6 then .q else .own [],fun _=>false⟩ Tryz.f22=some (aEV,aIQ):=by kernel_rfl
def r8 (a b:Int × Int):Int × Int:=(IntKind.i64.wrap (a.1 + b.1),max a.2 b.2)
mutual
def oK:Vl->Int->Int × Int
 | .mk _ _ _ l f,lev=>bif decide (20 < lev) then (1,lev) else I0 f (lev + 1) (wJ l (lev + 1) (1,lev))
def wJ:List Vl->Int->Int × Int->Int × Int
 | [],_,a=>a
 | v :: r,lev,a=>wJ r lev (r8 a (oK v lev))
def I0:List (Int × Vl)->Int->Int × Int->Int × Int
 | [],_,a=>a
 | (_,v) :: r,lev,a=>I0 r lev (r8 a (oK v lev))
end
mutual
theorem aBK:∀ (v:Vl) (lev:Int),lev<=(oK v lev).2
 | .mk k n s l f,lev=>by
  rw [oK]
  cases decide (20 < lev) with
  | true=>exact Int.le_refl _
  | false=>
   have h1:=uE l (lev + 1) (1,lev)
   have h2:=u0 f (lev + 1) (wJ l (lev + 1) (1,lev))
   rw [aH]
   simp only at h1
   omega
theorem uE:∀ (l:List Vl) (lev:Int) (a:Int × Int),a.2<=(wJ l lev a).2
 | [],_,_=>by rw [wJ]; exact Int.le_refl _
 | v :: r,lev,a=>by
  have h:=uE r lev (r8 a (oK v lev))
  rw [wJ]
  unfold r8 at h ⊢
  simp only at h
  omega
theorem u0:∀ (l:List (Int × Vl)) (lev:Int) (a:Int × Int),a.2<=(I0 l lev a).2
 | [],_,_=>by rw [I0]; exact Int.le_refl _
 | (i,v) :: r,lev,a=>by
  have h:=u0 r lev (r8 a (oK v lev))
  rw [I0]
  unfold r8 at h ⊢
  simp only at h
  omega
end
mutual
theorem ZE:∀ (v:Vl) (lev:Int),(oK v lev).2<=12->lev + v.h<=13
 | .mk k n s l f,lev,h=>by
  have h0:=aBK (.mk k n s l f) lev
  rw [oK] at h h0
  cases c:decide (20 < lev) with
  | true=>have:=of_decide_eq_true c; rw [c,aN] at h; simp only at h; omega
  | false=>
   rw [c,aH] at h h0
   have h1:=uE l (lev + 1) (1,lev)
   have h2:=u0 f (lev + 1) (wJ l (lev + 1) (1,lev))
   have h3:=Y5 f (lev + 1) (wJ l (lev + 1) (1,lev)) h
   have h4:=Z7 l (lev + 1) (1,lev) (by omega)
   rw [Vl.h]
   simp only at h1
   omega
theorem Z7:∀ (l:List Vl) (lev:Int) (a:Int × Int),(wJ l lev a).2<=12->Vl.hl l=0\/lev + Vl.hl l<=13
 | [],_,_,_=>.inl (by rw [Vl.hl])
 | v :: r,lev,a,h=>by
  rw [wJ] at h
  have h1:=uE r lev (r8 a (oK v lev))
  have h2:(oK v lev).2<=(r8 a (oK v lev)).2:=by unfold r8; simp only; omega
  have h3:=ZE v lev (by omega)
  have h4:=Z7 r lev _ h
  rw [Vl.hl]
  omega
theorem Y5:∀ (l:List (Int × Vl)) (lev:Int) (a:Int × Int),(I0 l lev a).2<=12->Vl.hf l=0\/lev + Vl.hf l<=13
 | [],_,_,_=>.inl (by rw [Vl.hf])
 | (i,v) :: r,lev,a,h=>by
  rw [I0] at h
  have h1:=u0 r lev (r8 a (oK v lev))
  have h2:(oK v lev).2<=(r8 a (oK v lev)).2:=by unfold r8; simp only; omega
  have h3:=ZE v lev (by omega)
  have h4:=Y5 r lev _ h
  rw [Vl.hf]
  omega
end
def tW (s:Sc) (t:Ty):Bool:=lD s && fewT t && eP s == 0
def FX:List S->Prop:=fun av=>match av with
 | [.va (.gs r),.va (.gs q)]=>qN r/\fH q
 | _=>False
theorem rB {av:List S} (h:FX av):∃ s t,av=[.va (.gs (aF s)),.va (.gs (aQ t))]/\s.ok/\TyOk t:=by
 unfold FX at h
 split at h
 · obtain ⟨⟨s,rfl,h1⟩,⟨t,rfl,h2⟩⟩:=h; exact ⟨s,t,rfl,h1,h2⟩
 · exact h.elim
noncomputable def V7:List S->A:=fun av=>match av with
 | [.va (.gs r),.va (.gs q)]=>bA (tW (C.sc r) (C.ty q))
 | _=>.gs []
noncomputable def feFn:Fun:=⟨FX,V7,fun av h=>by obtain ⟨_,_,rfl,_⟩:=rB h; trivial⟩
attribute [go_sem] feFn FX V7
theorem MZ {s:Sc} (h:s.ok):qN [.vl (.int .i64 s.ver),.fz (s.es.map bG),.fz (s.ss.map aR)]:=MQ h
theorem aIL:Meets Tryz.prog 8 feFn.sp:=by
 refine aE Tryz.func8 ok8 2 (by rw [Tryz.ntmps8]; decide) (aG aS5 (aG JG (aG aA6 (aA _)))) (fun av H K h=>by obtain ⟨_,_,rfl,_⟩:=rB h.1.1; rfl) ?_
 rintro av H K ⟨⟨h,rfl⟩,hK⟩
 obtain ⟨s,t,rfl,hs,ht⟩:=rB h
 have hK:K (bS (tW s t)) []:=by
  have:feFn.val [.va (.gs (aF s)),.va (.gs (aQ t))]=bA (tW s t):=by
   show bA (tW (C.sc (aF s)) (C.ty (aQ t)))=_
   rw [fB,eT]
  rw [this] at hK; exact hK
 clear h
 have fin:∀ (b:Bool) (R:Hp),tW s t=b->W.Fin 0 K (bS b) R:=fun b R h=>by
  rw [h] at hK; exact .sel [] (by simp) (by simp) rfl (.done (by simpa [go_sem] using hK))
 clear hK
 unfold tW at fin
 have k4:=eJ ht
 have k5:=iV t
 have k6:=MZ hs
 have k7:=jS s
 cases h1:lD s with
 | false=>
  rw [h1,Bool.false_and,Bool.false_and] at fin
  simp (maxSteps:=1000000) -dsimp only [go_sem,aF,aJ t,pc8,Y1,k4,k5,k6,k7,h1]
  exact fin _ _ rfl
 | true=>
 have k8:=fV (CE hs h1)
 cases h2:fewT t with
 | false=>
  rw [h1,h2,Bool.and_false,Bool.false_and] at fin
  simp (maxSteps:=1000000) -dsimp only [go_sem,aF,aJ t,pc8,Y1,f0Fn,k4,k5,k6,k7,k8,h1,h2]
  exact fin _ _ rfl
 | true=>
  rw [h1,h2,Bool.and_true,Bool.true_and] at fin
  cases h3:eP s == 0<;>rw [h3] at fin <;>
  · simp (maxSteps:=1000000) -dsimp only [go_sem,aF,aJ t,pc8,Y1,f0Fn,k4,k5,k6,k7,k8,h1,h2,h3]
    exact fin _ _ rfl
theorem aBA {s:Sc} {t:Ty} (hs:s.ok) (h:tW s t=true):s.fit/\Nice s:=by
 unfold tW at h
 rw [Bool.and_eq_true,Bool.and_eq_true] at h
 exact ⟨CE hs h.1.1,LM (eq_of_beq h.2)⟩
abbrev cW (ts:List Tk) (n:Nat) (b:Bool):B:=.cells [.fz (ts.map bE),.vl (.int .i64 n),.vl (.bool b)] 75
theorem gY {ts:List Tk} {n:Nat} (he:Ends ts) (hn:n < ts.length) (hk:(aO ts n).k ≠ 0):cP ts n=n + 1:=by
 have h:=he.last n _ (jG hn)
 unfold cP
 rw [if_pos]
 by_cases e:n + 1=ts.length
 · exact absurd (h.2 e) hk
 · omega
theorem rT {ts:List Tk} {n:Nat} (h:n < ts.length) (p:List C->Prop):(∀ r,(ts.map bE)[((n:Nat):Int).toNat]? = some r->p r)=p (bE (aO ts n)):=aV (row:=bE) (jG h) p
def BQ:W.Spec:=fun av H K=>∃ w ts n b,av=[.va (.c1 (.pt 0 0)),tS w]/\H=[cW ts n b]/\Ends ts/\n < ts.length/\K (bS (bQ 4 (bl w) (aO ts n))) [cW ts (n4 4 (bl w) ts n (aO ts n)) b]
theorem nZ {w:ByteArray} {ts:List Tk} {n:Nat} {b:Bool} {K:S->Hp->Prop} (h1:Ends ts) (h2:n < ts.length) (hK:K (bS (bQ 4 (bl w) (aO ts n))) [cW ts (n4 4 (bl w) ts n (aO ts n)) b]):BQ [.va (.c1 (.pt 0 0)),tS w] [cW ts n b] K:=⟨w,ts,n,b,rfl,rfl,h1,h2,hK⟩
theorem GW:Meets Tryz.prog 77 BQ:=by
 refine aE Tryz.func77 aPI 2 (by rw [Tryz.ntmps77]; decide) (aA _) (fun av H K h=>by obtain ⟨_,_,_,_,rfl,_⟩:=h; rfl) ?_
 rintro av H K ⟨w,ts,n,b,rfl,rfl,he,hn,hK⟩
 have q1:=fun p=>rT hn p
 have hle:=he.le
 have fin:∀ (g:Bool) (m:Nat) (R:Hp),bQ 4 (bl w) (aO ts n)=g->n4 4 (bl w) ts n (aO ts n)=m->W.Fin 1 K (bS g) (cW ts m b :: R):=fun g m R h1 h2=>by
  rw [h1,h2] at hK; exact .sel [0] (by simp) (by simp) rfl (.done (by simpa [go_sem] using hK))
 clear hK
 have hg:((aO ts n).k != 4 || !(aO ts n).x == bl w)=!(bQ 4 (bl w) (aO ts n)):=by simp [bQ,bne,Bool.not_and]
 rw [gZ] at fin
 simp (maxSteps:=1000000) -dsimp only [go_sem,aCM,aHR,↓q1,bE]
 rw [hg]
 refine ⟨⟨by omega,by omega⟩,⟨by omega,by omega⟩,fun h=>?_,fun h=>⟨⟨by omega,by omega⟩,?_⟩⟩
 · have h:bQ 4 (bl w) (aO ts n)=false:=by simpa using h
   rw [h] at fin
   exact fin _ _ _ rfl rfl
 · have h:bQ 4 (bl w) (aO ts n)=true:=by simpa using h
   have hk:(aO ts n).k ≠ 0:=by
    unfold bQ at h
    rw [Bool.and_eq_true] at h
    rw [eq_of_beq h.1]; decide
   rw [h,gY he hn hk] at fin
   exact fin _ _ _ rfl rfl
abbrev aS (n:Nat):Fs:=⟨false,0,n⟩
def OL:W.Spec:=fun av H K=>∃ k ts n,av=[.va (.c1 (.pt 0 0)),iS .i64 k]/\H=[cW ts n false]/\k ≠ 0/\Ends ts/\n < ts.length/\K (.va (.gs (bE (fZ k ts (aS n))))) [cW ts (dR k ts (aS n)).n (dR k ts (aS n)).bad]
theorem HM {k:Int} {ts:List Tk} {n:Nat} {K:S->Hp->Prop} (h0:k ≠ 0) (h1:Ends ts) (h2:n < ts.length) (hK:K (.va (.gs (bE (fZ k ts (aS n))))) [cW ts (dR k ts (aS n)).n (dR k ts (aS n)).bad]):OL [.va (.c1 (.pt 0 0)),iS .i64 k] [cW ts n false] K:=⟨k,ts,n,rfl,rfl,h0,h1,h2,hK⟩
theorem aAW:Meets Tryz.prog 75 OL:=by
 refine aE Tryz.func75 aRL 2 (by rw [Tryz.ntmps75]; decide) (aA _) (fun av H K h=>by obtain ⟨_,_,_,rfl,_⟩:=h; rfl) ?_
 rintro av H K ⟨k,ts,n,rfl,rfl,hk0,he,hn,hK⟩
 have q1:=fun p=>rT hn p
 have hle:=he.le
 have fin:∀ (t:Tk) (m:Nat) (b:Bool) (R:Hp),fZ k ts (aS n)=t->(dR k ts (aS n)).n=m->(dR k ts (aS n)).bad=b->W.Fin 1 K (.va (.gs (bE t))) (cW ts m b :: R):=fun t m b R h1 h2 h3=>by
  rw [h1,h2,h3] at hK; exact .sel [0] (by simp) (by simp) rfl (.done (by simpa [go_sem] using hK))
 clear hK
 unfold fZ dR hZ at fin
 simp only [Bool.not_false,Bool.true_and] at fin
 cases hc:(aO ts n).k == k with
 | true=>
  have hc':((aO ts n).k != k)=false:=by rw [bne,hc]; rfl
  have hk:(aO ts n).k ≠ 0:=by rw [eq_of_beq hc]; exact hk0
  rw [hc,gY he hn hk] at fin
  simp (maxSteps:=1000000) -dsimp only [go_sem,VS,VH,↓q1,bE,hc']
  refine ⟨⟨by omega,by omega⟩,⟨by omega,by omega⟩,⟨by omega,by omega⟩,fin _ _ _ _ rfl rfl rfl⟩
 | false=>
  have hc':((aO ts n).k != k)=true:=by rw [bne,hc]; rfl
  rw [hc] at fin
  simp (maxSteps:=1000000) -dsimp only [go_sem,VS,VH,↓q1,bE,hc']
  refine ⟨⟨by omega,by omega⟩,⟨by omega,by omega⟩,fin default _ _ _ rfl rfl rfl⟩
def sC (w:List UInt8) (ts:List Tk) (n:Nat):Fs:=bif cG [44] ts (aS n) then cJ [44] ts (aS n) else bW w ts (aS n)
def NP:W.Spec:=fun av H K=>∃ w ts n,av=[.va (.c1 (.pt 0 0)),tS w]/\H=[cW ts n false]/\Ends ts/\n < ts.length/\K (bS (cG [44] ts (aS n))) [cW ts (sC (bl w) ts n).n (sC (bl w) ts n).bad]
theorem SB {w:ByteArray} {ts:List Tk} {n:Nat} {K:S->Hp->Prop} (h1:Ends ts) (h2:n < ts.length) (hK:K (bS (cG [44] ts (aS n))) [cW ts (sC (bl w) ts n).n (sC (bl w) ts n).bad]):NP [.va (.c1 (.pt 0 0)),tS w] [cW ts n false] K:=⟨w,ts,n,rfl,rfl,h1,h2,hK⟩
theorem aEJ:Meets Tryz.prog 78 NP:=by
 refine aE Tryz.func78 aQ5 2 (by rw [Tryz.ntmps78]; decide) (aB GW (aA _)) (fun av H K h=>by obtain ⟨_,_,_,rfl,_⟩:=h; rfl) ?_
 rintro av H K ⟨w,ts,n,rfl,rfl,he,hn,hK⟩
 have fin:∀ (g:Bool) (m:Nat) (b:Bool) (R:Hp),cG [44] ts (aS n)=g->(sC (bl w) ts n).n=m->(sC (bl w) ts n).bad=b->W.Fin 1 K (bS g) (cW ts m b :: R):=fun g m b R h1 h2 h3=>by
  rw [h1,h2,h3] at hK; exact .sel [0] (by simp) (by simp) rfl (.done (by simpa [go_sem] using hK))
 clear hK
 unfold sC cJ bW cG at fin
 simp only [Bool.not_false,Bool.true_and] at fin
 simp (maxSteps:=1000000) -dsimp only [go_sem,aGP,aIF]
 refine nZ he hn ?_
 rw [gZ,show bl (mk [44])=[44] from rfl]
 cases h1:bQ 4 [44] (aO ts n) with
 | true=>
  rw [h1] at fin
  simp (maxSteps:=1000000) -dsimp only [go_sem]
  exact fin _ _ _ _ rfl rfl rfl
 | false=>
  rw [h1] at fin
  simp (maxSteps:=1000000) -dsimp only [go_sem]
  refine aD rfl (.done ?_)
  simp (maxSteps:=1000000) -dsimp only [go_sem,J6]
  refine nZ he hn ?_
  rw [gZ]
  cases h2:bQ 4 (bl w) (aO ts n) with
  | true=>
   rw [h2] at fin
   simp (maxSteps:=1000000) -dsimp only [go_sem]
   exact fin _ _ _ _ rfl rfl rfl
  | false=>
   rw [h2] at fin
   simp (maxSteps:=1000000) -dsimp only [go_sem]
   exact fin _ _ _ _ rfl rfl rfl
def NM:W.Spec:=fun av H K=>∃ (e:En) (ts:List Tk) (n:Nat),av=[.va (.c1 (.pt 0 0)),.va (.c1 (.fz (e.ns.map bM))),.va (.c1 (.fz (e.vs.map cH)))]/\H=[cW ts n false]/\e.ns.length=e.vs.length/\e.ns.length<=1000/\Ends ts/\n < ts.length/\
 K (iS .i64 (cE e ts (aS n)).1.n) [cW ts (cE e ts (aS n)).2.n (cE e ts (aS n)).2.bad]
theorem aEI {e:En} {ts:List Tk} {n:Nat} {K:S->Hp->Prop} (h0:e.ns.length=e.vs.length) (h00:e.ns.length<=1000) (h1:Ends ts) (h2:n < ts.length) (hK:K (iS .i64 (cE e ts (aS n)).1.n) [cW ts (cE e ts (aS n)).2.n (cE e ts (aS n)).2.bad]) :
 NM [.va (.c1 (.pt 0 0)),.va (.c1 (.fz (e.ns.map bM))),.va (.c1 (.fz (e.vs.map cH)))] [cW ts n false] K:=⟨e,ts,n,rfl,rfl,h0,h00,h1,h2,hK⟩
theorem mNumber0:Meets Tryz.prog 74 NM:=by
 refine aE Tryz.func74 aG6 3 (by rw [Tryz.ntmps74]; decide) (aA _) (fun av H K h=>by obtain ⟨_,_,_,rfl,_⟩:=h; rfl) ?_
 rintro av H K ⟨e,ts,n,rfl,rfl,hl,hl2,he,hn,hK⟩
 have q1:=fun p=>rT hn p
 have hle:=he.le
 have fin:∀ (v:Int) (m:Nat) (b:Bool) (R:Hp),(cE e ts (aS n)).1.n=v->(cE e ts (aS n)).2.n=m->(cE e ts (aS n)).2.bad=b->W.Fin 1 K (iS .i64 v) (cW ts m b :: R):=fun v m b R h1 h2 h3=>by
  rw [h1,h2,h3] at hK; exact .sel [0] (by simp) (by simp) rfl (.done (by simpa [go_sem] using hK))
 clear hK
 have hix:gL e ts (aS n)=bif (aO ts n).k == 1 then iK e.ns (mk (aO ts n).x) 0 else -1:=by simp [gL]
 unfold cE at fin
 rw [hix] at fin
 simp (maxSteps:=1000000) -dsimp only [go_sem,TW,TX,↓q1,bE]
 refine ⟨⟨by omega,by omega⟩,⟨by omega,by omega⟩,?_⟩
 cases hk:(aO ts n).k == 1 with
 | false=>
  rw [hk,aH] at fin
  refine aK (α:=Nat) (fun i=>[(0,.va (.c1 (.pt 0 0))),(1,.va (.c1 (.fz (e.ns.map bM)))),(2,.va (.c1 (.fz (e.vs.map cH)))),(7,.va (.c1 (.pt 1 0))),(8,iS .i64 i)]) (fun _=>[cW ts n false,.cells (bE (aO ts n)) 71])
   (fun i=>i<=e.ns.length) (fun i=>e.ns.length - i) 0 2 (Nat.zero_le _) ?_ ?_ ?_
  · simp -dsimp only [go_sem]<;>simp
  · simp -dsimp only [go_sem,bE]<;>simp
  intro i hi
  simp (maxSteps:=1000000) -dsimp only [go_sem,bE,hk]
  exact fin _ _ _ _ rfl rfl rfl
 | true=>
  rw [hk,aN] at fin
  have hk1:(aO ts n).k ≠ 0:=by rw [eq_of_beq hk]; decide
  refine aK (α:=Nat) (fun i=>[(0,.va (.c1 (.pt 0 0))),(1,.va (.c1 (.fz (e.ns.map bM)))),(2,.va (.c1 (.fz (e.vs.map cH)))),(7,.va (.c1 (.pt 1 0))),(8,iS .i64 i)]) (fun _=>[cW ts n false,.cells (bE (aO ts n)) 71])
   (fun i=>i<=e.ns.length/\iK (e.ns.drop i) (mk (aO ts n).x) i=iK e.ns (mk (aO ts n).x) 0) (fun i=>e.ns.length - i) 0 2 ⟨Nat.zero_le _,rfl⟩ ?_ ?_ ?_
  · simp -dsimp only [go_sem]<;>simp
  · simp -dsimp only [go_sem,bE]<;>simp
  rintro i ⟨hi,ho⟩
  rcases bF i e.ns.length with hlt | hge
  · have hg:decide ((i:Int) < (e.ns.length:Int))=true:=by simp; omega
    have hlt2:i < e.vs.length:=by omega
    have hx:e.vs[i]? = some e.vs[i]:=a7 hlt2
    have hy:e.ns[i]? = some e.ns[i]:=a7 hlt
    have q2:=aV (row:=cH) hx
    have q3:=aV (row:=bM) hy
    rw [List.drop_eq_getElem_cons hlt,iK] at ho
    have hgd:e.vs.getD ((i:Int)).toNat 0=e.vs[i]:=by simp [List.getD_eq_getElem?_getD,hx]
    have hbb:(bl e.ns[i] == (aO ts n).x)=decide (mk (aO ts n).x=e.ns[i]):=by
     have:=dC e.ns[i] (mk (aO ts n).x)
     rw [oH] at this
     rw [this,decide_eq_decide]
     exact ⟨fun h=>h.symm,fun h=>h.symm⟩
    generalize e.vs[i]=m at *
    generalize e.ns[i]=y at *
    cases hc:decide (mk (aO ts n).x=y) with
    | true=>
     rw [hc,aN] at ho
     rw [hc] at hbb
     rw [<-ho,hgd,gY he hn hk1,show decide ((i:Int) < 0)=false by simp,show decide ((e.vs.length:Int)<=(i:Int))=false by simp; omega] at fin
     simp (maxSteps:=1000000) -dsimp only [go_sem,bE,hk,hg,↓q2,↓q3,hbb]
     refine ⟨⟨by omega,by omega⟩,⟨by omega,by omega⟩,⟨by omega,by omega⟩,fin _ _ _ _ rfl rfl rfl⟩
    | false=>
     rw [hc,aH] at ho
     rw [hc] at hbb
     simp (maxSteps:=1000000) -dsimp only [go_sem,bE,hk,hg,↓q3,hbb]
     refine ⟨⟨by omega,by omega⟩,⟨by omega,by omega⟩,aC (i + 1) 2 ⟨by omega,ho⟩ (by omega) ?_ ?_⟩
     · simp -dsimp only [go_sem]<;>simp
     · simp -dsimp only [go_sem,bE]<;>simp
  · have hg:decide ((i:Int) < (e.ns.length:Int))=false:=by simp; omega
    have:e.ns.drop i=[]:=List.drop_eq_nil_iff.2 (by omega)
    rw [this,iK] at ho
    rw [<-ho] at fin
    simp (maxSteps:=1000000) -dsimp only [go_sem,bE,hk,hg]
    exact fin _ _ _ _ rfl rfl rfl
theorem l0 {ts:List Tk} {z:Fs} (h:z.bad=true):cV ts z=z:=by unfold cV; rw [h]; rfl
theorem nG {w:List UInt8} {ts:List Tk} {z:Fs} (h:z.bad=true):cG w ts z=false:=by unfold cG; rw [h]; rfl
theorem kA {w:List UInt8} {ts:List Tk} {z:Fs} (h:z.bad=true):bW w ts z=z:=by unfold bW; rw [nG h]; exact l0 h
theorem EZ {k:Int} {ts:List Tk} {z:Fs} (h:z.bad=true):dR k ts z=z:=by unfold dR hZ; rw [h]; exact l0 h
theorem yA {α:Type} {one:α->Fs->α × Fs} {ts:List Tk} {a:α} {z:Fs} (h:z.bad=true):∀ f,gX one ts f a z=(a,z)
 | 0=>rfl
 | f + 1=>by rw [kD,h]; rfl
theorem IS {α:Type} {one:α->Fs->α × Fs} {op sh:List UInt8} {ts:List Tk} {a:α} {z:Fs} (h:z.bad=true):cO one op sh ts a z=(a,z):=by
 unfold cO
 rw [kA h,nG h,yA h]
 rw [aH,kA h]
theorem aGF (N:Nat) (s:Sc) (ts:List Tk) (t:Ty) {z:Fs} (h:z.bad=true):(pP N s ts t z).2=z:=by
 cases N with
 | zero=>rfl
 | succ N=>
  rw [fN]
  cases t.k == 1 with
  | true=>rw [aN]; unfold cF; rw [h]; exact l0 h
  | false=>
  cases t.k == 4 with
  | true=>exact EZ h
  | false=>
  cases t.k == 7 with
  | true=>
   rw [aN,aH,aH]
   unfold cE gL
   rw [h]
   exact l0 h
  | false=>
  cases t.k == 5 with
  | true=>show (kJ (pP N) s ts (t.e.headD default) z).2=z; unfold kJ; rw [IS h]
  | false=>
  cases t.k == 6 with
  | true=>show (gA (pP N) s ts (stOf s t) z).2=z; unfold gA; rw [IS h]
  | false=>exact EZ h
def jX:Hp:=[.row [[.vl (.string (mk [102,97,108,115,101]))],[.vl (.string (mk [116,114,117,101]))]] 9 1,.row [[.vl (.int .i64 0)],[.vl (.int .i64 1)]] 3 1]
def N6:W.Spec:=fun av H K=>∃ ts n,av=[.va (.c1 (.pt 0 0)),.va (.c1 (.sl 1 2)),.va (.c1 (.sl 2 2))]/\H=cW ts n false :: jX/\Ends ts/\n < ts.length/\K (iS .i64 (cF ts (aS n)).1.n) (cW ts (cF ts (aS n)).2.n (cF ts (aS n)).2.bad :: jX)
theorem aF1 {ts:List Tk} {n:Nat} {K:S->Hp->Prop} (h1:Ends ts) (h2:n < ts.length) (hK:K (iS .i64 (cF ts (aS n)).1.n) (cW ts (cF ts (aS n)).2.n (cF ts (aS n)).2.bad :: jX)):N6 [.va (.c1 (.pt 0 0)),.va (.c1 (.sl 1 2)),.va (.c1 (.sl 2 2))] (cW ts n false :: jX) K:=⟨ts,n,rfl,rfl,h1,h2,hK⟩
theorem UD:Meets Tryz.prog 74 N6:=by
 refine aE Tryz.func74 aG6 3 (by rw [Tryz.ntmps74]; decide) (aA _) (fun av H K h=>by obtain ⟨_,_,rfl,_⟩:=h; rfl) ?_
 rintro av H K ⟨ts,n,rfl,rfl,he,hn,hK⟩
 have q1:=fun p=>rT hn p
 have hle:=he.le
 have fin:∀ (v:Int) (m:Nat) (b:Bool) (R:Hp),(cF ts (aS n)).1.n=v->(cF ts (aS n)).2.n=m->(cF ts (aS n)).2.bad=b->W.Fin 3 K (iS .i64 v) (cW ts m b :: (jX ++ R)):=fun v m b R h1 h2 h3=>by
  rw [h1,h2,h3] at hK; exact .sel [0,1,2] (by simp) (by simp [jX]) rfl (.done (by simpa [go_sem,jX] using hK))
 clear hK
 unfold cF bQ at fin
 unfold jX at fin ⊢
 simp (maxSteps:=1000000) -dsimp only [go_sem,TW,TX,↓q1,bE]
 refine ⟨⟨by omega,by omega⟩,⟨by omega,by omega⟩,?_⟩
 cases hk:(aO ts n).k == 1 with
 | false=>
  rw [hk] at fin
  refine aK (α:=Nat) (fun i=>[(0,.va (.c1 (.pt 0 0))),(1,.va (.c1 (.sl 1 2))),(2,.va (.c1 (.sl 2 2))),(7,.va (.c1 (.pt 3 0))),(8,iS .i64 i)]) (fun _=>cW ts n false :: jX ++ [.cells (bE (aO ts n)) 71])
   (fun i=>i<=2) (fun i=>2 - i) 0 4 (Nat.zero_le _) ?_ ?_ ?_
  · simp -dsimp only [go_sem]<;>simp
  · simp -dsimp only [go_sem,bE,jX]<;>simp
  intro i hi
  simp (maxSteps:=1000000) -dsimp only [go_sem,bE,hk,jX]
  have:=fin 0 n true [.cells (bE (aO ts n)) 71] rfl rfl rfl
  simpa [bE] using this
 | true=>
  rw [hk] at fin
  have hk1:(aO ts n).k ≠ 0:=by rw [eq_of_beq hk]; decide
  have hnx:=gY he hn hk1
  have d1:(gI == (aO ts n).x)=((aO ts n).x == gI):=Bool.eq_iff_iff.2 ⟨fun h=>by simpa using (eq_of_beq h).symm,fun h=>by simpa using (eq_of_beq h).symm⟩
  have d2:(iF == (aO ts n).x)=((aO ts n).x == iF):=Bool.eq_iff_iff.2 ⟨fun h=>by simpa using (eq_of_beq h).symm,fun h=>by simpa using (eq_of_beq h).symm⟩
  have d1:([102,97,108,115,101] == (aO ts n).x)=((aO ts n).x == gI):=d1
  have d2:([116,114,117,101] == (aO ts n).x)=((aO ts n).x == iF):=d2
  refine aK (α:=Nat) (fun i=>[(0,.va (.c1 (.pt 0 0))),(1,.va (.c1 (.sl 1 2))),(2,.va (.c1 (.sl 2 2))),(7,.va (.c1 (.pt 3 0))),(8,iS .i64 i)]) (fun _=>cW ts n false :: jX ++ [.cells (bE (aO ts n)) 71])
   (fun i=>i<=2/\(1<=i->((aO ts n).x == gI)=false)/\(2<=i->((aO ts n).x == iF)=false)) (fun i=>2 - i) 0 4 ⟨Nat.zero_le _,fun h=>by omega,fun h=>by omega⟩ ?_ ?_ ?_
  · simp -dsimp only [go_sem]<;>simp
  · simp -dsimp only [go_sem,bE,jX]<;>simp
  rintro i ⟨hi,h1,h2⟩
  have g0:decide (((0:Nat):Int) < ((2:Nat):Int))=true:=rfl
  have g1:decide (((1:Nat):Int) < ((2:Nat):Int))=true:=rfl
  have g2:decide (((2:Nat):Int) < ((2:Nat):Int))=false:=rfl
  obtain rfl | rfl | rfl:i=0\/i=1\/i=2:=by omega
  · cases hc:(aO ts n).x == gI with
    | true=>
     rw [show ((aO ts n).x == iF)=false by rw [eq_of_beq hc]; rfl,hc,hnx] at fin
     rw [hc] at d1
     simp (maxSteps:=1000000) -dsimp only [go_sem,bE,hk,jX,d1,g0,forall_eq']
     have:=fin 0 (n + 1) false [.cells (bE (aO ts n)) 71] rfl rfl rfl
     exact ⟨⟨by omega,by omega⟩,⟨by omega,by omega⟩,⟨by omega,by omega⟩,this⟩
    | false=>
     rw [hc] at d1
     simp (maxSteps:=1000000) -dsimp only [go_sem,bE,hk,jX,d1,g0,forall_eq']
     refine ⟨⟨by omega,by omega⟩,⟨by omega,by omega⟩,aC 1 4 ⟨by omega,fun _=>by first | rfl | exact h1 (Nat.le_refl _),fun _=>by first | rfl | omega⟩ (by omega) ?_ ?_⟩
     · simp -dsimp only [go_sem]<;>simp
     · simp -dsimp only [go_sem,bE,jX]<;>simp
  · rw [h1 (Nat.le_refl _)] at fin
    cases hc:(aO ts n).x == iF with
    | true=>
     rw [hc,hnx] at fin
     rw [hc] at d2
     simp (maxSteps:=1000000) -dsimp only [go_sem,bE,hk,jX,d2,g1,forall_eq']
     have:=fin 1 (n + 1) false [.cells (bE (aO ts n)) 71] rfl rfl rfl
     exact ⟨⟨by omega,by omega⟩,⟨by omega,by omega⟩,⟨by omega,by omega⟩,this⟩
    | false=>
     rw [hc] at d2
     simp (maxSteps:=1000000) -dsimp only [go_sem,bE,hk,jX,d2,g1,forall_eq']
     refine ⟨⟨by omega,by omega⟩,⟨by omega,by omega⟩,aC 2 4 ⟨by omega,fun _=>by first | rfl | exact h1 (Nat.le_refl _),fun _=>by first | rfl | omega⟩ (by omega) ?_ ?_⟩
     · simp -dsimp only [go_sem]<;>simp
     · simp -dsimp only [go_sem,bE,jX]<;>simp
  · rw [h1 (by decide),h2 (Nat.le_refl _)] at fin
    simp (maxSteps:=1000000) -dsimp only [go_sem,bE,hk,jX,g2,forall_eq']
    have:=fin 0 n true [.cells (bE (aO ts n)) 71] rfl rfl rfl
    simpa [bE] using this
structure Vr {α:Type} (ts:List Tk) (r:α × Fs) (v:α) (n:Nat) (b:Bool):Prop where
 hb:r.2.bad=b
 hn:n < ts.length
 ok:b=false->v=r.1/\r.2=aS n
 er:b=true->r.2.off=((aO ts n).a:Int)
def BE (N:Nat) (s:Sc) (t:Ty):Prop:=TyOk t/\dP N s t/\valF s.ss s.es t=true
def rL (N:Nat):W.Spec:=fun av H K=>∃ s ts t n,av=[.va (.c1 (.pt 0 0)),.va (.gs (aF s)),.va (.gs (aQ t))]/\H=[cW ts n false]/\s.fit/\Nice s/\Tks ts/\n < ts.length/\BE N s t/\
 ∀ v m b,VlOk v->Vr ts (pP N s ts t (aS n)) v m b->K (.va (.gs (a8 v))) [cW ts m b]
theorem JF {N:Nat} {s:Sc} {ts:List Tk} {t:Ty} {n:Nat} {K:S->Hp->Prop} (h1:s.fit) (h2:Nice s) (h3:Tks ts) (h4:n < ts.length) (h5:BE N s t) (hK:∀ v m b,VlOk v->Vr ts (pP N s ts t (aS n)) v m b->K (.va (.gs (a8 v))) [cW ts m b]) :
 rL N [.va (.c1 (.pt 0 0)),.va (.gs [.vl (.int .i64 s.ver),.fz (s.es.map bG),.fz (s.ss.map aR)]),.va (.gs [.vl (.int .i64 t.k),.vl (.int .i64 t.s),.vl (.string t.n),.fz (t.e.map aQ)])] [cW ts n false] K:=
 ⟨s,ts,t,n,by rw [aJ]; rfl,rfl,h1,h2,h3,h4,h5,hK⟩
def iC (F:List (Int × Vl)):Int:=match F.getLast? with | some x=>x.1 | none=>0
abbrev AP (ts:List Tk) (k:Int) (n:Nat) (b:Bool) (F:List (Int × Vl)):Hp:=[cW ts n b,.cells [.vl (.int .i64 k),.vl (.int .i64 0),.vl (.string (mk [])),.vl (.slice none 0 0),.sl 2 F.length] 32,.row (F.map bH) 57 6]
def HW (F:List (Int × Vl)):Prop:=∀ x ∈ F,cD x.1/\VlOk x.2
def OE (N:Nat):W.Spec:=fun av H K=>∃ s ts t k n F,av=[.va (.c1 (.pt 0 0)),.va (.gs (aF s)),.va (.gs (aQ t)),.va (.c1 (.pt 1 0))]/\H=AP ts k n false F/\s.fit/\Nice s/\TyOk t/\Tks ts/\n < ts.length/\(∀ f ∈ (stOf s t).fs,BE N s f.ty)/\HW F/\(F.length + 1) * 88<=140737488355328/\
 ∀ F' m b,HW F'->F'.length<=F.length + 1->(b=false->F' ≠ [])->Vr ts (cK (pP N) s ts (stOf s t) (iC F,F) (aS n)) (iC F',F') m b->K (.tu []) (AP ts k m b F')
theorem aCQ {N:Nat} {s:Sc} {ts:List Tk} {t:Ty} {k:Int} {n:Nat} {F:List (Int × Vl)} {K:S->Hp->Prop} (h1:s.fit) (h2:Nice s) (h0:TyOk t) (h3:Tks ts) (h4:n < ts.length) (h5:∀ f ∈ (stOf s t).fs,BE N s f.ty) (h6:HW F) (h7:(F.length + 1) * 88<=140737488355328)
 (hK:∀ F' m b,HW F'->F'.length<=F.length + 1->(b=false->F' ≠ [])->Vr ts (cK (pP N) s ts (stOf s t) (iC F,F) (aS n)) (iC F',F') m b->K (.tu []) (AP ts k m b F')) :
 OE N [.va (.c1 (.pt 0 0)),.va (.gs [.vl (.int .i64 s.ver),.fz (s.es.map bG),.fz (s.ss.map aR)]),.va (.gs [.vl (.int .i64 t.k),.vl (.int .i64 t.s),.vl (.string t.n),.fz (t.e.map aQ)]),.va (.c1 (.pt 1 0))] (AP ts k n false F) K:=
 ⟨s,ts,t,k,n,F,by rw [aJ]; rfl,rfl,h1,h2,h0,h3,h4,h5,h6,h7,hK⟩
theorem HG {x:List UInt8}:∀ {fs:List Fl} {i:Nat} {f:Fl} (o:Nat),fs[i]? = some f->(bl f.nm == x)=true->(∀ j < i,∀ g,fs[j]? = some g->(bl g.nm == x)=false)->fI x fs o=((o + i:Nat):Int)
 | [],i,f,o,h,_,_=>by simp at h
 | y :: fs,0,f,o,h,hx,_=>by
  simp at h; subst h
  rw [fI,hx]; rfl
 | y :: fs,i + 1,f,o,h,hx,hj=>by
  rw [fI,hj 0 (by omega) y rfl,aH,HG (o + 1) (by simpa using h) hx fun j hlt g hg=>hj (j + 1) (by omega) g (by simpa using hg)]
  congr 1; omega
theorem KV {x:List UInt8}:∀ {fs:List Fl} (o:Nat),0<=fI x fs o->∃ f,fs[(fI x fs o).toNat - o]? = some f/\(bl f.nm == x)=true/\o<=(fI x fs o).toNat
 | [],o,h=>by rw [fI] at h; omega
 | y :: fs,o,h=>by
  rw [fI] at h ⊢
  cases hc:bl y.nm == x with
  | true=>rw [aN]; exact ⟨y,by simp,hc,by simp⟩
  | false=>
   rw [hc,aH] at h
   rw [aH]
   obtain ⟨f,h1,h2,h3⟩:=KV (o + 1) h
   refine ⟨f,?_,h2,by omega⟩
   rw [show (fI x fs (o + 1)).toNat - o=(fI x fs (o + 1)).toNat - (o + 1) + 1 by omega]
   simpa using h1
def NoF (u:St) (x:List UInt8) (last:Int) (i:Nat):Prop:=∀ j < i,∀ g,u.fs[j]? = some g->¬ ((bl g.nm == x)=true/\last < g.num)
theorem aBR {ss:List St} {es:List En} {u:St} (hu:NSt ss es u) {ts:List Tk} {z:Fs} {last:Int} {i:Nat} {f:Fl} (hk:((aO ts z.n).k == 1)=true) (hi:u.fs[i]? = some f) (hx:(bl f.nm == (aO ts z.n).x)=true) (hl:last < f.num) :
 iJ ts u last z=false/\u.fs.getD (dG ts u z).toNat default=f:=by
 have h1:dG ts u z=(i:Int):=by
  unfold dG
  rw [HG 0 hi hx fun j hj g hg=>?_,Nat.zero_add]
  have hd:=jB (hu.d i f hi) g (bT (by rw [List.getElem?_take_of_lt hj]; exact hg))
  have hd:=of_decide_eq_false hd
  rw [Bool.eq_false_iff]
  intro hg2
  exact hd (tZ ((eq_of_beq hg2).trans (eq_of_beq hx).symm))
 have h2:u.fs.getD (dG ts u z).toNat default=f:=by rw [h1]; simp [List.getD_eq_getElem?_getD,hi]
 refine ⟨?_,h2⟩
 unfold iJ
 rw [h2,h1,bne,hk]
 have a1:decide ((i:Int) < 0)=false:=by simp
 have a2:decide (f.num<=last)=false:=by simp; omega
 rw [a1,a2]; rfl
theorem HN {u:St} {ts:List Tk} {z:Fs} {last:Int} (h:((aO ts z.n).k == 1)=false\/NoF u (aO ts z.n).x last u.fs.length):iJ ts u last z=true:=by
 unfold iJ
 rcases h with h | h
 · rw [bne,h]; rfl
 · by_cases h0:dG ts u z < 0
   · rw [decide_eq_true h0,Bool.or_true,Bool.true_or]
   · obtain ⟨f,h1,h2,_⟩:=KV (x:=(aO ts z.n).x) (fs:=u.fs) 0 (by unfold dG at h0; omega)
     have h1:u.fs[(dG ts u z).toNat]? = some f:=h1
     have h3:=h _ (bC.1 h1).1 f h1
     have h4:u.fs.getD (dG ts u z).toNat default=f:=by simp [List.getD_eq_getElem?_getD,h1]
     have:decide (f.num<=last)=true:=decide_eq_true (by
      rcases Int.lt_or_le last f.num with h5 | h5
      · exact absurd ⟨h2,h5⟩ h3
      · exact h5)
     rw [h4,this,Bool.or_true]
def P1 (N:Nat):cQ:=[(69,.s kR),(77,.s BQ),(33,.s (rL N))]
theorem aF6 (N:Nat):sp (P1 N) 69=kR:=rfl
theorem aEY (N:Nat):sp (P1 N) 77=BQ:=rfl
theorem aE1 (N:Nat):sp (P1 N) 33=rL N:=rfl
theorem kZ {ts:List Tk} {n:Nat} (he:Ends ts) (hn:n < ts.length) (hk:(aO ts n).k ≠ 0):n + 1 < ts.length:=by
 have h:=he.last n _ (jG hn)
 by_cases e:n + 1=ts.length
 · exact absurd (h.2 e) hk
 · omega
theorem QP (F:List (Int × Vl)) (x:Int × Vl):iC (F ++ [x])=x.1:=by unfold iC; simp
theorem iP {k:Int} {w:List UInt8} {t:Tk} (h:bQ k w t=true):t.k=k:=by unfold bQ at h; rw [Bool.and_eq_true] at h; exact eq_of_beq h.1
abbrev iB (s:Sc):B:=.cells [.vl (.int .i64 s.ver),.fz (s.es.map bG),.fz (s.ss.map aR)] 25
abbrev iH (t:Ty):B:=.cells [.vl (.int .i64 t.k),.vl (.int .i64 t.s),.vl (.string t.n),.fz (t.e.map aQ)] 28
abbrev BK (u:St):B:=.cells [.vl (.string u.nm),.fz (u.fs.map aY)] 95
theorem aB7 {N:Nat} (hV:Meets Tryz.prog 33 (rL N)):Meets Tryz.prog 79 (OE N):=by
 refine aE (Γ:=P1 N) Tryz.func79 aSK 4 (by rw [Tryz.ntmps79]; decide) (aB xB (aB GW (aB hV (aA _)))) (fun av H K h=>by obtain ⟨_,_,_,_,_,_,rfl,_⟩:=h; rfl) ?_
 rintro av H K ⟨s,ts,t,k,n,F,rfl,rfl,hs,hni,ht,hts,hn,hD,hF,hlen,hK⟩
 have he:=hts.e
 have hle:=he.le
 have fin:∀ F' m b (R:Hp),HW F'->F'.length<=F.length + 1->(b=false->F' ≠ [])->Vr ts (cK (pP N) s ts (stOf s t) (iC F,F) (aS n)) (iC F',F') m b->W.Fin 3 K (.tu []) (AP ts k m b F' ++ R):=fun F' m b R h1 h2 h3 h4=>by
  have:=hK F' m b h1 h2 h3 h4
  exact .sel [0,1,2] (by simp) (by simp) rfl (.done (by simpa [go_sem] using this))
 clear hK
 have q1:=fun p=>rT hn p
 have hu:=hni.stOf t
 have hok:=jK hs t
 simp (maxSteps:=1000000) -dsimp only [go_sem,aF,aJ t,aGJ,N1,aF6]
 refine iR hs ?_
 rw [show (fS s.ss t.n).getD default=stOf s t from rfl]
 generalize stOf s t=u at *
 have hul:=hok.len
 simp (maxSteps:=1000000) -dsimp only [go_sem,aR]
 refine aD rfl (.done ?_)
 simp (maxSteps:=1000000) -dsimp only [go_sem,IQ]
 refine aD rfl (.done ?_)
 have tl5:vc (P1 N) 3 pc79_5.ungh (dS [(0,.va (.c1 (.pt 0 0))),(3,.va (.c1 (.pt 1 0))),(5,.va (.c1 (.pt 3 0))),(6,.va (.c1 (.pt 4 0))),(8,.va (.c1 (.pt 5 0))),(10,iS .i64 (iC F))]) (AP ts k n false F ++ [iB s,iH t,BK u]) (f7 3 N1 K):=by
  generalize hla:iC F=last at *
  simp (maxSteps:=1000000) -dsimp only [go_sem,pc79_5,N1,↓q1,bE]
  refine ⟨⟨by omega,by omega⟩,⟨by omega,by omega⟩,aD rfl (.done ?_)⟩
  simp (maxSteps:=1000000) -dsimp only [go_sem,JY]
  have bad:iJ ts u last (aS n)=true->∀ R,W.Fin 3 K (.tu []) (AP ts k n true F ++ R):=fun hb R=>by
   refine fin F n true R hF (by omega) (fun h=>by cases h) ?_
   have e:cK (pP N) s ts u (last,F) (aS n)=((last,F),cV ts (aS n)):=by unfold cK; rw [hb]; rfl
   rw [e,hla]
   exact ⟨rfl,hn,fun h=>(by cases h),fun _=>rfl⟩
  refine aK (α:=Nat) (fun i=>[(0,.va (.c1 (.pt 0 0))),(3,.va (.c1 (.pt 1 0))),(5,.va (.c1 (.pt 3 0))),(8,.va (.c1 (.pt 5 0))),(10,iS .i64 last),(11,.va (.c1 (.pt 6 0))),(12,iS .i64 i)]) (fun _=>AP ts k n false F ++ [iB s,iH t,BK u,.cells (bE (aO ts n)) 71])
   (fun i=>i<=u.fs.length/\NoF u (aO ts n).x last i) (fun i=>u.fs.length - i) 0 7 ⟨Nat.zero_le _,fun j h=>by omega⟩ ?_ ?_ ?_
  · simp -dsimp only [go_sem]<;>simp
  · simp -dsimp only [go_sem,bE]<;>simp
  rintro i ⟨hi,ho⟩
  cases hk:(aO ts n).k == 1 with
  | false=>
   simp (maxSteps:=1000000) -dsimp only [go_sem,bE,hk]
   exact bad (HN (.inl hk)) [iB s,iH t,BK u,.cells (bE (aO ts n)) 71]
  | true=>
  rcases bF i u.fs.length with hlt | hge
  · have hg:decide ((i:Int) < (u.fs.length:Int))=true:=by simp; omega
    have hx:u.fs[i]? = some u.fs[i]:=a7 hlt
    have q2:=aV (row:=aY) hx
    have hfo:=hok.fs _ (List.getElem_mem hlt)
    have hDf:=hD _ (List.getElem_mem hlt)
    generalize u.fs[i]=f at *
    simp (maxSteps:=1000000) -dsimp only [go_sem,bE,hk,hg,↓q2,aY]
    refine ⟨⟨by omega,by omega⟩,aD rfl (.done ?_)⟩
    have next:¬ ((bl f.nm == (aO ts n).x)=true/\last < f.num)->NoF u (aO ts n).x last (i + 1):=fun h j hj g hgj=>by
     rcases bF j i with h1 | h1
     · exact ho j h1 g hgj
     · obtain rfl:j=i:=by omega
       rw [hx] at hgj
       obtain rfl:=bN hgj
       exact h
    cases h1:bl f.nm == (aO ts n).x with
    | false=>
     simp (maxSteps:=1000000) -dsimp only [go_sem,qB,h1]
     refine ⟨⟨by omega,by omega⟩,aC (i + 1) 7 ⟨by omega,next fun h=>?_⟩ (by omega) ?_ ?_⟩
     · rw [h1] at h; cases h.1
     · simp -dsimp only [go_sem]<;>simp
     · simp -dsimp only [go_sem,bE]<;>simp
    | true=>
    cases h2:decide (f.num<=last) with
    | true=>
     simp (maxSteps:=1000000) -dsimp only [go_sem,qB,h1,h2]
     refine ⟨⟨by omega,by omega⟩,aC (i + 1) 7 ⟨by omega,next fun h=>?_⟩ (by omega) ?_ ?_⟩
     · have:=of_decide_eq_true h2; omega
     · simp -dsimp only [go_sem]<;>simp
     · simp -dsimp only [go_sem,bE]<;>simp
    | false=>
     simp (maxSteps:=1000000) -dsimp only [go_sem,qB,h1,h2]
     refine aD rfl (.done ?_)
     simp (maxSteps:=1000000) -dsimp only [go_sem,CD]
     have hk1:(aO ts n).k ≠ 0:=by rw [eq_of_beq hk]; decide
     have hn1:=kZ he hn hk1
     have hfit:=aBR hu (z:=aS n) hk hx h1 (by have:=of_decide_eq_false h2; omega:last < f.num)
     have e1:cK (pP N) s ts u (last,F) (aS n)=((f.num,F ++ [(f.num,(pP N s ts f.ty (lJ ts (aS n))).1)]),(pP N s ts f.ty (lJ ts (aS n))).2):=by
      unfold cK; rw [hfit.1,hfit.2]; rfl
     have e2:lJ ts (aS n)=bW [61] ts (aS (n + 1)):=by unfold lJ; rw [gY he hn hk1]
     refine ⟨⟨by omega,by omega⟩,aD rfl (.done ?_)⟩
     simp (maxSteps:=1000000) -dsimp only [go_sem,DF,aEY]
     refine nZ (n:=n + 1) (b:=false) he hn1 ?_
     rw [gZ,show bl (mk [61])=[61] from rfl]
     cases h3:bQ 4 [61] (aO ts (n + 1)) with
     | false=>
      have e3:bW [61] ts (aS (n + 1))=⟨true,((aO ts (n + 1)).a:Int),n + 1⟩:=by unfold bW cG; rw [h3]; rfl
      rw [e2,e3] at e1
      have e4:=aGF N s ts f.ty (z:=⟨true,((aO ts (n + 1)).a:Int),n + 1⟩) rfl
      simp (maxSteps:=1000000) -dsimp only [go_sem]
      refine fin F (n + 1) true [iB s,iH t,BK u,.cells (bE (aO ts n)) 71,.cells (aY f) 97] hF (by omega) (fun h=>by cases h) ?_
      rw [hla,e1]
      exact ⟨by rw [e4],hn1,fun h=>(by cases h),fun _=>by rw [e4]⟩
     | true=>
      have hk2:(aO ts (n + 1)).k ≠ 0:=by rw [iP h3]; decide
      have hn2:=kZ he hn1 hk2
      rw [aN,gY he hn1 hk2]
      have e3:bW [61] ts (aS (n + 1))=aS (n + 2):=by unfold bW cG; rw [h3,gY he hn1 hk2]; rfl
      rw [e2,e3] at e1
      simp (maxSteps:=1000000) -dsimp only [go_sem]
      refine aD rfl (.done ?_)
      simp (maxSteps:=1000000) -dsimp only [go_sem,BR,aE1]
      refine JF (n:=n + 2) hs hni hts hn2 hDf ?_
      intro v m b hv hr
      simp (maxSteps:=1000000) -dsimp only [go_sem,aM v]
      refine aD rfl (.done ?_)
      simp (maxSteps:=1000000) -dsimp only [go_sem,BL]
      have ha:∀ {x r:List C},(F.map bH ++ [x])[F.length]? = some r->r=x:=fun {x r} h=>by
       have h0:F.length=(F.map bH).length:=by simp
       rw [h0,List.getElem?_concat_length] at h
       exact (bN h).symm
      have hb:∀ x:List C,(F.map bH ++ [x]).set F.length (bH (f.num,v))=(F ++ [(f.num,v)]).map bH:=fun x=>by
       rw [List.set_append_right _ _ (by simp)]
       simp
      have el:(F ++ [(f.num,v)]).length=F.length + 1:=by simp
      have fin2:∀ {r x:List C} (R:Hp),r=[.vl (.int .i64 0),.vl (.int .i64 0),.vl (.int .i64 0),.vl (.string (mk [])),.vl (.slice none 0 0),.vl (.slice none 0 0)]->W.Fin 3 K (.tu []) (cW ts m b :: .cells [.vl (.int .i64 k),.vl (.int .i64 0),.vl (.string (mk [])),.vl (.slice none 0 0),.sl 2 (F.length + 1)] 32 ::
       .row ((F.map bH ++ [x]).set F.length (.vl (.int .i64 f.num) :: .vl (.int .i64 v.k) :: .vl (.int .i64 v.n) :: .vl (.string v.s) :: .fz (v.l.map a8) :: .fz (v.f.map bH) :: List.drop 6 r)) 57 6 :: R):=fun {r x} R hr=>by
       subst hr
       have:=fin (F ++ [(f.num,v)]) m b R (fun y hy=>by
        rcases List.mem_append.1 hy with h | h
        · exact hF y h
        · rw [List.mem_singleton.1 h]; exact ⟨hfo.num,hv⟩) (by rw [el]; omega) (fun _ h=>by simp at h) (by
        rw [e1,QP]
        exact ⟨hr.hb,hr.hn,fun h=>by rw [(hr.ok h).1]; exact ⟨rfl,(hr.ok h).2⟩,hr.er⟩)
       unfold AP at this
       rw [el,<-hb x,bH,aM] at this
       exact this
      exact ⟨hlen,⟨by omega,by omega⟩,⟨by omega,fun r hr=>fin2 _ (ha hr)⟩,⟨by omega,by omega⟩,by omega,fun r hr=>fin2 _ (ha hr)⟩
  · have hg:decide ((i:Int) < (u.fs.length:Int))=false:=by simp; omega
    obtain rfl:i=u.fs.length:=by omega
    simp (maxSteps:=1000000) -dsimp only [go_sem,bE,hk,hg]
    exact bad (HN (.inr ho)) [iB s,iH t,BK u,.cells (bE (aO ts n)) 71]
 cases h0:decide (0 < (F.length:Int)) with
 | false=>
  obtain rfl:F=[]:=n7 h0
  have g0:decide ((0:Int) < ((0:Nat):Int))=false:=rfl
  simp (maxSteps:=1000000) -dsimp only [go_sem,zA,List.map_nil,List.length_nil,g0]
  refine b8 6 tl5 ?_ ?_
  · simp -dsimp only [go_sem]<;>simp [iC]
  · simp -dsimp only [go_sem]<;>simp
 | true=>
  have hp:0 < F.length:=by have:=of_decide_eq_true h0; omega
  simp (maxSteps:=1000000) -dsimp only [go_sem,zA,h0]
  refine ⟨⟨by omega,by omega⟩,⟨by omega,by omega⟩,by omega,fun x hx=>?_⟩
  rw [show ((F.length:Int) - 1).toNat=F.length - 1 by omega] at hx
  have hla:iC F=x.1:=by unfold iC; rw [List.getLast?_eq_getElem?,hx]
  rw [IC]
  simp (maxSteps:=1000000) -dsimp only [go_sem]
  refine b8 6 tl5 ?_ ?_
  · simp -dsimp only [go_sem,hla]<;>simp
  · simp -dsimp only [go_sem]<;>simp
end Go.Proofs.YtkpohmhenegkiaaGreatDoor
namespace Go.W
section
variable {P:Program} {f:FuncId} {s t:Spec}
def C.pl:C->C->Prop
 | .vl v,c'=>c'=.vl v
 | c,c'=>∃ u,c'=.vl u/\(c.one->u.oneCell'=true)
def A.pl:A->A->Prop
 | .c1 c,.c1 c'=>C.pl c c'
 | .gs cs,.gs cs'=>All2 C.pl cs cs'
 | _,_=>False
def S.pl:S->S->Prop
 | .va a,s=>∃ b,s=.va b/\A.pl a b
 | .tu l,s=>∃ m,s=.tu m/\All2 A.pl l m
 | _,s=>s=.un
def orS (s t:Spec):Spec:=fun ar H K=>s ar H K\/t ar H K
theorem Meets.orS (h:Meets P f s) (k:Meets P f t):Meets P f (orS s t):=
 ⟨h.1,fun ar vs E ro w K hl hrel hr hs=>hs.elim (h.2 ar vs E ro w K hl hrel hr) (k.2 ar vs E ro w K hl hrel hr)⟩
end
end Go.W
namespace Go.Proofs.YtkpohmhenegkiaaGreatDoor
open Go.W
theorem YX {α:Type} {ts:List Tk} {n:Nat} {v:α} {z:Fs} (h:z=aS z.n\/z=cV ts (aS n)) (hn:n < ts.length) (hz:z.n < ts.length):Vr ts (v,z) v z.n z.bad:=by
 rcases h with h | h
 · rw [h]; exact ⟨rfl,hz,fun _=>⟨rfl,rfl⟩,fun h=>(by cases h)⟩
 · rw [h]; exact ⟨rfl,hn,fun h=>(by cases h),fun _=>rfl⟩
theorem xZ (k:Int) (ts:List Tk) (n:Nat):dR k ts (aS n)=aS (dR k ts (aS n)).n\/dR k ts (aS n)=cV ts (aS n):=by
 unfold dR
 cases hZ k ts (aS n) with
 | true=>exact .inl rfl
 | false=>exact .inr rfl
theorem UQ (w:List UInt8) (ts:List Tk) (n:Nat):bW w ts (aS n)=aS (bW w ts (aS n)).n\/bW w ts (aS n)=cV ts (aS n):=by
 unfold bW
 cases cG w ts (aS n) with
 | true=>exact .inl rfl
 | false=>exact .inr rfl
theorem TB (e:En) (ts:List Tk) (n:Nat):(cE e ts (aS n)).2=aS (cE e ts (aS n)).2.n\/(cE e ts (aS n)).2=cV ts (aS n):=by
 unfold cE
 cases decide (gL e ts (aS n) < 0) || decide ((e.vs.length:Int)<=gL e ts (aS n)) with
 | true=>exact .inr rfl
 | false=>exact .inl rfl
theorem UZ (ts:List Tk) (n:Nat):(cF ts (aS n)).2=aS (cF ts (aS n)).2.n\/(cF ts (aS n)).2=cV ts (aS n):=by
 unfold cF
 cases !(aS n).bad && bQ 1 iF (aO ts (aS n).n) with
 | true=>exact .inl rfl
 | false=>
  cases !(aS n).bad && bQ 1 gI (aO ts (aS n).n) with
  | true=>exact .inl rfl
  | false=>exact .inr rfl
def qD (N:Nat):cQ:=[(76,.s qW),(74,.s (orS NM N6)),(75,.s OL),(77,.s BQ),(78,.s NP),(33,.s (rL N)),(79,.s (OE N))]
theorem aIU (N:Nat):sp (qD N) 76=qW:=rfl
theorem SN (N:Nat):sp (qD N) 74=orS NM N6:=rfl
theorem IX (N:Nat):sp (qD N) 75=OL:=rfl
theorem AI (N:Nat):sp (qD N) 77=BQ:=rfl
theorem Q4 (N:Nat):sp (qD N) 78=NP:=rfl
theorem aCZ (N:Nat):sp (qD N) 33=rL N:=rfl
theorem aG0 (N:Nat):sp (qD N) 79=OE N:=rfl
abbrev iZ (k n:Int) (x:ByteArray):B:=.cells [.vl (.int .i64 k),.vl (.int .i64 n),.vl (.string x),.vl (.slice none 0 0),.vl (.slice none 0 0)] 32
abbrev sI:List (Nat × S):=[(0,.va (.c1 (.pt 0 0))),(4,.va (.c1 (.pt 1 0))),(5,.va (.c1 (.pt 2 0))),(6,.va (.c1 (.pt 3 0))),(7,.va (.c1 (.pt 4 0)))]
theorem aMM {N:Nat} {s:Sc} {t:Ty} {ts:List Tk} {m:Nat} {b:Bool} {k n:Int} {x:ByteArray} {K:S->Hp->Prop} (hK:K (.va (.gs (a8 (.mk k n x [] [])))) [cW ts m b]) :
 vc (qD N) 1 pc33_33.ungh (dS sI) [cW ts m b,iB s,iH t,iZ 0 0 (mk []),iZ k n x] (f7 1 kP K):=by
 simp (maxSteps:=1000000) -dsimp only [go_sem,pc33_33,kP]
 refine .sel [0] (by simp) (by simp) rfl (.done ?_)
 simp (maxSteps:=1000000) -dsimp only [go_sem]
 exact hK
theorem MW {ss:List St} {es:List En} {t:Ty} (h:valF ss es t=true):(t.k == 1)=true\/(t.k == 2)=true\/(t.k == 3)=true\/(t.k == 4)=true\/(t.k == 5)=true\/(t.k == 6)=true\/(t.k == 7)=true:=by
 obtain ⟨k,s,n,e⟩:=t
 show (k == 1)=true\/_
 rw [valF.eq_def] at h
 simp only at h
 cases h1:k == 1<;>cases h2:k == 2<;>cases h3:k == 3<;>cases h4:k == 4<;>cases h5:k == 5<;>cases h6:k == 6<;>cases h7:k == 7 <;>
 first
  | (simp [Ty.k,h1,h2,h3,h4,h5,h6,h7]; done)
  | (rw [h1,h2,h3,h4,h5,h6,h7] at h; cases h)
def aLL (N:Nat):Prop:=∀ (s:Sc) (ts:List Tk) (t:Ty) (n:Nat) (K:S->Hp->Prop),s.fit->Nice s->Tks ts->n < ts.length->BE (N + 1) s t->(t.k == 5)=false->(t.k == 6)=false->
 (∀ v m b,VlOk v->Vr ts (pP (N + 1) s ts t (aS n)) v m b->K (.va (.gs (a8 v))) [cW ts m b])->
 vc (qD N) 1 nI (EC [.va (.c1 (.pt 0 0)),.va (.gs (aF s)),.va (.gs (aQ t))]) [cW ts n false] (f7 1 kP K)
theorem aBY (N:Nat):aLL N:=by
 intro s ts t n K hs hni hts hn ⟨ht,hdP,hva⟩ c5 c6 hK
 have he:=hts.e
 have hvk:=yX hs hts (N + 1) t (aS n) ht hdP hn
 have hnn:=(n3 (N + 1) s ts t (aS n) hn).2
 rw [fN,c5,c6] at hK hvk hnn
 have tl:∀ (k x:Int) (y:ByteArray) (z:Fs),VlOk (.mk k x y [] [])->(z=aS z.n\/z=cV ts (aS n))->z.n < ts.length->(∀ v m b,VlOk v->Vr ts ((.mk k x y [] []:Vl),z) v m b->K (.va (.gs (a8 v))) [cW ts m b])->
  vc (qD N) 1 pc33_33.ungh (dS sI) [cW ts z.n z.bad,iB s,iH t,iZ 0 0 (mk []),iZ k x y] (f7 1 kP K):=fun k x y z h1 h2 h3 h4=>aMM (h4 _ _ _ h1 (YX h2 hn h3))
 cases c1:t.k == 1 with
 | true=>
  rw [c1,aN] at hK hvk hnn
  simp (maxSteps:=1000000) -dsimp only [go_sem,aF,aJ t,nI,kP,c1,SN]
  refine .inr (aF1 he hn ?_)
  have hb:=UZ ts n
  have hv1:(cF ts (aS n)).1=.mk 1 (cF ts (aS n)).1.n (mk []) [] []:=by
   unfold cF
   cases !(aS n).bad && bQ 1 iF (aO ts (aS n).n)<;>cases !(aS n).bad && bQ 1 gI (aO ts (aS n).n)<;>rfl
  have hk:t.k=1:=eq_of_beq c1
  generalize cF ts (aS n)=r at *
  obtain ⟨v,z⟩:=r
  simp only at hv1 hb hnn hvk
  generalize v.n=x at *
  subst hv1
  unfold jX
  simp (maxSteps:=1000000) -dsimp only [go_sem]
  refine b8 5 (tl t.k x (mk []) z (by rw [hk]; exact hvk) hb hnn (by rw [hk]; exact hK)) ?_ ?_
  · simp -dsimp only [go_sem]<;>simp
  · simp -dsimp only [go_sem]<;>simp
 | false=>
 rw [c1,aH] at hK hvk hnn
 cases c4:t.k == 4 with
 | true=>
  rw [c4,aN] at hK hvk hnn
  simp (maxSteps:=1000000) -dsimp only [go_sem,aF,aJ t,nI,kP,c1,bR c4 (b:=2) (by decide),bR c4 (b:=3) (by decide),c4,IX]
  refine HM (by decide) he hn ?_
  have hb:=xZ 3 ts n
  have hk:t.k=4:=eq_of_beq c4
  unfold F4 at hK hvk hnn
  simp only at hnn hvk
  generalize fZ 3 ts (aS n)=y at *
  generalize dR 3 ts (aS n)=z at *
  simp (maxSteps:=1000000) -dsimp only [go_sem,bE]
  refine b8 5 (tl t.k 0 (mk y.x) z (by rw [hk]; exact hvk) hb hnn (by rw [hk]; exact hK)) ?_ ?_
  · simp -dsimp only [go_sem]<;>simp
  · simp -dsimp only [go_sem]<;>simp
 | false=>
 rw [c4,aH] at hK hvk hnn
 cases c7:t.k == 7 with
 | true=>
  rw [c7,aN] at hK hvk hnn
  simp (maxSteps:=1000000) -dsimp only [go_sem,aF,aJ t,nI,kP,c1,bR c7 (b:=2) (by decide),bR c7 (b:=3) (by decide),c4,c7,aIU]
  refine kC hs ?_
  rw [show (dJ s.es t.n).getD default=enOf s t from rfl]
  rw [show (dJ s.es t.n).getD default=enOf s t from rfl] at hK hvk hnn
  have hne:=hni.enOf t
  have hk:t.k=7:=eq_of_beq c7
  generalize enOf s t=e at *
  simp (maxSteps:=1000000) -dsimp only [go_sem,bG]
  refine aD rfl (.done ?_)
  simp (maxSteps:=1000000) -dsimp only [go_sem,CK,SN]
  refine .inl (aEI (e:=e) hne.l (by have:=hne.s; omega) he hn ?_)
  have hb:=TB e ts n
  have hv1:(cE e ts (aS n)).1=.mk 7 (cE e ts (aS n)).1.n (mk []) [] []:=by
   unfold cE
   cases decide (gL e ts (aS n) < 0) || decide ((e.vs.length:Int)<=gL e ts (aS n))<;>rfl
  generalize cE e ts (aS n)=r at *
  obtain ⟨v,z⟩:=r
  simp only at hv1 hb hnn hvk
  generalize v.n=x at *
  subst hv1
  simp (maxSteps:=1000000) -dsimp only [go_sem]
  refine b8 5 (tl t.k x (mk []) z (by rw [hk]; exact hvk) hb hnn (by rw [hk]; exact hK)) ?_ ?_
  · simp -dsimp only [go_sem]<;>simp
  · simp -dsimp only [go_sem]<;>simp
 | false=>
 rw [c7,aH] at hK hvk hnn
 simp only [aH] at hK hvk hnn
 cases c2:t.k == 2 with
 | true=>
  simp (maxSteps:=1000000) -dsimp only [go_sem,aF,aJ t,nI,kP,c1,c2,IX]
  refine HM (by decide) he hn ?_
  have hb:=xZ 2 ts n
  unfold H8 at hK hvk hnn
  simp only at hnn hvk
  generalize fZ 2 ts (aS n)=y at *
  generalize dR 2 ts (aS n)=z at *
  simp (maxSteps:=1000000) -dsimp only [go_sem,bE]
  refine b8 5 (tl t.k y.n (mk []) z hvk hb hnn hK) ?_ ?_
  · simp -dsimp only [go_sem]<;>simp
  · simp -dsimp only [go_sem]<;>simp
 | false=>
 cases c3:t.k == 3 with
 | true=>
  simp (maxSteps:=1000000) -dsimp only [go_sem,aF,aJ t,nI,kP,c1,c2,c3,IX]
  refine HM (by decide) he hn ?_
  have hb:=xZ 2 ts n
  unfold H8 at hK hvk hnn
  simp only at hnn hvk
  generalize fZ 2 ts (aS n)=y at *
  generalize dR 2 ts (aS n)=z at *
  simp (maxSteps:=1000000) -dsimp only [go_sem,bE]
  refine b8 5 (tl t.k y.n (mk []) z hvk hb hnn hK) ?_ ?_
  · simp -dsimp only [go_sem]<;>simp
  · simp -dsimp only [go_sem]<;>simp
 | false=>
  exfalso
  have:=MW hva
  rw [c1,c2,c3,c4,c5,c6,c7] at this
  simp at this
theorem aBP {N:Nat} {s:Sc} {ts:List Tk} {t u:Ty} {z:Fs} (c5:(t.k == 5)=true) (he:t.e=[u]):pP (N + 1) s ts t z=kJ (pP N) s ts u z:=by
 rw [fN,bR c5 (b:=1) (by decide),bR c5 (b:=4) (by decide),bR c5 (b:=7) (by decide),c5,he]; rfl
theorem mC {w:List UInt8} {ts:List Tk} {n:Nat}:cG w ts (aS n)=bQ 4 w (aO ts n):=by unfold cG; rw [Bool.not_false,Bool.true_and]
theorem HA {w:List UInt8} {ts:List Tk} {n:Nat} (h:bQ 4 w (aO ts n)=false):bW w ts (aS n)=⟨true,((aO ts n).a:Int),n⟩:=by unfold bW; rw [mC,h]; rfl
theorem DV {w:List UInt8} {ts:List Tk} {n:Nat} (he:Ends ts) (hn:n < ts.length) (h:bQ 4 w (aO ts n)=true):bW w ts (aS n)=aS (n + 1):=by
 unfold bW; rw [mC,h,gY he hn (by rw [iP h]; decide)]; rfl
theorem rI {w:List UInt8} {ts:List Tk} {n:Nat} (he:Ends ts) (hn:n < ts.length) (h:bQ 4 w (aO ts n)=true):cJ w ts (aS n)=aS (n + 1):=by
 unfold cJ; rw [mC,h,gY he hn (by rw [iP h]; decide)]; rfl
structure Ser {α:Type} (one:α->Fs->α × Fs) (sh:List UInt8) (ts:List Tk) (Q:α × Fs) (f:Nat) (m:Bool) (a:α) (n:Nat) (b:Bool):Prop where
 hn:n < ts.length
 go:m=true->b=false/\ts.length < n + f/\gX one ts f a (aS n)=Q
 no:m=false->Vr ts (Q.1,bW sh ts Q.2) a n b
theorem Ser.next {α:Type} {one:α->Fs->α × Fs} {sh:List UInt8} {ts:List Tk} {Q:α × Fs} {f:Nat} {a a':α} {n n':Nat} {b':Bool} (he:Ends ts) (ho:AQ one ts) (h:Ser one sh ts Q (f + 1) true a n false) (hr:Vr ts (one a (aS n)) a' n' b') :
 (b'=true->Ser one sh ts Q f false a' n' true)/\(b'=false->Ser one sh ts Q f (cG [44] ts (aS n')) a' (sC sh ts n').n (sC sh ts n').bad):=by
 obtain ⟨_,h2,h3⟩:=h.go rfl
 rw [kD] at h3
 simp only [aH] at h3
 refine ⟨fun hb=>?_,fun hb=>?_⟩
 · have hbad:(one a (aS n)).2.bad=true:=by rw [hr.hb,hb]
   rw [nG hbad,aH] at h3
   refine ⟨hr.hn,fun h=>(by cases h),fun _=>?_⟩
   rw [<-h3]
   exact ⟨by rw [kA hbad,hbad],hr.hn,fun h=>(by cases h),fun _=>by rw [kA hbad]; exact hr.er hb⟩
 · obtain ⟨e1,e2⟩:=hr.ok hb
   have hn':=hr.hn
   rw [e2] at h3
   unfold sC
   cases hc:cG [44] ts (aS n') with
   | true=>
    have hc':=hc
    rw [mC] at hc'
    have hm:=kZ he hn' (by rw [iP hc']; decide)
    rw [hc,aN,rI he hn' hc'] at h3
    rw [aN,rI he hn' hc']
    refine ⟨hm,fun _=>⟨rfl,?_,by rw [e1]; exact h3⟩,fun h=>(by cases h)⟩
    have h5:=(ho a (aS n) h.hn).1
    rw [e2] at h5
    show ts.length < n' + 1 + f
    have h5:n<=n':=h5
    omega
   | false=>
    rw [hc,aH] at h3
    rw [aH]
    have hq:Q=(a',aS n'):=by rw [<-h3,e1,<-e2]
    refine ⟨(gR (w:=sh) hn').2,fun h=>(by cases h),fun _=>?_⟩
    rw [hq]
    exact YX (UQ sh ts n') hn' (gR (w:=sh) hn').2
theorem Q8 {P:Prs} (hO:P.onw) {s:Sc} {ts:List Tk} {u:Ty}:AQ (eZ P s ts u) ts:=fun _ z h=>hO s ts u z h
abbrev aLQ (ts:List Tk) (s:Sc) (t:Ty) (l:List Vl) (n:Nat) (b:Bool):Hp:=[cW ts n b,iB s,iH t,iZ 0 0 (mk []),.cells [.vl (.int .i64 t.k),.vl (.int .i64 0),.vl (.string (mk [])),.sl 5 l.length,.vl (.slice none 0 0)] 32,.row (l.map a8) 32 5]
theorem aBG (N:Nat) {s:Sc} {ts:List Tk} {t:Ty} {n:Nat} {K:S->Hp->Prop} (hs:s.fit) (hni:Nice s) (hts:Tks ts) (hn:n < ts.length) (hD:BE (N + 1) s t) (c5:(t.k == 5)=true)
 (hK:∀ v m b,VlOk v->Vr ts (pP (N + 1) s ts t (aS n)) v m b->K (.va (.gs (a8 v))) [cW ts m b]) :
 vc (qD N) 1 nI (EC [.va (.c1 (.pt 0 0)),.va (.gs (aF s)),.va (.gs (aQ t))]) [cW ts n false] (f7 1 kP K):=by
 obtain ⟨ht,hdP,hva⟩:=hD
 have he:=hts.e
 have hle:=he.le
 obtain ⟨u,heu,hu,hdu⟩:=hdP.1 c5
 obtain ⟨u',heu',hvu⟩:=CL hva c5
 obtain rfl:u=u':=by rw [heu] at heu'; exact (List.cons.inj heu').1
 have hDu:BE N s u:=⟨hu,hdu,hvu⟩
 have hk:t.k=5:=eq_of_beq c5
 rw [aBP c5 heu] at hK
 have honw:=Q8 (n3 N) (s:=s) (ts:=ts) (u:=u)
 have fin:∀ (l:List Vl) (m:Nat) (b:Bool) (R:Hp),(∀ x ∈ l,VlOk x)->l.length<=4002->Vr ts (cO (eZ (pP N) s ts u) [91] [93] ts [] (aS n)) l m b->W.Fin 1 K (.va (.gs (a8 (.mk t.k 0 (mk []) l [])))) (cW ts m b :: R):=fun l m b R h1 h2 h3=>by
  have hv:VlOk (.mk t.k 0 (mk []) l []):=.mk ht.k ⟨by decide,by decide⟩ (by decide) (by omega) (by simp) h1 (by simp) (by simp)
  refine .sel [0] (by simp) (by simp) rfl (.done ?_)
  have:=hK _ m b hv ⟨h3.hb,h3.hn,fun h=>by rw [(h3.ok h).1,hk]; exact ⟨rfl,(h3.ok h).2⟩,h3.er⟩
  rw [aM] at this ⊢
  simpa [go_sem] using this
 clear hK
 simp (maxSteps:=1000000) -dsimp only [go_sem,aF,aJ t,nI,kP,bR c5 (b:=1) (by decide),bR c5 (b:=2) (by decide),bR c5 (b:=3) (by decide),bR c5 (b:=4) (by decide),bR c5 (b:=7) (by decide),c5,AI]
 refine nZ he hn ?_
 rw [gZ,show bl (mk [91])=[91] from rfl]
 cases h1:bQ 4 [91] (aO ts n) with
 | false=>
  have e:=HA h1
  have e2:cO (eZ (pP N) s ts u) [91] [93] ts [] (aS n)=([],⟨true,((aO ts n).a:Int),n⟩):=by
   unfold cO
   rw [e,nG rfl,yA rfl,aH,kA rfl]
  simp (maxSteps:=1000000) -dsimp only [go_sem]
  have:=fin [] n true [iB s,iH t,iZ t.k 0 (mk []),iZ t.k 0 (mk [])] (fun x h=>by cases h) (by decide) (by rw [e2]; exact ⟨rfl,hn,fun h=>(by cases h),fun _=>rfl⟩)
  exact this
 | true=>
  have hn1:=kZ he hn (by rw [iP h1]; decide)
  have e:=DV he hn h1
  rw [aN,gY he hn (by rw [iP h1]; decide)]
  simp (maxSteps:=1000000) -dsimp only [go_sem]
  refine aD rfl (.done ?_)
  simp (maxSteps:=1000000) -dsimp only [go_sem,CY,AI]
  refine nZ (n:=n + 1) he hn1 ?_
  rw [gZ,show bl (mk [93])=[93] from rfl]
  cases h2:bQ 4 [93] (aO ts (n + 1)) with
  | true=>
   have hn2:=kZ he hn1 (by rw [iP h2]; decide)
   have e2:cO (eZ (pP N) s ts u) [91] [93] ts [] (aS n)=([],aS (n + 1 + 1)):=by
    unfold cO
    rw [e,mC,h2,aN,rI he hn1 h2]
   rw [aN,gY he hn1 (by rw [iP h2]; decide)]
   simp (maxSteps:=1000000) -dsimp only [go_sem]
   have:=fin [] (n + 1 + 1) false [iB s,iH t,iZ t.k 0 (mk []),iZ t.k 0 (mk [])] (fun x h=>by cases h) (by decide) (by rw [e2]; exact ⟨rfl,hn2,fun _=>⟨rfl,rfl⟩,fun h=>(by cases h)⟩)
   exact this
  | false=>
   rw [aH]
   simp (maxSteps:=1000000) -dsimp only [go_sem]
   refine aD rfl (.nilc 4 3 32 5 _ _ rfl rfl (.done ?_))
   simp (maxSteps:=1000000) -dsimp only [go_sem,C6]
   have e2:cO (eZ (pP N) s ts u) [91] [93] ts [] (aS n)=((gX (eZ (pP N) s ts u) ts (ts.length + 1) [] (aS (n + 1))).1,bW [93] ts (gX (eZ (pP N) s ts u) ts (ts.length + 1) [] (aS (n + 1))).2):=by
    unfold cO
    rw [e,mC,h2,aH]
   rw [e2] at fin
   generalize hQ:gX (eZ (pP N) s ts u) ts (ts.length + 1) [] (aS (n + 1))=Q at *
   refine aK (α:=Nat × Bool × List Vl × Nat × Bool) (fun x=>sI ++ [(10,bS x.2.1)]) (fun x=>aLQ ts s t x.2.2.1 x.2.2.2.1 x.2.2.2.2)
    (fun x=>(∀ y ∈ x.2.2.1,VlOk y)/\x.2.2.1.length + x.1<=ts.length + 1/\Ser (eZ (pP N) s ts u) [93] ts Q x.1 x.2.1 x.2.2.1 x.2.2.2.1 x.2.2.2.2)
    (fun x=>x.1) (ts.length + 1,true,[],n + 1,false) 6 ⟨fun y h=>(by cases h),by simp,⟨hn1,fun _=>⟨rfl,by omega,hQ⟩,fun h=>(by cases h)⟩⟩ ?_ ?_ ?_
   · simp -dsimp only [go_sem]<;>simp
   · simp -dsimp only [go_sem]<;>simp
   rintro ⟨f,m,l,n',b⟩ ⟨i1,i2,i3⟩
   simp only at i1 i2 i3
   cases m with
   | false=>
    simp (maxSteps:=1000000) -dsimp only [go_sem]
    refine aD rfl (.done ?_)
    simp (maxSteps:=1000000) -dsimp only [go_sem,pc33_33]
    refine .pub 5 _ _ _ rfl ?_
    simp (maxSteps:=1000000) -dsimp only [go_sem,cT]
    have:=fin l n' b [iB s,iH t,.cells [.vl (.int .i64 t.k),.vl (.int .i64 0),.vl (.string (mk [])),.fz (l.map a8),.vl (.slice none 0 0)] 32,.cells [.vl (.int .i64 t.k),.vl (.int .i64 0),.vl (.string (mk [])),.fz (l.map a8),.vl (.slice none 0 0)] 32,.dead] i1 (by omega) (i3.no rfl)
    rw [aM] at this
    exact this
   | true=>
    obtain ⟨rfl,g2,g3⟩:=i3.go rfl
    have hn':=i3.hn
    obtain ⟨f,rfl⟩:∃ k,f=k + 1:=⟨f - 1,by omega⟩
    have z0:(0:Int) < ((1:Nat):Int):=by decide
    have z1:(0:Int)<=0:=by decide
    simp (maxSteps:=1000000) -dsimp only [go_sem,heu,aJ u,aCZ,forall_eq',z0,z1,List.length_cons,List.length_nil,List.take_succ_cons,List.take_zero]
    refine JF hs hni hts hn' hDu ?_
    intro v m b hv hr
    have hb:∀ x:List C,(l.map a8 ++ [x]).set l.length (a8 v)=(l ++ [v]).map a8:=fun x=>by
     rw [List.set_append_right _ _ (by simp)]
     simp
    have ha:∀ {x r:List C},(l.map a8 ++ [x])[l.length]? = some r->r=x:=fun {x r} h=>by
     have h0:l.length=(l.map a8).length:=by simp
     rw [h0,List.getElem?_concat_length] at h
     exact (bN h).symm
    rw [aM] at hb
    have el:(l ++ [v]).length=l.length + 1:=by simp
    have hr':Vr ts (eZ (pP N) s ts u l (aS n')) (l ++ [v]) m b:=⟨hr.hb,hr.hn,fun h=>by rw [(hr.ok h).1]; exact ⟨rfl,(hr.ok h).2⟩,hr.er⟩
    obtain ⟨nx1,nx2⟩:=Ser.next he honw i3 hr'
    have hv':∀ y ∈ l ++ [v],VlOk y:=fun y hy=>by
     rcases List.mem_append.1 hy with h | h
     · exact i1 y h
     · rw [List.mem_singleton.1 h]; exact hv
    simp (maxSteps:=1000000) -dsimp only [go_sem,aM v]
    refine ⟨by omega,⟨by omega,by omega⟩,⟨by omega,fun r hrr=>?_⟩,⟨by omega,by omega⟩,by omega,fun r hrr=>?_⟩ <;>
    · obtain rfl:=ha hrr
      clear hrr ha
      rw [show List.drop 5 [C.vl (.int .i64 0),C.vl (.int .i64 0),C.vl (.string (mk [])),C.vl (.slice none 0 0),C.vl (.slice none 0 0)]=[] from rfl,hb,<-el]
      refine aD rfl (.done ?_)
      cases b with
      | true=>
       simp (maxSteps:=1000000) -dsimp only [go_sem,vK]
       refine aC (f,false,l ++ [v],m,true) 6 ⟨hv',by simp only [el]; omega,nx1 rfl⟩ (by simp only; omega) ?_ ?_
       · simp -dsimp only [go_sem]<;>simp
       · simp -dsimp only [go_sem]<;>simp
      | false=>
       simp (maxSteps:=1000000) -dsimp only [go_sem,vK,Q4]
       refine SB he hr.hn ?_
       rw [show bl (mk [93])=[93] from rfl]
       have nx2:=nx2 rfl
       generalize cG [44] ts (aS m)=g at *
       generalize sC [93] ts m=z at *
       simp (maxSteps:=1000000) -dsimp only [go_sem]
       refine aC (f,g,l ++ [v],z.n,z.bad) 6 ⟨hv',by simp only [el]; omega,nx2⟩ (by simp only; omega) ?_ ?_
       · simp -dsimp only [go_sem]<;>simp
       · simp -dsimp only [go_sem]<;>simp
theorem PR {N:Nat} {s:Sc} {ts:List Tk} {t:Ty} {z:Fs} (c6:(t.k == 6)=true):pP (N + 1) s ts t z=gA (pP N) s ts (stOf s t) z:=by
 rw [fN,bR c6 (b:=1) (by decide),bR c6 (b:=4) (by decide),bR c6 (b:=7) (by decide),bR c6 (b:=5) (by decide),c6]; rfl
abbrev aMH (ts:List Tk) (s:Sc) (t:Ty) (F:List (Int × Vl)) (n:Nat) (b:Bool):Hp:=[cW ts n b,iB s,iH t,iZ 0 0 (mk []),.cells [.vl (.int .i64 t.k),.vl (.int .i64 0),.vl (.string (mk [])),.vl (.slice none 0 0),.sl 5 F.length] 32,.row (F.map bH) 57 6]
theorem aBZ (N:Nat) {s:Sc} {ts:List Tk} {t:Ty} {n:Nat} {K:S->Hp->Prop} (hs:s.fit) (hni:Nice s) (hts:Tks ts) (hn:n < ts.length) (hD:BE (N + 1) s t) (c6:(t.k == 6)=true)
 (hK:∀ v m b,VlOk v->Vr ts (pP (N + 1) s ts t (aS n)) v m b->K (.va (.gs (a8 v))) [cW ts m b]) :
 vc (qD N) 1 nI (EC [.va (.c1 (.pt 0 0)),.va (.gs (aF s)),.va (.gs (aQ t))]) [cW ts n false] (f7 1 kP K):=by
 obtain ⟨ht,hdP,hva⟩:=hD
 have he:=hts.e
 have hle:=he.le
 have hDu:∀ f ∈ (stOf s t).fs,BE N s f.ty:=fun f hf=>⟨((jK hs t).fs f hf).ty,hdP.2 c6 f hf,(hni.stOf t).v f hf⟩
 have hk:t.k=6:=eq_of_beq c6
 rw [PR c6] at hK
 have honw:=tP (n3 N) (s:=s) (ts:=ts) (u:=stOf s t)
 have fin:∀ (F:List (Int × Vl)) (a:Int) (m:Nat) (b:Bool) (R:Hp),HW F->F.length<=4002->Vr ts (cO (cK (pP N) s ts (stOf s t)) [123] [125] ts (0,[]) (aS n)) (a,F) m b->W.Fin 1 K (.va (.gs (a8 (.mk t.k 0 (mk []) [] F)))) (cW ts m b :: R):=fun F a m b R h1 h2 h3=>by
  have hv:VlOk (.mk t.k 0 (mk []) [] F):=.mk ht.k ⟨by decide,by decide⟩ (by decide) (by simp) (by omega) (by simp) (fun x hx=>(h1 x hx).1) (fun x hx=>(h1 x hx).2)
  refine .sel [0] (by simp) (by simp) rfl (.done ?_)
  have:=hK _ m b hv ⟨h3.hb,h3.hn,fun h=>by
   have e:=(h3.ok h).1
   unfold gA
   rw [<-e,hk]; exact ⟨rfl,(h3.ok h).2⟩,h3.er⟩
  rw [aM] at this ⊢
  simpa [go_sem] using this
 clear hK
 simp (maxSteps:=1000000) -dsimp only [go_sem,aF,aJ t,nI,kP,bR c6 (b:=1) (by decide),bR c6 (b:=2) (by decide),bR c6 (b:=3) (by decide),bR c6 (b:=4) (by decide),bR c6 (b:=7) (by decide),bR c6 (b:=5) (by decide),c6,AI]
 refine nZ he hn ?_
 rw [gZ,show bl (mk [123])=[123] from rfl]
 cases h1:bQ 4 [123] (aO ts n) with
 | false=>
  have e:=HA h1
  have e2:cO (cK (pP N) s ts (stOf s t)) [123] [125] ts (0,[]) (aS n)=((0,[]),⟨true,((aO ts n).a:Int),n⟩):=by
   unfold cO
   rw [e,nG rfl,yA rfl,aH,kA rfl]
  simp (maxSteps:=1000000) -dsimp only [go_sem]
  exact fin [] 0 n true [iB s,iH t,iZ t.k 0 (mk []),iZ t.k 0 (mk [])] (fun x h=>by cases h) (by decide) (by rw [e2]; exact ⟨rfl,hn,fun h=>(by cases h),fun _=>rfl⟩)
 | true=>
  have hn1:=kZ he hn (by rw [iP h1]; decide)
  have e:=DV he hn h1
  rw [aN,gY he hn (by rw [iP h1]; decide)]
  simp (maxSteps:=1000000) -dsimp only [go_sem]
  refine aD rfl (.done ?_)
  simp (maxSteps:=1000000) -dsimp only [go_sem,DK,AI]
  refine nZ (n:=n + 1) he hn1 ?_
  rw [gZ,show bl (mk [125])=[125] from rfl]
  cases h2:bQ 4 [125] (aO ts (n + 1)) with
  | true=>
   have hn2:=kZ he hn1 (by rw [iP h2]; decide)
   have e2:cO (cK (pP N) s ts (stOf s t)) [123] [125] ts (0,[]) (aS n)=((0,[]),aS (n + 1 + 1)):=by
    unfold cO
    rw [e,mC,h2,aN,rI he hn1 h2]
   rw [aN,gY he hn1 (by rw [iP h2]; decide)]
   simp (maxSteps:=1000000) -dsimp only [go_sem]
   exact fin [] 0 (n + 1 + 1) false [iB s,iH t,iZ t.k 0 (mk []),iZ t.k 0 (mk [])] (fun x h=>by cases h) (by decide) (by rw [e2]; exact ⟨rfl,hn2,fun _=>⟨rfl,rfl⟩,fun h=>(by cases h)⟩)
  | false=>
   rw [aH]
   simp (maxSteps:=1000000) -dsimp only [go_sem]
   refine aD rfl (.nilc 4 4 57 6 _ _ rfl rfl (.done ?_))
   simp (maxSteps:=1000000) -dsimp only [go_sem,DD]
   have e2:cO (cK (pP N) s ts (stOf s t)) [123] [125] ts (0,[]) (aS n)=((gX (cK (pP N) s ts (stOf s t)) ts (ts.length + 1) (0,[]) (aS (n + 1))).1,bW [125] ts (gX (cK (pP N) s ts (stOf s t)) ts (ts.length + 1) (0,[]) (aS (n + 1))).2):=by
    unfold cO
    rw [e,mC,h2,aH]
   rw [e2] at fin
   generalize hQ:gX (cK (pP N) s ts (stOf s t)) ts (ts.length + 1) (0,[]) (aS (n + 1))=Q at *
   refine aK (α:=Nat × Bool × List (Int × Vl) × Nat × Bool) (fun x=>sI ++ [(11,bS x.2.1)]) (fun x=>aMH ts s t x.2.2.1 x.2.2.2.1 x.2.2.2.2)
    (fun x=>HW x.2.2.1/\x.2.2.1.length + x.1<=ts.length + 1/\Ser (cK (pP N) s ts (stOf s t)) [125] ts Q x.1 x.2.1 (iC x.2.2.1,x.2.2.1) x.2.2.2.1 x.2.2.2.2)
    (fun x=>x.1) (ts.length + 1,true,[],n + 1,false) 6 ⟨fun y h=>(by cases h),by simp,⟨hn1,fun _=>⟨rfl,by omega,hQ⟩,fun h=>(by cases h)⟩⟩ ?_ ?_ ?_
   · simp -dsimp only [go_sem]<;>simp
   · simp -dsimp only [go_sem]<;>simp
   rintro ⟨f,m,F,n',b⟩ ⟨i1,i2,i3⟩
   simp only at i1 i2 i3
   cases m with
   | false=>
    simp (maxSteps:=1000000) -dsimp only [go_sem]
    refine aD rfl (.done ?_)
    simp (maxSteps:=1000000) -dsimp only [go_sem,pc33_33]
    refine .pub 5 _ _ _ rfl ?_
    simp (maxSteps:=1000000) -dsimp only [go_sem,cT]
    have:=fin F (iC F) n' b [iB s,iH t,.cells [.vl (.int .i64 t.k),.vl (.int .i64 0),.vl (.string (mk [])),.vl (.slice none 0 0),.fz (F.map bH)] 32,.cells [.vl (.int .i64 t.k),.vl (.int .i64 0),.vl (.string (mk [])),.vl (.slice none 0 0),.fz (F.map bH)] 32,.dead] i1 (by omega) (i3.no rfl)
    rw [aM] at this
    exact this
   | true=>
    obtain ⟨rfl,g2,g3⟩:=i3.go rfl
    have hn':=i3.hn
    obtain ⟨f,rfl⟩:∃ k,f=k + 1:=⟨f - 1,by omega⟩
    simp (maxSteps:=1000000) -dsimp only [go_sem,aG0]
    refine aCQ (t:=t) (k:=t.k) hs hni ht hts hn' hDu i1 (by omega) ?_
    intro F' m b hF' hl' _ hr
    obtain ⟨nx1,nx2⟩:=Ser.next he honw i3 hr
    simp (maxSteps:=1000000) -dsimp only [go_sem]
    refine aD rfl (.done ?_)
    cases b with
    | true=>
     simp (maxSteps:=1000000) -dsimp only [go_sem,uN]
     refine aC (f,false,F',m,true) 6 ⟨hF',by simp only; omega,nx1 rfl⟩ (by simp only; omega) ?_ ?_
     · simp -dsimp only [go_sem]<;>simp
     · simp -dsimp only [go_sem]<;>simp
    | false=>
     simp (maxSteps:=1000000) -dsimp only [go_sem,uN,Q4]
     refine SB he hr.hn ?_
     rw [show bl (mk [125])=[125] from rfl]
     have nx2:=nx2 rfl
     generalize cG [44] ts (aS m)=g at *
     generalize sC [125] ts m=z at *
     simp (maxSteps:=1000000) -dsimp only [go_sem]
     refine aC (f,g,F',z.n,z.bad) 6 ⟨hF',by simp only; omega,nx2⟩ (by simp only; omega) ?_ ?_
     · simp -dsimp only [go_sem]<;>simp
     · simp -dsimp only [go_sem]<;>simp
theorem MO:∀ N,Meets Tryz.prog 33 (rL N)
 | 0=>⟨by kernel_rfl,by rintro xs vs E ro w K _ _ _ ⟨_,_,_,_,_,_,_,_,_,_,⟨_,h,_⟩,_⟩; exact h.elim⟩
 | N + 1=>by
  have ih:=MO N
  refine aE (Γ:=qD N) Tryz.func33 aP3 3 (by rw [Tryz.ntmps33]; decide)
   (aB HR (aB (mNumber0.orS UD) (aB aAW (aB GW (aB aEJ (aB ih (aB (aB7 ih) (aA _)))))))) (fun av H K h=>by obtain ⟨_,_,_,_,rfl,_⟩:=h; rfl) ?_
  rintro av H K ⟨s,ts,t,n,rfl,rfl,hs,hni,hts,hn,hD,hK⟩
  cases c5:t.k == 5 with
  | true=>exact aBG N hs hni hts hn hD c5 hK
  | false=>
  cases c6:t.k == 6 with
  | true=>exact aBZ N hs hni hts hn hD c6 hK
  | false=>exact aBY N s ts t n K hs hni hts hn hD c5 c6 hK
theorem s5:∀ (m:Nat) (r:List UInt8) (i:Nat) (out:List UInt8) (z:Nat) (o:List UInt8),r.length<=m->out.all mJ=true->quoL i r out=(z,some o)->o.all mJ=true
 | _,[],i,out,z,o,_,_,h=>by rw [nV] at h; cases h
 | 0,c :: r,i,out,z,o,hm,_,_=>by simp at hm
 | m + 1,c :: r,i,out,z,o,hm,ho,h=>by
  rw [jA] at h
  have app:∀ d:UInt8,mJ d=true->(out ++ [d]).all mJ=true:=fun d hd=>by rw [List.all_append,ho]; simp [hd]
  cases c1:decide (c < 32) || decide (126 < c) with
  | true=>rw [c1] at h; cases h
  | false=>
  rw [c1,aH] at h
  have hp:mJ c=true:=by
   unfold mJ
   simp only [Bool.or_eq_false_iff,decide_eq_false_iff_not,UInt8.not_lt] at c1
   simp [c1.1,c1.2]
  cases c2:c == 34 with
  | true=>
   rw [c2] at h
   simp only [aN,Prod.mk.injEq,aI] at h
   rw [<-h.2]; exact ho
  | false=>
  rw [c2,aH] at h
  cases c3:c == 92 with
  | false=>
   rw [c3,aH] at h
   exact s5 m r _ _ z o (by simp at hm; omega) (app c hp) h
  | true=>
   rw [c3,aN] at h
   cases r with
   | nil=>cases h
   | cons d r=>
    simp only at h
    cases c4:d == 34 || d == 92 with
    | false=>rw [c4] at h; cases h
    | true=>
     rw [c4,aN] at h
     refine s5 m r _ _ z o (by simp at hm; omega) (app d ?_) h
     rw [Bool.or_eq_true] at c4
     rcases c4 with e | e<;>rw [eq_of_beq e]<;>decide
structure Gtk (k:Int) (x:List UInt8) (n:Int):Prop where
 e:k=0->x=[]/\n=0
 o:k ≠ 0->n2 k x n=true
 i:cD n
theorem Q3 {l:List UInt8} {p:Nat} {k n:Int} {x:List UInt8} {z:Nat} (h:dY l p=.ok k x n z):Gtk k x n:=by
 have z0:cD 0:=⟨by decide,by decide⟩
 unfold dY at h
 split at h
 · simp only [R.ok.injEq] at h
   obtain ⟨rfl,rfl,rfl,_⟩:=h
   exact ⟨fun _=>⟨rfl,rfl⟩,fun h=>absurd rfl h,z0⟩
 · rename_i c hc
   cases c1:bK c.toNat with
   | true=>
    rw [c1,aN] at h
    unfold gD at h
    simp only at h
    cases d1:decide (16 < bL bB l p - p) with
    | true=>rw [d1] at h; cases h
    | false=>
     rw [d1,aH] at h
     cases d2:l[bL bB l p]? == some 45 with
     | true=>rw [d2] at h; cases h
     | false=>
      rw [d2,aH] at h
      simp only [R.ok.injEq] at h
      obtain ⟨rfl,rfl,rfl,rfl⟩:=h
      refine ⟨fun h=>absurd h (by decide),fun _=>?_,z0⟩
      have hx:c8 ((l.take (bL bB l p)).drop p)=true:=by
       have hlt:=(bC.1 hc).1
       have hw:bB c=true:=by
        have:=dL (p:=fun c=>!bK c.toNat || bB c) (by decide +kernel) c
        rw [c1] at this; exact this
       have hg:p + 1<=bL bB l p:=by rw [<-hS hc hw]; exact pW
       refine (S6 _).2 ⟨c,?_,?_,c1,fun d hd=>rG d hd⟩
       · rw [List.getElem?_drop,Nat.add_zero,List.getElem?_take_of_lt (by omega),hc]
       · have:=of_decide_eq_false d1
         simp only [List.length_drop,List.length_take]; omega
      show ((0:Int) == 0 && c8 _)=true
      rw [hx]; rfl
   | false=>
   rw [c1,aH] at h
   cases c2:bJ c || c == 45 with
   | true=>
    rw [c2,aN] at h
    unfold gM at h
    simp only at h
    have hd:∀ d ∈ (l.take (bL bJ l (bif l[p]? == some 45 then p + 1 else p))).drop (bif l[p]? == some 45 then p + 1 else p),bJ d=true:=fun d hd=>rG d hd
    generalize (l.take (bL bJ l (bif l[p]? == some 45 then p + 1 else p))).drop (bif l[p]? == some 45 then p + 1 else p)=s at *
    generalize (l[p]? == some 45)=neg at *
    cases d1:s == [] || (s[0]? == some 48 && (decide (1 < s.length) || neg)) with
    | true=>rw [d1] at h; cases h
    | false=>
    rw [d1,aH] at h
    cases hv:valL (cN neg) 0 s with
    | none=>rw [hv] at h; cases h
    | some m=>
    rw [hv] at h
    simp only at h
    have hm:=LQ (lim:=cN neg) (by cases neg<;>decide) (Nat.zero_le _) hd hv
    cases d2:nK l (bL bJ l (bif neg then p + 1 else p)) with
    | true=>rw [d2] at h; cases h
    | false=>
     rw [d2,aH] at h
     simp only [R.ok.injEq] at h
     obtain ⟨rfl,rfl,rfl,rfl⟩:=h
     refine ⟨fun h=>absurd h (by decide),fun _=>rfl,?_⟩
     cases neg with
     | true=>have hm:m<=9223372036854775808:=hm; show cD (-(m:Int)); unfold cD; omega
     | false=>have hm:m<=9223372036854775807:=hm; show cD (m:Int); unfold cD; omega
   | false=>
   rw [c2,aH] at h
   cases c3:c == 34 with
   | true=>
    rw [c3,aN] at h
    unfold fY at h
    split at h
    · cases h
    · rename_i z' o ho
      cases d1:decide (200 < o.length) with
      | true=>rw [d1] at h; cases h
      | false=>
       rw [d1,aH] at h
       simp only [R.ok.injEq] at h
       obtain ⟨rfl,rfl,rfl,rfl⟩:=h
       refine ⟨fun h=>absurd h (by decide),fun _=>?_,z0⟩
       have h1:=s5 _ _ _ [] _ _ (Nat.le_refl _) rfl ho
       have h2:decide (o.length<=200)=true:=by have:=of_decide_eq_false d1; simp; omega
       show ((0:Int) == 0 && (decide (o.length<=200) && o.all mJ))=true
       rw [h1,h2]; rfl
   | false=>
   rw [c3,aH] at h
   cases c4:fA c.toNat with
   | false=>rw [c4] at h; cases h
   | true=>
    rw [c4,aN] at h
    simp only [R.ok.injEq] at h
    obtain ⟨rfl,rfl,rfl,rfl⟩:=h
    refine ⟨fun h=>absurd h (by decide),fun _=>?_,z0⟩
    show ((0:Int) == 0 && fA c.toNat)=true
    rw [c4]; rfl
theorem zU {l:List UInt8}:∀ (f a:Nat) (ts:List Tk),eU f l a=.ok ts->∀ t ∈ ts,Gtk t.k t.x t.n
 | 0,a,ts,h=>by cases h; intro t ht; cases ht
 | f + 1,a,ts,h=>by
  rw [eU] at h
  split at h
  · cases h
  · rename_i k x n z hR
    have hg:=Q3 hR
    cases hk:k == 0 with
    | true=>
     rw [hk] at h
     simp only [aN,SR.ok.injEq] at h
     subst h
     intro t ht
     rw [List.mem_singleton.1 ht]; exact hg
    | false=>
     rw [hk] at h
     cases hr:eU f l z with
     | bad e t=>rw [hr] at h; cases h
     | ok us=>
      rw [hr] at h
      simp only [aH,SR.cons,SR.ok.injEq] at h
      subst h
      intro t ht
      rcases List.mem_cons.1 ht with rfl | ht
      · exact hg
      · exact zU f z us hr t ht
theorem OQ (l:List UInt8):∀ t ∈ (bD l).toks,Gtk t.k t.x t.n:=by
 unfold bD
 cases h:decide (4000 < l.length) with
 | true=>intro t ht; cases ht
 | false=>
  rw [aH]
  cases hr:eU (l.length + 1) l 0 with
  | bad e t=>intro t ht; cases ht
  | ok ts=>exact zU _ _ _ hr
theorem aB0 {k:Int} {x:List UInt8} {n:Int} (h:n2 k x n=true):x.length<=200:=by
 unfold n2 at h
 cases c1:k == 1 with
 | true=>rw [c1,aN,Bool.and_eq_true] at h; have:=UO h.2; omega
 | false=>
 rw [c1,aH] at h
 cases c2:k == 2 with
 | true=>rw [c2,aN] at h; rw [eq_of_beq h]; exact Nat.zero_le _
 | false=>
 rw [c2,aH] at h
 cases c3:k == 3 with
 | true=>rw [c3,aN,Bool.and_eq_true,Bool.and_eq_true] at h; exact of_decide_eq_true h.2.1
 | false=>
 rw [c3,aH] at h
 cases c4:k == 4 with
 | false=>rw [c4] at h; cases h
 | true=>
  rw [c4,aN,Bool.and_eq_true] at h
  match x,h with
  | [],_=>exact Nat.zero_le _
  | [_],_=>exact (by decide:1<=200)
  | _ :: _ :: _,h=>exact absurd h.2 (by simp)
theorem Gtk.len {k:Int} {x:List UInt8} {n:Int} (h:Gtk k x n):x.length<=200:=by
 by_cases hk:k=0
 · rw [(h.e hk).1]; exact Nat.zero_le _
 · exact aB0 (h.o hk)
theorem PQ {l:List UInt8} {ts:List Tk} (h:s8 l 0 ts) (hl:l.length<=4000):Ends ts:=
 ⟨KY h,by have:=IW h; omega,fun i t ht=>(K8 h ht).2.2.2.1⟩
theorem RY {l:List UInt8}:∀ {a:Nat} {ts:List Tk},s8 l a ts->∀ t ∈ ts,t.a<=l.length
 | _,[],_=>fun t ht=>by cases ht
 | _,t :: ts,⟨_,h2,z,_,h4,h5⟩=>fun u hu=>by
  rcases List.mem_cons.1 hu with rfl | hu
  · exact h2
  · by_cases h0:t.k=0
    · rw [h4 h0] at hu; cases hu
    · exact RY (h5 h0) u hu
theorem JM {l:List UInt8} (h:(bD l).err=0):Tks (bD l).toks:=by
 rcases NN l with ⟨h1,_⟩ | ⟨_,_,h3,h4⟩
 · exact absurd h h1
 · have hg:=OQ l
   exact ⟨PQ h4 h3,fun t ht=>(hg t ht).i,fun t ht=>by have:=(hg t ht).len; omega,fun t ht=>by have:=RY h4 t ht; omega⟩
def uV:PC:=.gh (.ord  [.q (.q 56 (.bd [(.int .i64 0),(.int .i64 0),(.string (mk [])),(.slice none 0 0),(.slice none 0 0)] [])),.q (.v 57 12),.q (.q 58 (.nc (.t 57))),.q (.q 59 (.fa 0 (.t 58))),.q (.l 60 (.ld1 (.t 59))),.q (.v 61 12),.q (.q 62 (.nc (.t 61))),.q (.q 63 (.fa 1 (.t 62))),.q (.l 64 (.ld1 (.t 63))),.q (.l 65 (.ia 4 (.t 60) (.t 64))),.q (.q 66 (.fa 3 (.t 65))),.q (.l 67 (.ld1 (.t 66))),.m (.s (.st 5 (.t 6) (.t 56))),.rc (.v 57 12),.rc (.q 58 (.nc (.t 57))),.rc (.q 59 (.fa 0 (.t 58))),.rc (.l 60 (.ld1 (.t 59))),.rc (.v 61 12),.rc (.q 62 (.nc (.t 61))),.rc (.q 63 (.fa 1 (.t 62))),.rc (.l 64 (.ld1 (.t 63))),.rc (.l 65 (.ia 4 (.t 60) (.t 64))),.rc (.q 66 (.fa 3 (.t 65))),.rc (.l 67 (.ld1 (.t 66))),.m (.q 7 (.mv (.i 2))),.rc (.v 57 12),.rc (.q 58 (.nc (.t 57))),.rc (.q 59 (.fa 0 (.t 58))),.rc (.l 60 (.ld1 (.t 59))),.rc (.v 61 12),.rc (.q 62 (.nc (.t 61))),.rc (.q 63 (.fa 1 (.t 62))),.rc (.l 64 (.ld1 (.t 63))),.rc (.l 65 (.ia 4 (.t 60) (.t 64))),.rc (.q 66 (.fa 3 (.t 65))),.rc (.l 67 (.ld1 (.t 66))),.m (.v 8 67)])
@[go_sem ↓] theorem aNE:aT uV:=aU _
def rZ:PC:=.seq (.gh (.reg [.v 72 14,.q 73 (.bin .neq true (.t 72) (.i 0))])) (.cond (.t 73) (.seq (.reg [.q 74 (.bd [(.int .i64 0),(.int .i64 0),(.string (mk [])),(.slice none 0 0),(.slice none 0 0)] []),.v 75 14,.s (.st 5 (.t 6) (.t 74)),.v 7 75,.q 8 (.mv (.i 0))]) .ret) .skip)
@[go_sem ↓] theorem aMO:aT rZ:=aU _
def xP:PC:=.seq (.gh (.reg [.l 76 (.ldn 5 (.t 13)),.s (.st 5 (.t 6) (.t 76)),.q 7 (.mv (.i 0)),.q 8 (.mv (.i 0))])) .ret
@[go_sem ↓] theorem aK1:aT xP:=aU _
def w3:PC:=.seq (.seq (.gh (.reg [.l 68 (.ldn 3 (.t 3)),.l 69 (.ldn 4 (.t 4)),.l 70 (.ldn 5 (.t 13)),.a 71 (.cq 25 [(.t 68),(.t 69),(.t 70)]),.v 14 71])) (rZ)) (xP)
@[go_sem ↓] theorem aJM:aT w3:=aU _
def p6:PC:=.seq (.seq (.gh (.reg [.v 38 12,.q 39 (.nc (.t 38)),.q 40 (.fa 2 (.t 39)),.l 41 (.ld1 (.t 40)),.v 42 41,⟨some 43,(some (42,false)),.q (.mv (.t 12))⟩,⟨some 44,(some (42,false)),.q (.nc (.t 43))⟩,⟨some 45,(some (42,false)),.q (.fa 0 (.t 44))⟩,⟨some 46,(some (42,false)),.l (.ld1 (.t 45))⟩,⟨some 47,(some (42,false)),.q (.mv (.t 12))⟩,⟨some 48,(some (42,false)),.q (.nc (.t 47))⟩,⟨some 49,(some (42,false)),.q (.fa 1 (.t 48))⟩,⟨some 50,(some (42,false)),.l (.ld1 (.t 49))⟩,⟨some 51,(some (42,false)),.l (.ia 4 (.t 46) (.t 50))⟩,⟨some 52,(some (42,false)),.q (.fa 0 (.t 51))⟩,⟨some 53,(some (42,false)),.l (.ld1 (.t 52))⟩,⟨some 54,(some (42,false)),.q (.bin .neq true (.t 53) (.i 0))⟩,.a 55 (.pick (.t 42) (.k (.bool true)) (.t 54))])) (.cond (.t 55) (.seq (uV) .ret) .skip)) (w3)
@[go_sem ↓] theorem aN0:aT p6:=aU _
def CQ:PC:=.seq (.gh (.reg [.v 34 12,.l 35 (.ldn 3 (.t 3)),.l 36 (.ldn 4 (.t 4)),.a 37 (.cl 33 [(.t 34),(.t 35),(.t 36)] [3]),.e 13 (.al (.agg #[(.int .i64 0),(.int .i64 0),(.string (mk [])),(.slice none 0 0),(.slice none 0 0)]) 32),.s (.st 5 (.t 13) (.t 37))])) (p6)
@[go_sem ↓] theorem aN7:aT CQ:=aU _
def BP:PC:=.seq (.gh (.reg [.v 31 9,.q 32 (.bd [(.slice none 0 0),(.int .i64 0),(.bool false)] [(0,1,(.t 31))]),.e 33 (.bx 75 (.t 32)),.v 12 33])) (CQ)
@[go_sem ↓] theorem aNY:aT BP:=aU _
def u5:PC:=.seq (.seq (.gh (.reg [.v 26 10,.q 27 (.bin .neq true (.t 26) (.i 0))])) (.cond (.t 27) (.seq (.reg [.q 28 (.bd [(.int .i64 0),(.int .i64 0),(.string (mk [])),(.slice none 0 0),(.slice none 0 0)] []),.v 29 10,.v 30 11,.s (.st 5 (.t 6) (.t 28)),.v 7 29,.v 8 30]) .ret) .skip)) (BP)
@[go_sem ↓] theorem aNL:aT u5:=aU _
def B3:PC:=.seq (.gh (.reg [.v 21 2,.a 22 (.cl 16 [(.t 21)] []),.v 20 22,.q 23 (.ex (.t 20) 0),.q 24 (.ex (.t 20) 1),.q 25 (.ex (.t 20) 2),.v 9 23,.v 10 24,.v 11 25])) (u5)
@[go_sem ↓] theorem aNP:aT B3:=aU _
def N8:PC:=.seq (.reg [.e 3 (.bx 25 (.t 0)),.e 4 (.bx 28 (.t 1)),.e 6 (.al (.agg #[(.int .i64 0),(.int .i64 0),(.string (mk [])),(.slice none 0 0),(.slice none 0 0)]) 32),.q 7 (.mv (.i 0)),.q 8 (.mv (.i 0))]) (.seq (.seq (.reg [.l 15 (.ldn 3 (.t 3)),.l 16 (.ldn 4 (.t 4)),.a 17 (.cq 32 [(.t 15),(.t 16)]),.q 18 (.not (.t 17))]) (.cond (.t 18) (.seq (.reg [.q 19 (.bd [(.int .i64 0),(.int .i64 0),(.string (mk [])),(.slice none 0 0),(.slice none 0 0)] []),.s (.st 5 (.t 6) (.t 19)),.q 7 (.mv (.i 13)),.q 8 (.mv (.i 0))]) .ret) .skip)) (B3))
def O4:List RV:=[.ld (.ldn 5 (.t 6)),.mv (.t 7),.mv (.t 8)]
theorem aJN:aP Tryz.prog true ⟨fun r k=>if r=1/\k=2 then .q else if r=7/\k=3 then .own [3] else if r=10/\k=3 then .q else .own [],fun r=>[3,4,6,7,8,10,11,13,9].contains r⟩ Tryz.f14=some (N8,O4):=by kernel_rfl
theorem aDZ {N:Nat} {s:Sc} {ts:List Tk} {u:Ty} (ih:∀ z,z.n < ts.length->(pP N s ts u z).1.h<=N + 1) (z:Fs) (hn:z.n < ts.length):∀ x ∈ (cO (eZ (pP N) s ts u) [91] [93] ts [] z).1,x.h<=N + 1:=by
 have ho:=Q8 (n3 N) (s:=s) (ts:=ts) (u:=u)
 obtain ⟨k,_,h⟩:=q8 ho (fun _ l=>∀ x ∈ l,x.h<=N + 1) (fun k l z hz hl x hx=>by
  rcases List.mem_append.1 hx with h | h
  · exact hl x h
  · rw [List.mem_singleton.1 h]; exact ih z hz) [91] [93] [] z hn (fun x h=>by cases h)
 exact h
theorem aGD {N:Nat} {s:Sc} {ts:List Tk} {u:St} (ih:∀ t z,z.n < ts.length->(pP N s ts t z).1.h<=N + 1) (z:Fs) (hn:z.n < ts.length):∀ x ∈ (cO (cK (pP N) s ts u) [123] [125] ts (0,[]) z).1.2,x.2.h<=N + 1:=by
 have ho:=tP (n3 N) (s:=s) (ts:=ts) (u:=u)
 obtain ⟨k,_,h⟩:=q8 ho (fun _ (a:JK)=>∀ x ∈ a.2,x.2.h<=N + 1) (fun k a z hz hl x hx=>by
  unfold cK at hx
  cases hb:iJ ts u a.1 z with
  | true=>rw [hb] at hx; exact hl x hx
  | false=>
   rw [hb] at hx
   rcases List.mem_append.1 hx with h | h
   · exact hl x h
   · rw [List.mem_singleton.1 h]
     exact ih _ _ (gR (w:=[61]) (z:=⟨z.bad,z.off,cP ts z.n⟩) (kI hz).2).2) [123] [125] (0,[]) z hn (fun x h=>by cases h)
 exact h
theorem ZG:∀ {l:List Vl} {B:Nat},(∀ x ∈ l,x.h<=B)->Vl.hl l<=B
 | [],_,_=>by rw [Vl.hl]; exact Nat.zero_le _
 | v :: r,B,h=>by
  rw [Vl.hl]
  have h1:=h v (List.mem_cons_self ..)
  have h2:=ZG fun x hx=>h x (List.mem_cons_of_mem _ hx)
  omega
theorem XW:∀ {l:List (Int × Vl)} {B:Nat},(∀ x ∈ l,x.2.h<=B)->Vl.hf l<=B
 | [],_,_=>by rw [Vl.hf]; exact Nat.zero_le _
 | (i,v) :: r,B,h=>by
  rw [Vl.hf]
  have h1:=h (i,v) (List.mem_cons_self ..)
  have h2:=XW fun x hx=>h x (List.mem_cons_of_mem _ hx)
  simp only at h1
  omega
theorem T6:∀ (N:Nat) (s:Sc) (ts:List Tk) (t:Ty) (z:Fs),z.n < ts.length->(pP N s ts t z).1.h<=N + 1
 | 0,_,_,_,_,_=>Nat.le_refl _
 | N + 1,s,ts,t,z,hn=>by
  have flat:∀ k n x,(Vl.mk k n x [] []).h<=N + 1 + 1:=fun k n x=>by rw [Vl.h,Vl.hl,Vl.hf]; omega
  rw [fN]
  cases t.k == 1 with
  | true=>
   rw [aN]; unfold cF
   cases !z.bad && bQ 1 iF (aO ts z.n)<;>cases !z.bad && bQ 1 gI (aO ts z.n)<;>exact flat _ _ _
  | false=>
  cases t.k == 4 with
  | true=>exact flat _ _ _
  | false=>
  cases t.k == 7 with
  | true=>
   rw [aN,aH,aH]
   unfold cE
   cases decide (gL ((dJ s.es t.n).getD default) ts z < 0) || decide ((((dJ s.es t.n).getD default).vs.length:Int)<=gL ((dJ s.es t.n).getD default) ts z)<;>exact flat _ _ _
  | false=>
  cases t.k == 5 with
  | true=>
   show (kJ (pP N) s ts (t.e.headD default) z).1.h<=_
   have:=ZG (aDZ (u:=t.e.headD default) (fun z hz=>T6 N s ts _ z hz) z hn)
   unfold kJ
   rw [Vl.h,Vl.hf]
   omega
  | false=>
  cases t.k == 6 with
  | true=>
   show (gA (pP N) s ts (stOf s t) z).1.h<=_
   have:=XW (aGD (u:=stOf s t) (fun t z hz=>T6 N s ts t z hz) z hn)
   unfold gA
   rw [Vl.h,Vl.hl]
   omega
  | false=>exact flat _ _ _
def pD (P:Prs) (s:Sc) (t:Ty) (x:List UInt8):Vl × Int × Int:=
 bif !valF s.ss s.es t then (v0,13,0) else bif (bD x).err != 0 then (v0,(bD x).err,(bD x).off) else JT s t (bD x).toks (P s (bD x).toks t (aS 0))
def PE (N:Nat):W.Spec:=fun av H K=>∃ s t x,av=[.va (.gs (aF s)),.va (.gs (aQ t)),tS x]/\H=[]/\s.fit/\Nice s/\TyOk t/\(valF s.ss s.es t=true->dP N s t)/\
 K (.tu [.gs (a8 (pD (pP N) s t (bl x)).1),iA .i64 (pD (pP N) s t (bl x)).2.1,iA .i64 (pD (pP N) s t (bl x)).2.2]) []
noncomputable def QK (N:Nat):cQ:=[(32,.f r0Fn),(16,.s nL),(33,.s (rL N)),(25,.f (eL (sJ (N + 1)) fun s t v=>.int .i64 (f0 s t v)))]
theorem RQ (N:Nat):jT (QK N) 32=some r0Fn:=rfl
theorem aCV (N:Nat):sp (QK N) 16=nL:=rfl
theorem aG7 (N:Nat):sp (QK N) 33=rL N:=rfl
theorem aI4 (N:Nat):jT (QK N) 25=some (eL (sJ (N + 1)) fun s t v=>.int .i64 (f0 s t v)):=rfl
theorem aCA (N:Nat) (hN:N + 1<=1000000):Meets Tryz.prog 14 (PE N):=by
 refine aE (Γ:=QK N) Tryz.func14 aJN 3 (by rw [Tryz.ntmps14]; decide) (aG v6 (aB aFI (aB (MO N) (aG (aB6 (N + 1) hN) (aA _))))) (fun av H K h=>by obtain ⟨_,_,_,rfl,_⟩:=h; rfl) ?_
 rintro av H K ⟨s,t,x,rfl,rfl,hs,hni,ht,hD,hK⟩
 have k4:=eJ ht
 have k5:=iV t
 have k6:=fV hs
 have k7:=jS s
 have fin:∀ (v:Vl) (e a:Int) (R:Hp),pD (pP N) s t (bl x)=(v,e,a)->W.Fin 0 K (.tu [.gs (a8 v),iA .i64 e,iA .i64 a]) R:=fun v e a R h=>by
  rw [h] at hK
  refine .sel [] (by simp) (by simp) rfl (.done ?_)
  rw [aM] at hK ⊢
  simpa [go_sem] using hK
 clear hK
 unfold pD at fin
 have er:r0Fn.val [.va (.gs (aF s)),.va (.gs (aQ t))]=bA (valF s.ss s.es t):=by
  show bA (valF (C.sc (aF s)).ss (C.sc (aF s)).es (C.ty (aQ t)))=_
  rw [fB,eT]
 cases h1:valF s.ss s.es t with
 | false=>
  rw [h1] at fin
  simp (maxSteps:=1000000) -dsimp only [go_sem,aF,aJ t,N8,O4,RQ,k4,k5,k6,k7,h1]
  exact fin v0 13 0 _ rfl
 | true=>
 rw [h1] at fin
 have hD:=hD h1
 simp (maxSteps:=1000000) -dsimp only [go_sem,aF,aJ t,N8,O4,RQ,k4,k5,k6,k7,h1]
 refine aD rfl (.done ?_)
 simp (maxSteps:=1000000) -dsimp only [go_sem,B3,aCV]
 refine aD rfl (.done ?_)
 cases h2:(bD (bl x)).err != 0 with
 | true=>
  rw [h2] at fin
  simp (maxSteps:=1000000) -dsimp only [go_sem,u5,h2]
  exact fin v0 _ _ _ rfl
 | false=>
 rw [h2] at fin
 have hts:=JM (l:=bl x) (by simpa using h2)
 have he:=hts.e
 have hle:=he.le
 have hn0:=he.pos
 simp (maxSteps:=1000000) -dsimp only [go_sem,u5,h2]
 simp only [Bool.not_true,aH] at fin
 generalize (bD (bl x)).toks=ts at *
 refine aD rfl (.done ?_)
 simp (maxSteps:=1000000) -dsimp only [go_sem,BP]
 refine aD rfl (.done ?_)
 simp (maxSteps:=1000000) -dsimp only [go_sem,CQ,aG7]
 refine JF (n:=0) hs hni hts hn0 ⟨ht,hD,h1⟩ ?_
 intro v m b hv hr
 have hh:b=false->v.h<=N + 1:=fun h=>by rw [(hr.ok h).1]; exact T6 N s ts t (aS 0) hn0
 simp (maxSteps:=1000000) -dsimp only [go_sem,aM v]
 refine aD rfl (.done ?_)
 simp only [JT,GS] at fin
 cases b with
 | true=>
  have hbad:=hr.hb
  have hoff:=hr.er rfl
  have hlt:=hr.hn
  have q1:=fun p=>rT hlt p
  have e1:(bif (aO ts (pP N s ts t (aS 0)).2.n).k != 0 then cV ts (pP N s ts t (aS 0)).2 else (pP N s ts t (aS 0)).2)=(pP N s ts t (aS 0)).2:=by
   rw [l0 hbad]; cases (aO ts (pP N s ts t (aS 0)).2.n).k != 0<;>rfl
  rw [e1,hbad,hoff] at fin
  simp (maxSteps:=1000000) -dsimp only [go_sem,p6]
  refine aD rfl (.done ?_)
  simp (maxSteps:=1000000) -dsimp only [go_sem,uV,↓q1,bE]
  exact ⟨⟨by omega,by omega⟩,⟨by omega,by omega⟩,⟨by omega,by omega⟩,fin v0 2 _ _ rfl⟩
 | false=>
  obtain ⟨e1,e2⟩:=hr.ok rfl
  have hlt:=hr.hn
  have q1:=fun p=>rT hlt p
  rw [<-e1,e2] at fin
  have hh:=hh rfl
  have k1:=dB hv
  have k2:=gW v
  have k8:sJ (N + 1) s t v=True:=eq_true hh
  cases h3:(aO ts m).k != 0 with
  | true=>
   have e3:cV ts (aS m)=⟨true,((aO ts m).a:Int),m⟩:=rfl
   simp only [h3,aN,e3] at fin
   simp (maxSteps:=1000000) -dsimp only [go_sem,p6,↓q1,bE,h3]
   refine ⟨⟨by omega,by omega⟩,aD rfl (.done ?_)⟩
   simp (maxSteps:=1000000) -dsimp only [go_sem,uV,↓q1,bE]
   exact ⟨⟨by omega,by omega⟩,⟨by omega,by omega⟩,⟨by omega,by omega⟩,fin v0 2 _ _ rfl⟩
  | false=>
   simp only [h3,aH] at fin
   simp (maxSteps:=1000000) -dsimp only [go_sem,p6,↓q1,bE,h3]
   refine ⟨⟨by omega,by omega⟩,aD rfl (.done ?_)⟩
   simp (maxSteps:=1000000) -dsimp only [go_sem,w3,aI4,k1,k2,k4,k5,k6,k7,k8]
   refine aD rfl (.done ?_)
   cases h4:f0 s t v != 0 with
   | true=>
    simp only [h4,aN] at fin
    simp (maxSteps:=1000000) -dsimp only [go_sem,rZ,h4]
    exact fin v0 _ _ _ rfl
   | false=>
    simp only [h4,aH] at fin
    simp (maxSteps:=1000000) -dsimp only [go_sem,rZ,h4]
    refine aD rfl (.done ?_)
    simp (maxSteps:=1000000) -dsimp only [go_sem,xP]
    have:=fin v 0 0
    rw [aM] at this
    exact this _ rfl
structure Dg (s:Sc):Prop where
 ni:Nice s
 g:Gd s.ss s.es
 ac:wB s.ss
 d6:∀ u ∈ s.ss,dD s.ss u.nm<=6
 z:∀ e ∈ s.es,e.vs[0]? = some 0
theorem aKU {s:Sc} (hf:s.fit) (h:eP s=0):Dg s:=by
 obtain ⟨c2,c3,c4,c5⟩:=rR h
 unfold vM at c5
 obtain ⟨d1,c5⟩:=gB c5 (by decide)
 obtain ⟨d2,c5⟩:=gB c5 (by decide)
 exact ⟨LM h,L5 hf c2 c4,fun t ht=>jB d1 t ht,fun u hu=>by have:=of_decide_eq_false (jB d2 u hu); omega,fun e he=>TI h he⟩
abbrev pX (s:Sc) (t:Ty):Int:=b9 (dD s.ss) t
theorem tD (s:Sc) (t:Ty):0<=pX s t:=by
 unfold pX b9
 have:=FS s.ss (cS t).2.n
 cases (cS t).2.k == 6 with
 | true=>rw [aN]; omega
 | false=>rw [aH]; omega
theorem B5 {s:Sc} {t u:Ty} (h5:(t.k == 5)=true) (he:t.e=[u]):pX s t=pX s u + 1:=by
 obtain ⟨k,z,n,e⟩:=t
 have hk:k=5:=eq_of_beq h5
 have he:e=[u]:=he
 subst hk he
 unfold pX b9
 rw [cS,show ((5:Int) == 5)=true from rfl,aN,WX]
 simp only
 omega
theorem A9 {s:Sc} {t:Ty} (h6:(t.k == 6)=true):pX s t=dD s.ss t.n:=by
 obtain ⟨k,z,n,e⟩:=t
 have hk:k=6:=eq_of_beq h6
 subst hk
 unfold pX b9
 rw [cS,show ((6:Int) == 5)=false from rfl,aH]
 show ((0:Nat):Int) + (bif (6:Int) == 6 then dD s.ss n else 0)=dD s.ss n
 simp
theorem va6 {s:Sc} {t:Ty} (h:valF s.ss s.es t=true) (h6:(t.k == 6)=true):∃ u,fS s.ss t.n=some u/\stOf s t=u/\u ∈ s.ss/\u.nm=t.n:=by
 have hh:f6 s.ss t.n=true:=by
  obtain ⟨k,z,n,e⟩:=t
  have hk:k=6:=eq_of_beq h6
  subst hk
  rw [valF] at h; simp at h; exact h.1.1
 rw [<-tO] at hh
 obtain ⟨u,hu⟩:=Option.isSome_iff_exists.1 hh
 exact ⟨u,hu,by unfold stOf; rw [hu]; rfl,(gV hu).1,(gV hu).2⟩
theorem va7 {s:Sc} {t:Ty} (h:valF s.ss s.es t=true) (h7:(t.k == 7)=true):enOf s t ∈ s.es:=by
 have hh:f9 s.es t.n=true:=by
  obtain ⟨k,z,n,e⟩:=t
  have hk:k=7:=eq_of_beq h7
  subst hk
  rw [valF] at h; simp at h; exact h.1.1
 rw [<-uG] at hh
 obtain ⟨u,hu⟩:=Option.isSome_iff_exists.1 hh
 unfold enOf
 rw [hu]
 exact (LB hu).1
theorem vP {s:Sc} (hd:Dg s) {t:Ty} (h:valF s.ss s.es t=true) (h6:(t.k == 6)=true):1<=dD s.ss t.n/\dD s.ss t.n<=6/\∀ f ∈ (stOf s t).fs,pX s f.ty + 1<=dD s.ss t.n:=by
 obtain ⟨u,h1,h2,h3,h4⟩:=va6 h h6
 have e:=F5 hd.g hd.ac h1
 have h0:=jV (dD s.ss) u.fs
 refine ⟨by omega,by rw [<-h4]; exact hd.d6 u h3,fun f hf=>?_⟩
 rw [h2] at hf
 have:=MM (dp:=dD s.ss) hf
 show b9 (dD s.ss) f.ty + 1<=_
 omega
theorem O2 {s:Sc} (hs:s.fit) (hd:Dg s):∀ (N:Nat) (t:Ty),TyOk t->valF s.ss s.es t=true->pX s t < N->dP N s t
 | 0,t,_,_,h=>by have:=tD s t; omega
 | N + 1,t,ht,hv,h=>by
  refine ⟨fun h5=>?_,fun h6 f hf=>?_⟩
  · obtain ⟨u,he,hu⟩:=CL hv h5
    have e:=B5 (s:=s) h5 he
    have hto:=ht.e u (by rw [he]; exact List.mem_singleton.2 rfl)
    exact ⟨u,he,hto,O2 hs hd N u hto hu (by omega)⟩
  · have e:=A9 (s:=s) h6
    have:=(vP hd hv h6).2.2 f hf
    exact O2 hs hd N f.ty ((jK hs t).fs f hf).ty ((hd.ni.stOf t).v f hf) (by omega)
theorem aL1 {ss:List St} {es:List En} {u:St} (hu:NSt ss es u):u.fs.Pairwise fun f g=>f.num < g.num:=by
 have key:∀ (l:List Fl),(∀ k f g,0 < k->l[k - 1]? = some g->l[k]? = some f->g.num < f.num)->l.Pairwise fun f g=>f.num < g.num:=by
  intro l
  induction l with
  | nil=>intro _; exact .nil
  | cons y l ih=>
   intro h
   have hl:=ih fun k f g hk h1 h2=>h (k + 1) f g (by omega) (by rw [show k + 1 - 1=k - 1 + 1 by omega]; simpa using h1) (by simpa using h2)
   refine List.pairwise_cons.2 ⟨fun f hf=>?_,hl⟩
   cases l with
   | nil=>cases hf
   | cons z l=>
    have h1:=h 1 z y (by omega) rfl rfl
    rcases List.mem_cons.1 hf with rfl | hf
    · exact h1
    · exact Int.lt_trans h1 ((List.pairwise_cons.1 hl).1 f hf)
 exact key u.fs hu.a
theorem OY:∀ {fs:List Fl} {f:Fl},fs.Pairwise (fun f g=>f.num < g.num)->f ∈ fs->fF fs f.num=some f
 | y :: l,f,hp,hf=>by
  obtain ⟨h1,h2⟩:=List.pairwise_cons.1 hp
  show List.find? _ _=_
  rw [List.find?_cons]
  rcases List.mem_cons.1 hf with rfl | hf
  · simp
  · have:=h1 f hf
    have e:decide (y.num=f.num)=false:=by simp; omega
    rw [e]
    exact OY h2 hf
theorem W3 {fs:List Fl}:∀ (L:List (Int × Vl)) (p:Option Int),(∀ x ∈ L,(fF fs x.1).isSome=true)->L.Pairwise (fun x y=>x.1 < y.1)->(∀ q,p=some q->∀ x ∈ L,q < x.1)->ftA fs p L=true
 | [],_,_,_,_=>by rw [CO]
 | x :: L,p,h1,h2,h3=>by
  obtain ⟨h4,h5⟩:=List.pairwise_cons.1 h2
  rw [wW,h1 x (List.mem_cons_self ..),W3 L (some x.1) (fun y hy=>h1 y (List.mem_cons_of_mem _ hy)) h5 fun q hq y hy=>by cases hq; exact h4 y hy]
  cases p with
  | none=>rfl
  | some q=>
   have:=h3 q rfl x (List.mem_cons_self ..)
   show (true && decide (q < x.1) && true)=true
   rw [decide_eq_true this]; rfl
theorem MT {s:Sc} {fs:List Fl}:∀ (L:List (Int × Vl)),(∀ x ∈ L,jQ s ((fF fs x.1).getD default).ty x.2=0)->kF s fs L=0
 | [],_=>by rw [kF]
 | x :: L,h=>by
  rw [HQ,h x (List.mem_cons_self ..)]
  exact MT L fun y hy=>h y (List.mem_cons_of_mem _ hy)
theorem PK {B:Int}:∀ (L:List (Int × Vl)) (d:Int),d<=B->(∀ x ∈ L,dE x.2<=B)->iM d L<=B
 | [],d,h,_=>by rw [iM]; exact h
 | (i,v) :: L,d,h,hx=>by
  rw [iM]
  have:=hx (i,v) (List.mem_cons_self ..)
  exact PK L _ (by simp only at this; omega) fun y hy=>hx y (List.mem_cons_of_mem _ hy)
def zl (s:Sc) (t:Ty):Int:=bif t.k == 6 then dD s.ss t.n else bif t.k == 5 then 1 else 0
theorem aJY {s:Sc} {t:Ty} (hv:valF s.ss s.es t=true):zl s t<=pX s t:=by
 unfold zl
 have h0:=tD s t
 cases h6:t.k == 6 with
 | true=>rw [A9 h6]; exact Int.le_refl _
 | false=>
  cases h5:t.k == 5 with
  | true=>
   obtain ⟨u,he,_⟩:=CL hv h5
   have:=B5 (s:=s) h5 he
   have:=tD s u
   rw [aH,aN]; omega
  | false=>exact h0
theorem IR (n:Nat):(0:Int) < 2 ^ n:=Int.pow_pos (by decide)
theorem aF4 {s:Sc} {t:Ty} (h:valF s.ss s.es t=true) (hk:(t.k == 4)=true\/(t.k == 5)=true):1<=t.s:=by
 obtain ⟨k,z,n,e⟩:=t
 show 1<=z
 rcases hk with hk | hk
 · have hk:k=4:=eq_of_beq hk
   subst hk
   rw [valF.eq_def] at h
   simp at h
   omega
 · have hk:k=5:=eq_of_beq hk
   subst hk
   rw [valF.eq_def] at h
   simp at h
   omega
theorem M2 {s:Sc} (hd:Dg s) (n:Nat) {t:Ty} (hv:valF s.ss s.es t=true) (h6:(t.k == 6)=false):jQ s t (zF s (n + 1) t)=0/\dE (zF s (n + 1) t)<=zl s t:=by
 have e:zF s (n + 1) t=.mk t.k 0 (mk []) [] []:=by rw [m1,hv,h6]; rfl
 rw [e]
 constructor
 · rw [AF,hv]
   show (bif !true || t.k != t.k then (13:Int) else _)=0
   rw [bne_self_eq_false,Bool.not_true,Bool.or_false,aH]
   cases h4:t.k == 4 with
   | true=>
    have:=aF4 hv (.inl h4)
    have d:decide (t.s < (((bl (mk [])).length:Nat):Int))=false:=by rw [oH]; simp; omega
    show oE t 0 (mk []) (([]:List Vl).length:Int) (([]:List (Int × Vl)).length:Int)=0
    unfold oE
    rw [d]; rfl
   | false=>
   rw [aH]
   cases h5:t.k == 5 with
   | true=>
    have:=aF4 hv (.inr h5)
    have d:decide (t.s < ((([]:List Vl).length:Nat):Int))=false:=by simp; omega
    show (bif decide (t.s < ((([]:List Vl).length:Nat):Int)) then (3:Int) else kV s (t.e.headD default) [])=0
    rw [d,kV]; rfl
   | false=>
   rw [aH,h6,aH]
   show oC s t 0 (mk []) ((0:Nat):Int) ((0:Nat):Int)=0
   unfold oC
   have hr:EQ s t 0=true:=by
    unfold EQ
    rcases MW hv with h | h | h | h | h | h | h
    · rw [h]; rfl
    · rw [bR h (b:=1) (by decide),h,aH,aN]
      have:=IR (t.s.toNat - 1)
      rw [decide_eq_true (show -(2 ^ (t.s.toNat - 1):Int)<=0 by omega),decide_eq_true this,Bool.and_true,Bool.or_true]
    · rw [bR h (b:=1) (by decide),bR h (b:=2) (by decide),h,aH,aH,aN]
      have:=IR t.s.toNat
      rw [decide_eq_true this]; rfl
    · rw [h4] at h; cases h
    · rw [h5] at h; cases h
    · rw [h6] at h; cases h
    · rw [bR h (b:=1) (by decide),bR h (b:=2) (by decide),bR h (b:=3) (by decide),h]
      have hm:=hd.z _ (va7 hv h)
      show (enOf s t).vs.any (fun x=>x == 0)=true
      rw [List.any_eq_true]
      exact ⟨0,bT hm,rfl⟩
   rw [hr,oH]; rfl
 · rw [zD]
   unfold zl
   rw [h6,aH]
   cases h5:t.k == 5 with
   | true=>
    have hs:nE (.mk t.k 0 (mk []) [] [])=false:=by
     show (t.k != 5 && t.k != 6 && _ && _)=false
     rw [bne,h5]; rfl
    rw [hs]
    show 1 + iM (gS 0 []) []<=1
    rw [gS,iM]; decide
   | false=>
    have hs:nE (.mk t.k 0 (mk []) [] [])=true:=by
     show (t.k != 5 && t.k != 6 && _ && _)=true
     rw [bne,bne,h5,h6]; rfl
    rw [hs]; exact Int.le_refl _
theorem aJI {s:Sc} (hd:Dg s):∀ (n:Nat) (t:Ty),valF s.ss s.es t=true->((t.k == 6)=true->dD s.ss t.n<=n)->jQ s t (zF s (n + 1) t)=0/\dE (zF s (n + 1) t)<=zl s t:=by
 intro n
 induction n with
 | zero=>
  intro t hv h
  cases h6:t.k == 6 with
  | true=>have:=(vP hd hv h6).1; have:=h h6; omega
  | false=>exact M2 hd 0 hv h6
 | succ n ih=>
  intro t hv h
  cases h6:t.k == 6 with
  | false=>exact M2 hd (n + 1) hv h6
  | true=>
   have hdn:=h h6
   obtain ⟨h1,h2,h3⟩:=vP hd hv h6
   have hu:=hd.ni.stOf t
   have hpw:=aL1 hu
   have hk:t.k=6:=eq_of_beq h6
   have e:zF s (n + 1 + 1) t=.mk 6 0 (mk []) [] (zE s (n + 1) (stOf s t).fs):=by rw [m1,hv,h6]; rfl
   have hm:∀ x ∈ zE s (n + 1) (stOf s t).fs,∃ f ∈ (stOf s t).fs,x=(f.num,zF s (n + 1) f.ty):=fun x hx=>by
    unfold zE at hx
    obtain ⟨f,hf,rfl⟩:=List.mem_map.1 hx
    exact ⟨f,(List.mem_filter.1 hf).1,rfl⟩
   have hf:∀ f ∈ (stOf s t).fs,jQ s f.ty (zF s (n + 1) f.ty)=0/\dE (zF s (n + 1) f.ty)<=dD s.ss t.n - 1:=fun f hf=>by
    have hvf:=hu.v f hf
    have h4:=h3 f hf
    have h5:=aJY hvf
    obtain ⟨a,b⟩:=ih f.ty hvf fun h7=>by have:=A9 (s:=s) h7; omega
    exact ⟨a,by omega⟩
   rw [e]
   constructor
   · rw [AF,hv]
     show (bif !true || (6:Int) != t.k then (13:Int) else _)=0
     rw [hk]
     show (bif !(dI (stOf s t).fs (zE s (n + 1) (stOf s t).fs)) then (13:Int) else kF s (stOf s t).fs (zE s (n + 1) (stOf s t).fs))=0
     have hfit:dI (stOf s t).fs (zE s (n + 1) (stOf s t).fs)=true:=by
      unfold dI
      rw [Bool.and_eq_true,List.all_eq_true]
      refine ⟨W3 _ none (fun x hx=>?_) ?_ (fun q h=>by cases h),fun f hf=>?_⟩
      · obtain ⟨f,hf,rfl⟩:=hm x hx
        rw [OY hpw hf]; rfl
      · unfold zE
        rw [List.pairwise_map]
        exact hpw.filter _
      · cases ho:f.opt with
        | true=>rfl
        | false=>
         unfold lB
         rw [Bool.false_or,List.any_eq_true]
         refine ⟨(f.num,zF s (n + 1) f.ty),?_,by simp⟩
         unfold zE
         exact List.mem_map.2 ⟨f,List.mem_filter.2 ⟨hf,by rw [ho]; rfl⟩,rfl⟩
     rw [hfit,Bool.not_true,aH]
     refine MT _ fun x hx=>?_
     obtain ⟨f,hfm,rfl⟩:=hm x hx
     rw [OY hpw hfm]
     exact (hf f hfm).1
   · rw [zD]
     unfold zl
     rw [h6,aN]
     show 1 + iM (gS 0 []) (zE s (n + 1) (stOf s t).fs)<=dD s.ss t.n
     rw [gS]
     have:=PK (B:=dD s.ss t.n - 1) (zE s (n + 1) (stOf s t).fs) 0 (by omega) fun x hx=>by
      obtain ⟨f,hfm,rfl⟩:=hm x hx
      exact (hf f hfm).2
     omega
theorem aAA {s:Sc} (hd:Dg s) (t:Ty):sG s t=valF s.ss s.es t:=by
 unfold sG f0
 rw [MV]
 cases hv:valF s.ss s.es t with
 | true=>
  obtain ⟨h1,h2⟩:=aJI hd 22 t hv fun h6=>by have:=(vP hd hv h6).2.1; omega
  have h3:zl s t<=6:=by
   unfold zl
   cases h6:t.k == 6 with
   | true=>exact (vP hd hv h6).2.1
   | false=>
    cases t.k == 5 with
    | true=>exact (by decide:(1:Int)<=6)
    | false=>exact (by decide:(0:Int)<=6)
  rw [decide_eq_false (show ¬ 6 < dE (zF s (22 + 1) t) by omega),h1]; rfl
 | false=>
  have e:zF s 23 t=.mk 0 0 (mk []) [] []:=by rw [m1,hv]; rfl
  rw [e,AF,hv]
  cases decide (6 < dE (.mk 0 0 (mk []) [] []))<;>rfl
def aOV:Ty:=.mk 2 8 (mk []) []
def xTx:Ty:=.mk 4 5 (mk []) []
def xMo:Ty:=.mk 7 0 (mk [77,111,100,101]) []
def xBo:Ty:=.mk 1 0 (mk []) []
def xLi:Ty:=.mk 5 2 (mk []) [xBo]
def xF1:Fl:=⟨1,mk [120],aOV,false⟩
def xF2:Fl:=⟨2,mk [110,97,109,101],xTx,true⟩
def xF4:Fl:=⟨4,mk [109,111,100,101],xMo,false⟩
def xF5:Fl:=⟨5,mk [108],xLi,false⟩
def X4:St:=⟨mk [80,111,115,101],[xF1,xF2,xF4,xF5]⟩
def xEn:En:=⟨mk [77,111,100,101],[mk [105,100,108,101],mk [114,117,110]],[0,3]⟩
def xS:Sc:=⟨1,[xEn],[X4]⟩
def xT:Ty:=.mk 6 0 (mk [80,111,115,101]) []
def xSp:W.Spec:=fun av H K=>av=[]/\H=[]/\K (.tu [.gs (aF xS),.gs (aQ xT)]) []
theorem O1:Meets Tryz.prog 22 xSp:=by
 refine aE Tryz.func22 aTN 0 (by rw [Tryz.ntmps22]; decide) (aA _) (fun av H K h=>by obtain ⟨rfl,_⟩:=h; rfl) ?_
 rintro av H K ⟨rfl,rfl,hK⟩
 simp (maxSteps:=1000000) -dsimp only [go_sem,aEV,aIQ]
 refine .opn 2 _ _ _ rfl (.nfr 2 _ _ _ rfl (.shu 2 _ _ _ rfl ?_ (.pub 2 _ _ _ rfl ?_)))
 · simp [C.nf,C.shut]
 simp -dsimp only [go_sem,cT,C.nf,C.pub]
 refine .nfr 4 _ _ _ rfl (.shu 4 _ _ _ rfl ?_ (.pub 4 _ _ _ rfl ?_))
 · simp [C.nf,C.shut]
 simp -dsimp only [go_sem,cT,C.nf,C.pub]
 refine .pub 5 _ _ _ rfl (.pub 6 _ _ _ rfl ?_)
 simp -dsimp only [go_sem,cT,C.pub]
 refine .shu 7 _ _ _ rfl ?_ (.pub 7 _ _ _ rfl ?_)
 · simp [C.shut]
 simp -dsimp only [go_sem,cT,C.pub]
 refine .shu 8 _ _ _ rfl ?_ (.pub 8 _ _ _ rfl ?_)
 · simp [C.shut]
 simp -dsimp only [go_sem,cT,C.pub]
 refine .sel [] (by simp) (by simp) rfl (.done ?_)
 simp -dsimp only [go_sem]
 exact hK
def x1:List UInt8:=[123,120,32,61,32,45,53,44,32,109,111,100,101,32,61,32,114,117,110,44,32,108,32,61,32,91,116,114,117,101,44,32,102,97,108,115,101,93,125]
def x2:List UInt8:=[123,120,32,61,32,50,48,48,44,32,109,111,100,101,32,61,32,114,117,110,44,32,108,32,61,32,91,93,125]
def x3:List UInt8:=[123,109,111,100,101,32,61,32,114,117,110,44,32,120,32,61,32,49,125]
def x4:List UInt8:=[123,120,32,61,32,49,44,32,109,111,100,101,32,61,32,115,116,111,112,44,32,108,32,61,32,91,93,125]
def l5 (k n:Int):Vl:=.mk k n (mk []) [] []
def xL:Vl:=.mk 5 0 (mk []) [l5 1 1,l5 1 0] []
def xV:Vl:=.mk 6 0 (mk []) [] [(1,l5 2 (-5)),(4,l5 7 3),(5,xL)]
theorem e1:iT (pP 10) xS xT x1=(xV,0,0):=by kernel_rfl
theorem e2:iT (pP 10) xS xT x2=(v0,4,0):=by kernel_rfl
theorem e3:iT (pP 10) xS xT x3=(v0,2,13):=by kernel_rfl
theorem e4:iT (pP 10) xS xT x4=(v0,2,15):=by kernel_rfl
theorem e0:f0 xS xT xV=0:=by kernel_rfl
theorem e5:IY (fP 10) xS xT xV=x1:=by kernel_rfl
theorem JW (k s:Int) (n:ByteArray) (h1:cD k) (h2:cD s) (h3:n.size<=9223372036854775807):TyOk (.mk k s n []):=.mk h1 h2 h3 (Nat.zero_le _) (fun t h=>by cases h)
theorem YR:TyOk xT:=JW _ _ _ ⟨by decide,by decide⟩ ⟨by decide,by decide⟩ (by decide)
theorem aE7:TyOk xLi:=.mk ⟨by decide,by decide⟩ ⟨by decide,by decide⟩ (by decide) (by decide) fun t ht=>by
 rw [List.mem_singleton.1 ht]; exact JW _ _ _ ⟨by decide,by decide⟩ ⟨by decide,by decide⟩ (by decide)
theorem aJP:xS.ok:=by
 refine ⟨⟨by decide,by decide⟩,by decide,by decide,fun e he=>?_,fun u hu=>?_⟩
 · rw [List.mem_singleton.1 he]
   refine ⟨by decide,by decide,by decide,fun n hn=>?_,fun n hn=>?_⟩
   · have:n=mk [105,100,108,101]\/n=mk [114,117,110]:=by simpa [xEn] using hn
     rcases this with rfl | rfl<;>decide
   · have:n=0\/n=3:=by simpa [xEn] using hn
     rcases this with rfl | rfl<;>exact ⟨by decide,by decide⟩
 · rw [List.mem_singleton.1 hu]
   refine ⟨by decide,by decide,fun f hf=>?_⟩
   have:f=xF1\/f=xF2\/f=xF4\/f=xF5:=by simpa [X4] using hf
   rcases this with rfl | rfl | rfl | rfl
   · exact ⟨⟨by decide,by decide⟩,by decide,JW _ _ _ ⟨by decide,by decide⟩ ⟨by decide,by decide⟩ (by decide)⟩
   · exact ⟨⟨by decide,by decide⟩,by decide,JW _ _ _ ⟨by decide,by decide⟩ ⟨by decide,by decide⟩ (by decide)⟩
   · exact ⟨⟨by decide,by decide⟩,by decide,JW _ _ _ ⟨by decide,by decide⟩ ⟨by decide,by decide⟩ (by decide)⟩
   · exact ⟨⟨by decide,by decide⟩,by decide,aE7⟩
theorem aCP:lD xS=true:=by kernel_rfl
theorem RD:xS.fit:=CE aJP aCP
theorem u7 {N:Nat} {s:Sc} {t:Ty} (h5:(t.k == 5)=false) (h6:(t.k == 6)=false):dP (N + 1) s t:=⟨fun h=>(by rw [h5] at h; cases h),fun h=>(by rw [h6] at h; cases h)⟩
theorem PX:stOf xS xT=X4:=by kernel_rfl
theorem xD:dP 10 xS xT:=by
 refine ⟨fun h=>(nomatch h),fun _ f hf=>?_⟩
 rw [PX] at hf
 have:f=xF1\/f=xF2\/f=xF4\/f=xF5:=by simpa [X4] using hf
 rcases this with rfl | rfl | rfl | rfl
 · exact u7 rfl rfl
 · exact u7 rfl rfl
 · exact u7 rfl rfl
 · exact ⟨fun _=>⟨xBo,rfl,JW _ _ _ ⟨by decide,by decide⟩ ⟨by decide,by decide⟩ (by decide),u7 rfl rfl⟩,fun h=>(nomatch h)⟩
theorem xDF:dF 10 xS xT xV:=by
 have hl:∀ N t v,(fP N xS t v).1.length<=1000->(t.k == 5)=false->(t.k == 6)=false->bl v.s=[]->N=N - 1 + 1->dF N xS t v:=fun N t v h1 h2 h3 h4 h5=>by
  rw [h5] at h1 ⊢
  refine ⟨fun _=>by rw [h4]; decide,fun h=>?_,fun h=>?_,Nat.le_trans h1 (by decide)⟩
  · rw [h2] at h; cases h
  · rw [h3] at h; cases h
 refine ⟨fun h=>(nomatch h),fun h=>(nomatch h),fun _ x hx=>?_,by decide +kernel⟩
 have:x=(1,l5 2 (-5))\/x=(4,l5 7 3)\/x=(5,xL):=by simpa [xV,Vl.f] using hx
 rw [PX]
 rcases this with rfl | rfl | rfl
 · exact hl _ _ _ (by decide +kernel) rfl rfl rfl rfl
 · exact hl _ _ _ (by decide +kernel) rfl rfl rfl rfl
 · refine ⟨fun h=>(nomatch h),fun _=>⟨xBo,rfl,JW _ _ _ ⟨by decide,by decide⟩ ⟨by decide,by decide⟩ (by decide),fun y hy=>?_⟩,fun h=>(nomatch h),by decide +kernel⟩
   have:y=l5 1 1\/y=l5 1 0:=by simpa [xL,Vl.l] using hy
   rcases this with rfl | rfl
   · exact hl _ _ _ (by decide +kernel) rfl rfl rfl rfl
   · exact hl _ _ _ (by decide +kernel) rfl rfl rfl rfl
noncomputable def ZK (N:Nat):Fun:=eL (fun s t v=>f0 s t v=0->dF N s t v) fun s t v=>.string (mk (IY (fP N) s t v))
theorem VF (N:Nat):Meets Tryz.prog 11 (ZK N).sp:=eQ (0:Nat) (fun (_:Nat)=>aBT (aE3 N)) fun av H K h=>by
 obtain ⟨s,t,v,rfl,rfl,hs,ht,hv,hp,hK⟩:=eW h
 exact ⟨0,s,t,v,rfl,rfl,hs,ht,hv,hp,hK⟩
theorem KX (N:Nat):Meets Tryz.prog 13 (t7 (dP N) (pP N)):=aH5 (WS N) (n3 N) fun _s _ts t z hs hts ht hD hn=>yX hs hts N t z ht hD hn
theorem SH {N:Nat} {s:Sc} {t:Ty} {x:ByteArray} {K:S->Hp->Prop} (hs:s.fit) (ht:TyOk t) (hD:sG s t=true->dP N s t) (hK:K (.tu [.gs (a8 (iT (pP N) s t (bl x)).1),iA .i64 (iT (pP N) s t (bl x)).2.1,iA .i64 (iT (pP N) s t (bl x)).2.2]) []) :
 t7 (dP N) (pP N) [.va (.gs [.vl (.int .i64 s.ver),.fz (s.es.map bG),.fz (s.ss.map aR)]),.va (.gs [.vl (.int .i64 t.k),.vl (.int .i64 t.s),.vl (.string t.n),.fz (t.e.map aQ)]),tS x] [] K:=
 ⟨s,t,x,by rw [aJ]; rfl,rfl,hs,ht,hD,JM,hK⟩
theorem N5 {x:List UInt8} {v:Vl} {e a:Int} {K:S->Hp->Prop} (h:iT (pP 10) xS xT x=(v,e,a)) (hK:K (.tu [.gs (a8 v),iA .i64 e,iA .i64 a]) []) :
 t7 (dP 10) (pP 10) [.va (.gs [.vl (.int .i64 xS.ver),.fz (xS.es.map bG),.fz (xS.ss.map aR)]),.va (.gs [.vl (.int .i64 xT.k),.vl (.int .i64 xT.s),.vl (.string xT.n),.fz (xT.e.map aQ)]),tS (mk x)] [] K:=
 SH RD YR (fun _=>xD) (by rw [oH,h]; exact hK)
noncomputable def XT:cQ:=[(22,.s xSp),(13,.s (t7 (dP 10) (pP 10))),(11,.f (ZK 10))]
theorem aHU:sp XT 22=xSp:=rfl
theorem AX:sp XT 13=t7 (dP 10) (pP 10):=rfl
theorem aIE:jT XT 11=some (ZK 10):=rfl
theorem UT:Meets Tryz.prog 10 qTrue.sp:=by
 refine aE (Γ:=XT) Tryz.func10 aR3 0 (by rw [Tryz.ntmps10]; decide) (aB O1 (aB (KX 10) (aG (VF 10) (aA _)))) PJ ?_
 rintro av H K ⟨⟨h,rfl⟩,hK⟩
 obtain rfl:av=[]:=h
 have hK:K (bS true) []:=hK
 have fin:∀ R:Hp,W.Fin 0 K (bS true) R:=fun R=>.sel [] (by simp) (by simp) rfl (.done (by simpa [go_sem] using hK))
 clear hK
 have k1:=dB (show VlOk xV from by
  have hf:∀ k n:Int,cD k->cD n->VlOk (l5 k n):=fun k n h1 h2=>sS h1 h2 (by decide)
  refine .mk ⟨by decide,by decide⟩ ⟨by decide,by decide⟩ (by decide) (by decide) (by decide) (fun x h=>by cases h) (fun x hx=>?_) (fun x hx=>?_)
  · have:x=(1,l5 2 (-5))\/x=(4,l5 7 3)\/x=(5,xL):=by simpa using hx
    rcases this with rfl | rfl | rfl<;>exact ⟨by decide,by decide⟩
  · have:x=(1,l5 2 (-5))\/x=(4,l5 7 3)\/x=(5,xL):=by simpa using hx
    rcases this with rfl | rfl | rfl
    · exact hf _ _ ⟨by decide,by decide⟩ ⟨by decide,by decide⟩
    · exact hf _ _ ⟨by decide,by decide⟩ ⟨by decide,by decide⟩
    · refine .mk ⟨by decide,by decide⟩ ⟨by decide,by decide⟩ (by decide) (by decide) (by decide) (fun y hy=>?_) (fun x h=>by cases h) (fun x h=>by cases h)
      have:y=l5 1 1\/y=l5 1 0:=by simpa using hy
      rcases this with rfl | rfl<;>exact hf _ _ ⟨by decide,by decide⟩ ⟨by decide,by decide⟩)
 have k2:=gW xV
 have k4:=eJ YR
 have k5:=iV xT
 have k6:=fV RD
 have k7:=jS xS
 have k8:(f0 xS xT xV=0->dF 10 xS xT xV)=True:=eq_true fun _=>xDF
 have g0:(x1 == [123,120,32,61,32,45,53,44,32,109,111,100,101,32,61,32,114,117,110,44,32,108,32,61,32,91,116,114,117,101,44,32,102,97,108,115,101,93,125])=true:=by decide +kernel
 have g1:((xV.f.length:Int) == 3)=true:=rfl
 have q1:=fun p=>H3 (l:=xV.f) (n:=1) (x:=(4,l5 7 3)) rfl p
 have g2:((4:Int) == 4)=true:=rfl
 have g3:((3:Int) == 3)=true:=rfl
 have g4:((0:Int) == 0)=true:=rfl
 have g5:((2:Int) == 2)=true:=rfl
 have g6:((13:Int) == 13)=true:=rfl
 have g7:((15:Int) == 15)=true:=rfl
 have g8:(1:Int) < (xV.f.length:Int):=by decide
 have g9:(l5 7 3).n=3:=rfl
 simp (maxSteps:=1000000) -dsimp only [go_sem,aDH,aIG,aHU]
 refine ⟨rfl,rfl,?_⟩
 simp (maxSteps:=1000000) -dsimp only [go_sem,aF,aJ xT]
 refine aD rfl (.done ?_)
 simp (maxSteps:=1000000) -dsimp only [go_sem,J5]
 refine aD rfl (.done ?_)
 simp (maxSteps:=1000000) -dsimp only [go_sem,JH,AX]
 refine N5 e1 ?_
 simp (maxSteps:=1000000) -dsimp only [go_sem,aM xV]
 refine aD rfl (.done ?_)
 simp (maxSteps:=1000000) -dsimp only [go_sem,J3,AX]
 refine N5 e2 ?_
 simp (maxSteps:=1000000) -dsimp only [go_sem,aM v0]
 refine aD rfl (.done ?_)
 simp (maxSteps:=1000000) -dsimp only [go_sem,KD,AX]
 refine N5 e3 ?_
 simp (maxSteps:=1000000) -dsimp only [go_sem,aM v0]
 refine aD rfl (.done ?_)
 simp (maxSteps:=1000000) -dsimp only [go_sem,II,AX]
 refine N5 e4 ?_
 simp (maxSteps:=1000000) -dsimp only [go_sem,aM v0]
 refine aD rfl (.done ?_)
 simp (maxSteps:=1000000) -dsimp only [go_sem,JC,aIE,ZK,k1,k2,k4,k5,k6,k7,k8,e5,g0,g1,g2,g4,g5,g6,g7,↓q1,beq_self_eq_true]
 exact ⟨⟨by omega,by omega⟩,⟨by omega,by omega⟩,fin _⟩
def JZ:PC:=.seq (.gh (.reg [.v 39 8,.v 40 11,.q 41 (.bin .eql true (.t 39) (.t 40)),.v 42 41,⟨some 43,(some (42,true)),.q (.mv (.t 9))⟩,⟨some 44,(some (42,true)),.q (.mv (.t 12))⟩,⟨some 45,(some (42,true)),.q (.bin .eql true (.t 43) (.t 44))⟩,.a 46 (.pick (.t 42) (.t 45) (.k (.bool false))),.v 47 46,⟨some 48,(some (47,true)),.l (.ldn 5 (.t 7))⟩,⟨some 49,(some (47,true)),.l (.ldn 5 (.t 10))⟩,⟨some 50,(some (47,true)),.cq 15 [(.t 48),(.t 49)]⟩,.a 51 (.pick (.t 47) (.t 50) (.k (.bool false))),.v 52 51,⟨some 53,(some (52,true)),.cq 10 []⟩,.a 54 (.pick (.t 52) (.t 53) (.k (.bool false))),.v 6 54])) .ret
@[go_sem ↓] theorem aTO:aT JZ:=aU _
def GV:PC:=.seq (.gh (.reg [.l 32 (.ldn 3 (.t 3)),.l 33 (.ldn 4 (.t 4)),.v 34 2,.a 35 (.cl 14 [(.t 32),(.t 33),(.t 34)] []),.v 31 35,.q 36 (.ex (.t 31) 0),.q 37 (.ex (.t 31) 1),.q 38 (.ex (.t 31) 2),.e 10 (.al (.agg #[(.int .i64 0),(.int .i64 0),(.string (mk [])),(.slice none 0 0),(.slice none 0 0)]) 32),.s (.st 5 (.t 10) (.t 36)),.v 11 37,.v 12 38])) (JZ)
@[go_sem ↓] theorem aPS:aT GV:=aU _
def J1:PC:=.seq (.gh (.reg [.l 24 (.ldn 3 (.t 3)),.l 25 (.ldn 4 (.t 4)),.v 26 2,.a 27 (.cl 13 [(.t 24),(.t 25),(.t 26)] []),.v 23 27,.q 28 (.ex (.t 23) 0),.q 29 (.ex (.t 23) 1),.q 30 (.ex (.t 23) 2),.e 7 (.al (.agg #[(.int .i64 0),(.int .i64 0),(.string (mk [])),(.slice none 0 0),(.slice none 0 0)]) 32),.s (.st 5 (.t 7) (.t 28)),.v 8 29,.v 9 30])) (GV)
@[go_sem ↓] theorem aQE:aT J1:=aU _
def OM:PC:=.seq (.reg [.e 3 (.bx 25 (.t 0)),.e 4 (.bx 28 (.t 1)),.q 6 (.mv (.k (.bool false)))]) (.seq (.seq (.reg [.l 13 (.ldn 3 (.t 3)),.l 14 (.ldn 4 (.t 4)),.a 15 (.cq 8 [(.t 13),(.t 14)]),.q 16 (.not (.t 15)),.v 17 16,⟨some 18,(some (17,false)),.q (.mv (.t 2))⟩,⟨some 19,(some (17,false)),.q (.lnS (.t 18))⟩,⟨some 20,(some (17,false)),.q (.bin .gtr true (.t 19) (.i 4100))⟩,.a 21 (.pick (.t 17) (.k (.bool true)) (.t 20))]) (.cond (.t 21) (.seq (.reg [.a 22 (.cq 10 []),.v 6 22]) .ret) .skip)) (J1))
def NS:List RV:=[.mv (.t 6)]
theorem aOR:aP Tryz.prog true ⟨fun r k=>if r=1/\k=2 then .q else if r=2/\k=0 then .q else if r=5/\k=11 then .q else if r=5/\k=14 then .q else .own [],fun r=>[3,4,5].contains r⟩ Tryz.f4=some (OM,NS):=by kernel_rfl
theorem YH {s:Sc} (hd:Dg s):∀ (B:Nat) (t:Ty),t.h<=B->valF s.ss s.es t=true->pX s t<=B + 6
 | 0,t,h,_=>by have:=t.h_pos; omega
 | B + 1,t,h,hv=>by
  cases h5:t.k == 5 with
  | true=>
   obtain ⟨u,he,hu⟩:=CL hv h5
   have hh:u.h<=B:=by
    obtain ⟨k,z,n,e⟩:=t
    have he:e=[u]:=he
    subst he
    rw [Ty.h,Ty.hs,Ty.hs] at h
    omega
   have:=YH hd B u hh hu
   rw [B5 h5 he]; omega
  | false=>
  cases h6:t.k == 6 with
  | true=>have:=(vP hd hv h6).2.1; rw [A9 h6]; omega
  | false=>
   have:pX s t=0:=by
    obtain ⟨k,z,n,e⟩:=t
    have h5:(k == 5)=false:=h5
    have h6:(k == 6)=false:=h6
    unfold pX b9
    rw [cS,h5,aH]
    show ((0:Nat):Int) + (bif k == 6 then dD s.ss n else 0)=0
    rw [h6]; rfl
   omega
theorem aFB {t:Ty} (h:fewT t=true):t.h<=9:=by
 obtain ⟨k,s,n,e⟩:=t
 have h1:=(OS h).1.2.2
 have:=O0 20 (.mk k s n e) (by omega)
 omega
theorem aE2 {s:Sc} {t:Ty} (hs:s.fit) (hd:Dg s) (ht:TyOk t) (hf:fewT t=true) (hv:valF s.ss s.es t=true):dP 16 s t:=
 O2 hs hd 16 t ht hv (by have:=YH hd 9 t (aFB hf) hv; omega)
theorem aHA {s:Sc} (hd:Dg s) (P:Prs) (t:Ty) (x:List UInt8):pD P s t x=iT P s t x:=by
 unfold pD iT
 rw [aAA hd]
theorem NX:VlOk v0:=sS ⟨by decide,by decide⟩ ⟨by decide,by decide⟩ (by decide)
theorem aG8 {s:Sc} {t:Ty} (hs:s.fit) (ht:TyOk t) (hD:sG s t=true->dP 16 s t) (x:List UInt8):VlOk (iT (pP 16) s t x).1:=by
 unfold iT
 cases h1:sG s t with
 | false=>exact NX
 | true=>
  rw [Bool.not_true,aH]
  cases h2:(bD x).err != 0 with
  | true=>exact NX
  | false=>
   rw [aH]
   have hts:=JM (l:=x) (by simpa using h2)
   have:=yX hs hts 16 t ⟨false,0,0⟩ ht (hD h1) hts.e.pos
   unfold JT
   generalize pP 16 s (bD x).toks t ⟨false,0,0⟩=r at *
   cases (GS (bD x).toks r.2).bad<;>cases f0 s t r.1 != 0<;>first | exact NX | exact this
def FM:List S->Prop:=fun av=>match av with
 | [.va (.gs r),.va (.gs q),.va (.c1 (.vl (.string x)))]=>qN r/\fH q/\x.size<=9223372036854775807
 | _=>False
theorem A2 {av:List S} (h:FM av):∃ s t x,av=[.va (.gs (aF s)),.va (.gs (aQ t)),tS x]/\s.ok/\TyOk t/\x.size<=9223372036854775807:=by
 unfold FM at h
 split at h
 · obtain ⟨⟨s,rfl,h1⟩,⟨t,rfl,h2⟩,h3⟩:=h; exact ⟨s,t,_,rfl,h1,h2,h3⟩
 · exact h.elim
def lpFn:Fun:=⟨FM,fun _=>bA true,fun _ _=>trivial⟩
attribute [go_sem] lpFn FM
noncomputable def M0:cQ:=[(8,.f feFn),(10,.f qTrue),(13,.s (t7 (dP 16) (pP 16))),(14,.s (PE 16)),(15,.f eqFn)]
theorem HS:jT M0 8=some feFn:=rfl
theorem BC:jT M0 10=some qTrue:=rfl
theorem aD2:sp M0 13=t7 (dP 16) (pP 16):=rfl
theorem aGA:sp M0 14=PE 16:=rfl
theorem aI1:jT M0 15=some eqFn:=rfl
theorem aBQ {s:Sc} {t:Ty} (hs:s.ok) (h:tW s t=true):s.fit/\Dg s/\fewT t=true:=by
 have hf:=(aBA hs h).1
 unfold tW at h
 rw [Bool.and_eq_true,Bool.and_eq_true] at h
 exact ⟨hf,aKU hf (eq_of_beq h.2),h.1.2⟩
theorem aGZ {N:Nat} {s:Sc} {t:Ty} {x:ByteArray} {K:S->Hp->Prop} (hs:s.fit) (hni:Nice s) (ht:TyOk t) (hD:valF s.ss s.es t=true->dP N s t) (hK:K (.tu [.gs (a8 (pD (pP N) s t (bl x)).1),iA .i64 (pD (pP N) s t (bl x)).2.1,iA .i64 (pD (pP N) s t (bl x)).2.2]) []) :
 PE N [.va (.gs [.vl (.int .i64 s.ver),.fz (s.es.map bG),.fz (s.ss.map aR)]),.va (.gs [.vl (.int .i64 t.k),.vl (.int .i64 t.s),.vl (.string t.n),.fz (t.e.map aQ)]),tS x] [] K:=
 ⟨s,t,x,by rw [aJ]; rfl,rfl,hs,hni,ht,hD,hK⟩
theorem NQ:Meets Tryz.prog 4 lpFn.sp:=by
 refine aE (Γ:=M0) Tryz.func4 aOR 3 (by rw [Tryz.ntmps4]; decide) (aG aIL (aG UT (aB (KX 16) (aB (aCA 16 (by decide)) (aG aBE (aA _)))))) (fun av H K h=>by obtain ⟨_,_,_,rfl,_⟩:=A2 h.1.1; rfl) ?_
 rintro av H K ⟨⟨h,rfl⟩,hK⟩
 obtain ⟨s,t,x,rfl,hs,ht,hx⟩:=A2 h
 have hK:K (bS true) []:=hK
 clear h
 have fin:∀ R:Hp,W.Fin 0 K (bS true) R:=fun R=>.sel [] (by simp) (by simp) rfl (.done (by simpa [go_sem] using hK))
 clear hK
 rw [gT] at hx
 have k4:=eJ ht
 have k5:=iV t
 have k6:=MZ hs
 have k7:=jS s
 cases h1:tW s t with
 | false=>
  simp (maxSteps:=1000000) -dsimp only [go_sem,aF,aJ t,OM,NS,HS,BC,k4,k5,k6,k7,h1]
  exact fin _
 | true=>
 cases h2:decide (4100 < ((bl x).length:Int)) with
 | true=>
  simp (maxSteps:=1000000) -dsimp only [go_sem,aF,aJ t,OM,NS,HS,BC,k4,k5,k6,k7,h1,h2]
  exact fin _
 | false=>
  obtain ⟨hf,hd,hft⟩:=aBQ hs h1
  have hD:valF s.ss s.es t=true->dP 16 s t:=aE2 hf hd ht hft
  have hD':sG s t=true->dP 16 s t:=fun h=>hD (by rw [<-aAA hd]; exact h)
  have hok:=aG8 hf ht hD' (bl x)
  simp (maxSteps:=1000000) -dsimp only [go_sem,aF,aJ t,OM,NS,HS,BC,k4,k5,k6,k7,h1,h2]
  refine aD rfl (.done ?_)
  simp (maxSteps:=1000000) -dsimp only [go_sem,J1,aD2]
  refine SH hf ht hD' ?_
  generalize hr:iT (pP 16) s t (bl x)=r at *
  obtain ⟨v,e,a⟩:=r
  simp (maxSteps:=1000000) -dsimp only [go_sem,aM v]
  refine aD rfl (.done ?_)
  simp (maxSteps:=1000000) -dsimp only [go_sem,GV,aGA]
  refine aGZ hf hd.ni ht hD ?_
  rw [aHA hd,hr]
  simp (maxSteps:=1000000) -dsimp only [go_sem,aM v]
  refine aD rfl (.done ?_)
  have k1:=dB hok
  simp (maxSteps:=1000000) -dsimp only [go_sem,JZ,aI1,BC,k1,beq_self_eq_true]
  exact fin _
end Go.Proofs.YtkpohmhenegkiaaGreatDoor
namespace Go.W
open Go.RowKit
structure Stay (w w':World):Prop where
 os:w'.os=w.os
 out:w'.output=w.output
 size:w.heap.size<=w'.heap.size
 keep:∀ b:Nat,b < w.heap.size->w'.heap[b]? = w.heap[b]?
theorem Stay.kept {w w':World} (h:Stay w w') (may:MemPlace->Prop):w.keptBut w' may:=by
 refine ⟨h.os,h.out,fun i hi=>?_⟩
 rw [h.keep i hi]
 split
 · rename_i h1 h2; rw [h1] at h2; cases h2; exact ⟨rfl,rfl,rfl,fun _ _=>rfl⟩
 · rename_i h1 h2; rw [h1] at h2; cases h2; exact Or.inr ⟨rfl,rfl⟩
 · rfl
theorem Stay.frozen {w w':World} (h:Stay w w') {a:Addr} (ha:a.block < w.heap.size):w'.frozen? a=w.frozen? a:=by
 unfold World.frozen?; rw [h.keep _ ha]
theorem Stay.cell {w w':World} (h:Stay w w') {a:Addr} (ha:a.block < w.heap.size):w'.cell? a=w.cell? a:=by
 unfold World.cell?; rw [h.keep _ ha]
theorem aBW {w:World} {ro:RO} (h:∀ (b off:Nat) (v:Value),ro b off=some v->w.cell? ⟨b,off,none⟩=some v):Rel ⟨w,dX [],ro,gm []⟩ [] ro w where
 own:=fun n g blk h=>by simp at h
 inj:=fun n m gn gm bn bm b h=>by simp at h
 apart:=fun b off v _ n g blk h=>by simp at h
 rd:=h
 ro0:=fun _ _ _ h=>h
 rob:=fun b off v h=>.inl h
 par:=fun n b g blk h=>by simp at h
 gx:=.refl _
 sz:=Nat.le_refl _
 keep:=fun b _ _=>rfl
 os:=rfl
 tape:=rfl
 output:=rfl
theorem Meets.run {P:Program} {f:FuncId} {s:Fun} (hm:Meets P f s.sp) {av:List S} {vs:List Value} {ro:RO} {w:World} {x:A} (hpre:s.pre av) (hval:s.val av=x) (hl:av.length=vs.length)
 (hrel:∀ (i:Nat) (x:S) (v:Value),av[i]? = some x->vs[i]? = some v->x.rel (gm []) ro v) (hro:∀ (b off:Nat) (v:Value),ro b off=some v->w.cell? ⟨b,off,none⟩=some v) (hG:GR P ro w) :
 Calls P f vs.toArray w fun e w'=>∃ v γ ro',e=.returned v/\S.rel γ ro' (.va x) v/\Stay w w':=by
 subst hval
 refine (hm.2 av vs [] ro w (fun r H=>r=.va (s.val av)/\H=[]) hl hrel (aBW hro) ⟨⟨hpre,rfl⟩,rfl,rfl⟩ hG).mono ?_
 rintro e w' ⟨r,v,E',ro',rfl,h1,⟨rfl,h2⟩,h3⟩
 exact ⟨v,_,ro',rfl,h1,h3.os,h3.output,h3.sz,fun b hb=>h3.keep b hb (by simp [dX])⟩
theorem Meets.yes {P:Program} {f:FuncId} {s:Fun} (hm:Meets P f s.sp) {av:List S} {vs:List Value} {ro:RO} {w:World} (hpre:s.pre av) (hval:s.val av=.c1 (.vl (.bool true))) (hl:av.length=vs.length)
 (hrel:∀ (i:Nat) (x:S) (v:Value),av[i]? = some x->vs[i]? = some v->x.rel (gm []) ro v) (hro:∀ (b off:Nat) (v:Value),ro b off=some v->w.cell? ⟨b,off,none⟩=some v) (hG:GR P ro w) :
 Calls P f vs.toArray w fun e w'=>e=.returned (.bool true)/\Stay w w':=by
 refine (hm.run hpre hval hl hrel hro hG).mono ?_
 rintro e w' ⟨v,γ,ro',rfl,h1,h2⟩
 have:v=.bool true:=h1
 exact ⟨by rw [this],h2⟩
section
variable {H:Type} {enc:TypeId × Value->H} {P:Program}
theorem G0 {f:Func} {s:ChangeSpec} {apart fresh handsOn again:Bool} {W W':World} {args:Array Value} {v:Value} {ds gs:List (DataW H)} {before pa pv:List MemPlace}
 (hW:DataW.Whole enc P f.params.toList s.vars apart W args.toList ds gs before)
 (hres:∀ (b:Nat) (sp:Nat->Bool) (hd:Bool),DataW.TrodAll enc P W' b sp hd f.resultTypes.toList (v.resultList f.resultTypes.size) (s.fn H (ds ++ gs)).results [])
 (hargs:∀ sp:Nat->Bool,(∀ p ∈ before,sp p.block=true)->DataW.TrodAll enc P W' 0 sp true f.params.toList args.toList (s.fn H (ds ++ gs)).args pa)
 (hvars:∀ sp:Nat->Bool,(∀ p ∈ before,sp p.block=true)->DataW.TrodVars enc P W' sp s.vars (s.fn H (ds ++ gs)).vars pv)
 (hps:before=pa ++ pv) (hs:Stay W W')
 (hok:∀ (j:Nat) (t:TypeId) (r:Value),f.resultTypes[j]? = some t->(v.resultList f.resultTypes.size)[j]? = some r->Value.okWide P W' .any 0 t r) :
 s.post enc P f apart fresh handsOn again W args v W':=by
 have hlt:∀ p ∈ before,p.block < W.heap.size:=fun p hp=>hW.lt p hp
 have hsp:∀ p ∈ before,(fun b=>decide (b < W.heap.size)) p.block=true:=fun p hp=>by simpa using hlt p hp
 have hall:∀ p ∈ before,(fun _:Nat=>true) p.block=true:=fun _ _=>rfl
 obtain ⟨_,_,_,_,_,hz,hn⟩:=id hW
 refine ⟨ds,gs,before,[],pa,pv,hW,hres _ _ _,hargs _ hsp,hvars _ hsp,World.keptBut_mono (fun p hp=>⟨hp,.inr ?_⟩) (hs.kept (· ∈ before)),fun _=>⟨hok,_,_,([] ++ pa) ++ pv,
  ⟨[] ++ pa,pv,ChangeShapes.trodAll_append (hargs _ hall) (hres _ _ _),hvars _ hall,rfl,fun b off hp=>?_,fun ha=>?_⟩,fun p hp _=>?_⟩⟩
 · rw [hps,List.mem_append] at hp; exact hp
 · have hb:MemPlace.cell b off ∈ before:=by rw [hps]; simpa using hp
   rw [hs.frozen (hlt _ hb)]
   exact hz b off hb
 · have:=hn ha
   rw [hps] at this
   simpa using this
 · rw [hps]
   simpa using hp
end
open Go.RowKit
def l7 (W:World):RO:=fun b off=>W.cell? ⟨b,off,none⟩
theorem aEP (W:World):∀ (b off:Nat) (v:Value),l7 W b off=some v->W.cell? ⟨b,off,none⟩=some v:=fun _ _ _ h=>h
theorem aIS (ro:RO):FzR ro [] (.slice none 0 0):=
 FzR.mk [] 1 none none (fun h=>absurd rfl h) 0 (fun _=>.bool true) (by simp) (by simp) (by simp) (by simp) (by simp) (by simp) (by simp)
def qO (P:Program):Bool:=(List.range P.types.size).all fun t=>match P.underlying t with | some (.slice e)=>decide (0 < P.cellsOf e) | _=>true
section
variable {H:Type} {enc:TypeId × Value->H} {P:Program}
theorem QC {W W':World} (h:Stay W W') {p:MemPlace} (hp:p.block < W.heap.size):W.sameAt W' p:=by
 cases p with
 | cell b off=>exact h.cell (a:=⟨b,off,none⟩) hp
 | map b=>exact h.keep b hp
theorem tH {W W':World} {sp:Nat->Bool} (hl:laidOutB P=true) (hm:mapsRowed P=true) (hs:qO P=true) (hst:Stay W W') :
 ∀ {ts:List TypeId} {vs:List Value} {ds:List (DataW H)} {ps:List MemPlace},(∀ t ∈ ts,t < P.types.size)->DataW.TrodAll enc P W 0 (fun _=>true) true ts vs ds ps->(∀ p ∈ ps,p.block < W.heap.size)->(∀ p ∈ ps,sp p.block=true)->
  DataW.TrodAll enc P W' 0 sp true ts vs ds ps
 | [],[],[],ps,_,h,_,_=>h
 | t :: ts,v :: vs,d :: ds,ps,ht,h,hb,hp=>by
  obtain ⟨p,q,⟨n,h1⟩,h2,rfl⟩:=h
  have hsz:∀ {t e:TypeId},t < P.types.size->P.underlying t=some (.slice e)->0 < P.cellsOf e:=fun {t e} ht hu=>by
   have:=List.all_eq_true.1 hs t (List.mem_range.2 ht)
   rw [hu] at this
   simpa using this
  exact ⟨p,q,⟨n,DataW.trod_stays (T:=(· < P.types.size)) (kids_rows hl hm) hsz (fun h=>by cases h) (ht t (by simp)) h1 (fun x hx=>QC hst (hb x (by simp [hx]))) (fun x hx=>hp x (by simp [hx]))⟩,
   tH hl hm hs hst (fun u hu=>ht u (by simp [hu])) h2 (fun x hx=>hb x (by simp [hx])) (fun x hx=>hp x (by simp [hx])),rfl⟩
 | [],_ :: _,_,_,_,h,_,_=>h.elim
 | [],[],_ :: _,_,_,h,_,_=>h.elim
 | _ :: _,[],_,_,_,h,_,_=>h.elim
 | _ :: _,_ :: _,[],_,_,h,_,_=>h.elim
theorem TU {f:Func} {s:ChangeSpec} {apart fresh handsOn again:Bool} {W W':World} {args:Array Value} {ds gs:List (DataW H)} {before:List MemPlace} {tb:TypeId}
 (hl:laidOutB P=true) (hm:mapsRowed P=true) (hsr:qO P=true) (hps:∀ t ∈ f.params.toList,t < P.types.size) (hrt:f.resultTypes=#[tb]) (htb:P.underlying tb=some .bool)
 (hvars:s.vars=[]) (hW:DataW.Whole enc P f.params.toList s.vars apart W args.toList ds gs before) (hfn:s.fn H (ds ++ gs)={ results:=[.lit (.bool true)],args:=ds,vars:=[] }) (hst:Stay W W') :
 s.post enc P f apart fresh handsOn again W args (.bool true) W':=by
 have hlt:∀ p ∈ before,p.block < W.heap.size:=fun p hp=>hW.lt p hp
 obtain ⟨p,q,hA,hV,hb,_,_⟩:=id hW
 have hq:q=[]:=by
  rw [hvars] at hV
  cases gs with
  | nil=>exact hV
  | cons g gs=>exact hV.elim
 subst hq
 have hbp:before=p:=by rw [hb]; simp
 refine G0 (pa:=p) (pv:=[]) hW (fun b sp hd=>?_) (fun sp hsp=>?_) (fun sp hsp=>?_) hb hst ?_
 · rw [hrt,hfn]
   exact ⟨[],[],⟨1,by simp [DataW.trod,Value.cells,htb]⟩,rfl,rfl⟩
 · rw [hfn]
   rw [hbp] at hlt hsp
   exact tH hl hm hsr hst hps hA hlt hsp
 · rw [hfn,hvars]; rfl
 · intro j t r h1 h2
   rw [hrt] at h1 h2
   match j with
   | 0=>
    cases h1
    cases h2
    simp [Value.okWide,Cell.okWide,Cell.ok,htb]
   | j + 1=>cases h1
end
open Go.RowKit
inductive Fit (P:Program):TypeId->List C->Prop
 | int {t:TypeId} {k:IntKind} {n:Int}:P.underlying t=some (.int k)->(Lit.int k n).wf=true->Fit P t [.vl (.int k n)]
 | bool {t:TypeId} {b:Bool}:P.underlying t=some .bool->Fit P t [.vl (.bool b)]
 | str {t:TypeId} {s:ByteArray}:P.underlying t=some .string->s.size<=maxLen->Fit P t [.vl (.string s)]
 | sl {t e:TypeId} {xs:List (List C)}:P.underlying t=some (.slice e)->xs.length<=maxLen->(∀ r ∈ xs,Fit P e r)->Fit P t [.fz xs]
 | st {t:TypeId} {fs:Array Field} {parts:List (List C)}:P.underlying t=some (.struct fs)->parts.length=fs.size->(∀ (i:Nat) (f:Field) (p:List C),fs[i]? = some f->parts[i]? = some p->Fit P f.type p)->Fit P t parts.flatten
section
variable {P:Program} {t e:TypeId} {xs:List C}
theorem Fit.inv_int {k:IntKind} (ht:P.underlying t=some (.int k)) (h:Fit P t xs):∃ n:Int,xs=[.vl (.int k n)]/\(Lit.int k n).wf=true:=by
 cases h with
 | int h1 h2=>rw [ht] at h1; cases h1; exact ⟨_,rfl,h2⟩
 | bool h1=>rw [ht] at h1; cases h1
 | str h1=>rw [ht] at h1; cases h1
 | sl h1=>rw [ht] at h1; cases h1
 | st h1=>rw [ht] at h1; cases h1
theorem Fit.inv_bool (ht:P.underlying t=some .bool) (h:Fit P t xs):∃ b:Bool,xs=[.vl (.bool b)]:=by
 cases h with
 | int h1 h2=>rw [ht] at h1; cases h1
 | bool h1=>exact ⟨_,rfl⟩
 | str h1=>rw [ht] at h1; cases h1
 | sl h1=>rw [ht] at h1; cases h1
 | st h1=>rw [ht] at h1; cases h1
theorem Fit.inv_str (ht:P.underlying t=some .string) (h:Fit P t xs):∃ s:ByteArray,xs=[.vl (.string s)]/\s.size<=maxLen:=by
 cases h with
 | int h1 h2=>rw [ht] at h1; cases h1
 | bool h1=>rw [ht] at h1; cases h1
 | str h1 h2=>exact ⟨_,rfl,h2⟩
 | sl h1=>rw [ht] at h1; cases h1
 | st h1=>rw [ht] at h1; cases h1
theorem Fit.inv_sl (ht:P.underlying t=some (.slice e)) (h:Fit P t xs):∃ ys:List (List C),xs=[.fz ys]/\ys.length<=maxLen/\∀ r ∈ ys,Fit P e r:=by
 cases h with
 | int h1 h2=>rw [ht] at h1; cases h1
 | bool h1=>rw [ht] at h1; cases h1
 | str h1=>rw [ht] at h1; cases h1
 | sl h1 h2 h3=>rw [ht] at h1; cases h1; exact ⟨_,rfl,h2,h3⟩
 | st h1=>rw [ht] at h1; cases h1
theorem Fit.inv_st {fs:Array Field} (ht:P.underlying t=some (.struct fs)) (h:Fit P t xs):∃ parts:List (List C),xs=parts.flatten/\parts.length=fs.size/\∀ (i:Nat) (f:Field) (p:List C),fs[i]? = some f->parts[i]? = some p->Fit P f.type p:=by
 cases h with
 | int h1 h2=>rw [ht] at h1; cases h1
 | bool h1=>rw [ht] at h1; cases h1
 | str h1=>rw [ht] at h1; cases h1
 | sl h1=>rw [ht] at h1; cases h1
 | st h1 h2 h3=>rw [ht] at h1; cases h1; exact ⟨_,rfl,h2,h3⟩
end
theorem Fit.rows {P:Program} {e:TypeId} {α:Type} {row:α->List C} {Q:α->Prop} {ys:List (List C)} (hi:∀ r,Fit P e r->∃ a,r=row a/\Q a) (h:∀ r ∈ ys,Fit P e r):∃ l:List α,ys=l.map row/\∀ a ∈ l,Q a:=by
 induction ys with
 | nil=>exact ⟨[],rfl,fun a h=>by cases h⟩
 | cons r ys ih=>
  obtain ⟨l,h1,h2⟩:=ih fun r hr=>h r (List.mem_cons_of_mem _ hr)
  obtain ⟨a,h3,h4⟩:=hi r (h r (by simp))
  refine ⟨a :: l,by rw [h1,h3]; rfl,fun x hx=>?_⟩
  rcases List.mem_cons.1 hx with rfl | hx
  · exact h4
  · exact h2 x hx
def JL (P:Program):Nat->List Field->Option Nat
 | o,[]=>some o
 | o,f :: r=>if f.offset=o then JL P (o + P.cellsOf f.type) r else none
def N4 (P:Program) (ts:List TypeId):Bool:=ts.all fun t=>match P.underlying t with
 | some (.int _) | some .bool | some .string=>true
 | some (.slice e)=>ts.contains e && decide (0 < P.cellsOf e)
 | some (.struct fs)=>fs.toList.all (fun f=>ts.contains f.type) && JL P 0 fs.toList == some (P.cellsOf t)
 | _=>false
theorem aD8 {P:Program} {R:C->Value->Prop} {Q:Field->List C->Prop} {cs:List Value}:∀ (fs:List Field) (o:Nat),JL P o fs=some cs.length->
 (∀ (i:Nat) (f:Field),fs[i]? = some f->∃ p,Q f p/\All2 R p ((cs.drop f.offset).take (P.cellsOf f.type)))->
 ∃ parts:List (List C),parts.length=fs.length/\(∀ (i:Nat) (f:Field) (p:List C),fs[i]? = some f->parts[i]? = some p->Q f p)/\All2 R parts.flatten (cs.drop o)
 | [],o,ho,_=>by
  simp only [JL,aI] at ho
  subst ho
  exact ⟨[],rfl,fun i f p h=>by simp at h,by simpa using All2.nil⟩
 | f :: fs,o,ho,h=>by
  simp only [JL] at ho
  split at ho
  · rename_i hf
    obtain ⟨parts,h1,h2,h3⟩:=aD8 fs _ ho fun i f hf=>h (i + 1) f (by simpa using hf)
    obtain ⟨p,h4,h5⟩:=h 0 f rfl
    refine ⟨p :: parts,by simp [h1],fun i g q hg hq=>?_,?_⟩
    · cases i with
      | zero=>simp at hg hq; subst hg hq; exact h4
      | succ i=>exact h2 i g q (by simpa using hg) (by simpa using hq)
    · have:cs.drop o=(cs.drop f.offset).take (P.cellsOf f.type) ++ cs.drop (o + P.cellsOf f.type):=by
       rw [hf,<-List.drop_drop,List.take_append_drop]
      rw [List.flatten_cons,this]
      exact h5.app h3
  · cases ho
section
variable {H:Type} {enc:TypeId × Value->H} {P:Program} {W:World} {ts:List TypeId}
theorem QR {b off len cap sz:Nat} {oa:Option Addr} (hoa:len ≠ 0->oa=some ⟨b,off,none⟩) (hsz:0 < sz) (X:Nat->List C) (hl:∀ i,i < len->(X i).length=sz) (hc:len<=cap)
 (h:∀ i,i < len->∀ j c,(X i)[j]? = some c->∃ v,W.cell? ⟨b,off + (i * sz + j),none⟩=some v/\c.fv (l7 W) v/\c.shut=true) :
 FzR (l7 W) ((List.range len).map X) (.slice oa len cap):=by
 have hz:∀ x ∈ (List.range len).map X,x.length=sz:=fun x hx=>by
  obtain ⟨i,hi,rfl⟩:=List.mem_map.1 hx
  exact hl i (List.mem_range.1 hi)
 have hfl:∀ k c,((List.range len).map X).flatten[k]? = some c->∃ v,W.cell? ⟨b,off + k,none⟩=some v/\c.fv (l7 W) v/\c.shut=true:=fun k c hk=>by
  have hkl:k < len * sz:=by
   have h1:=(bC.1 hk).1
   rw [yL _ hz] at h1
   simpa using h1
  have hi:k / sz < len:=(Nat.div_lt_iff_lt_mul hsz).2 hkl
  have hj:=Nat.mod_lt k hsz
  have hg:=nT hz (i:=k / sz) (j:=k % sz) (by simpa using hi) hj
  rw [Nat.mul_comm,Nat.div_add_mod,hk] at hg
  have hxi:((List.range len).map X)[k / sz]? = some (X (k / sz)):=by simp [hi]
  rw [hxi,Option.bind_some] at hg
  have:=h (k / sz) hi (k % sz) c hg.symm
  rwa [Nat.mul_comm,Nat.div_add_mod] at this
 have hr:=FzR.mk (ro:=l7 W) ((List.range len).map X) sz (some (b,off)) oa (fun hne=>hoa (fun e=>by subst e; simp at hne)) cap (fun k=>(W.cell? ⟨b,off + k,none⟩).getD undef) hz (by simpa using hc) (fun _=>rfl)
  (fun k c hk=>by
    obtain ⟨v,h2,_⟩:=hfl k c hk
    simp [l7,h2])
  (fun k v hk=>by
    obtain ⟨u,h1,h2,_⟩:=hfl k _ hk
    have:u=v:=h2
    simp [h1,this])
  (fun k ys hk=>by
    obtain ⟨u,h1,h2,_⟩:=hfl k _ hk
    have:FzR (l7 W) ys u:=h2
    simpa [h1] using this)
  (fun c hc=>by
    obtain ⟨k,hk⟩:=List.mem_iff_getElem?.1 hc
    obtain ⟨u,_,_,h3⟩:=hfl k c hk
    exact h3)
 simpa using hr
theorem o7 (hok:N4 P ts=true):∀ (n:Nat) (t:TypeId) (cs:List Value) (y:DataW H × List MemPlace),t ∈ ts->DataW.trod enc P W 0 (fun _=>true) true n t cs=some y->
 ∃ xs,Fit P t xs/\All2 (C.fv (l7 W)) xs cs/\∀ c ∈ xs,c.shut=true
 | 0,t,cs,y,_,h=>by simp [DataW.trod] at h
 | n + 1,t,cs,y,ht,h=>by
  have h1:=List.all_eq_true.1 hok t ht
  split at h1
  · rename_i k hu
    obtain ⟨m,rfl,_,hw⟩:=DataW.trod_int hu h
    exact ⟨_,.int hu hw,.cons rfl .nil,fun c hc=>by simp at hc; subst hc; rfl⟩
  · rename_i hu
    obtain ⟨b,rfl,_⟩:=DataW.trod_bool hu h
    exact ⟨_,.bool hu,.cons rfl .nil,fun c hc=>by simp at hc; subst hc; rfl⟩
  · rename_i hu
    obtain ⟨s,rfl,_,hs⟩:=DataW.trod_string hu h
    exact ⟨_,.str hu hs,.cons rfl .nil,fun c hc=>by simp at hc; subst hc; rfl⟩
  · rename_i e hu
    simp only [Bool.and_eq_true,List.contains_iff_mem,decide_eq_true_eq] at h1
    obtain ⟨he,hpos⟩:=h1
    rcases DataW.trod_slice hu h with ⟨rfl,_⟩ | ⟨a,len,cap,elems,rest,n',hn',rfl,_,_,hl,hm,hel,hi,_⟩
    · exact ⟨_,.sl hu (Nat.zero_le _) (fun r hr=>by cases hr),.cons (aIS _) .nil,fun c hc=>by simp at hc; subst hc; rfl⟩
    · obtain rfl:n=n':=by omega
      have hall:∀ i,i < len->∃ x:List C,Fit P e x/\x.length=P.cellsOf e/\(∀ j c,x[j]? = some c->∃ v,W.cell? ((a.add (i * P.cellsOf e)).add j)=some v/\c.fv (l7 W) v/\c.shut=true):=fun i hil=>by
       have h1:=hi i hil
       rw [a7 (by omega)] at h1
       obtain ⟨cs',h2,h3⟩:=Option.bind_eq_some_iff.1 h1
       obtain ⟨x,h4,h5,h6⟩:=o7 hok n e cs' _ he h3
       obtain ⟨_,h7,h8⟩:=World.cells?_some h2
       refine ⟨x,h4,h5.1.trans h7,fun j c hj=>?_⟩
       obtain ⟨v,h9,h10⟩:=h5.get hj
       have hjl:j < P.cellsOf e:=by rw [<-h7,<-h5.1]; exact (bC.1 hj).1
       refine ⟨v,?_,h10,h6 c (bT hj)⟩
       have:=h8 j hjl
       rwa [h9] at this
      by_cases h0:len=0
      · subst h0
        refine ⟨[.fz []],.sl hu (Nat.zero_le _) (fun r hr=>by cases hr),.cons ?_ .nil,fun c hc=>by simp at hc; subst hc; rfl⟩
        exact QR (b:=0) (off:=0) (fun h=>absurd rfl h) hpos (fun _=>[]) (fun i hi=>by omega) (Nat.zero_le _) (fun i hi=>by omega)
      · obtain ⟨x0,_,hx0l,hx0⟩:=hall 0 (by omega)
        have hsp:a.spot=none:=by
         have hx:∃ c,x0[0]? = some c:=⟨_,a7 (by omega)⟩
         obtain ⟨c,hc⟩:=hx
         obtain ⟨v,hv,_⟩:=hx0 0 c hc
         unfold World.cell? at hv
         split at hv
         · split at hv
           · cases hv
           · rename_i hs; simpa [Addr.add] using hs
         · cases hv
        obtain ⟨b,off,spot⟩:=a
        obtain rfl:spot=none:=hsp
        haveI:Inhabited (List C):=⟨[]⟩
        obtain ⟨X,hX⟩:=Go.Deep.choose_lt hall
        refine ⟨[.fz ((List.range len).map X)],.sl hu (by simp; omega) (fun r hr=>?_),.cons ?_ .nil,fun c hc=>by simp at hc; subst hc; rfl⟩
        · obtain ⟨i,hi,rfl⟩:=List.mem_map.1 hr
          exact (hX i (List.mem_range.1 hi)).1
        · exact QR (fun _=>rfl) hpos X (fun i hi=>(hX i hi).2.1) hl (fun i hi j c hj=>by
           obtain ⟨v,h2,h3⟩:=(hX i hi).2.2 j c hj
           exact ⟨v,by simpa [Go.WideShapes.add_plain,Nat.add_assoc] using h2,h3⟩)
  · rename_i fs hu
    simp only [Bool.and_eq_true,List.all_eq_true,List.contains_iff_mem,beq_iff_eq] at h1
    obtain ⟨hft,hof⟩:=h1
    obtain ⟨ys,n',hn,_,hcl,hyl,hf⟩:=DataW.trod_struct hu h
    obtain rfl:n=n':=by omega
    obtain ⟨parts,k1,k2,k3⟩:=aD8 (P:=P) (R:=fun c v=>C.fv (l7 W) c v/\c.shut=true) (Q:=fun f p=>Fit P f.type p) (cs:=cs) fs.toList 0 (by rw [hcl]; exact hof) (fun i f hfi=>by
     have hfi':fs[i]? = some f:=by simpa using hfi
     have h2:=hf i f hfi'
     have hil:i < fs.size:=(Array.getElem?_eq_some_iff.1 hfi').1
     rw [a7 (by omega)] at h2
     obtain ⟨x,h4,h5,h6⟩:=o7 hok n f.type _ _ (hft f (bT hfi)) h2
     exact ⟨x,h4,⟨h5.1,fun j c v hc hv=>⟨h5.2 j c v hc hv,h6 c (bT hc)⟩⟩⟩)
    refine ⟨parts.flatten,.st hu (by simpa using k1) (fun i f p hfi hp=>k2 i f p (by simpa using hfi) hp),?_,fun c hc=>?_⟩
    · simpa using k3.imp (fun _ _ h=>h.1)
    · obtain ⟨j,hj⟩:=List.mem_iff_getElem?.1 hc
      obtain ⟨v,_,_,h3⟩:=k3.get hj
      exact h3
  · cases h1
theorem qL (hok:N4 P ts=true) {t:TypeId} {v:Value} {d:DataW H} {ps:List MemPlace} (ht:t ∈ ts) (h:DataW.Trod enc P W 0 (fun _=>true) true t v d ps):∃ xs,Fit P t xs/\All2 (C.fv (l7 W)) xs v.cells.toList/\∀ c ∈ xs,c.shut=true:=by
 obtain ⟨n,h⟩:=h
 exact o7 hok n t _ _ ht h
theorem aIC {c:C} {v:Value} (h:All2 (C.fv (l7 W)) [c] v.cells.toList) (hv:v.cells.toList=[v]) (hs:c.shut=true):(S.va (.c1 c)).rel (gm []) (l7 W) v:=by
 rw [hv] at h
 exact (C.rel_shut hs).2 (h.2 0 c v rfl rfl)
theorem RS {cs:List C} {vs:Array Value} (h:All2 (C.fv (l7 W)) cs (Value.agg vs).cells.toList) (hs:∀ c ∈ cs,c.shut=true):(S.va (.gs cs)).rel (gm []) (l7 W) (.agg vs):=
 ⟨vs.toList,by simp,⟨by simpa [Value.cells] using h.1,fun i c v hc hv=>(C.rel_shut (hs c (bT hc))).2 (h.2 i c v hc (by simpa [Value.cells] using hv))⟩⟩
end
end Go.W
namespace Go.Proofs.YtkpohmhenegkiaaGreatDoor
open Go.W
theorem v3:Tryz.prog.underlying 3=some (.int .i64):=by kernel_rfl
theorem v4:Tryz.prog.underlying 4=some .bool:=by kernel_rfl
theorem v9:Tryz.prog.underlying 9=some .string:=by kernel_rfl
theorem v22:Tryz.prog.underlying 22=some (.slice 92):=by kernel_rfl
theorem v23:Tryz.prog.underlying 23=some (.slice 95):=by kernel_rfl
theorem v30:Tryz.prog.underlying 93=some (.slice 97):=by kernel_rfl
theorem v35:Tryz.prog.underlying 89=some (.slice 9):=by kernel_rfl
theorem QV:Tryz.prog.underlying 26=some (.slice 28):=by kernel_rfl
theorem v45:Tryz.prog.underlying 90=some (.slice 3):=by kernel_rfl
theorem PI:Tryz.prog.underlying 28=some (.struct #[⟨"Kind",3,0,false,"","",0⟩,⟨"Size",3,1,false,"","",8⟩,⟨"Name",9,2,false,"","",16⟩,⟨"Elem",26,3,false,"","",32⟩]):=by kernel_rfl
theorem v53:Tryz.prog.underlying 97=some (.struct #[⟨"Number",3,0,false,"","",0⟩,⟨"Name",9,1,false,"","",8⟩,⟨"Type",28,2,false,"","",24⟩,⟨"Optional",4,6,false,"","",80⟩]):=by kernel_rfl
theorem v32:Tryz.prog.underlying 95=some (.struct #[⟨"Name",9,0,false,"","",0⟩,⟨"Fields",93,1,false,"","",16⟩]):=by kernel_rfl
theorem v47:Tryz.prog.underlying 92=some (.struct #[⟨"Name",9,0,false,"","",0⟩,⟨"Names",89,1,false,"","",16⟩,⟨"Numbers",90,2,false,"","",40⟩]):=by kernel_rfl
theorem v25:Tryz.prog.underlying 25=some (.struct #[⟨"Version",3,0,false,"","",0⟩,⟨"Enums",22,1,false,"","",8⟩,⟨"Structs",23,2,false,"","",32⟩]):=by kernel_rfl
theorem nD {α:Type} {row:α->List C} {Q:α->Prop} {ys:List (List C)} (h:∀ r ∈ ys,∃ a,r=row a/\Q a):∃ l:List α,ys=l.map row/\∀ a ∈ l,Q a:=by
 induction ys with
 | nil=>exact ⟨[],rfl,fun a h=>by cases h⟩
 | cons r ys ih=>
  obtain ⟨l,h1,h2⟩:=ih fun r hr=>h r (List.mem_cons_of_mem _ hr)
  obtain ⟨a,h3,h4⟩:=h r List.mem_cons_self
  refine ⟨a :: l,by rw [h1,h3]; rfl,fun x hx=>?_⟩
  rcases List.mem_cons.1 hx with rfl | hx
  · exact h4
  · exact h2 x hx
theorem GU {n:Int} (h:(Lit.int .i64 n).wf=true):cD n:=by simpa [cD,Lit.wf,IntKind.min,IntKind.max,IntKind.signed,IntKind.bits] using h
theorem mH {n:Nat} (h:n<=maxLen):n<=9223372036854775807:=by unfold maxLen at h; exact h
theorem aSQ:∀ {t:TypeId} {cs:List C},Fit Tryz.prog t cs->(t=28->∃ a,cs=aQ a/\TyOk a)/\(t=26->∃ l:List Ty,cs=[.fz (l.map aQ)]/\l.length<=9223372036854775807/\∀ a ∈ l,TyOk a):=by
 intro t cs h
 induction h with
 | int h1 _=>exact ⟨fun e=>(by rw [e,PI] at h1; cases h1),fun e=>(by rw [e,QV] at h1; cases h1)⟩
 | bool h1=>exact ⟨fun e=>(by rw [e,PI] at h1; cases h1),fun e=>(by rw [e,QV] at h1; cases h1)⟩
 | str h1 _=>exact ⟨fun e=>(by rw [e,PI] at h1; cases h1),fun e=>(by rw [e,QV] at h1; cases h1)⟩
 | @sl t e xs h1 h2 h3 ih=>
  refine ⟨fun e=>(by rw [e,PI] at h1; cases h1),fun e=>?_⟩
  subst e
  rw [QV] at h1
  cases h1
  obtain ⟨l,rfl,hl⟩:=nD (row:=aQ) (Q:=TyOk) fun r hr=>(ih r hr).1 rfl
  exact ⟨l,rfl,by have:=mH h2; simpa using this,hl⟩
 | @st t fs parts h1 h2 h3 ih=>
  refine ⟨fun e=>?_,fun e=>(by rw [e,QV] at h1; cases h1)⟩
  subst e
  rw [PI] at h1
  cases h1
  match parts,h2 with
  | [p0,p1,p2,p3],_=>
   obtain ⟨k,rfl,hk⟩:=Fit.inv_int v3 (h3 0 _ p0 rfl rfl)
   obtain ⟨s,rfl,hs⟩:=Fit.inv_int v3 (h3 1 _ p1 rfl rfl)
   obtain ⟨n,rfl,hn⟩:=Fit.inv_str v9 (h3 2 _ p2 rfl rfl)
   obtain ⟨l,rfl,hl,ho⟩:=(ih 3 _ p3 rfl rfl).2 rfl
   exact ⟨.mk k s n l,by rw [aQ,aZ]; rfl,.mk (GU hk) (GU hs) (mH hn) hl ho⟩
theorem WR {cs:List C} (h:Fit Tryz.prog 28 cs):∃ a,cs=aQ a/\TyOk a:=(aSQ h).1 rfl
theorem aJZ {cs:List C} (h:Fit Tryz.prog 97 cs):∃ a:Fl,cs=aY a/\a.ok:=by
 obtain ⟨parts,rfl,h2,h3⟩:=Fit.inv_st v53 h
 match parts,h2 with
 | [p0,p1,p2,p3],_=>
  obtain ⟨k,rfl,hk⟩:=Fit.inv_int v3 (h3 0 _ p0 rfl rfl)
  obtain ⟨n,rfl,hn⟩:=Fit.inv_str v9 (h3 1 _ p1 rfl rfl)
  obtain ⟨t,rfl,ht⟩:=WR (h3 2 _ p2 rfl rfl)
  obtain ⟨b,rfl⟩:=Fit.inv_bool v4 (h3 3 _ p3 rfl rfl)
  exact ⟨⟨k,n,t,b⟩,by rw [aJ]; rfl,GU hk,mH hn,ht⟩
theorem aK5 {cs:List C} (h:Fit Tryz.prog 95 cs):∃ a:St,cs=aR a/\a.ok:=by
 obtain ⟨parts,rfl,h2,h3⟩:=Fit.inv_st v32 h
 match parts,h2 with
 | [p0,p1],_=>
  obtain ⟨n,rfl,hn⟩:=Fit.inv_str v9 (h3 0 _ p0 rfl rfl)
  obtain ⟨ys,rfl,hl,hy⟩:=Fit.inv_sl v30 (h3 1 _ p1 rfl rfl)
  obtain ⟨l,rfl,ho⟩:=nD (row:=aY) (Q:=Fl.ok) fun r hr=>aJZ (hy r hr)
  exact ⟨⟨n,l⟩,rfl,mH hn,by have:=mH hl; simpa using this,ho⟩
theorem aL0 {cs:List C} (h:Fit Tryz.prog 92 cs):∃ a:En,cs=bG a/\a.ok:=by
 obtain ⟨parts,rfl,h2,h3⟩:=Fit.inv_st v47 h
 match parts,h2 with
 | [p0,p1,p2],_=>
  obtain ⟨n,rfl,hn⟩:=Fit.inv_str v9 (h3 0 _ p0 rfl rfl)
  obtain ⟨ys,rfl,hl,hy⟩:=Fit.inv_sl v35 (h3 1 _ p1 rfl rfl)
  obtain ⟨zs,rfl,hl2,hz⟩:=Fit.inv_sl v45 (h3 2 _ p2 rfl rfl)
  obtain ⟨l,rfl,ho⟩:=nD (row:=bM) (Q:=fun b=>b.size<=9223372036854775807) fun r hr=>by
   obtain ⟨s,rfl,hs⟩:=Fit.inv_str v9 (hy r hr); exact ⟨s,rfl,mH hs⟩
  obtain ⟨m,rfl,hm⟩:=nD (row:=cH) (Q:=cD) fun r hr=>by
   obtain ⟨s,rfl,hs⟩:=Fit.inv_int v3 (hz r hr); exact ⟨s,rfl,GU hs⟩
  exact ⟨⟨n,l,m⟩,rfl,mH hn,by have:=mH hl; simpa using this,by have:=mH hl2; simpa using this,ho,hm⟩
theorem aMR (cs:List C) (h:Fit Tryz.prog 25 cs):∃ a:Sc,cs=aF a/\a.ok:=by
 obtain ⟨parts,rfl,h2,h3⟩:=Fit.inv_st v25 h
 match parts,h2 with
 | [p0,p1,p2],_=>
  obtain ⟨n,rfl,hn⟩:=Fit.inv_int v3 (h3 0 _ p0 rfl rfl)
  obtain ⟨ys,rfl,hl,hy⟩:=Fit.inv_sl v22 (h3 1 _ p1 rfl rfl)
  obtain ⟨zs,rfl,hl2,hz⟩:=Fit.inv_sl v23 (h3 2 _ p2 rfl rfl)
  obtain ⟨l,rfl,ho⟩:=nD (row:=bG) (Q:=En.ok) fun r hr=>aL0 (hy r hr)
  obtain ⟨m,rfl,hm⟩:=nD (row:=aR) (Q:=St.ok) fun r hr=>aK5 (hz r hr)
  exact ⟨⟨n,l,m⟩,rfl,GU hn,by have:=mH hl; simpa using this,by have:=mH hl2; simpa using this,ho,hm⟩
theorem aD3 (cs:List C) (h:Fit Tryz.prog 28 cs):∃ a,cs=aQ a/\TyOk a:=WR h
end Go.Proofs.YtkpohmhenegkiaaGreatDoor
namespace Go.W
inductive FitW (P:Program):TypeId->List C->Prop
 | int {t:TypeId} {k:IntKind} {n:Int}:P.underlying t=some (.int k)->(Lit.int k n).wf=true->FitW P t [.vl (.int k n)]
 | bool {t:TypeId} {b:Bool}:P.underlying t=some .bool->FitW P t [.vl (.bool b)]
 | str {t:TypeId} {s:ByteArray}:P.underlying t=some .string->s.size<=maxLen->FitW P t [.vl (.string s)]
 | sl {t e:TypeId} {xs:List (List C)}:P.underlying t=some (.slice e)->xs.length<=maxLen->xs.length * P.bytesOf e<=reachBytes->(∀ r ∈ xs,FitW P e r)->FitW P t [.fz xs]
 | st {t:TypeId} {fs:Array Field} {parts:List (List C)}:P.underlying t=some (.struct fs)->parts.length=fs.size->(∀ (i:Nat) (f:Field) (p:List C),fs[i]? = some f->parts[i]? = some p->FitW P f.type p)->FitW P t parts.flatten
theorem FitW.fit {P:Program} {t:TypeId} {xs:List C} (h:FitW P t xs):Fit P t xs:=by
 induction h with
 | int h1 h2=>exact .int h1 h2
 | bool h1=>exact .bool h1
 | str h1 h2=>exact .str h1 h2
 | sl h1 h2 _ _ ih=>exact .sl h1 h2 ih
 | st h1 h2 _ ih=>exact .st h1 h2 ih
section
variable {P:Program} {t e:TypeId} {xs:List C}
theorem FitW.inv_sl (ht:P.underlying t=some (.slice e)) (h:FitW P t xs):∃ ys:List (List C),xs=[.fz ys]/\ys.length<=maxLen/\ys.length * P.bytesOf e<=reachBytes/\∀ r ∈ ys,FitW P e r:=by
 cases h with
 | int h1 h2=>rw [ht] at h1; cases h1
 | bool h1=>rw [ht] at h1; cases h1
 | str h1=>rw [ht] at h1; cases h1
 | sl h1 h2 h3 h4=>rw [ht] at h1; cases h1; exact ⟨_,rfl,h2,h3,h4⟩
 | st h1 h2 h3=>rw [ht] at h1; cases h1
theorem FitW.inv_st {fs:Array Field} (ht:P.underlying t=some (.struct fs)) (h:FitW P t xs):∃ parts:List (List C),xs=parts.flatten/\parts.length=fs.size/\∀ (i:Nat) (f:Field) (p:List C),fs[i]? = some f->parts[i]? = some p->FitW P f.type p:=by
 cases h with
 | int h1 h2=>rw [ht] at h1; cases h1
 | bool h1=>rw [ht] at h1; cases h1
 | str h1=>rw [ht] at h1; cases h1
 | sl h1=>rw [ht] at h1; cases h1
 | st h1 h2 h3=>rw [ht] at h1; cases h1; exact ⟨_,rfl,h2,h3⟩
end
section
variable {H:Type} {enc:TypeId × Value->H} {P:Program} {W:World} {ts:List TypeId}
end
end Go.W
