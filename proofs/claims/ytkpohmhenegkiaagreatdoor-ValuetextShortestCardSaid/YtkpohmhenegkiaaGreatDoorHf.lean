/- Lemmas and walks for the proof. -/
import Derived.Test.YtkpohmhenegkiaaGreatDoorHe
import Derived.Test.YtkpohmhenegkiaaGreatDoorProg
import Derived.ProofKit
import Derived.OpenShut
import Derived.ChangeStays
import Derived.Deep.Slices
import Derived.JoinedCond
import Derived.KernelRfl
set_option maxRecDepth 100000
set_option maxHeartbeats 8000000
namespace Go.Proofs.YtkpohmhenegkiaaGreatDoor
open Go.W
attribute [-go_sem] cL cR cM fB cY iQ
noncomputable def PL (D:Sc->Ty->Vl->Prop) (F:gB):cS:=(23,.f (i7 (fun _ _ _=>True) fun s t v=>.int .i64 (fG s t v))) :: I5 D F
theorem P2 {D:Sc->Ty->Vl->Prop} {F:gB} (h:FmtM D F):dW Tryz.prog (PL D F):=aH CJ (sJ h)
theorem aCD (D:Sc->Ty->Vl->Prop) (F:gB):sp (PL D F) 24=mU:=rfl
theorem MG (D:Sc->Ty->Vl->Prop) (F:gB):j5 (PL D F) 23=some (i7 (fun _ _ _=>True) fun s t v=>.int .i64 (fG s t v)):=rfl
theorem U8 (D:Sc->Ty->Vl->Prop) (F:gB) (k:Int):sp (PL D F) (iC k)=jH D F (iC k):=by
 unfold iC
 cases k == 1<;>cases k == 4<;>cases k == 7<;>cases k == 5<;>cases k == 6<;>rfl
def lD (F:gB) (s:Sc) (t:Ty) (v:Vl):List UInt8:=bif fG s t v != 0 then [] else bif (F s t v).2 || decide (4000 < ((F s t v).1.length:Int)) then [] else (F s t v).1
def aQP (D:Sc->Ty->Vl->Prop) (F:gB):W.Spec:=fun av H K=>∃ s t v,av=[.va (.gs (aG s)),.va (.gs (aN t)),.va (.gs (bK v))]/\H=[]/\s.fit/\TyOk t/\VlOk v/\(fG s t v=0->D s t v)/\K (tS (mk (lD F s t v))) []
theorem aCG {D:Sc->Ty->Vl->Prop} {F:gB} (hF:FmtM D F):Meets Tryz.prog 11 (aQP D F):=by
 refine aE Tryz.func11 aQT 3 (by rw [Tryz.ntmps11]; decide) (P2 hF) (fun av H K h=>by obtain ⟨_,_,_,rfl,_⟩:=h; rfl) ?_
 rintro av H K ⟨s,t,v,rfl,rfl,hs,ht,hv,hD,hK⟩
 have k1:=f6 hv
 have k2:=lK v
 have k4:=jG ht
 have k5:=oN t
 have k6:=jL hs
 have k7:=oG s
 have fin:∀ (x:List UInt8) (R:Hp),lD F s t v=x->W.Fin 0 K (tS (mk x)) R:=fun x R h=>by
  rw [h] at hK
  exact .sel [] (by simp) (by simp) rfl (.done (by simpa [go_sem] using hK))
 clear hK
 unfold lD at fin
 cases h1:fG s t v != 0 with
 | true=>
  rw [h1] at fin
  simp (maxSteps:=1000000) -dsimp only [go_sem,aG,aO t,aX v,VJ,TZ,MG,k1,k2,k4,k5,k6,k7,h1]
  exact fin [] _ rfl
 | false=>
 rw [h1,aD] at fin
 have hD:=hD (by simpa using h1)
 simp (maxSteps:=1000000) -dsimp only [go_sem,aG,aO t,aX v,VJ,TZ,MG,k1,k2,k4,k5,k6,k7,h1]
 refine aF rfl (.done ?_)
 simp (maxSteps:=1000000) -dsimp only [go_sem,KB,aCD,U8]
 refine tT hs ht hv hD ?_
 generalize F s t v=r at *
 obtain ⟨x,b⟩:=r
 simp only at fin
 simp (maxSteps:=1000000) -dsimp only [go_sem]
 refine aF rfl (.done ?_)
 cases b with
 | true=>
  rw [Bool.true_or,aI] at fin
  simp (maxSteps:=1000000) -dsimp only [go_sem,uC,Bool.or_true]
  exact fin [] _ rfl
 | false=>
  rw [Bool.false_or] at fin
  cases h2:decide (4000 < (x.length:Int)) with
  | true=>
   rw [h2,aI] at fin
   simp (maxSteps:=1000000) -dsimp only [go_sem,uC,Bool.or_false,h2]
   exact fin [] _ rfl
  | false=>
   rw [h2,aD] at fin
   simp (maxSteps:=1000000) -dsimp only [go_sem,uC,Bool.or_false,h2]
   exact fin x _ rfl
end Go.Proofs.YtkpohmhenegkiaaGreatDoor
namespace Go.Proofs.YtkpohmhenegkiaaGreatDoor
open Go.W
def TQ (v:Vl):Bool:=(v.k != 4 && !(bl v.s == [])) || (v.k != 5 && decide (0 < (v.l.length:Int))) || (v.k != 6 && decide (0 < (v.f.length:Int)))
def WR (v:Vl):Bool:=(v.k == 4 || v.k == 5 || v.k == 6) && v.n != 0
def SF (s:Sc) (t:Ty) (v:Vl):Bool:=bif !(valF s.ss s.es t) || v.k != t.k || TQ v then false else bif WR v then false else bif v.k != 6 then true else dR (stOf s t).fs v.f
def BR (s:Sc) (t:Ty) (n:Int):Bool:=
 bif t.k == 1 then n == 0 || n == 1
 else bif t.k == 2 then t.s == 64 || (decide (-(2 ^ (t.s.toNat - 1):Int)<=n) && decide (n < (2 ^ (t.s.toNat - 1):Int)))
 else bif t.k == 3 then decide (0<=n) && decide (n < (2 ^ t.s.toNat:Int))
 else bif t.k == 7 then (enOf s t).vs.any fun x=>x == n else true
def aIJ (t:Ty) (a b:Int):Bool:=(t.k == 4 && decide (t.s < a)) || (t.k == 5 && decide (t.s < b))
mutual
def MF (s:Sc) (t:Ty):Vl->Int
 | .mk k n str l f=>bif !(SF s t (.mk k n str l f)) then 13 else bif !(BR s t n) then 4 else bif aIJ t (bl str).length l.length then 3
  else bif G5 s (t.e.headD default) l != 0 then G5 s (t.e.headD default) l else NY s (stOf s t) f
def G5 (s:Sc) (t:Ty):List Vl->Int
 | []=>0
 | v :: r=>bif MF s t v != 0 then MF s t v else G5 s t r
def NY (s:Sc) (u:St):List (Int × Vl)->Int
 | []=>0
 | (i,v) :: r=>bif MF s (bH u i).ty v != 0 then MF s (bH u i).ty v else NY s u r
end
theorem qI {α:Type} {l:List α} (h:decide (0 < (l.length:Int))=false):l=[]:=by
 have:=of_decide_eq_false h
 exact List.length_eq_zero_iff.1 (by omega)
theorem aDV {s:Sc} {t:Ty} {n:Int} (hp:valF s.ss s.es t=true) (h4:(t.k == 4)=false) (h5:(t.k == 5)=false) (h6:(t.k == 6)=false):BR s t n=s3 s t n:=by
 unfold BR s3
 cases h1:t.k == 1 with
 | true=>rfl
 | false=>
 cases h2:t.k == 2 with
 | true=>rfl
 | false=>
 cases h3:t.k == 3 with
 | true=>rfl
 | false=>
 cases h7:t.k == 7 with
 | true=>rfl
 | false=>
  exfalso
  obtain ⟨k,sz,nm,e⟩:=t
  have h1:(k == 1)=false:=h1
  have h2:(k == 2)=false:=h2
  have h3:(k == 3)=false:=h3
  have h4:(k == 4)=false:=h4
  have h5:(k == 5)=false:=h5
  have h6:(k == 6)=false:=h6
  have h7:(k == 7)=false:=h7
  rw [valF,h1,h2,h3,h4,h5,h6,h7] at hp
  cases hp
mutual
theorem RD (s:Sc) (t:Ty):∀ v:Vl,MF s t v=eL s t v
 | .mk k n str l f=>by
  have hL:∀ u,G5 s u l=kX s u l:=fun u=>QB s u l
  have hE:NY s (stOf s t) f=kC s ((fS s.ss t.n).getD default).fs f:=RQ s (stOf s t) f
  rw [MF,eL,hL,hE]
  unfold SF
  cases hp:valF s.ss s.es t with
  | false=>rfl
  | true=>
  show (bif !(bif !true || k != t.k || TQ (.mk k n str l f) then false else bif WR (.mk k n str l f) then false else bif k != 6 then true else dR (stOf s t).fs f) then 13 else _)=_
  cases hk:k != t.k with
  | true=>rfl
  | false=>
  have hk':k=t.k:=by simpa using hk
  subst hk'
  have eA:TQ (.mk t.k n str l f)=((t.k != 4 && !(bl str == [])) || (t.k != 5 && decide (0 < (l.length:Int))) || (t.k != 6 && decide (0 < (f.length:Int)))):=rfl
  have eB:WR (.mk t.k n str l f)=((t.k == 4 || t.k == 5 || t.k == 6) && n != 0):=rfl
  rw [eA,eB]
  unfold aIJ
  cases h4:t.k == 4 with
  | true=>
   have e4:t.k=4:=eq_of_beq h4
   have er:BR s t n=true:=by unfold BR; rw [e4]; rfl
   rw [er,e4]
   unfold m7
   cases hn:n != 0<;>cases hl:decide (0 < (l.length:Int))<;>cases hf:decide (0 < (f.length:Int))<;>cases hs:decide (t.s < ((bl str).length:Int))<;>(try rw [qI hl])<;>(try rw [qI hf])<;>simp [kX,kC]
  | false=>
  cases h5:t.k == 5 with
  | true=>
   have e5:t.k=5:=eq_of_beq h5
   have er:BR s t n=true:=by unfold BR; rw [e5]; rfl
   rw [er,e5]
   generalize kX s (t.e.headD default) l=q
   have hq:(bif q != 0 then q else 0)=q:=by
    cases hz:q != 0 with
    | true=>rfl
    | false=>
     have hq0:q=0:=by simpa using hz
     rw [hq0]; rfl
   cases hn:n != 0<;>cases hb:bl str == []<;>cases hf:decide (0 < (f.length:Int))<;>cases hs:decide (t.s < (l.length:Int))<;>(try rw [qI hf])<;>simp [kC,hq]
  | false=>
  cases h6:t.k == 6 with
  | true=>
   have e6:t.k=6:=eq_of_beq h6
   have er:BR s t n=true:=by unfold BR; rw [e6]; rfl
   have ef:(stOf s t).fs=((fS s.ss t.n).getD default).fs:=rfl
   rw [er,e6,ef]
   cases hn:n != 0<;>cases hb:bl str == []<;>cases hl:decide (0 < (l.length:Int))<;>cases hs:dR ((fS s.ss t.n).getD default).fs f<;>(try rw [qI hl])<;>simp [kX]
  | false=>
   rw [aDV hp h4 h5 h6]
   have c4:(t.k != 4)=true:=by rw [bne,h4]; rfl
   have c5:(t.k != 5)=true:=by rw [bne,h5]; rfl
   have c6:(t.k != 6)=true:=by rw [bne,h6]; rfl
   rw [c4,c5,c6]
   unfold nH
   cases hb:bl str == []<;>cases hl:decide (0 < (l.length:Int))<;>cases hf:decide (0 < (f.length:Int))<;>cases hr:s3 s t n<;>(try rw [qI hl])<;>(try rw [qI hf])<;>simp [kX,kC]
theorem QB (s:Sc) (t:Ty):∀ l:List Vl,G5 s t l=kX s t l
 | []=>by rw [G5,kX]
 | v :: r=>by rw [G5,kX,RD s t v,QB s t r]
theorem RQ (s:Sc) (u:St):∀ l:List (Int × Vl),NY s u l=kC s u.fs l
 | []=>by rw [NY,kC]
 | (i,v) :: r=>by
  rw [NY,kC,RD s (bH u i).ty v,RQ s u r]; rfl
end
mutual
def dU:Vl->Int
 | .mk k n s l f=>bif mD (.mk k n s l f) then 0 else 1 + kV (jZ 0 l) f
def jZ (d:Int):List Vl->Int
 | []=>d
 | v :: r=>jZ (max d (dU v)) r
def kV (d:Int):List (Int × Vl)->Int
 | []=>d
 | (_,v) :: r=>kV (max d (dU v)) r
end
theorem tU (v:Vl):dU v=bif mD v then 0 else 1 + kV (jZ 0 v.l) v.f:=by cases v; rw [dU]; rfl
theorem HH {g:Vl->Int} {n:Nat} (hg:∀ x,g x=min (dU x) n) (D:Int) (x:Vl):mT g ((n:Int) - 1) (min D n) x=min (max D (dU x)) n:=by
 unfold mT
 rw [hg x]
 cases h:decide (min D (n:Int)<=(n:Int) - 1) with
 | true=>have:=of_decide_eq_true h; rw [aI]; omega
 | false=>have:=of_decide_eq_false h; rw [aD]; omega
theorem W8 {g:Vl->Int} {n:Nat} (hg:∀ x,g x=min (dU x) n):∀ (l:List Vl) (D:Int),l.foldl (mT g ((n:Int) - 1)) (min D n)=min (jZ D l) n
 | [],D=>by rw [jZ]; rfl
 | x :: l,D=>by rw [List.foldl_cons,HH hg,W8 hg l,jZ]
theorem YM {g:Vl->Int} {n:Nat} (hg:∀ x,g x=min (dU x) n):∀ (l:List (Int × Vl)) (D:Int),l.foldl (qM g ((n:Int) - 1)) (min D n)=min (kV D l) n
 | [],D=>by rw [kV]; rfl
 | (i,x) :: l,D=>by
  rw [List.foldl_cons,show qM g ((n:Int) - 1) (min D n) (i,x)=mT g ((n:Int) - 1) (min D n) x from rfl,HH hg,YM hg l,kV]
theorem ZL {g:Vl->Int} {n:Nat} (hg:∀ x,g x=min (dU x) n) (v:Vl):KC g ((n:Int) - 1) v=min (dU v) ((n:Int) + 1):=by
 unfold KC
 rw [tU]
 cases mD v with
 | true=>rw [aI,aI]; omega
 | false=>
  rw [aD,aD]
  have h1:=W8 hg v.l 0
  rw [show min (0:Int) (n:Int)=0 by omega] at h1
  rw [h1,YM hg v.f]
  omega
mutual
theorem B4:∀ v:Vl,0<=dU v
 | .mk k n s l f=>by
  rw [dU]
  have h1:=CN l 0
  have h2:=u0 f (jZ 0 l)
  cases mD (.mk k n s l f) with
  | true=>exact Int.le_refl _
  | false=>rw [aD]; omega
theorem CN:∀ (l:List Vl) (d:Int),d<=jZ d l
 | [],d=>by rw [jZ]; exact Int.le_refl _
 | v :: r,d=>by
  rw [jZ]
  have:=CN r (max d (dU v))
  omega
theorem u0:∀ (l:List (Int × Vl)) (d:Int),d<=kV d l
 | [],d=>by rw [kV]; exact Int.le_refl _
 | (_,v) :: r,d=>by
  rw [kV]
  have:=u0 r (max d (dU v))
  omega
end
theorem NJ:∀ (n:Nat) (x:Vl),jK n x=min (dU x) n
 | 0,x=>by have:=B4 x; show (0:Int)=min (dU x) 0; omega
 | n + 1,x=>by
  rw [jK,A9,ZL (NJ n) x]
  omega
theorem aBG (n:Nat) (v:Vl):s4 n v=min (dU v) ((n:Int) + 1):=by rw [A9,ZL (NJ n) v]
theorem MD (v:Vl):decide (6 < s4 7 v)=decide (6 < dU v):=by
 rw [aBG]
 rw [Bool.eq_iff_iff,decide_eq_true_iff,decide_eq_true_iff]
 omega
mutual
theorem ZY:∀ v:Vl,dU v<=v.h
 | .mk k n s l f=>by
  rw [dU,Vl.h]
  have h1:=YY l 0
  have h2:=YP f (jZ 0 l)
  cases mD (.mk k n s l f) with
  | true=>rw [aI]; omega
  | false=>rw [aD]; omega
theorem YY:∀ (l:List Vl) (d:Int),jZ d l<=max d (Vl.hl l)
 | [],d=>by rw [jZ,Vl.hl]; omega
 | v :: r,d=>by
  rw [jZ,Vl.hl]
  have h1:=ZY v
  have h2:=YY r (max d (dU v))
  omega
theorem YP:∀ (l:List (Int × Vl)) (d:Int),kV d l<=max d (Vl.hf l)
 | [],d=>by rw [kV,Vl.hf]; omega
 | (i,v) :: r,d=>by
  rw [kV,Vl.hf]
  have h1:=ZY v
  have h2:=YP r (max d (dU v))
  omega
end
mutual
def jO:Vl->Bool
 | .mk _ _ s l f=>(decide ((bl s).length<=200) && (bl s).all fN) && (pF l && oW f)
def pF:List Vl->Bool
 | []=>true
 | v :: r=>jO v && pF r
def oW:List (Int × Vl)->Bool
 | []=>true
 | (_,v) :: r=>jO v && oW r
end
theorem qD (v:Vl):jO v=((decide ((bl v.s).length<=200) && (bl v.s).all fN) && (pF v.l && oW v.f)):=by cases v; rw [jO]; rfl
theorem yL (x:Int × Vl) (r:List (Int × Vl)):oW (x :: r)=(jO x.2 && oW r):=by cases x; rw [oW]
theorem GZ (c:UInt8):decide ((c.toNat:Int) < 32)=!decide (32<=c):=by
 have:decide (32<=c)=decide (32<=c.toNat):=by rw [decide_eq_decide,UInt8.le_iff_toNat_le]; rfl
 rw [this,<-decide_not,decide_eq_decide]; omega
theorem GG (c:UInt8):decide (126 < (c.toNat:Int))=!decide (c<=126):=by
 have:decide (c<=126)=decide (c.toNat<=126):=by rw [decide_eq_decide,UInt8.le_iff_toNat_le]; rfl
 rw [this,<-decide_not,decide_eq_decide]; omega
def aPN (s:Sc):Prop:=∀ e ∈ s.es,e.ns.length=e.vs.length
structure NSt (ss:List St) (es:List En) (u:St):Prop where
 l:u.fs.length<=16
 n:∀ f ∈ u.fs,1<=f.num/\f.num<=127
 m:∀ f ∈ u.fs,cC (bl f.nm)=true
 v:∀ f ∈ u.fs,valF ss es f.ty=true
 a:∀ k f g,0 < k->u.fs[k - 1]? = some g->u.fs[k]? = some f->g.num < f.num
 d:∀ k f,u.fs[k]? = some f->(u.fs.take k).any (fun g=>decide (g.nm=f.nm))=false
structure NEn (e:En):Prop where
 l:e.ns.length=e.vs.length
 s:e.ns.length<=16
 m:∀ n ∈ e.ns,cC (bl n)=true
 d:∀ k x,e.ns[k]? = some x->dG (e.ns.take k) x=false
 a:∀ k x y,0 < k->e.vs[k - 1]? = some x->e.vs[k]? = some y->x < y
 n:∀ x ∈ e.vs,0<=x/\x<=127
structure Nice (s:Sc):Prop where
 st:∀ u ∈ s.ss,NSt s.ss s.es u
 en:∀ e ∈ s.es,NEn e
theorem gW {b:Bool} {x y:Int} (h:(bif b then x else y)=0) (hx:x ≠ 0):b=false/\y=0:=by
 cases b with
 | true=>exact absurd h hx
 | false=>exact ⟨rfl,h⟩
theorem SC {x y:Int} (h:(bif x != 0 then x else y)=0):x=0/\y=0:=by
 by_cases c:x=0
 · subst c; exact ⟨rfl,h⟩
 · rw [show (x != 0)=true by simpa using c] at h; exact absurd h c
theorem RH {ss:List St} {es:List En} {t:St} {k:Nat} {f:Fl} (hx:t.fs[k]? = some f) (h:pT ss es t k=0) :
 (1<=f.num/\f.num<=127)/\(∀ g,0 < k->t.fs[k - 1]? = some g->g.num < f.num)/\cC (bl f.nm)=true/\(t.fs.take k).any (fun g=>decide (g.nm=f.nm))=false/\valF ss es f.ty=true:=by
 unfold pT at h
 rw [hx] at h
 simp only at h
 obtain ⟨c1,h⟩:=gW h (by decide)
 obtain ⟨c2,h⟩:=gW h (by decide)
 obtain ⟨c3,h⟩:=gW h (by decide)
 obtain ⟨c4,h⟩:=gW h (by decide)
 obtain ⟨c5,h⟩:=gW h (by decide)
 simp only [Bool.or_eq_false_iff,decide_eq_false_iff_not] at c1
 refine ⟨⟨by omega,by omega⟩,fun g hk hg=>?_,by simpa using c3,c4,by simpa using c5⟩
 rw [hg] at c2
 simp only at c2
 rw [show decide (0 < (k:Int))=true by simp; omega,Bool.true_and] at c2
 have:=of_decide_eq_false c2
 omega
theorem D1 {e:En} {k:Nat} {x:ByteArray} {n:Int} (hx:e.ns[k]? = some x) (hn:e.vs[k]? = some n) (h:lB e k=0) :
 cC (bl x)=true/\dG (e.ns.take k) x=false/\(0<=n/\n<=127)/\(k=0->n=0)/\∀ m,0 < k->e.vs[k - 1]? = some m->m < n:=by
 unfold lB at h
 rw [hx,hn] at h
 simp only at h
 obtain ⟨c3,h⟩:=gW h (by decide)
 obtain ⟨c4,h⟩:=gW h (by decide)
 obtain ⟨c1,h⟩:=gW h (by decide)
 obtain ⟨c2,h⟩:=gW h (by decide)
 rw [Bool.or_eq_false_iff] at c1 c2
 have a1:=of_decide_eq_false c1.1
 have a2:=of_decide_eq_false c1.2
 refine ⟨by simpa using c3,c4,⟨by omega,by omega⟩,fun hk=>?_,fun m hk hm=>?_⟩
 · have c2:=c2.1
   rw [show decide ((k:Int)=0)=true by simp; omega,Bool.true_and] at c2
   exact Decidable.of_not_not (of_decide_eq_false c2)
 · have c2:=c2.2
   rw [hm] at c2
   simp only at c2
   rw [show decide (0 < (k:Int))=true by simp; omega,Bool.true_and] at c2
   have:=of_decide_eq_false c2
   omega
theorem M7 {e:En} (h:DZ e=0):0 < e.ns.length/\e.ns.length=e.vs.length/\∀ k < e.ns.length,lB e k=0:=by
 unfold DZ at h
 obtain ⟨c1,h⟩:=gW h (by decide)
 simp only [Bool.or_eq_false_iff,decide_eq_false_iff_not] at c1
 exact ⟨by omega,by omega,fun k hk=>lW (m:=e.ns.length) (by rw [Nat.sub_zero]; exact h) k hk⟩
theorem sM {s:Sc} (h:eR s=0):eW s=false/\KQ s=0/\FN s=0/\u7 s.ss=0:=by
 unfold eR at h
 obtain ⟨_,h⟩:=gW h (by decide)
 obtain ⟨c2,h⟩:=gW h (by decide)
 obtain ⟨c3,h⟩:=SC h
 obtain ⟨c4,h⟩:=SC h
 exact ⟨c2,c3,c4,h⟩
theorem MC {s:Sc} (h:eR s=0):Nice s:=by
 obtain ⟨c2,c3,c4,_⟩:=sM h
 obtain ⟨l1,l2,l3,l4⟩:=wY c2
 refine ⟨fun u hu=>?_,fun e he=>?_⟩
 · obtain ⟨i,hi⟩:=List.mem_iff_getElem?.1 hu
   have hc:=(LL hi (lW c4 i (a6.1 hi).1)).2
   have key:=fun k f (hx:u.fs[k]? = some f)=>RH hx (lW hc k (a6.1 hx).1)
   have mem:∀ f ∈ u.fs,∃ k,u.fs[k]? = some f:=fun f hf=>List.mem_iff_getElem?.1 hf
   exact ⟨l4 u hu,fun f hf=>(mem f hf).elim fun k hx=>(key k f hx).1,fun f hf=>(mem f hf).elim fun k hx=>(key k f hx).2.2.1,fun f hf=>(mem f hf).elim fun k hx=>(key k f hx).2.2.2.2,
    fun k f g hk hg hf=>(key k f hf).2.1 g hk hg,fun k f hf=>(key k f hf).2.2.2.1⟩
 · obtain ⟨i,hi⟩:=List.mem_iff_getElem?.1 he
   obtain ⟨hp,hl,hc⟩:=M7 (MW hi (lW c3 i (a6.1 hi).1)).2.2
   have key:=fun k x n (hx:e.ns[k]? = some x) (hn:e.vs[k]? = some n)=>D1 hx hn (hc k (a6.1 hx).1)
   have oth:∀ k x,e.ns[k]? = some x->∃ n,e.vs[k]? = some n:=fun k x hx=>⟨_,aW (hl ▸ (a6.1 hx).1)⟩
   have oth2:∀ k n,e.vs[k]? = some n->∃ x,e.ns[k]? = some x:=fun k x hx=>⟨_,aW (hl ▸ (a6.1 hx).1)⟩
   refine ⟨hl,l3 e he,fun x hx=>?_,fun k x hx=>?_,fun k x y hk hx hy=>?_,fun n hn=>?_⟩
   · obtain ⟨k,hk⟩:=List.mem_iff_getElem?.1 hx
     obtain ⟨n,hn⟩:=oth k x hk
     exact (key k x n hk hn).1
   · obtain ⟨n,hn⟩:=oth k x hx
     exact (key k x n hx hn).2.1
   · obtain ⟨z,hz⟩:=oth2 k y hy
     exact (key k z y hz hy).2.2.2.2 x hk hx
   · obtain ⟨k,hk⟩:=List.mem_iff_getElem?.1 hn
     obtain ⟨z,hz⟩:=oth2 k n hk
     exact (key k z n hz hk).2.2.1
theorem T8 {s:Sc} (h:eR s=0) {e:En} (he:e ∈ s.es):e.vs[0]? = some 0:=by
 obtain ⟨c2,c3,c4,_⟩:=sM h
 obtain ⟨i,hi⟩:=List.mem_iff_getElem?.1 he
 obtain ⟨hp,hl,hc⟩:=M7 (MW hi (lW c3 i (a6.1 hi).1)).2.2
 have h1:e.ns[0]? = some e.ns[0]:=aW hp
 have h2:e.vs[0]? = some (e.vs[0]'(hl ▸ hp)):=aW (hl ▸ hp)
 rw [h2,(D1 h1 h2 (hc 0 hp)).2.2.2.1 rfl]
theorem Nice.stOf {s:Sc} (h:Nice s) (t:Ty):NSt s.ss s.es (stOf s t):=by
 unfold Proofs.YtkpohmhenegkiaaGreatDoor.stOf
 cases h1:fS s.ss t.n with
 | none=>exact ⟨by decide,fun _ h=>(by cases h),fun _ h=>(by cases h),fun _ h=>(by cases h),fun _ _ _ _ h=>(by cases h),fun _ _ h=>(by cases h)⟩
 | some u=>exact h.st u (List.mem_of_find?_eq_some h1)
theorem Nice.enOf {s:Sc} (h:Nice s) (t:Ty):NEn (enOf s t):=by
 unfold Proofs.YtkpohmhenegkiaaGreatDoor.enOf
 cases h1:fU s.es t.n with
 | none=>exact ⟨rfl,by decide,fun _ h=>(by cases h),fun _ _ h=>(by cases h),fun _ _ _ _ h=>(by cases h),fun _ h=>(by cases h)⟩
 | some u=>exact h.en u (List.mem_of_find?_eq_some h1)
theorem Nice.eq {s:Sc} (h:Nice s):aPN s:=fun e he=>(h.en e he).l
theorem rI {x:List UInt8} (h:cC x=true):x.length<=16:=by
 rcases bF 16 x.length with h1 | h1
 · rw [pD h1] at h; cases h
 · exact h1
structure Ck (s:Sc) (t:Ty) (v:Vl):Prop where
 va:valF s.ss s.es t=true
 kk:v.k=t.k
 tx:(t.k == 4)=true->v.n=0/\v.l=[]/\v.f=[]/\((bl v.s).length:Int)<=t.s
 ls:(t.k == 5)=true->v.n=0/\bl v.s=[]/\v.f=[]/\(v.l.length:Int)<=t.s/\∀ x ∈ v.l,eL s (t.e.headD default) x=0
 st:(t.k == 6)=true->v.n=0/\bl v.s=[]/\v.l=[]/\dR (stOf s t).fs v.f=true/\∀ x ∈ v.f,eL s (bH (stOf s t) x.1).ty x.2=0
 nu:(t.k == 4)=false->(t.k == 5)=false->(t.k == 6)=false->bl v.s=[]/\v.l=[]/\v.f=[]/\s3 s t v.n=true
theorem IG {s:Sc} {t:Ty}:∀ {l:List Vl},kX s t l=0->∀ x ∈ l,eL s t x=0
 | [],_,_,h=>by cases h
 | y :: l,h,x,hx=>by
  rw [kX] at h
  by_cases c:eL s t y=0
  · rw [c] at h
    rcases List.mem_cons.1 hx with rfl | hx
    · exact c
    · exact IG h x hx
  · rw [show (eL s t y != 0)=true by simpa using c] at h; exact absurd h c
theorem IF {s:Sc} {fs:List Fl}:∀ {l:List (Int × Vl)},kC s fs l=0->∀ x ∈ l,eL s ((fF fs x.1).getD default).ty x.2=0
 | [],_,_,h=>by cases h
 | y :: l,h,x,hx=>by
  rw [xK] at h
  by_cases c:eL s ((fF fs y.1).getD default).ty y.2=0
  · rw [c] at h
    rcases List.mem_cons.1 hx with rfl | hx
    · exact c
    · exact IF h x hx
  · rw [show (eL s ((fF fs y.1).getD default).ty y.2 != 0)=true by simpa using c] at h; exact absurd h c
theorem nJ {α:Type} {l:List α} (h:¬ 0 < (l.length:Int)):l=[]:=List.eq_nil_of_length_eq_zero (by omega)
theorem b7 {k a b:Int} (h:(k == a)=true) (hab:a ≠ b):(k == b)=false:=by
 have:=eq_of_beq h; simp; omega
theorem nS {s:Sc} {t:Ty} {v:Vl} (h:eL s t v=0):Ck s t v:=by
 rw [s5] at h
 cases c1:!(valF s.ss s.es t) || v.k != t.k with
 | true=>rw [c1] at h; simp at h
 | false=>
 rw [c1,aD] at h
 rw [Bool.or_eq_false_iff] at c1
 have va:valF s.ss s.es t=true:=by simpa using c1.1
 have kk:v.k=t.k:=by simpa using c1.2
 cases c4:t.k == 4 with
 | true=>
  rw [c4,aI] at h
  unfold m7 at h
  cases d1:v.n != 0 || decide (0 < (v.l.length:Int)) || decide (0 < (v.f.length:Int)) with
  | true=>rw [d1] at h; simp at h
  | false=>
   rw [d1,aD] at h
   cases d2:decide (t.s < ((bl v.s).length:Int)) with
   | true=>rw [d2] at h; simp at h
   | false=>
    simp only [Bool.or_eq_false_iff,decide_eq_false_iff_not,bne_eq_false_iff_eq] at d1 d2
    refine ⟨va,kk,fun _=>⟨d1.1.1,nJ d1.1.2,nJ d1.2,by omega⟩,fun h=>?_,fun h=>?_,fun h _ _=>?_⟩
    · rw [b7 c4 (by decide)] at h; cases h
    · rw [b7 c4 (by decide)] at h; cases h
    · rw [c4] at h; cases h
 | false=>
 rw [c4,aD] at h
 cases c5:t.k == 5 with
 | true=>
  rw [c5,aI] at h
  cases d1:v.n != 0 || !(bl v.s == []) || decide (0 < (v.f.length:Int)) with
  | true=>rw [d1] at h; simp at h
  | false=>
   rw [d1,aD] at h
   cases d2:decide (t.s < (v.l.length:Int)) with
   | true=>rw [d2] at h; simp at h
   | false=>
    rw [d2,aD] at h
    simp only [Bool.or_eq_false_iff,decide_eq_false_iff_not,bne_eq_false_iff_eq,Bool.not_eq_false'] at d1 d2
    refine ⟨va,kk,fun h=>?_,fun _=>⟨d1.1.1,eq_of_beq d1.1.2,nJ d1.2,by omega,IG h⟩,fun h=>?_,fun _ h _=>?_⟩
    · rw [c4] at h; cases h
    · rw [b7 c5 (by decide)] at h; cases h
    · rw [c5] at h; cases h
 | false=>
 rw [c5,aD] at h
 cases c6:t.k == 6 with
 | true=>
  rw [c6,aI] at h
  cases d1:v.n != 0 || !(bl v.s == []) || decide (0 < (v.l.length:Int)) || !(dR ((fS s.ss t.n).getD default).fs v.f) with
  | true=>rw [d1] at h; simp at h
  | false=>
   rw [d1,aD] at h
   simp only [Bool.or_eq_false_iff,decide_eq_false_iff_not,bne_eq_false_iff_eq,Bool.not_eq_false'] at d1
   refine ⟨va,kk,fun h=>?_,fun h=>?_,fun _=>⟨d1.1.1.1,eq_of_beq d1.1.1.2,nJ d1.1.2,d1.2,IF h⟩,fun _ _ h=>?_⟩
   · rw [c4] at h; cases h
   · rw [c5] at h; cases h
   · rw [c6] at h; cases h
 | false=>
 rw [c6,aD] at h
 unfold nH at h
 cases d1:!(bl v.s == []) || decide (0 < (v.l.length:Int)) || decide (0 < (v.f.length:Int)) with
 | true=>rw [d1] at h; simp at h
 | false=>
  rw [d1,aD] at h
  cases d2:s3 s t v.n with
  | false=>rw [d2] at h; simp at h
  | true=>
   simp only [Bool.or_eq_false_iff,decide_eq_false_iff_not,Bool.not_eq_false'] at d1
   refine ⟨va,kk,fun h=>?_,fun h=>?_,fun h=>?_,fun _ _ _=>⟨eq_of_beq d1.1.1,nJ d1.1.2,nJ d1.2,d2⟩⟩
   · rw [c4] at h; cases h
   · rw [c5] at h; cases h
   · rw [c6] at h; cases h
theorem TE {p:Vl->Bool}:∀ {l:List Vl},(∀ x ∈ l,p x=!jO x)->l.any p=!pF l
 | [],_=>by rw [pF]; rfl
 | x :: l,h=>by
  rw [List.any_cons,pF,h x (List.mem_cons_self ..),TE fun y hy=>h y (List.mem_cons_of_mem _ hy),Bool.not_and]
theorem QS {p:Int × Vl->Bool}:∀ {l:List (Int × Vl)},(∀ x ∈ l,p x=!jO x.2)->l.any p=!oW l
 | [],_=>by rw [oW]; rfl
 | x :: l,h=>by
  rw [List.any_cons,yL,h x (List.mem_cons_self ..),QS fun y hy=>h y (List.mem_cons_of_mem _ hy),Bool.not_and]
theorem rS {v:Vl} (h1:v.l=[]) (h2:v.f=[]):jO v=(decide ((bl v.s).length<=200) && (bl v.s).all fN):=by
 rw [qD,h1,h2,pF,oW,Bool.and_true,Bool.and_true]
theorem aCA (x:List UInt8):(iO x == [])=false:=by unfold iO; rfl
theorem GI:∀ (N:Nat) (s:Sc) (t:Ty) (v:Vl),v.h<=N->eL s t v=0->(fP N s t v).2=!jO v
 | 0,_,_,v,h,_=>by have:=v.h_pos; omega
 | N + 1,s,t,v,hh,h0=>by
  have hc:=nS h0
  have flat:bl v.s=[]->v.l=[]->v.f=[]->false=!jO v:=fun e1 e2 e3=>by rw [rS e2 e3,e1]; rfl
  rw [jV]
  cases c4:t.k == 4 with
  | true=>
   obtain ⟨_,e1,e2,_⟩:=hc.tx c4
   rw [b7 c4 (b:=1) (by decide),aD,aI,rS e1 e2]
   unfold oA
   cases decide ((bl v.s).length<=200) && (bl v.s).all fN with
   | true=>rw [aI,aCA]; rfl
   | false=>rfl
  | false=>
  cases c5:t.k == 5 with
  | true=>
   obtain ⟨_,e1,e2,_,e3⟩:=hc.ls c5
   rw [b7 c5 (b:=1) (by decide),b7 c5 (b:=7) (by decide),aD,aD,aD,aI,qD,e1,e2]
   show (v.l.any fun x=>(fP N s (t.e.headD default) x).2)=_
   rw [TE fun x hx=>GI N s _ x (by have:=Vl.h_l hx; omega) (e3 x hx),oW]
   simp
  | false=>
  cases c6:t.k == 6 with
  | true=>
   obtain ⟨_,e1,e2,_,e3⟩:=hc.st c6
   rw [b7 c6 (b:=1) (by decide),b7 c6 (b:=7) (by decide),aD,aD,aD,aD,aI,qD,e1,e2]
   show (v.f.any fun x=>(fP N s (bH (stOf s t) x.1).ty x.2).2)=_
   rw [QS fun x hx=>GI N s _ x.2 (by have:=Vl.h_f hx; omega) (e3 x hx),pF]
   simp
  | false=>
   obtain ⟨e1,e2,e3,_⟩:=hc.nu c4 c5 c6
   have:=flat e1 e2 e3
   cases t.k == 1<;>cases t.k == 7<;>exact this
def eO:Nat->Nat
 | 0=>500
 | m + 1=>40 * eO m
theorem zO:∀ m,500<=eO m
 | 0=>Nat.le_refl _
 | m + 1=>by have:=zO m; rw [eO]; omega
theorem xZ {B:Nat}:∀ (c:Bool) (l:List (List UInt8)),(∀ x ∈ l,x.length<=B)->(d8 c l).length<=l.length * (B + 2)
 | _,[],_=>by simp [d8]
 | c,x :: r,h=>by
  have h1:=xZ true r fun y hy=>h y (List.mem_cons_of_mem _ hy)
  have h2:=h x (List.mem_cons_self ..)
  rw [d8,List.length_append,List.length_append,List.length_cons,Nat.succ_mul]
  have:(bif c then ([44,32]:List UInt8) else []).length<=2:=by cases c<;>simp
  omega
theorem M1:∀ x:List UInt8,(x.flatMap gI).length<=2 * x.length
 | []=>by simp
 | c :: x=>by
  have:=M1 x
  rw [List.flatMap_cons,List.length_append,List.length_cons]
  have h:(gI c).length<=2:=by unfold gI; cases (c == 34 || c == 92)<;>simp
  omega
theorem aA8 (x:List UInt8):(oA x).length<=402:=by
 unfold oA
 cases h:decide (x.length<=200) && x.all fN with
 | false=>simp
 | true=>
  rw [Bool.and_eq_true] at h
  have h1:=of_decide_eq_true h.1
  have h2:=M1 x
  rw [aI,iO,List.length_append,List.length_cons,List.length_singleton]
  omega
theorem D6 {α:Type} {p q:α->Bool} (hq:∀ x,q x=true->p x=true):∀ {l:List α} {a:α},a ∈ l->p a=true->q a=false->(l.filter q).length < (l.filter p).length
 | [],_,h,_,_=>by cases h
 | x :: l,a,h,ha,hb=>by
  have le:∀ l:List α,(l.filter q).length<=(l.filter p).length:=fun l=>by
   induction l with
   | nil=>simp
   | cons y l ih=>
    rw [List.filter_cons,List.filter_cons]
    cases h1:q y with
    | true=>rw [hq y h1]; simpa using ih
    | false=>cases p y<;>simp<;>omega
  rw [List.filter_cons,List.filter_cons]
  rcases List.mem_cons.1 h with rfl | h
  · rw [ha,hb]
    have:=le l
    simp; omega
  · have:=D6 hq h ha hb
    cases h1:q x with
    | true=>rw [hq x h1]; simpa using this
    | false=>cases p x<;>simp<;>omega
theorem QF {fs:List Fl}:∀ (l:List (Int × Vl)) (p:Option Int),ftA fs p l=true->l.length<=(fs.filter fun f=>M2 p f.num).length
 | [],_,_=>Nat.zero_le _
 | x :: r,p,h=>by
  rw [kJ,Bool.and_eq_true,Bool.and_eq_true] at h
  obtain ⟨⟨h1,h2⟩,h3⟩:=h
  have ih:=QF r (some x.1) h3
  obtain ⟨f,hf⟩:=Option.isSome_iff_exists.1 h1
  have hm:=List.mem_of_find?_eq_some hf
  have hn:f.num=x.1:=by have:=List.find?_some hf; simpa using this
  have hlt:=D6 (p:=fun f=>M2 p f.num) (q:=fun f=>M2 (some x.1) f.num) (l:=fs) (a:=f) (fun g hg=>by
   cases p with
   | none=>rfl
   | some q=>
    have a1:q < x.1:=of_decide_eq_true h2
    have a2:x.1 < g.num:=of_decide_eq_true hg
    exact decide_eq_true (by omega)) hm (by rw [hn]; exact h2) (by rw [hn]; exact decide_eq_false (by omega))
  rw [List.length_cons]
  omega
theorem WJ {fs:List Fl} {l:List (Int × Vl)} (h:dR fs l=true):l.length<=fs.length:=by
 unfold dR at h
 rw [Bool.and_eq_true] at h
 exact Nat.le_trans (QF l none h.1) (List.length_filter_le _ _)
theorem MY:∀ {l:List Vl} {x:Vl} (d:Int),x ∈ l->dU x<=jZ d l
 | y :: l,x,d,h=>by
  rw [jZ]
  rcases List.mem_cons.1 h with rfl | h
  · have:=CN l (max d (dU x)); omega
  · exact MY _ h
theorem MA:∀ {l:List (Int × Vl)} {x:Int × Vl} (d:Int),x ∈ l->dU x.2<=kV d l
 | (i,y) :: l,x,d,h=>by
  rw [kV]
  rcases List.mem_cons.1 h with rfl | h
  · have:=u0 l (max d (dU y)); simp only; omega
  · exact MA _ h
theorem VG {v x:Vl} {m:Nat} (hm:dU v<=m) (hx:x ∈ v.l):∃ j,m=j + 1/\dU x<=j:=by
 have hs:mD v=false:=by
  unfold mD
  have:((v.l.length:Int) == 0)=false:=by
   have:=List.length_pos_of_mem hx
   simp; intro h; rw [h] at hx; cases hx
  rw [this,Bool.and_false,Bool.false_and]
 rw [tU,hs,aD] at hm
 have h1:=MY 0 hx
 have h2:=u0 v.f (jZ 0 v.l)
 have h3:=B4 x
 exact ⟨m - 1,by omega,by omega⟩
theorem VI {v:Vl} {x:Int × Vl} {m:Nat} (hm:dU v<=m) (hx:x ∈ v.f):∃ j,m=j + 1/\dU x.2<=j:=by
 have hs:mD v=false:=by
  unfold mD
  have:((v.f.length:Int) == 0)=false:=by
   simp; intro h; rw [h] at hx; cases hx
  rw [this,Bool.and_false]
 rw [tU,hs,aD] at hm
 have h1:=MA (jZ 0 v.l) hx
 have h3:=B4 x.2
 exact ⟨m - 1,by omega,by omega⟩
theorem va5 {ss:List St} {es:List En} {t:Ty} (h:valF ss es t=true) (hk:(t.k == 5)=true):t.s<=32:=by
 obtain ⟨k,s,n,e⟩:=t
 have hk:k=5:=eq_of_beq hk
 subst hk
 rw [valF.eq_def] at h
 simp at h
 show s<=32
 omega
theorem va4 {ss:List St} {es:List En} {t:Ty} (h:valF ss es t=true) (hk:(t.k == 4)=true):t.s<=2000:=by
 obtain ⟨k,s,n,e⟩:=t
 have hk:k=4:=eq_of_beq hk
 subst hk
 rw [valF.eq_def] at h
 simp at h
 show s<=2000
 omega
theorem NS (ns:List ByteArray) (n:Int):∀ (l:List Int) (i:Nat),jI ns n l i=mk []\/jI ns n l i ∈ ns
 | [],_=>.inl rfl
 | m :: l,i=>by
  rw [jI]
  cases h:m == n && decide ((i:Int) < (ns.length:Int)) with
  | false=>exact NS ns n l (i + 1)
  | true=>
   rw [Bool.and_eq_true] at h
   have h2:=of_decide_eq_true h.2
   right
   rw [aI,List.getD_eq_getElem?_getD,aW (show i < ns.length by omega)]
   exact List.getElem_mem _
theorem VH {u:St} {n:Int}:bH u n ∈ u.fs\/bH u n=default:=by
 unfold bH
 cases h:fF u.fs n with
 | none=>exact .inr rfl
 | some f=>exact .inl (List.mem_of_find?_eq_some h)
theorem IK:∀ (N:Nat) (s:Sc) (t:Ty) (v:Vl) (m:Nat),Nice s->VlOk v->v.h<=N->eL s t v=0->dU v<=m->(fP N s t v).1.length<=eO m
 | 0,_,_,v,_,_,_,h,_,_=>by have:=v.h_pos; omega
 | N + 1,s,t,v,m,hn,hv,hh,h0,hm=>by
  have hc:=nS h0
  have hb:=zO m
  rw [jV]
  cases c1:t.k == 1 with
  | true=>
   rw [aI]
   have:(uF v.n).length<=5:=by unfold uF; cases v.n == 1<;>decide
   simp only; omega
  | false=>
  rw [aD]
  cases c4:t.k == 4 with
  | true=>
   rw [aI]
   have:=aA8 (bl v.s)
   simp only; omega
  | false=>
  rw [aD]
  cases c7:t.k == 7 with
  | true=>
   rw [aI]
   have:(bl (jI (enOf s t).ns v.n (enOf s t).vs 0)).length<=16:=by
    rcases NS (enOf s t).ns v.n (enOf s t).vs 0 with h | h
    · rw [h]; exact Nat.zero_le _
    · exact rI ((hn.enOf t).m _ h)
   simp only; omega
  | false=>
  rw [aD]
  cases c5:t.k == 5 with
  | true=>
   rw [aI]
   obtain ⟨_,e1,e2,e4,e3⟩:=hc.ls c5
   have hs:=va5 hc.va c5
   show ([91] ++ d8 false (v.l.map fun x=>(fP N s (t.e.headD default) x).1) ++ [93]).length<=_
   rcases Nat.eq_zero_or_pos v.l.length with h | h
   · rw [List.eq_nil_of_length_eq_zero h]; simp [d8]; omega
   · obtain ⟨y,hy⟩:∃ y,y ∈ v.l:=⟨_,List.getElem_mem h⟩
     obtain ⟨j,rfl,_⟩:=VG hm hy
     have hb2:=zO j
     have:=xZ (B:=eO j) false (v.l.map fun x=>(fP N s (t.e.headD default) x).1) fun z hz=>by
      obtain ⟨x,hx,rfl⟩:=List.mem_map.1 hz
      obtain ⟨j',hj,hr⟩:=VG hm hx
      obtain rfl:j=j':=by omega
      exact IK N s _ x j hn (hv.l x hx) (by have:=Vl.h_l hx; omega) (e3 x hx) hr
     rw [List.length_map] at this
     have h2:v.l.length * (eO j + 2)<=32 * (eO j + 2):=Nat.mul_le_mul_right _ (by omega)
     rw [List.length_append,List.length_append,List.length_singleton,List.length_singleton,eO]
     omega
  | false=>
  rw [aD]
  cases c6:t.k == 6 with
  | true=>
   rw [aI]
   obtain ⟨_,e1,e2,e4,e3⟩:=hc.st c6
   have hu:=hn.stOf t
   have hl:=Nat.le_trans (WJ e4) hu.l
   show ([123] ++ d8 false (v.f.map (w4 (fP N) s (stOf s t))) ++ [125]).length<=_
   rcases Nat.eq_zero_or_pos v.f.length with h | h
   · rw [List.eq_nil_of_length_eq_zero h]; simp [d8]; omega
   · obtain ⟨y,hy⟩:∃ y,y ∈ v.f:=⟨_,List.getElem_mem h⟩
     obtain ⟨j,rfl,_⟩:=VI hm hy
     have hb2:=zO j
     have:=xZ (B:=eO j + 19) false (v.f.map (w4 (fP N) s (stOf s t))) fun z hz=>by
      obtain ⟨x,hx,rfl⟩:=List.mem_map.1 hz
      obtain ⟨j',hj,hr⟩:=VI hm hx
      obtain rfl:j=j':=by omega
      have h1:=IK N s _ x.2 j hn (hv.f x hx) (by have:=Vl.h_f hx; omega) (e3 x hx) hr
      have h2:(bl (bH (stOf s t) x.1).nm).length<=16:=by
       rcases VH (u:=stOf s t) (n:=x.1) with h | h
       · exact rI (hu.m _ h)
       · rw [h]; exact Nat.zero_le _
      unfold w4
      rw [List.length_append,List.length_append]
      simp only [List.length_cons,List.length_nil]
      omega
     rw [List.length_map] at this
     have h2:v.f.length * (eO j + 19 + 2)<=16 * (eO j + 19 + 2):=Nat.mul_le_mul_right _ (by omega)
     rw [List.length_append,List.length_append,List.length_singleton,List.length_singleton,eO]
     omega
  | false=>
   rw [aD]
   have:=yS hv.n.1 hv.n.2
   simp only; omega
theorem N7:∀ (N:Nat) (s:Sc) (t:Ty) (v:Vl),s.fit->Nice s->TyOk t->VlOk v->v.h<=N->eL s t v=0->dU v<=6->dF N s t v
 | 0,_,_,v,_,_,_,_,h,_,_=>by have:=v.h_pos; omega
 | N + 1,s,t,v,hs,hn,ht,hv,hh,h0,hm=>by
  have hc:=nS h0
  refine ⟨fun c4=>?_,fun c5=>?_,fun c6 x hx=>?_,?_⟩
  · have h1:=va4 hc.va c4
    have h2:=(hc.tx c4).2.2.2
    omega
  · obtain ⟨_,e1,e2,e4,e3⟩:=hc.ls c5
    obtain ⟨u,he,_⟩:=JM hc.va c5
    rw [he,List.headD_cons] at e3
    have hu:=ht.e u (by rw [he]; exact List.mem_singleton.2 rfl)
    refine ⟨u,he,hu,fun x hx=>N7 N s u x hs hn hu (hv.l x hx) (by have:=Vl.h_l hx; omega) (e3 x hx) ?_⟩
    obtain ⟨j,hj,hr⟩:=VG (m:=6) hm hx
    omega
  · obtain ⟨_,e1,e2,e4,e3⟩:=hc.st c6
    refine N7 N s _ x.2 hs hn (LX (lQ hs t) x.1).ty (hv.f x hx) (by have:=Vl.h_f hx; omega) (e3 x hx) ?_
    obtain ⟨j,hj,hr⟩:=VI (m:=6) hm hx
    omega
  · refine Nat.le_trans (IK (N + 1) s t v 6 hn hv hh h0 hm) ?_
    decide
theorem rR {s:Sc} {t:Ty} {v:Vl} (h:fG s t v=0):eL s t v=0/\dU v<=6:=by
 unfold fG at h
 rw [MD] at h
 cases c:decide (6 < dU v) with
 | true=>rw [c] at h; simp at h
 | false=>rw [c] at h; exact ⟨h,by have:=of_decide_eq_false c; omega⟩
def Y3:PC:=.seq (.reg [.e 2 (.bx 25 (.t 0)),.e 3 (.bx 28 (.t 1)),.q 4 (.mv (.k (.bool false)))]) (.seq (.reg [.l 5 (.ldn 3 (.t 2)),.a 6 (.cq 18 [(.t 5)]),.v 7 6,⟨some 8,(some (7,true)),.l (.ldn 4 (.t 3))⟩,⟨some 9,(some (7,true)),.cq 19 [(.t 8)]⟩,.a 10 (.pick (.t 7) (.t 9) (.k (.bool false))),.v 11 10,⟨some 12,(some (11,true)),.l (.ldn 3 (.t 2))⟩,⟨some 13,(some (11,true)),.cq 20 [(.t 12)]⟩,⟨some 14,(some (11,true)),.q (.bin .eql true (.t 13) (.i 0))⟩,.a 15 (.pick (.t 11) (.t 14) (.k (.bool false))),.v 4 15]) .ret)
def XV:List RV:=[.mv (.t 4)]
theorem ok8:aM Tryz.prog true ⟨fun r k=>if r=1/\k=1 then .q else if r=1/\k=4 then .q else if r=1/\k=8 then .q else .own [],fun _=>false⟩ Tryz.f8=some (Y3,XV):=by kernel_rfl
def HG:PC:=.seq (.gh (.reg [.v 49 5,.q 50 (.bin .eql true (.t 49) (.i 0)),.v 51 50,⟨some 52,(some (51,true)),.l (.ldn 3 (.t 1))⟩,⟨some 53,(some (51,true)),.l (.ldn 4 (.t 2))⟩,⟨some 54,(some (51,true)),.l (.ldn 5 (.t 4))⟩,⟨some 55,(some (51,true)),.cq 11 [(.t 52),(.t 53),(.t 54)]⟩,⟨some 56,(some (51,true)),.q (.mv (.t 3))⟩,⟨some 57,(some (51,true)),.q (.bin .eql true (.t 55) (.t 56))⟩,.a 58 (.pick (.t 51) (.t 57) (.k (.bool false))),.v 59 58,⟨some 60,(some (59,true)),.q (.fa 4 (.t 4))⟩,⟨some 61,(some (59,true)),.l (.ld1 (.t 60))⟩,⟨some 62,(some (59,true)),.q (.lnL (.t 61))⟩,⟨some 63,(some (59,true)),.q (.bin .eql true (.t 62) (.i 3))⟩,.a 64 (.pick (.t 59) (.t 63) (.k (.bool false))),.v 65 64,⟨some 66,(some (65,true)),.q (.fa 4 (.t 4))⟩,⟨some 67,(some (65,true)),.l (.ld1 (.t 66))⟩,⟨some 68,(some (65,true)),.l (.ia 6 (.t 67) (.i 1))⟩,⟨some 69,(some (65,true)),.q (.fa 0 (.t 68))⟩,⟨some 70,(some (65,true)),.l (.ld1 (.t 69))⟩,⟨some 71,(some (65,true)),.q (.bin .eql true (.t 70) (.i 4))⟩,.a 72 (.pick (.t 65) (.t 71) (.k (.bool false))),.v 73 72,⟨some 74,(some (73,true)),.q (.fa 4 (.t 4))⟩,⟨some 75,(some (73,true)),.l (.ld1 (.t 74))⟩,⟨some 76,(some (73,true)),.l (.ia 6 (.t 75) (.i 1))⟩,⟨some 77,(some (73,true)),.q (.fa 1 (.t 76))⟩,⟨some 78,(some (73,true)),.q (.fa 1 (.t 77))⟩,⟨some 79,(some (73,true)),.l (.ld1 (.t 78))⟩,⟨some 80,(some (73,true)),.q (.bin .eql true (.t 79) (.i 3))⟩,.a 81 (.pick (.t 73) (.t 80) (.k (.bool false))),.v 82 81,⟨some 83,(some (82,true)),.q (.mv (.t 8))⟩,⟨some 84,(some (82,true)),.q (.bin .eql true (.t 83) (.i 4))⟩,.a 85 (.pick (.t 82) (.t 84) (.k (.bool false))),.v 86 85,⟨some 87,(some (86,true)),.q (.mv (.t 9))⟩,⟨some 88,(some (86,true)),.q (.bin .eql true (.t 87) (.i 0))⟩,.a 89 (.pick (.t 86) (.t 88) (.k (.bool false))),.v 90 89,⟨some 91,(some (90,true)),.q (.mv (.t 11))⟩,⟨some 92,(some (90,true)),.q (.bin .eql true (.t 91) (.i 2))⟩,.a 93 (.pick (.t 90) (.t 92) (.k (.bool false))),.v 94 93,⟨some 95,(some (94,true)),.q (.mv (.t 12))⟩,⟨some 96,(some (94,true)),.q (.bin .eql true (.t 95) (.i 13))⟩,.a 97 (.pick (.t 94) (.t 96) (.k (.bool false))),.v 98 97,⟨some 99,(some (98,true)),.q (.mv (.t 14))⟩,⟨some 100,(some (98,true)),.q (.bin .eql true (.t 99) (.i 2))⟩,.a 101 (.pick (.t 98) (.t 100) (.k (.bool false))),.v 102 101,⟨some 103,(some (102,true)),.q (.mv (.t 15))⟩,⟨some 104,(some (102,true)),.q (.bin .eql true (.t 103) (.i 15))⟩,.a 105 (.pick (.t 102) (.t 104) (.k (.bool false))),.v 0 105])) .ret
@[go_sem ↓] theorem aR5:a8 HG:=bB _
def HK:PC:=.seq (.gh (.reg [.l 43 (.ldn 3 (.t 1)),.l 44 (.ldn 4 (.t 2)),.a 45 (.cl 13 [(.t 43),(.t 44),(.k (.string (mk [123,120,32,61,32,49,44,32,109,111,100,101,32,61,32,115,116,111,112,44,32,108,32,61,32,91,93,125])))] []),.v 42 45,.q 46 (.ex (.t 42) 0),.q 47 (.ex (.t 42) 1),.q 48 (.ex (.t 42) 2),.e 13 (.al (.agg #[(.int .i64 0),(.int .i64 0),(.string (mk [])),(.slice none 0 0),(.slice none 0 0)]) 32),.s (.st 5 (.t 13) (.t 46)),.v 14 47,.v 15 48])) (HG)
@[go_sem ↓] theorem aQU:a8 HK:=bB _
def I0:PC:=.seq (.gh (.reg [.l 36 (.ldn 3 (.t 1)),.l 37 (.ldn 4 (.t 2)),.a 38 (.cl 13 [(.t 36),(.t 37),(.k (.string (mk [123,109,111,100,101,32,61,32,114,117,110,44,32,120,32,61,32,49,125])))] []),.v 35 38,.q 39 (.ex (.t 35) 0),.q 40 (.ex (.t 35) 1),.q 41 (.ex (.t 35) 2),.e 10 (.al (.agg #[(.int .i64 0),(.int .i64 0),(.string (mk [])),(.slice none 0 0),(.slice none 0 0)]) 32),.s (.st 5 (.t 10) (.t 39)),.v 11 40,.v 12 41])) (HK)
@[go_sem ↓] theorem aOD:a8 I0:=bB _
def GX:PC:=.seq (.gh (.reg [.l 29 (.ldn 3 (.t 1)),.l 30 (.ldn 4 (.t 2)),.a 31 (.cl 13 [(.t 29),(.t 30),(.k (.string (mk [123,120,32,61,32,50,48,48,44,32,109,111,100,101,32,61,32,114,117,110,44,32,108,32,61,32,91,93,125])))] []),.v 28 31,.q 32 (.ex (.t 28) 0),.q 33 (.ex (.t 28) 1),.q 34 (.ex (.t 28) 2),.e 7 (.al (.agg #[(.int .i64 0),(.int .i64 0),(.string (mk [])),(.slice none 0 0),(.slice none 0 0)]) 32),.s (.st 5 (.t 7) (.t 32)),.v 8 33,.v 9 34])) (I0)
@[go_sem ↓] theorem aOI:a8 GX:=bB _
def JI:PC:=.seq (.gh (.reg [.l 21 (.ldn 3 (.t 1)),.l 22 (.ldn 4 (.t 2)),.v 23 3,.a 24 (.cl 13 [(.t 21),(.t 22),(.t 23)] []),.v 20 24,.q 25 (.ex (.t 20) 0),.q 26 (.ex (.t 20) 1),.q 27 (.ex (.t 20) 2),.e 4 (.al (.agg #[(.int .i64 0),(.int .i64 0),(.string (mk [])),(.slice none 0 0),(.slice none 0 0)]) 32),.s (.st 5 (.t 4) (.t 25)),.v 5 26,.v 6 27])) (GX)
@[go_sem ↓] theorem aNV:a8 JI:=bB _
def IL:PC:=.seq (.gh (.reg [.q 3 (.mv (.k (.string (mk [123,120,32,61,32,45,53,44,32,109,111,100,101,32,61,32,114,117,110,44,32,108,32,61,32,91,116,114,117,101,44,32,102,97,108,115,101,93,125]))))])) (JI)
@[go_sem ↓] theorem aQJ:a8 IL:=bB _
def aDD:PC:=.seq (.reg [.q 0 (.mv (.k (.bool false)))]) (.seq (.reg [.a 17 (.cl 22 [] []),.v 16 17,.q 18 (.ex (.t 16) 0),.q 19 (.ex (.t 16) 1),.e 1 (.al (.agg #[(.int .i64 0),(.slice none 0 0),(.slice none 0 0)]) 25),.e 2 (.al (.agg #[(.int .i64 0),(.int .i64 0),(.string (mk [])),(.slice none 0 0)]) 28),.s (.st 3 (.t 1) (.t 18)),.s (.st 4 (.t 2) (.t 19))]) (IL))
def aH2:List RV:=[.mv (.t 0)]
theorem aNH:aM Tryz.prog true ⟨fun r k=>if r=7/\k=6 then .q else .own [],fun r=>[2,3,4,5,6,7].contains r⟩ Tryz.f10=some (aDD,aH2):=by kernel_rfl
def aHP:PC:=.seq (.reg [.e 0 (.al (.agg #[(.int .i64 0),(.slice none 0 0),(.slice none 0 0)]) 25),.e 1 (.al (.agg #[(.int .i64 0),(.int .i64 0),(.string (mk [])),(.slice none 0 0)]) 28)]) (.seq (.reg [.q 5 (.bd [(.int .i64 0),(.int .i64 0),(.string (mk [])),(.slice none 0 0)] [(0,1,(.i 1))]),.e 6 (.bsl 28 4 [(.t 5)]),.q 7 (.bd [(.int .i64 0),(.int .i64 0),(.string (mk [])),(.slice none 0 0)] [(0,1,(.i 5)),(1,1,(.i 2)),(3,1,(.t 6))]),.e 2 (.al (.agg #[(.int .i64 0),(.int .i64 0),(.string (mk [])),(.slice none 0 0)]) 28),.s (.st 4 (.t 2) (.t 7))]) (.seq (.reg [.q 8 (.bd [(.int .i64 0),(.int .i64 0),(.string (mk [])),(.slice none 0 0)] [(0,1,(.i 2)),(1,1,(.i 8))]),.q 9 (.bd [(.int .i64 0),(.string (mk [])),(.int .i64 0),(.int .i64 0),(.string (mk [])),(.slice none 0 0),(.bool false)] [(0,1,(.i 1)),(1,1,(.k (.string (mk [120])))),(2,4,(.t 8))]),.q 10 (.bd [(.int .i64 0),(.int .i64 0),(.string (mk [])),(.slice none 0 0)] [(0,1,(.i 4)),(1,1,(.i 5))]),.q 11 (.bd [(.int .i64 0),(.string (mk [])),(.int .i64 0),(.int .i64 0),(.string (mk [])),(.slice none 0 0),(.bool false)] [(0,1,(.i 2)),(1,1,(.k (.string (mk [110,97,109,101])))),(2,4,(.t 10)),(6,1,(.k (.bool true)))]),.q 12 (.bd [(.int .i64 0),(.int .i64 0),(.string (mk [])),(.slice none 0 0)] [(0,1,(.i 7)),(2,1,(.k (.string (mk [77,111,100,101]))))]),.q 13 (.bd [(.int .i64 0),(.string (mk [])),(.int .i64 0),(.int .i64 0),(.string (mk [])),(.slice none 0 0),(.bool false)] [(0,1,(.i 4)),(1,1,(.k (.string (mk [109,111,100,101])))),(2,4,(.t 12))]),.l 14 (.ldn 4 (.t 2)),.q 15 (.bd [(.int .i64 0),(.string (mk [])),(.int .i64 0),(.int .i64 0),(.string (mk [])),(.slice none 0 0),(.bool false)] [(0,1,(.i 5)),(1,1,(.k (.string (mk [108])))),(2,4,(.t 14))]),.e 16 (.bslx 97 7 [(.t 9),(.t 11),(.t 13),(.t 15)]),.v 3 16]) (.seq (.reg [.e 17 (.bsl 9 1 [(.k (.string (mk [105,100,108,101]))),(.k (.string (mk [114,117,110])))]),.e 18 (.bsl 3 1 [(.i 0),(.i 3)]),.q 19 (.bd [(.string (mk [])),(.slice none 0 0),(.slice none 0 0)] [(0,1,(.k (.string (mk [77,111,100,101])))),(1,1,(.t 17)),(2,1,(.t 18))]),.e 20 (.bslx 92 3 [(.t 19)]),.v 21 3,.q 22 (.bd [(.string (mk [])),(.slice none 0 0)] [(0,1,(.k (.string (mk [80,111,115,101])))),(1,1,(.t 21))]),.e 23 (.bslx 95 2 [(.t 22)]),.q 24 (.bd [(.int .i64 0),(.slice none 0 0),(.slice none 0 0)] [(0,1,(.i 1)),(1,1,(.t 20)),(2,1,(.t 23))]),.e 4 (.al (.agg #[(.int .i64 0),(.slice none 0 0),(.slice none 0 0)]) 25),.s (.st 3 (.t 4) (.t 24))]) (.seq (.reg [.l 25 (.ldn 3 (.t 4)),.q 26 (.bd [(.int .i64 0),(.int .i64 0),(.string (mk [])),(.slice none 0 0)] [(0,1,(.i 6)),(2,1,(.k (.string (mk [80,111,115,101]))))]),.s (.st 3 (.t 0) (.t 25)),.s (.st 4 (.t 1) (.t 26))]) .ret))))
def aE6:List RV:=[.ld (.ldn 3 (.t 0)),.ld (.ldn 4 (.t 1))]
theorem aND:aM Tryz.prog true ⟨fun r k=>if r=2/\k=8 then .q else if r=3/\k=3 then .q else if r=3/\k=6 then .q else .own [],fun _=>false⟩ Tryz.f22=some (aHP,aE6):=by kernel_rfl
def s0 (a b:Int × Int):Int × Int:=(IntKind.i64.wrap (a.1 + b.1),max a.2 b.2)
mutual
def pB:Vl->Int->Int × Int
 | .mk _ _ _ l f,lev=>bif decide (20 < lev) then (1,lev) else J5 f (lev + 1) (w3 l (lev + 1) (1,lev))
def w3:List Vl->Int->Int × Int->Int × Int
 | [],_,a=>a
 | v :: r,lev,a=>w3 r lev (s0 a (pB v lev))
def J5:List (Int × Vl)->Int->Int × Int->Int × Int
 | [],_,a=>a
 | (_,v) :: r,lev,a=>J5 r lev (s0 a (pB v lev))
end
mutual
theorem aCB:∀ (v:Vl) (lev:Int),lev<=(pB v lev).2
 | .mk k n s l f,lev=>by
  rw [pB]
  cases decide (20 < lev) with
  | true=>exact Int.le_refl _
  | false=>
   have h1:=vC l (lev + 1) (1,lev)
   have h2:=vW f (lev + 1) (w3 l (lev + 1) (1,lev))
   rw [aD]
   simp only at h1
   omega
theorem vC:∀ (l:List Vl) (lev:Int) (a:Int × Int),a.2<=(w3 l lev a).2
 | [],_,_=>by rw [w3]; exact Int.le_refl _
 | v :: r,lev,a=>by
  have h:=vC r lev (s0 a (pB v lev))
  rw [w3]
  unfold s0 at h ⊢
  simp only at h
  omega
theorem vW:∀ (l:List (Int × Vl)) (lev:Int) (a:Int × Int),a.2<=(J5 l lev a).2
 | [],_,_=>by rw [J5]; exact Int.le_refl _
 | (i,v) :: r,lev,a=>by
  have h:=vW r lev (s0 a (pB v lev))
  rw [J5]
  unfold s0 at h ⊢
  simp only at h
  omega
end
mutual
theorem XG:∀ (v:Vl) (lev:Int),(pB v lev).2<=12->lev + v.h<=13
 | .mk k n s l f,lev,h=>by
  have h0:=aCB (.mk k n s l f) lev
  rw [pB] at h h0
  cases c:decide (20 < lev) with
  | true=>have:=of_decide_eq_true c; rw [c,aI] at h; simp only at h; omega
  | false=>
   rw [c,aD] at h h0
   have h1:=vC l (lev + 1) (1,lev)
   have h2:=vW f (lev + 1) (w3 l (lev + 1) (1,lev))
   have h3:=ZA f (lev + 1) (w3 l (lev + 1) (1,lev)) h
   have h4:=ZD l (lev + 1) (1,lev) (by omega)
   rw [Vl.h]
   simp only at h1
   omega
theorem ZD:∀ (l:List Vl) (lev:Int) (a:Int × Int),(w3 l lev a).2<=12->Vl.hl l=0\/lev + Vl.hl l<=13
 | [],_,_,_=>.inl (by rw [Vl.hl])
 | v :: r,lev,a,h=>by
  rw [w3] at h
  have h1:=vC r lev (s0 a (pB v lev))
  have h2:(pB v lev).2<=(s0 a (pB v lev)).2:=by unfold s0; simp only; omega
  have h3:=XG v lev (by omega)
  have h4:=ZD r lev _ h
  rw [Vl.hl]
  omega
theorem ZA:∀ (l:List (Int × Vl)) (lev:Int) (a:Int × Int),(J5 l lev a).2<=12->Vl.hf l=0\/lev + Vl.hf l<=13
 | [],_,_,_=>.inl (by rw [Vl.hf])
 | (i,v) :: r,lev,a,h=>by
  rw [J5] at h
  have h1:=vW r lev (s0 a (pB v lev))
  have h2:(pB v lev).2<=(s0 a (pB v lev)).2:=by unfold s0; simp only; omega
  have h3:=XG v lev (by omega)
  have h4:=ZA r lev _ h
  rw [Vl.hf]
  omega
end
def uW (s:Sc) (t:Ty):Bool:=lO s && fewT t && eR s == 0
def GC:List S->Prop:=fun av=>match av with
 | [.va (.gs r),.va (.gs q)]=>r8 r/\fL q
 | _=>False
theorem sB {av:List S} (h:GC av):∃ s t,av=[.va (.gs (aG s)),.va (.gs (aN t))]/\s.ok/\TyOk t:=by
 unfold GC at h
 split at h
 · obtain ⟨⟨s,rfl,h1⟩,⟨t,rfl,h2⟩⟩:=h; exact ⟨s,t,rfl,h1,h2⟩
 · exact h.elim
noncomputable def XZ:List S->A:=fun av=>match av with
 | [.va (.gs r),.va (.gs q)]=>bA (uW (C.sc r) (C.ty q))
 | _=>.gs []
noncomputable def feFn:Fun:=⟨GC,XZ,fun av h=>by obtain ⟨_,_,rfl,_⟩:=sB h; trivial⟩
attribute [go_sem] feFn GC XZ
theorem ME {s:Sc} (h:s.ok):r8 [.vl (.int .i64 s.ver),.fz (s.es.map bL),.fz (s.ss.map aP)]:=MM h
theorem aFW:Meets Tryz.prog 8 feFn.sp:=by
 refine aE Tryz.func8 ok8 2 (by rw [Tryz.ntmps8]; decide) (aH aQ6 (aH GW (aH aCZ (aA _)))) (fun av H K h=>by obtain ⟨_,_,rfl,_⟩:=sB h.1.1; rfl) ?_
 rintro av H K ⟨⟨h,rfl⟩,hK⟩
 obtain ⟨s,t,rfl,hs,ht⟩:=sB h
 have hK:K (bS (uW s t)) []:=by
  have:feFn.val [.va (.gs (aG s)),.va (.gs (aN t))]=bA (uW s t):=by
   show bA (uW (C.sc (aG s)) (C.ty (aN t)))=_
   rw [gT,fX]
  rw [this] at hK; exact hK
 clear h
 have fin:∀ (b:Bool) (R:Hp),uW s t=b->W.Fin 0 K (bS b) R:=fun b R h=>by
  rw [h] at hK; exact .sel [] (by simp) (by simp) rfl (.done (by simpa [go_sem] using hK))
 clear hK
 unfold uW at fin
 have k4:=jG ht
 have k5:=oN t
 have k6:=ME hs
 have k7:=oG s
 cases h1:lO s with
 | false=>
  rw [h1,Bool.false_and,Bool.false_and] at fin
  simp (maxSteps:=1000000) -dsimp only [go_sem,aG,aO t,Y3,XV,k4,k5,k6,k7,h1]
  exact fin _ _ rfl
 | true=>
 have k8:=jL (CK hs h1)
 cases h2:fewT t with
 | false=>
  rw [h1,h2,Bool.and_false,Bool.false_and] at fin
  simp (maxSteps:=1000000) -dsimp only [go_sem,aG,aO t,Y3,XV,f0Fn,k4,k5,k6,k7,k8,h1,h2]
  exact fin _ _ rfl
 | true=>
  rw [h1,h2,Bool.and_true,Bool.true_and] at fin
  cases h3:eR s == 0<;>rw [h3] at fin <;>
  · simp (maxSteps:=1000000) -dsimp only [go_sem,aG,aO t,Y3,XV,f0Fn,k4,k5,k6,k7,k8,h1,h2,h3]
    exact fin _ _ rfl
theorem aCU {s:Sc} {t:Ty} (hs:s.ok) (h:uW s t=true):s.fit/\Nice s:=by
 unfold uW at h
 rw [Bool.and_eq_true,Bool.and_eq_true] at h
 exact ⟨CK hs h.1.1,MC (eq_of_beq h.2)⟩
theorem aGM {ts:List Tk} {n:Nat} (he:Ends ts) (hn:n < ts.length) (hk:(aT ts n).k ≠ 0):bN ts n=n + 1:=by
 have h:=he.last n _ (gZ hn)
 unfold bN
 rw [if_pos]
 by_cases e:n + 1=ts.length
 · exact absurd (h.2 e) hk
 · omega
abbrev bP (n:Nat):Fs:=⟨false,0,n⟩
def moN (w:List UInt8) (ts:List Tk) (n:Nat):Fs:=bif cB [44] ts (bP n) then bR [44] ts (bP n) else bM w ts (bP n)
theorem o6 {ts:List Tk} {z:Fs} (h:z.bad=true):dQ ts z=z:=by unfold dQ; rw [h]; rfl
theorem yB {w:List UInt8} {ts:List Tk} {z:Fs} (h:z.bad=true):cB w ts z=false:=by unfold cB; rw [h]; rfl
theorem kR {w:List UInt8} {ts:List Tk} {z:Fs} (h:z.bad=true):bM w ts z=z:=by unfold bM; rw [yB h]; exact o6 h
theorem D7 {k:Int} {ts:List Tk} {z:Fs} (h:z.bad=true):gR k ts z=z:=by unfold gR gV; rw [h]; exact o6 h
theorem JQ {α:Type} {one:α->Fs->α × Fs} {ts:List Tk} {a:α} {z:Fs} (h:z.bad=true):∀ f,hY one ts f a z=(a,z)
 | 0=>rfl
 | f + 1=>by rw [iL,h]; rfl
theorem JB {α:Type} {one:α->Fs->α × Fs} {op sh:List UInt8} {ts:List Tk} {a:α} {z:Fs} (h:z.bad=true):cI one op sh ts a z=(a,z):=by
 unfold cI
 rw [kR h,yB h,JQ h]
 rw [aD,kR h]
theorem aI1 (N:Nat) (s:Sc) (ts:List Tk) (t:Ty) {z:Fs} (h:z.bad=true):(pP N s ts t z).2=z:=by
 cases N with
 | zero=>rfl
 | succ N=>
  rw [iD]
  cases t.k == 1 with
  | true=>rw [aI]; unfold gS; rw [h]; exact o6 h
  | false=>
  cases t.k == 4 with
  | true=>exact D7 h
  | false=>
  cases t.k == 7 with
  | true=>
   rw [aI,aD,aD]
   unfold dZ hJ
   rw [h]
   exact o6 h
  | false=>
  cases t.k == 5 with
  | true=>show (kF (pP N) s ts (t.e.headD default) z).2=z; unfold kF; rw [JB h]
  | false=>
  cases t.k == 6 with
  | true=>show (gM (pP N) s ts (stOf s t) z).2=z; unfold gM; rw [JB h]
  | false=>exact D7 h
structure Vr {α:Type} (ts:List Tk) (r:α × Fs) (v:α) (n:Nat) (b:Bool):Prop where
 hb:r.2.bad=b
 hn:n < ts.length
 ok:b=false->v=r.1/\r.2=bP n
 er:b=true->r.2.off=((aT ts n).a:Int)
theorem JW {x:List UInt8}:∀ {fs:List Fl} {i:Nat} {f:Fl} (o:Nat),fs[i]? = some f->(bl f.nm == x)=true->(∀ j < i,∀ g,fs[j]? = some g->(bl g.nm == x)=false)->eV x fs o=((o + i:Nat):Int)
 | [],i,f,o,h,_,_=>by simp at h
 | y :: fs,0,f,o,h,hx,_=>by
  simp at h; subst h
  rw [eV,hx]; rfl
 | y :: fs,i + 1,f,o,h,hx,hj=>by
  rw [eV,hj 0 (by omega) y rfl,aD,JW (o + 1) (by simpa using h) hx fun j hlt g hg=>hj (j + 1) (by omega) g (by simpa using hg)]
  congr 1; omega
theorem MT {x:List UInt8}:∀ {fs:List Fl} (o:Nat),0<=eV x fs o->∃ f,fs[(eV x fs o).toNat - o]? = some f/\(bl f.nm == x)=true/\o<=(eV x fs o).toNat
 | [],o,h=>by rw [eV] at h; omega
 | y :: fs,o,h=>by
  rw [eV] at h ⊢
  cases hc:bl y.nm == x with
  | true=>rw [aI]; exact ⟨y,by simp,hc,by simp⟩
  | false=>
   rw [hc,aD] at h
   rw [aD]
   obtain ⟨f,h1,h2,h3⟩:=MT (o + 1) h
   refine ⟨f,?_,h2,by omega⟩
   rw [show (eV x fs (o + 1)).toNat - o=(eV x fs (o + 1)).toNat - (o + 1) + 1 by omega]
   simpa using h1
theorem aA5 {ss:List St} {es:List En} {u:St} (hu:NSt ss es u) {ts:List Tk} {z:Fs} {last:Int} {i:Nat} {f:Fl} (hk:((aT ts z.n).k == 1)=true) (hi:u.fs[i]? = some f) (hx:(bl f.nm == (aT ts z.n).x)=true) (hl:last < f.num) :
 j7 ts u last z=false/\u.fs.getD (dL ts u z).toNat default=f:=by
 have h1:dL ts u z=(i:Int):=by
  unfold dL
  rw [JW 0 hi hx fun j hj g hg=>?_,Nat.zero_add]
  have hd:=fT (hu.d i f hi) g (bJ (by rw [List.getElem?_take_of_lt hj]; exact hg))
  have hd:=of_decide_eq_false hd
  rw [Bool.eq_false_iff]
  intro hg2
  exact hd (mS ((eq_of_beq hg2).trans (eq_of_beq hx).symm))
 have h2:u.fs.getD (dL ts u z).toNat default=f:=by rw [h1]; simp [List.getD_eq_getElem?_getD,hi]
 refine ⟨?_,h2⟩
 unfold j7
 rw [h2,h1,bne,hk]
 have a1:decide ((i:Int) < 0)=false:=by simp
 have a2:decide (f.num<=last)=false:=by simp; omega
 rw [a1,a2]; rfl
theorem aBH {ts:List Tk} {n:Nat} (he:Ends ts) (hn:n < ts.length) (hk:(aT ts n).k ≠ 0):n + 1 < ts.length:=by
 have h:=he.last n _ (gZ hn)
 by_cases e:n + 1=ts.length
 · exact absurd (h.2 e) hk
 · omega
theorem S1 {k:Int} {w:List UInt8} {t:Tk} (h:cX k w t=true):t.k=k:=by unfold cX at h; rw [Bool.and_eq_true] at h; exact eq_of_beq h.1
end Go.Proofs.YtkpohmhenegkiaaGreatDoor
namespace Go.W
section
variable {P:Program} {f:FuncId} {s t:Spec}
def C.pl:C->C->Prop
 | .vl v,c'=>c'=.vl v
 | c,c'=>∃ u,c'=.vl u/\(c.one->u.oneCell'=true)
def A.pl:A->A->Prop
 | .c1 c,.c1 c'=>C.pl c c'
 | .gs cs,.gs cs'=>All2 C.pl cs cs'
 | _,_=>False
def S.pl:S->S->Prop
 | .va a,s=>∃ b,s=.va b/\A.pl a b
 | .tu l,s=>∃ m,s=.tu m/\All2 A.pl l m
 | _,s=>s=.un
end
end Go.W
namespace Go.Proofs.YtkpohmhenegkiaaGreatDoor
open Go.W
theorem aLG {α:Type} {ts:List Tk} {n:Nat} {v:α} {z:Fs} (h:z=bP z.n\/z=dQ ts (bP n)) (hn:n < ts.length) (hz:z.n < ts.length):Vr ts (v,z) v z.n z.bad:=by
 rcases h with h | h
 · rw [h]; exact ⟨rfl,hz,fun _=>⟨rfl,rfl⟩,fun h=>(by cases h)⟩
 · rw [h]; exact ⟨rfl,hn,fun h=>(by cases h),fun _=>rfl⟩
theorem T5 (w:List UInt8) (ts:List Tk) (n:Nat):bM w ts (bP n)=bP (bM w ts (bP n)).n\/bM w ts (bP n)=dQ ts (bP n):=by
 unfold bM
 cases cB w ts (bP n) with
 | true=>exact .inl rfl
 | false=>exact .inr rfl
abbrev E0:List (Nat × S):=[(0,.va (.c1 (.pt 0 0))),(4,.va (.c1 (.pt 1 0))),(5,.va (.c1 (.pt 2 0))),(6,.va (.c1 (.pt 3 0))),(7,.va (.c1 (.pt 4 0)))]
theorem aBY {ss:List St} {es:List En} {t:Ty} (h:valF ss es t=true):(t.k == 1)=true\/(t.k == 2)=true\/(t.k == 3)=true\/(t.k == 4)=true\/(t.k == 5)=true\/(t.k == 6)=true\/(t.k == 7)=true:=by
 obtain ⟨k,s,n,e⟩:=t
 show (k == 1)=true\/_
 rw [valF.eq_def] at h
 simp only at h
 cases h1:k == 1<;>cases h2:k == 2<;>cases h3:k == 3<;>cases h4:k == 4<;>cases h5:k == 5<;>cases h6:k == 6<;>cases h7:k == 7 <;>
 first
  | (simp [Ty.k,h1,h2,h3,h4,h5,h6,h7]; done)
  | (rw [h1,h2,h3,h4,h5,h6,h7] at h; cases h)
theorem qN {w:List UInt8} {ts:List Tk} {n:Nat}:cB w ts (bP n)=cX 4 w (aT ts n):=by unfold cB; rw [Bool.not_false,Bool.true_and]
theorem G8 {w:List UInt8} {ts:List Tk} {n:Nat} (he:Ends ts) (hn:n < ts.length) (h:cX 4 w (aT ts n)=true):bR w ts (bP n)=bP (n + 1):=by
 unfold bR; rw [qN,h,aGM he hn (by rw [S1 h]; decide)]; rfl
structure Ser {α:Type} (one:α->Fs->α × Fs) (sh:List UInt8) (ts:List Tk) (Q:α × Fs) (f:Nat) (m:Bool) (a:α) (n:Nat) (b:Bool):Prop where
 hn:n < ts.length
 go:m=true->b=false/\ts.length < n + f/\hY one ts f a (bP n)=Q
 no:m=false->Vr ts (Q.1,bM sh ts Q.2) a n b
theorem Ser.next {α:Type} {one:α->Fs->α × Fs} {sh:List UInt8} {ts:List Tk} {Q:α × Fs} {f:Nat} {a a':α} {n n':Nat} {b':Bool} (he:Ends ts) (ho:EJ one ts) (h:Ser one sh ts Q (f + 1) true a n false) (hr:Vr ts (one a (bP n)) a' n' b') :
 (b'=true->Ser one sh ts Q f false a' n' true)/\(b'=false->Ser one sh ts Q f (cB [44] ts (bP n')) a' (moN sh ts n').n (moN sh ts n').bad):=by
 obtain ⟨_,h2,h3⟩:=h.go rfl
 rw [iL] at h3
 simp only [aD] at h3
 refine ⟨fun hb=>?_,fun hb=>?_⟩
 · have hbad:(one a (bP n)).2.bad=true:=by rw [hr.hb,hb]
   rw [yB hbad,aD] at h3
   refine ⟨hr.hn,fun h=>(by cases h),fun _=>?_⟩
   rw [<-h3]
   exact ⟨by rw [kR hbad,hbad],hr.hn,fun h=>(by cases h),fun _=>by rw [kR hbad]; exact hr.er hb⟩
 · obtain ⟨e1,e2⟩:=hr.ok hb
   have hn':=hr.hn
   rw [e2] at h3
   unfold moN
   cases hc:cB [44] ts (bP n') with
   | true=>
    have hc':=hc
    rw [qN] at hc'
    have hm:=aBH he hn' (by rw [S1 hc']; decide)
    rw [hc,aI,G8 he hn' hc'] at h3
    rw [aI,G8 he hn' hc']
    refine ⟨hm,fun _=>⟨rfl,?_,by rw [e1]; exact h3⟩,fun h=>(by cases h)⟩
    have h5:=(ho a (bP n) h.hn).1
    rw [e2] at h5
    show ts.length < n' + 1 + f
    have h5:n<=n':=h5
    omega
   | false=>
    rw [hc,aD] at h3
    rw [aD]
    have hq:Q=(a',bP n'):=by rw [<-h3,e1,<-e2]
    refine ⟨(hZ (w:=sh) hn').2,fun h=>(by cases h),fun _=>?_⟩
    rw [hq]
    exact aLG (T5 sh ts n') hn' (hZ (w:=sh) hn').2
theorem t6:∀ (m:Nat) (r:List UInt8) (i:Nat) (out:List UInt8) (z:Nat) (o:List UInt8),r.length<=m->out.all fN=true->quoL i r out=(z,some o)->o.all fN=true
 | _,[],i,out,z,o,_,_,h=>by rw [lN] at h; cases h
 | 0,c :: r,i,out,z,o,hm,_,_=>by simp at hm
 | m + 1,c :: r,i,out,z,o,hm,ho,h=>by
  rw [eS] at h
  have app:∀ d:UInt8,fN d=true->(out ++ [d]).all fN=true:=fun d hd=>by rw [List.all_append,ho]; simp [hd]
  cases c1:decide (c < 32) || decide (126 < c) with
  | true=>rw [c1] at h; cases h
  | false=>
  rw [c1,aD] at h
  have hp:fN c=true:=by
   unfold fN
   simp only [Bool.or_eq_false_iff,decide_eq_false_iff_not,UInt8.not_lt] at c1
   simp [c1.1,c1.2]
  cases c2:c == 34 with
  | true=>
   rw [c2] at h
   simp only [aI,Prod.mk.injEq,aJ] at h
   rw [<-h.2]; exact ho
  | false=>
  rw [c2,aD] at h
  cases c3:c == 92 with
  | false=>
   rw [c3,aD] at h
   exact t6 m r _ _ z o (by simp at hm; omega) (app c hp) h
  | true=>
   rw [c3,aI] at h
   cases r with
   | nil=>cases h
   | cons d r=>
    simp only at h
    cases c4:d == 34 || d == 92 with
    | false=>rw [c4] at h; cases h
    | true=>
     rw [c4,aI] at h
     refine t6 m r _ _ z o (by simp at hm; omega) (app d ?_) h
     rw [Bool.or_eq_true] at c4
     rcases c4 with e | e<;>rw [eq_of_beq e]<;>decide
structure Gtk (k:Int) (x:List UInt8) (n:Int):Prop where
 e:k=0->x=[]/\n=0
 o:k ≠ 0->gE k x n=true
 i:cH n
theorem TG {l:List UInt8} {p:Nat} {k n:Int} {x:List UInt8} {z:Nat} (h:cF l p=.ok k x n z):Gtk k x n:=by
 have z0:cH 0:=⟨by decide,by decide⟩
 unfold cF at h
 split at h
 · simp only [R.ok.injEq] at h
   obtain ⟨rfl,rfl,rfl,_⟩:=h
   exact ⟨fun _=>⟨rfl,rfl⟩,fun h=>absurd rfl h,z0⟩
 · rename_i c hc
   cases c1:bD c.toNat with
   | true=>
    rw [c1,aI] at h
    unfold fJ at h
    simp only at h
    cases d1:decide (16 < bC aU l p - p) with
    | true=>rw [d1] at h; cases h
    | false=>
     rw [d1,aD] at h
     cases d2:l[bC aU l p]? == some 45 with
     | true=>rw [d2] at h; cases h
     | false=>
      rw [d2,aD] at h
      simp only [R.ok.injEq] at h
      obtain ⟨rfl,rfl,rfl,rfl⟩:=h
      refine ⟨fun h=>absurd h (by decide),fun _=>?_,z0⟩
      have hx:cC ((l.take (bC aU l p)).drop p)=true:=by
       have hlt:=(a6.1 hc).1
       have hw:aU c=true:=by
        have:=cN (p:=fun c=>!bD c.toNat || aU c) (by decide +kernel) c
        rw [c1] at this; exact this
       have hg:p + 1<=bC aU l p:=by rw [<-iJ hc hw]; exact lY
       refine (JG _).2 ⟨c,?_,?_,c1,fun d hd=>oR d hd⟩
       · rw [List.getElem?_drop,Nat.add_zero,List.getElem?_take_of_lt (by omega),hc]
       · have:=of_decide_eq_false d1
         simp only [List.length_drop,List.length_take]; omega
      show ((0:Int) == 0 && cC _)=true
      rw [hx]; rfl
   | false=>
   rw [c1,aD] at h
   cases c2:a7 c || c == 45 with
   | true=>
    rw [c2,aI] at h
    unfold fM at h
    simp only at h
    have hd:∀ d ∈ (l.take (bC a7 l (bif l[p]? == some 45 then p + 1 else p))).drop (bif l[p]? == some 45 then p + 1 else p),a7 d=true:=fun d hd=>oR d hd
    generalize (l.take (bC a7 l (bif l[p]? == some 45 then p + 1 else p))).drop (bif l[p]? == some 45 then p + 1 else p)=s at *
    generalize (l[p]? == some 45)=neg at *
    cases d1:s == [] || (s[0]? == some 48 && (decide (1 < s.length) || neg)) with
    | true=>rw [d1] at h; cases h
    | false=>
    rw [d1,aD] at h
    cases hv:valL (b6 neg) 0 s with
    | none=>rw [hv] at h; cases h
    | some m=>
    rw [hv] at h
    simp only at h
    have hm:=NE (lim:=b6 neg) (by cases neg<;>decide) (Nat.zero_le _) hd hv
    cases d2:kY l (bC a7 l (bif neg then p + 1 else p)) with
    | true=>rw [d2] at h; cases h
    | false=>
     rw [d2,aD] at h
     simp only [R.ok.injEq] at h
     obtain ⟨rfl,rfl,rfl,rfl⟩:=h
     refine ⟨fun h=>absurd h (by decide),fun _=>rfl,?_⟩
     cases neg with
     | true=>have hm:m<=9223372036854775808:=hm; show cH (-(m:Int)); unfold cH; omega
     | false=>have hm:m<=9223372036854775807:=hm; show cH (m:Int); unfold cH; omega
   | false=>
   rw [c2,aD] at h
   cases c3:c == 34 with
   | true=>
    rw [c3,aI] at h
    unfold e7 at h
    split at h
    · cases h
    · rename_i z' o ho
      cases d1:decide (200 < o.length) with
      | true=>rw [d1] at h; cases h
      | false=>
       rw [d1,aD] at h
       simp only [R.ok.injEq] at h
       obtain ⟨rfl,rfl,rfl,rfl⟩:=h
       refine ⟨fun h=>absurd h (by decide),fun _=>?_,z0⟩
       have h1:=t6 _ _ _ [] _ _ (Nat.le_refl _) rfl ho
       have h2:decide (o.length<=200)=true:=by have:=of_decide_eq_false d1; simp; omega
       show ((0:Int) == 0 && (decide (o.length<=200) && o.all fN))=true
       rw [h1,h2]; rfl
   | false=>
   rw [c3,aD] at h
   cases c4:dB c.toNat with
   | false=>rw [c4] at h; cases h
   | true=>
    rw [c4,aI] at h
    simp only [R.ok.injEq] at h
    obtain ⟨rfl,rfl,rfl,rfl⟩:=h
    refine ⟨fun h=>absurd h (by decide),fun _=>?_,z0⟩
    show ((0:Int) == 0 && dB c.toNat)=true
    rw [c4]; rfl
theorem BQ {l:List UInt8}:∀ (f a:Nat) (ts:List Tk),c8 f l a=.ok ts->∀ t ∈ ts,Gtk t.k t.x t.n
 | 0,a,ts,h=>by cases h; intro t ht; cases ht
 | f + 1,a,ts,h=>by
  rw [c8] at h
  split at h
  · cases h
  · rename_i k x n z hR
    have hg:=TG hR
    cases hk:k == 0 with
    | true=>
     rw [hk] at h
     simp only [aI,SR.ok.injEq] at h
     subst h
     intro t ht
     rw [List.mem_singleton.1 ht]; exact hg
    | false=>
     rw [hk] at h
     cases hr:c8 f l z with
     | bad e t=>rw [hr] at h; cases h
     | ok us=>
      rw [hr] at h
      simp only [aD,SR.cons,SR.ok.injEq] at h
      subst h
      intro t ht
      rcases List.mem_cons.1 ht with rfl | ht
      · exact hg
      · exact BQ f z us hr t ht
theorem sD (l:List UInt8):∀ t ∈ (aQ l).toks,Gtk t.k t.x t.n:=by
 unfold aQ
 cases h:decide (4000 < l.length) with
 | true=>intro t ht; cases ht
 | false=>
  rw [aD]
  cases hr:c8 (l.length + 1) l 0 with
  | bad e t=>intro t ht; cases ht
  | ok ts=>exact BQ _ _ _ hr
theorem aBV {k:Int} {x:List UInt8} {n:Int} (h:gE k x n=true):x.length<=200:=by
 unfold gE at h
 cases c1:k == 1 with
 | true=>rw [c1,aI,Bool.and_eq_true] at h; have:=rI h.2; omega
 | false=>
 rw [c1,aD] at h
 cases c2:k == 2 with
 | true=>rw [c2,aI] at h; rw [eq_of_beq h]; exact Nat.zero_le _
 | false=>
 rw [c2,aD] at h
 cases c3:k == 3 with
 | true=>rw [c3,aI,Bool.and_eq_true,Bool.and_eq_true] at h; exact of_decide_eq_true h.2.1
 | false=>
 rw [c3,aD] at h
 cases c4:k == 4 with
 | false=>rw [c4] at h; cases h
 | true=>
  rw [c4,aI,Bool.and_eq_true] at h
  match x,h with
  | [],_=>exact Nat.zero_le _
  | [_],_=>exact (by decide:1<=200)
  | _ :: _ :: _,h=>exact absurd h.2 (by simp)
theorem Gtk.len {k:Int} {x:List UInt8} {n:Int} (h:Gtk k x n):x.length<=200:=by
 by_cases hk:k=0
 · rw [(h.e hk).1]; exact Nat.zero_le _
 · exact aBV (h.o hk)
theorem SA {l:List UInt8} {ts:List Tk} (h:tO l 0 ts) (hl:l.length<=4000):Ends ts:=
 ⟨NR h,by have:=I1 h; omega,fun i t ht=>(ND h ht).2.2.2.1⟩
theorem TK {l:List UInt8}:∀ {a:Nat} {ts:List Tk},tO l a ts->∀ t ∈ ts,t.a<=l.length
 | _,[],_=>fun t ht=>by cases ht
 | _,t :: ts,⟨_,h2,z,_,h4,h5⟩=>fun u hu=>by
  rcases List.mem_cons.1 hu with rfl | hu
  · exact h2
  · by_cases h0:t.k=0
    · rw [h4 h0] at hu; cases hu
    · exact TK (h5 h0) u hu
theorem AX {l:List UInt8} (h:(aQ l).err=0):Tks (aQ l).toks:=by
 rcases OQ l with ⟨h1,_⟩ | ⟨_,_,h3,h4⟩
 · exact absurd h h1
 · have hg:=sD l
   exact ⟨SA h4 h3,fun t ht=>(hg t ht).i,fun t ht=>by have:=(hg t ht).len; omega,fun t ht=>by have:=TK h4 t ht; omega⟩
structure Dg (s:Sc):Prop where
 ni:Nice s
 g:Gd s.ss s.es
 ac:w6 s.ss
 d6:∀ u ∈ s.ss,dD s.ss u.nm<=6
 z:∀ e ∈ s.es,e.vs[0]? = some 0
theorem aJI {s:Sc} (hf:s.fit) (h:eR s=0):Dg s:=by
 obtain ⟨c2,c3,c4,c5⟩:=sM h
 unfold u7 at c5
 obtain ⟨d1,c5⟩:=gW c5 (by decide)
 obtain ⟨d2,c5⟩:=gW c5 (by decide)
 exact ⟨MC h,MO hf c2 c4,fun t ht=>fT d1 t ht,fun u hu=>by have:=of_decide_eq_false (fT d2 u hu); omega,fun e he=>T8 h he⟩
abbrev qV (s:Sc) (t:Ty):Int:=b8 (dD s.ss) t
theorem s8 (s:Sc) (t:Ty):0<=qV s t:=by
 unfold qV b8
 have:=GQ s.ss (cP t).2.n
 cases (cP t).2.k == 6 with
 | true=>rw [aI]; omega
 | false=>rw [aD]; omega
theorem C3 {s:Sc} {t u:Ty} (h5:(t.k == 5)=true) (he:t.e=[u]):qV s t=qV s u + 1:=by
 obtain ⟨k,z,n,e⟩:=t
 have hk:k=5:=eq_of_beq h5
 have he:e=[u]:=he
 subst hk he
 unfold qV b8
 rw [cP,show ((5:Int) == 5)=true from rfl,aI,ZF]
 simp only
 omega
theorem AC {s:Sc} {t:Ty} (h6:(t.k == 6)=true):qV s t=dD s.ss t.n:=by
 obtain ⟨k,z,n,e⟩:=t
 have hk:k=6:=eq_of_beq h6
 subst hk
 unfold qV b8
 rw [cP,show ((6:Int) == 5)=false from rfl,aD]
 show ((0:Nat):Int) + (bif (6:Int) == 6 then dD s.ss n else 0)=dD s.ss n
 simp
theorem va6 {s:Sc} {t:Ty} (h:valF s.ss s.es t=true) (h6:(t.k == 6)=true):∃ u,fS s.ss t.n=some u/\stOf s t=u/\u ∈ s.ss/\u.nm=t.n:=by
 have hh:gK s.ss t.n=true:=by
  obtain ⟨k,z,n,e⟩:=t
  have hk:k=6:=eq_of_beq h6
  subst hk
  rw [valF] at h; simp at h; exact h.1.1
 rw [<-AA] at hh
 obtain ⟨u,hu⟩:=Option.isSome_iff_exists.1 hh
 exact ⟨u,hu,by unfold stOf; rw [hu]; rfl,(iF hu).1,(iF hu).2⟩
theorem va7 {s:Sc} {t:Ty} (h:valF s.ss s.es t=true) (h7:(t.k == 7)=true):enOf s t ∈ s.es:=by
 have hh:gJ s.es t.n=true:=by
  obtain ⟨k,z,n,e⟩:=t
  have hk:k=7:=eq_of_beq h7
  subst hk
  rw [valF] at h; simp at h; exact h.1.1
 rw [<-DG] at hh
 obtain ⟨u,hu⟩:=Option.isSome_iff_exists.1 hh
 unfold enOf
 rw [hu]
 exact (NZ hu).1
theorem vM {s:Sc} (hd:Dg s) {t:Ty} (h:valF s.ss s.es t=true) (h6:(t.k == 6)=true):1<=dD s.ss t.n/\dD s.ss t.n<=6/\∀ f ∈ (stOf s t).fs,qV s f.ty + 1<=dD s.ss t.n:=by
 obtain ⟨u,h1,h2,h3,h4⟩:=va6 h h6
 have e:=F9 hd.g hd.ac h1
 have h0:=j8 (dD s.ss) u.fs
 refine ⟨by omega,by rw [<-h4]; exact hd.d6 u h3,fun f hf=>?_⟩
 rw [h2] at hf
 have:=NM (dp:=dD s.ss) hf
 show b8 (dD s.ss) f.ty + 1<=_
 omega
theorem OI {s:Sc} (hs:s.fit) (hd:Dg s):∀ (N:Nat) (t:Ty),TyOk t->valF s.ss s.es t=true->qV s t < N->dP N s t
 | 0,t,_,_,h=>by have:=s8 s t; omega
 | N + 1,t,ht,hv,h=>by
  refine ⟨fun h5=>?_,fun h6 f hf=>?_⟩
  · obtain ⟨u,he,hu⟩:=JM hv h5
    have e:=C3 (s:=s) h5 he
    have hto:=ht.e u (by rw [he]; exact List.mem_singleton.2 rfl)
    exact ⟨u,he,hto,OI hs hd N u hto hu (by omega)⟩
  · have e:=AC (s:=s) h6
    have:=(vM hd hv h6).2.2 f hf
    exact OI hs hd N f.ty ((lQ hs t).fs f hf).ty ((hd.ni.stOf t).v f hf) (by omega)
theorem W6 {ss:List St} {es:List En} {u:St} (hu:NSt ss es u):u.fs.Pairwise fun f g=>f.num < g.num:=by
 have key:∀ (l:List Fl),(∀ k f g,0 < k->l[k - 1]? = some g->l[k]? = some f->g.num < f.num)->l.Pairwise fun f g=>f.num < g.num:=by
  intro l
  induction l with
  | nil=>intro _; exact .nil
  | cons y l ih=>
   intro h
   have hl:=ih fun k f g hk h1 h2=>h (k + 1) f g (by omega) (by rw [show k + 1 - 1=k - 1 + 1 by omega]; simpa using h1) (by simpa using h2)
   refine List.pairwise_cons.2 ⟨fun f hf=>?_,hl⟩
   cases l with
   | nil=>cases hf
   | cons z l=>
    have h1:=h 1 z y (by omega) rfl rfl
    rcases List.mem_cons.1 hf with rfl | hf
    · exact h1
    · exact Int.lt_trans h1 ((List.pairwise_cons.1 hl).1 f hf)
 exact key u.fs hu.a
theorem F6:∀ {fs:List Fl} {f:Fl},fs.Pairwise (fun f g=>f.num < g.num)->f ∈ fs->fF fs f.num=some f
 | y :: l,f,hp,hf=>by
  obtain ⟨h1,h2⟩:=List.pairwise_cons.1 hp
  show List.find? _ _=_
  rw [List.find?_cons]
  rcases List.mem_cons.1 hf with rfl | hf
  · simp
  · have:=h1 f hf
    have e:decide (y.num=f.num)=false:=by simp; omega
    rw [e]
    exact F6 h2 hf
theorem aAM {fs:List Fl}:∀ (L:List (Int × Vl)) (p:Option Int),(∀ x ∈ L,(fF fs x.1).isSome=true)->L.Pairwise (fun x y=>x.1 < y.1)->(∀ q,p=some q->∀ x ∈ L,q < x.1)->ftA fs p L=true
 | [],_,_,_,_=>by rw [L3]
 | x :: L,p,h1,h2,h3=>by
  obtain ⟨h4,h5⟩:=List.pairwise_cons.1 h2
  rw [kJ,h1 x (List.mem_cons_self ..),aAM L (some x.1) (fun y hy=>h1 y (List.mem_cons_of_mem _ hy)) h5 fun q hq y hy=>by cases hq; exact h4 y hy]
  cases p with
  | none=>rfl
  | some q=>
   have:=h3 q rfl x (List.mem_cons_self ..)
   show (true && decide (q < x.1) && true)=true
   rw [decide_eq_true this]; rfl
theorem LJ {s:Sc} {fs:List Fl}:∀ (L:List (Int × Vl)),(∀ x ∈ L,eL s ((fF fs x.1).getD default).ty x.2=0)->kC s fs L=0
 | [],_=>by rw [kC]
 | x :: L,h=>by
  rw [xK,h x (List.mem_cons_self ..)]
  exact LJ L fun y hy=>h y (List.mem_cons_of_mem _ hy)
theorem QO {B:Int}:∀ (L:List (Int × Vl)) (d:Int),d<=B->(∀ x ∈ L,dU x.2<=B)->kV d L<=B
 | [],d,h,_=>by rw [kV]; exact h
 | (i,v) :: L,d,h,hx=>by
  rw [kV]
  have:=hx (i,v) (List.mem_cons_self ..)
  exact QO L _ (by simp only at this; omega) fun y hy=>hx y (List.mem_cons_of_mem _ hy)
def zl (s:Sc) (t:Ty):Int:=bif t.k == 6 then dD s.ss t.n else bif t.k == 5 then 1 else 0
theorem aJY {s:Sc} {t:Ty} (hv:valF s.ss s.es t=true):zl s t<=qV s t:=by
 unfold zl
 have h0:=s8 s t
 cases h6:t.k == 6 with
 | true=>rw [AC h6]; exact Int.le_refl _
 | false=>
  cases h5:t.k == 5 with
  | true=>
   obtain ⟨u,he,_⟩:=JM hv h5
   have:=C3 (s:=s) h5 he
   have:=s8 s u
   rw [aD,aI]; omega
  | false=>exact h0
theorem J7 (n:Nat):(0:Int) < 2 ^ n:=Int.pow_pos (by decide)
theorem aEX {s:Sc} {t:Ty} (h:valF s.ss s.es t=true) (hk:(t.k == 4)=true\/(t.k == 5)=true):1<=t.s:=by
 obtain ⟨k,z,n,e⟩:=t
 show 1<=z
 rcases hk with hk | hk
 · have hk:k=4:=eq_of_beq hk
   subst hk
   rw [valF.eq_def] at h
   simp at h
   omega
 · have hk:k=5:=eq_of_beq hk
   subst hk
   rw [valF.eq_def] at h
   simp at h
   omega
theorem LK {s:Sc} (hd:Dg s) (n:Nat) {t:Ty} (hv:valF s.ss s.es t=true) (h6:(t.k == 6)=false):eL s t (zF s (n + 1) t)=0/\dU (zF s (n + 1) t)<=zl s t:=by
 have e:zF s (n + 1) t=.mk t.k 0 (mk []) [] []:=by rw [nQ,hv,h6]; rfl
 rw [e]
 constructor
 · rw [s5,hv]
   show (bif !true || t.k != t.k then (13:Int) else _)=0
   rw [bne_self_eq_false,Bool.not_true,Bool.or_false,aD]
   cases h4:t.k == 4 with
   | true=>
    have:=aEX hv (.inl h4)
    have d:decide (t.s < (((bl (mk [])).length:Nat):Int))=false:=by rw [jF]; simp; omega
    show m7 t 0 (mk []) (([]:List Vl).length:Int) (([]:List (Int × Vl)).length:Int)=0
    unfold m7
    rw [d]; rfl
   | false=>
   rw [aD]
   cases h5:t.k == 5 with
   | true=>
    have:=aEX hv (.inr h5)
    have d:decide (t.s < ((([]:List Vl).length:Nat):Int))=false:=by simp; omega
    show (bif decide (t.s < ((([]:List Vl).length:Nat):Int)) then (3:Int) else kX s (t.e.headD default) [])=0
    rw [d,kX]; rfl
   | false=>
   rw [aD,h6,aD]
   show nH s t 0 (mk []) ((0:Nat):Int) ((0:Nat):Int)=0
   unfold nH
   have hr:s3 s t 0=true:=by
    unfold s3
    rcases aBY hv with h | h | h | h | h | h | h
    · rw [h]; rfl
    · rw [b7 h (b:=1) (by decide),h,aD,aI]
      have:=J7 (t.s.toNat - 1)
      rw [decide_eq_true (show -(2 ^ (t.s.toNat - 1):Int)<=0 by omega),decide_eq_true this,Bool.and_true,Bool.or_true]
    · rw [b7 h (b:=1) (by decide),b7 h (b:=2) (by decide),h,aD,aD,aI]
      have:=J7 t.s.toNat
      rw [decide_eq_true this]; rfl
    · rw [h4] at h; cases h
    · rw [h5] at h; cases h
    · rw [h6] at h; cases h
    · rw [b7 h (b:=1) (by decide),b7 h (b:=2) (by decide),b7 h (b:=3) (by decide),h]
      have hm:=hd.z _ (va7 hv h)
      show (enOf s t).vs.any (fun x=>x == 0)=true
      rw [List.any_eq_true]
      exact ⟨0,bJ hm,rfl⟩
   rw [hr,jF]; rfl
 · rw [tU]
   unfold zl
   rw [h6,aD]
   cases h5:t.k == 5 with
   | true=>
    have hs:mD (.mk t.k 0 (mk []) [] [])=false:=by
     show (t.k != 5 && t.k != 6 && _ && _)=false
     rw [bne,h5]; rfl
    rw [hs]
    show 1 + kV (jZ 0 []) []<=1
    rw [jZ,kV]; decide
   | false=>
    have hs:mD (.mk t.k 0 (mk []) [] [])=true:=by
     show (t.k != 5 && t.k != 6 && _ && _)=true
     rw [bne,bne,h5,h6]; rfl
    rw [hs]; exact Int.le_refl _
theorem aLY {s:Sc} (hd:Dg s):∀ (n:Nat) (t:Ty),valF s.ss s.es t=true->((t.k == 6)=true->dD s.ss t.n<=n)->eL s t (zF s (n + 1) t)=0/\dU (zF s (n + 1) t)<=zl s t:=by
 intro n
 induction n with
 | zero=>
  intro t hv h
  cases h6:t.k == 6 with
  | true=>have:=(vM hd hv h6).1; have:=h h6; omega
  | false=>exact LK hd 0 hv h6
 | succ n ih=>
  intro t hv h
  cases h6:t.k == 6 with
  | false=>exact LK hd (n + 1) hv h6
  | true=>
   have hdn:=h h6
   obtain ⟨h1,h2,h3⟩:=vM hd hv h6
   have hu:=hd.ni.stOf t
   have hpw:=W6 hu
   have hk:t.k=6:=eq_of_beq h6
   have e:zF s (n + 1 + 1) t=.mk 6 0 (mk []) [] (zE s (n + 1) (stOf s t).fs):=by rw [nQ,hv,h6]; rfl
   have hm:∀ x ∈ zE s (n + 1) (stOf s t).fs,∃ f ∈ (stOf s t).fs,x=(f.num,zF s (n + 1) f.ty):=fun x hx=>by
    unfold zE at hx
    obtain ⟨f,hf,rfl⟩:=List.mem_map.1 hx
    exact ⟨f,(List.mem_filter.1 hf).1,rfl⟩
   have hf:∀ f ∈ (stOf s t).fs,eL s f.ty (zF s (n + 1) f.ty)=0/\dU (zF s (n + 1) f.ty)<=dD s.ss t.n - 1:=fun f hf=>by
    have hvf:=hu.v f hf
    have h4:=h3 f hf
    have h5:=aJY hvf
    obtain ⟨a,b⟩:=ih f.ty hvf fun h7=>by have:=AC (s:=s) h7; omega
    exact ⟨a,by omega⟩
   rw [e]
   constructor
   · rw [s5,hv]
     show (bif !true || (6:Int) != t.k then (13:Int) else _)=0
     rw [hk]
     show (bif !(dR (stOf s t).fs (zE s (n + 1) (stOf s t).fs)) then (13:Int) else kC s (stOf s t).fs (zE s (n + 1) (stOf s t).fs))=0
     have hfit:dR (stOf s t).fs (zE s (n + 1) (stOf s t).fs)=true:=by
      unfold dR
      rw [Bool.and_eq_true,List.all_eq_true]
      refine ⟨aAM _ none (fun x hx=>?_) ?_ (fun q h=>by cases h),fun f hf=>?_⟩
      · obtain ⟨f,hf,rfl⟩:=hm x hx
        rw [F6 hpw hf]; rfl
      · unfold zE
        rw [List.pairwise_map]
        exact hpw.filter _
      · cases ho:f.opt with
        | true=>rfl
        | false=>
         unfold rB
         rw [Bool.false_or,List.any_eq_true]
         refine ⟨(f.num,zF s (n + 1) f.ty),?_,by simp⟩
         unfold zE
         exact List.mem_map.2 ⟨f,List.mem_filter.2 ⟨hf,by rw [ho]; rfl⟩,rfl⟩
     rw [hfit,Bool.not_true,aD]
     refine LJ _ fun x hx=>?_
     obtain ⟨f,hfm,rfl⟩:=hm x hx
     rw [F6 hpw hfm]
     exact (hf f hfm).1
   · rw [tU]
     unfold zl
     rw [h6,aI]
     show 1 + kV (jZ 0 []) (zE s (n + 1) (stOf s t).fs)<=dD s.ss t.n
     rw [jZ]
     have:=QO (B:=dD s.ss t.n - 1) (zE s (n + 1) (stOf s t).fs) 0 (by omega) fun x hx=>by
      obtain ⟨f,hfm,rfl⟩:=hm x hx
      exact (hf f hfm).2
     omega
theorem aAJ {s:Sc} (hd:Dg s) (t:Ty):mZ s t=valF s.ss s.es t:=by
 unfold mZ fG
 rw [MD]
 cases hv:valF s.ss s.es t with
 | true=>
  obtain ⟨h1,h2⟩:=aLY hd 22 t hv fun h6=>by have:=(vM hd hv h6).2.1; omega
  have h3:zl s t<=6:=by
   unfold zl
   cases h6:t.k == 6 with
   | true=>exact (vM hd hv h6).2.1
   | false=>
    cases t.k == 5 with
    | true=>exact (by decide:(1:Int)<=6)
    | false=>exact (by decide:(0:Int)<=6)
  rw [decide_eq_false (show ¬ 6 < dU (zF s (22 + 1) t) by omega),h1]; rfl
 | false=>
  have e:zF s 23 t=.mk 0 0 (mk []) [] []:=by rw [nQ,hv]; rfl
  rw [e,s5,hv]
  cases decide (6 < dU (.mk 0 0 (mk []) [] []))<;>rfl
def aOZ:Ty:=.mk 2 8 (mk []) []
def xTx:Ty:=.mk 4 5 (mk []) []
def xMo:Ty:=.mk 7 0 (mk [77,111,100,101]) []
def xBo:Ty:=.mk 1 0 (mk []) []
def xLi:Ty:=.mk 5 2 (mk []) [xBo]
def xF1:Fl:=⟨1,mk [120],aOZ,false⟩
def xF2:Fl:=⟨2,mk [110,97,109,101],xTx,true⟩
def xF4:Fl:=⟨4,mk [109,111,100,101],xMo,false⟩
def xF5:Fl:=⟨5,mk [108],xLi,false⟩
def Z3:St:=⟨mk [80,111,115,101],[xF1,xF2,xF4,xF5]⟩
def xEn:En:=⟨mk [77,111,100,101],[mk [105,100,108,101],mk [114,117,110]],[0,3]⟩
def xS:Sc:=⟨1,[xEn],[Z3]⟩
def xT:Ty:=.mk 6 0 (mk [80,111,115,101]) []
def xSp:W.Spec:=fun av H K=>av=[]/\H=[]/\K (.tu [.gs (aG xS),.gs (aN xT)]) []
theorem N4:Meets Tryz.prog 22 xSp:=by
 refine aE Tryz.func22 aND 0 (by rw [Tryz.ntmps22]; decide) (aA _) (fun av H K h=>by obtain ⟨rfl,_⟩:=h; rfl) ?_
 rintro av H K ⟨rfl,rfl,hK⟩
 simp (maxSteps:=1000000) -dsimp only [go_sem,aHP,aE6]
 refine .opn 2 _ _ _ rfl (.nfr 2 _ _ _ rfl (.shu 2 _ _ _ rfl ?_ (.pub 2 _ _ _ rfl ?_)))
 · simp [C.nf,C.shut]
 simp -dsimp only [go_sem,cW,C.nf,C.pub]
 refine .nfr 4 _ _ _ rfl (.shu 4 _ _ _ rfl ?_ (.pub 4 _ _ _ rfl ?_))
 · simp [C.nf,C.shut]
 simp -dsimp only [go_sem,cW,C.nf,C.pub]
 refine .pub 5 _ _ _ rfl (.pub 6 _ _ _ rfl ?_)
 simp -dsimp only [go_sem,cW,C.pub]
 refine .shu 7 _ _ _ rfl ?_ (.pub 7 _ _ _ rfl ?_)
 · simp [C.shut]
 simp -dsimp only [go_sem,cW,C.pub]
 refine .shu 8 _ _ _ rfl ?_ (.pub 8 _ _ _ rfl ?_)
 · simp [C.shut]
 simp -dsimp only [go_sem,cW,C.pub]
 refine .sel [] (by simp) (by simp) rfl (.done ?_)
 simp -dsimp only [go_sem]
 exact hK
def x1:List UInt8:=[123,120,32,61,32,45,53,44,32,109,111,100,101,32,61,32,114,117,110,44,32,108,32,61,32,91,116,114,117,101,44,32,102,97,108,115,101,93,125]
def x2:List UInt8:=[123,120,32,61,32,50,48,48,44,32,109,111,100,101,32,61,32,114,117,110,44,32,108,32,61,32,91,93,125]
def x3:List UInt8:=[123,109,111,100,101,32,61,32,114,117,110,44,32,120,32,61,32,49,125]
def x4:List UInt8:=[123,120,32,61,32,49,44,32,109,111,100,101,32,61,32,115,116,111,112,44,32,108,32,61,32,91,93,125]
def mH (k n:Int):Vl:=.mk k n (mk []) [] []
def xL:Vl:=.mk 5 0 (mk []) [mH 1 1,mH 1 0] []
def xV:Vl:=.mk 6 0 (mk []) [] [(1,mH 2 (-5)),(4,mH 7 3),(5,xL)]
theorem e1:fK (pP 10) xS xT x1=(xV,0,0):=by kernel_rfl
theorem e2:fK (pP 10) xS xT x2=(v0,4,0):=by kernel_rfl
theorem e3:fK (pP 10) xS xT x3=(v0,2,13):=by kernel_rfl
theorem e4:fK (pP 10) xS xT x4=(v0,2,15):=by kernel_rfl
theorem e0:fG xS xT xV=0:=by kernel_rfl
theorem e5:lD (fP 10) xS xT xV=x1:=by kernel_rfl
theorem KM (k s:Int) (n:ByteArray) (h1:cH k) (h2:cH s) (h3:n.size<=9223372036854775807):TyOk (.mk k s n []):=.mk h1 h2 h3 (Nat.zero_le _) (fun t h=>by cases h)
theorem X9:TyOk xT:=KM _ _ _ ⟨by decide,by decide⟩ ⟨by decide,by decide⟩ (by decide)
theorem aD3:TyOk xLi:=.mk ⟨by decide,by decide⟩ ⟨by decide,by decide⟩ (by decide) (by decide) fun t ht=>by
 rw [List.mem_singleton.1 ht]; exact KM _ _ _ ⟨by decide,by decide⟩ ⟨by decide,by decide⟩ (by decide)
theorem aLD:xS.ok:=by
 refine ⟨⟨by decide,by decide⟩,by decide,by decide,fun e he=>?_,fun u hu=>?_⟩
 · rw [List.mem_singleton.1 he]
   refine ⟨by decide,by decide,by decide,fun n hn=>?_,fun n hn=>?_⟩
   · have:n=mk [105,100,108,101]\/n=mk [114,117,110]:=by simpa [xEn] using hn
     rcases this with rfl | rfl<;>decide
   · have:n=0\/n=3:=by simpa [xEn] using hn
     rcases this with rfl | rfl<;>exact ⟨by decide,by decide⟩
 · rw [List.mem_singleton.1 hu]
   refine ⟨by decide,by decide,fun f hf=>?_⟩
   have:f=xF1\/f=xF2\/f=xF4\/f=xF5:=by simpa [Z3] using hf
   rcases this with rfl | rfl | rfl | rfl
   · exact ⟨⟨by decide,by decide⟩,by decide,KM _ _ _ ⟨by decide,by decide⟩ ⟨by decide,by decide⟩ (by decide)⟩
   · exact ⟨⟨by decide,by decide⟩,by decide,KM _ _ _ ⟨by decide,by decide⟩ ⟨by decide,by decide⟩ (by decide)⟩
   · exact ⟨⟨by decide,by decide⟩,by decide,KM _ _ _ ⟨by decide,by decide⟩ ⟨by decide,by decide⟩ (by decide)⟩
   · exact ⟨⟨by decide,by decide⟩,by decide,aD3⟩
theorem aDE:lO xS=true:=by kernel_rfl
theorem TL:xS.fit:=CK aLD aDE
theorem wF {N:Nat} {s:Sc} {t:Ty} (h5:(t.k == 5)=false) (h6:(t.k == 6)=false):dP (N + 1) s t:=⟨fun h=>(by rw [h5] at h; cases h),fun h=>(by rw [h6] at h; cases h)⟩
theorem SI:stOf xS xT=Z3:=by kernel_rfl
theorem xD:dP 10 xS xT:=by
 refine ⟨fun h=>(nomatch h),fun _ f hf=>?_⟩
 rw [SI] at hf
 have:f=xF1\/f=xF2\/f=xF4\/f=xF5:=by simpa [Z3] using hf
 rcases this with rfl | rfl | rfl | rfl
 · exact wF rfl rfl
 · exact wF rfl rfl
 · exact wF rfl rfl
 · exact ⟨fun _=>⟨xBo,rfl,KM _ _ _ ⟨by decide,by decide⟩ ⟨by decide,by decide⟩ (by decide),wF rfl rfl⟩,fun h=>(nomatch h)⟩
theorem xDF:dF 10 xS xT xV:=by
 have hl:∀ N t v,(fP N xS t v).1.length<=1000->(t.k == 5)=false->(t.k == 6)=false->bl v.s=[]->N=N - 1 + 1->dF N xS t v:=fun N t v h1 h2 h3 h4 h5=>by
  rw [h5] at h1 ⊢
  refine ⟨fun _=>by rw [h4]; decide,fun h=>?_,fun h=>?_,Nat.le_trans h1 (by decide)⟩
  · rw [h2] at h; cases h
  · rw [h3] at h; cases h
 refine ⟨fun h=>(nomatch h),fun h=>(nomatch h),fun _ x hx=>?_,by decide +kernel⟩
 have:x=(1,mH 2 (-5))\/x=(4,mH 7 3)\/x=(5,xL):=by simpa [xV,Vl.f] using hx
 rw [SI]
 rcases this with rfl | rfl | rfl
 · exact hl _ _ _ (by decide +kernel) rfl rfl rfl rfl
 · exact hl _ _ _ (by decide +kernel) rfl rfl rfl rfl
 · refine ⟨fun h=>(nomatch h),fun _=>⟨xBo,rfl,KM _ _ _ ⟨by decide,by decide⟩ ⟨by decide,by decide⟩ (by decide),fun y hy=>?_⟩,fun h=>(nomatch h),by decide +kernel⟩
   have:y=mH 1 1\/y=mH 1 0:=by simpa [xL,Vl.l] using hy
   rcases this with rfl | rfl
   · exact hl _ _ _ (by decide +kernel) rfl rfl rfl rfl
   · exact hl _ _ _ (by decide +kernel) rfl rfl rfl rfl
noncomputable def FC (N:Nat):Fun:=i7 (fun s t v=>fG s t v=0->dF N s t v) fun s t v=>.string (mk (lD (fP N) s t v))
theorem G7 (N:Nat):Meets Tryz.prog 11 (FC N).sp:=eU (0:Nat) (fun (_:Nat)=>aCG (aGJ N)) fun av H K h=>by
 obtain ⟨s,t,v,rfl,rfl,hs,ht,hv,hp,hK⟩:=jX h
 exact ⟨0,s,t,v,rfl,rfl,hs,ht,hv,hp,hK⟩
theorem NV (N:Nat):Meets Tryz.prog 13 (tN (dP N) (pP N)):=aHX (YR N) (tF N) fun _s _ts t z hs hts ht hD hn=>F5 hs hts N t z ht hD hn
theorem JN {N:Nat} {s:Sc} {t:Ty} {x:ByteArray} {K:S->Hp->Prop} (hs:s.fit) (ht:TyOk t) (hD:mZ s t=true->dP N s t) (hK:K (.tu [.gs (bK (fK (pP N) s t (bl x)).1),iA .i64 (fK (pP N) s t (bl x)).2.1,iA .i64 (fK (pP N) s t (bl x)).2.2]) []) :
 tN (dP N) (pP N) [.va (.gs [.vl (.int .i64 s.ver),.fz (s.es.map bL),.fz (s.ss.map aP)]),.va (.gs [.vl (.int .i64 t.k),.vl (.int .i64 t.s),.vl (.string t.n),.fz (t.e.map aN)]),tS x] [] K:=
 ⟨s,t,x,by rw [aO]; rfl,rfl,hs,ht,hD,AX,hK⟩
theorem O4 {x:List UInt8} {v:Vl} {e a:Int} {K:S->Hp->Prop} (h:fK (pP 10) xS xT x=(v,e,a)) (hK:K (.tu [.gs (bK v),iA .i64 e,iA .i64 a]) []) :
 tN (dP 10) (pP 10) [.va (.gs [.vl (.int .i64 xS.ver),.fz (xS.es.map bL),.fz (xS.ss.map aP)]),.va (.gs [.vl (.int .i64 xT.k),.vl (.int .i64 xT.s),.vl (.string xT.n),.fz (xT.e.map aN)]),tS (mk x)] [] K:=
 JN TL X9 (fun _=>xD) (by rw [jF,h]; exact hK)
noncomputable def Z2:cS:=[(22,.s xSp),(13,.s (tN (dP 10) (pP 10))),(11,.f (FC 10))]
theorem aGU:sp Z2 22=xSp:=rfl
theorem z6:sp Z2 13=tN (dP 10) (pP 10):=rfl
theorem aGF:j5 Z2 11=some (FC 10):=rfl
theorem UG:Meets Tryz.prog 10 qTrue.sp:=by
 refine aE (Γ:=Z2) Tryz.func10 aNH 0 (by rw [Tryz.ntmps10]; decide) (aB N4 (aB (NV 10) (aH (G7 10) (aA _)))) R5 ?_
 rintro av H K ⟨⟨h,rfl⟩,hK⟩
 obtain rfl:av=[]:=h
 have hK:K (bS true) []:=hK
 have fin:∀ R:Hp,W.Fin 0 K (bS true) R:=fun R=>.sel [] (by simp) (by simp) rfl (.done (by simpa [go_sem] using hK))
 clear hK
 have k1:=f6 (show VlOk xV from by
  have hf:∀ k n:Int,cH k->cH n->VlOk (mH k n):=fun k n h1 h2=>tP h1 h2 (by decide)
  refine .mk ⟨by decide,by decide⟩ ⟨by decide,by decide⟩ (by decide) (by decide) (by decide) (fun x h=>by cases h) (fun x hx=>?_) (fun x hx=>?_)
  · have:x=(1,mH 2 (-5))\/x=(4,mH 7 3)\/x=(5,xL):=by simpa using hx
    rcases this with rfl | rfl | rfl<;>exact ⟨by decide,by decide⟩
  · have:x=(1,mH 2 (-5))\/x=(4,mH 7 3)\/x=(5,xL):=by simpa using hx
    rcases this with rfl | rfl | rfl
    · exact hf _ _ ⟨by decide,by decide⟩ ⟨by decide,by decide⟩
    · exact hf _ _ ⟨by decide,by decide⟩ ⟨by decide,by decide⟩
    · refine .mk ⟨by decide,by decide⟩ ⟨by decide,by decide⟩ (by decide) (by decide) (by decide) (fun y hy=>?_) (fun x h=>by cases h) (fun x h=>by cases h)
      have:y=mH 1 1\/y=mH 1 0:=by simpa using hy
      rcases this with rfl | rfl<;>exact hf _ _ ⟨by decide,by decide⟩ ⟨by decide,by decide⟩)
 have k2:=lK xV
 have k4:=jG X9
 have k5:=oN xT
 have k6:=jL TL
 have k7:=oG xS
 have k8:(fG xS xT xV=0->dF 10 xS xT xV)=True:=eq_true fun _=>xDF
 have g0:(x1 == [123,120,32,61,32,45,53,44,32,109,111,100,101,32,61,32,114,117,110,44,32,108,32,61,32,91,116,114,117,101,44,32,102,97,108,115,101,93,125])=true:=by decide +kernel
 have g1:((xV.f.length:Int) == 3)=true:=rfl
 have q1:=fun p=>SB (l:=xV.f) (n:=1) (x:=(4,mH 7 3)) rfl p
 have g2:((4:Int) == 4)=true:=rfl
 have g3:((3:Int) == 3)=true:=rfl
 have g4:((0:Int) == 0)=true:=rfl
 have g5:((2:Int) == 2)=true:=rfl
 have g6:((13:Int) == 13)=true:=rfl
 have g7:((15:Int) == 15)=true:=rfl
 have g8:(1:Int) < (xV.f.length:Int):=by decide
 have g9:(mH 7 3).n=3:=rfl
 simp (maxSteps:=1000000) -dsimp only [go_sem,aDD,aH2,aGU]
 refine ⟨rfl,rfl,?_⟩
 simp (maxSteps:=1000000) -dsimp only [go_sem,aG,aO xT]
 refine aF rfl (.done ?_)
 simp (maxSteps:=1000000) -dsimp only [go_sem,IL]
 refine aF rfl (.done ?_)
 simp (maxSteps:=1000000) -dsimp only [go_sem,JI,z6]
 refine O4 e1 ?_
 simp (maxSteps:=1000000) -dsimp only [go_sem,aX xV]
 refine aF rfl (.done ?_)
 simp (maxSteps:=1000000) -dsimp only [go_sem,GX,z6]
 refine O4 e2 ?_
 simp (maxSteps:=1000000) -dsimp only [go_sem,aX v0]
 refine aF rfl (.done ?_)
 simp (maxSteps:=1000000) -dsimp only [go_sem,I0,z6]
 refine O4 e3 ?_
 simp (maxSteps:=1000000) -dsimp only [go_sem,aX v0]
 refine aF rfl (.done ?_)
 simp (maxSteps:=1000000) -dsimp only [go_sem,HK,z6]
 refine O4 e4 ?_
 simp (maxSteps:=1000000) -dsimp only [go_sem,aX v0]
 refine aF rfl (.done ?_)
 simp (maxSteps:=1000000) -dsimp only [go_sem,HG,aGF,FC,k1,k2,k4,k5,k6,k7,k8,e5,g0,g1,g2,g4,g5,g6,g7,↓q1,beq_self_eq_true]
 exact ⟨⟨by omega,by omega⟩,⟨by omega,by omega⟩,fin _⟩
def B6:PC:=.seq (.gh (.reg [.v 70 12,.q 71 (.bin .eql true (.t 70) (.i 0)),.v 72 71,⟨some 73,(some (72,true)),.l (.ldn 5 (.t 7))⟩,⟨some 74,(some (72,true)),.l (.ldn 5 (.t 11))⟩,⟨some 75,(some (72,true)),.cq 15 [(.t 73),(.t 74)]⟩,.a 76 (.pick (.t 72) (.t 75) (.k (.bool false))),.v 77 76,⟨some 78,(some (77,true)),.l (.ldn 3 (.t 3))⟩,⟨some 79,(some (77,true)),.l (.ldn 4 (.t 4))⟩,⟨some 80,(some (77,true)),.l (.ldn 5 (.t 11))⟩,⟨some 81,(some (77,true)),.cq 11 [(.t 78),(.t 79),(.t 80)]⟩,⟨some 82,(some (77,true)),.q (.mv (.t 10))⟩,⟨some 83,(some (77,true)),.q (.bin .eql true (.t 81) (.t 82))⟩,.a 84 (.pick (.t 77) (.t 83) (.k (.bool false))),.v 85 84,⟨some 86,(some (85,true)),.q (.mv (.t 15))⟩,⟨some 87,(some (85,true)),.q (.bin .eql true (.t 86) (.i 0))⟩,.a 88 (.pick (.t 85) (.t 87) (.k (.bool false))),.v 89 88,⟨some 90,(some (89,true)),.q (.mv (.t 18))⟩,⟨some 91,(some (89,true)),.q (.bin .eql true (.t 90) (.i 0))⟩,.a 92 (.pick (.t 89) (.t 91) (.k (.bool false))),.v 93 92,⟨some 94,(some (93,true)),.q (.mv (.t 14))⟩,⟨some 95,(some (93,true)),.cq 17 [(.t 94)]⟩,⟨some 96,(some (93,true)),.q (.mv (.t 17))⟩,⟨some 97,(some (93,true)),.cq 17 [(.t 96)]⟩,⟨some 98,(some (93,true)),.q (.bin .eql true (.t 95) (.t 97))⟩,.a 99 (.pick (.t 93) (.t 98) (.k (.bool false))),.v 100 99,⟨some 101,(some (100,true)),.cq 10 []⟩,.a 102 (.pick (.t 100) (.t 101) (.k (.bool false))),.v 6 102])) .ret
@[go_sem ↓] theorem aM3:a8 B6:=bB _
def I7:PC:=.seq (.gh (.reg [.v 65 10,.a 66 (.cl 16 [(.t 65)] []),.v 64 66,.q 67 (.ex (.t 64) 0),.q 68 (.ex (.t 64) 1),.q 69 (.ex (.t 64) 2),.v 17 67,.v 18 68,.v 19 69])) (B6)
@[go_sem ↓] theorem aPD:a8 I7:=bB _
def KE:PC:=.seq (.gh (.reg [.v 59 2,.a 60 (.cl 16 [(.t 59)] []),.v 58 60,.q 61 (.ex (.t 58) 0),.q 62 (.ex (.t 58) 1),.q 63 (.ex (.t 58) 2),.v 14 61,.v 15 62,.v 16 63])) (I7)
@[go_sem ↓] theorem aP8:a8 KE:=bB _
def HI:PC:=.seq (.gh (.reg [.l 51 (.ldn 3 (.t 3)),.l 52 (.ldn 4 (.t 4)),.v 53 10,.a 54 (.cl 13 [(.t 51),(.t 52),(.t 53)] []),.v 50 54,.q 55 (.ex (.t 50) 0),.q 56 (.ex (.t 50) 1),.q 57 (.ex (.t 50) 2),.e 11 (.al (.agg #[(.int .i64 0),(.int .i64 0),(.string (mk [])),(.slice none 0 0),(.slice none 0 0)]) 32),.s (.st 5 (.t 11) (.t 55)),.v 12 56,.v 13 57])) (KE)
@[go_sem ↓] theorem aNN:a8 HI:=bB _
def HO:PC:=.seq (.gh (.reg [.l 46 (.ldn 3 (.t 3)),.l 47 (.ldn 4 (.t 4)),.l 48 (.ldn 5 (.t 7)),.a 49 (.cq 11 [(.t 46),(.t 47),(.t 48)]),.v 10 49])) (HI)
@[go_sem ↓] theorem aQI:a8 HO:=bB _
def A0:PC:=.seq (.seq (.gh (.reg [.v 38 8,.q 39 (.bin .neq true (.t 38) (.i 0))])) (.cond (.t 39) (.seq (.reg [.l 40 (.ldn 5 (.t 7)),.q 41 (.bd [(.int .i64 0),(.int .i64 0),(.string (mk [])),(.slice none 0 0),(.slice none 0 0)] []),.a 42 (.cq 15 [(.t 40),(.t 41)]),.v 43 42,⟨some 44,(some (43,true)),.cq 10 []⟩,.a 45 (.pick (.t 43) (.t 44) (.k (.bool false))),.v 6 45]) .ret) .skip)) (HO)
@[go_sem ↓] theorem aQK:a8 A0:=bB _
def GU:PC:=.seq (.gh (.reg [.l 31 (.ldn 3 (.t 3)),.l 32 (.ldn 4 (.t 4)),.v 33 2,.a 34 (.cl 13 [(.t 31),(.t 32),(.t 33)] []),.v 30 34,.q 35 (.ex (.t 30) 0),.q 36 (.ex (.t 30) 1),.q 37 (.ex (.t 30) 2),.e 7 (.al (.agg #[(.int .i64 0),(.int .i64 0),(.string (mk [])),(.slice none 0 0),(.slice none 0 0)]) 32),.s (.st 5 (.t 7) (.t 35)),.v 8 36,.v 9 37])) (A0)
@[go_sem ↓] theorem aQZ:a8 GU:=bB _
def PI:PC:=.seq (.reg [.e 3 (.bx 25 (.t 0)),.e 4 (.bx 28 (.t 1)),.q 6 (.mv (.k (.bool false)))]) (.seq (.seq (.reg [.l 20 (.ldn 3 (.t 3)),.l 21 (.ldn 4 (.t 4)),.a 22 (.cq 8 [(.t 20),(.t 21)]),.q 23 (.not (.t 22)),.v 24 23,⟨some 25,(some (24,false)),.q (.mv (.t 2))⟩,⟨some 26,(some (24,false)),.q (.lnS (.t 25))⟩,⟨some 27,(some (24,false)),.q (.bin .gtr true (.t 26) (.i 800))⟩,.a 28 (.pick (.t 24) (.k (.bool true)) (.t 27))]) (.cond (.t 28) (.seq (.reg [.a 29 (.cq 10 []),.v 6 29]) .ret) .skip)) (GU))
def OG:List RV:=[.mv (.t 6)]
theorem aO1:aM Tryz.prog true ⟨fun r k=>if r=1/\k=2 then .q else if r=2/\k=0 then .q else if r=5/\k=2 then .q else if r=5/\k=4 then .q else if r=6/\k=3 then .q else if r=10/\k=5 then .q else if r=10/\k=11 then .q else if r=10/\k=25 then .q else if r=10/\k=27 then .q else if r=10/\k=31 then .q else .own [],fun r=>[3,4,6,7,8,9,10].contains r⟩ Tryz.f7=some (PI,OG):=by kernel_rfl
theorem YZ {s:Sc} (hd:Dg s):∀ (B:Nat) (t:Ty),t.h<=B->valF s.ss s.es t=true->qV s t<=B + 6
 | 0,t,h,_=>by have:=t.h_pos; omega
 | B + 1,t,h,hv=>by
  cases h5:t.k == 5 with
  | true=>
   obtain ⟨u,he,hu⟩:=JM hv h5
   have hh:u.h<=B:=by
    obtain ⟨k,z,n,e⟩:=t
    have he:e=[u]:=he
    subst he
    rw [Ty.h,Ty.hs,Ty.hs] at h
    omega
   have:=YZ hd B u hh hu
   rw [C3 h5 he]; omega
  | false=>
  cases h6:t.k == 6 with
  | true=>have:=(vM hd hv h6).2.1; rw [AC h6]; omega
  | false=>
   have:qV s t=0:=by
    obtain ⟨k,z,n,e⟩:=t
    have h5:(k == 5)=false:=h5
    have h6:(k == 6)=false:=h6
    unfold qV b8
    rw [cP,h5,aD]
    show ((0:Nat):Int) + (bif k == 6 then dD s.ss n else 0)=0
    rw [h6]; rfl
   omega
theorem aH6 {t:Ty} (h:fewT t=true):t.h<=9:=by
 obtain ⟨k,s,n,e⟩:=t
 have h1:=(OH h).1.2.2
 have:=PD 20 (.mk k s n e) (by omega)
 omega
theorem aH0 {s:Sc} {t:Ty} (hs:s.fit) (hd:Dg s) (ht:TyOk t) (hf:fewT t=true) (hv:valF s.ss s.es t=true):dP 16 s t:=
 OI hs hd 16 t ht hv (by have:=YZ hd 9 t (aH6 hf) hv; omega)
theorem PJ:VlOk v0:=tP ⟨by decide,by decide⟩ ⟨by decide,by decide⟩ (by decide)
theorem Q1 {s:Sc} {t:Ty} (hs:s.fit) (ht:TyOk t) (hD:mZ s t=true->dP 16 s t) (x:List UInt8):VlOk (fK (pP 16) s t x).1:=by
 unfold fK
 cases h1:mZ s t with
 | false=>exact PJ
 | true=>
  rw [Bool.not_true,aD]
  cases h2:(aQ x).err != 0 with
  | true=>exact PJ
  | false=>
   rw [aD]
   have hts:=AX (l:=x) (by simpa using h2)
   have:=F5 hs hts 16 t ⟨false,0,0⟩ ht (hD h1) hts.e.pos
   unfold CV
   generalize pP 16 s (aQ x).toks t ⟨false,0,0⟩=r at *
   cases (rN (aQ x).toks r.2).bad<;>cases fG s t r.1 != 0<;>first | exact PJ | exact this
def F2:List S->Prop:=fun av=>match av with
 | [.va (.gs r),.va (.gs q),.va (.c1 (.vl (.string x)))]=>r8 r/\fL q/\x.size<=9223372036854775807
 | _=>False
theorem zT {av:List S} (h:F2 av):∃ s t x,av=[.va (.gs (aG s)),.va (.gs (aN t)),tS x]/\s.ok/\TyOk t/\x.size<=9223372036854775807:=by
 unfold F2 at h
 split at h
 · obtain ⟨⟨s,rfl,h1⟩,⟨t,rfl,h2⟩,h3⟩:=h; exact ⟨s,t,_,rfl,h1,h2,h3⟩
 · exact h.elim
def lpFn:Fun:=⟨F2,fun _=>bA true,fun _ _=>trivial⟩
attribute [go_sem] lpFn F2
theorem aCQ {s:Sc} {t:Ty} (hs:s.ok) (h:uW s t=true):s.fit/\Dg s/\fewT t=true:=by
 have hf:=(aCU hs h).1
 unfold uW at h
 rw [Bool.and_eq_true,Bool.and_eq_true] at h
 exact ⟨hf,aJI hf (eq_of_beq h.2),h.1.2⟩
def oF (rest:List UInt8):Prop:=∀ c,rest[0]? = some c->aU c=false/\(c == 45)=false
theorem T4 {p:UInt8->Bool} (hp:∀ c,aU c=false->p c=false) {x rest:List UInt8} (hx:∀ c ∈ x,p c=true) (hr:oF rest):(x ++ rest).takeWhile p=x:=by
 induction x with
 | nil=>
  cases rest with
  | nil=>rfl
  | cons c r=>rw [List.nil_append,List.takeWhile_cons,hp c (hr c rfl).1]; rfl
 | cons c x ih=>rw [List.cons_append,List.takeWhile_cons,if_pos (hx c (by simp)),ih fun d hd=>hx d (by simp [hd])]
theorem J9 {p:UInt8->Bool} (hp:∀ c,aU c=false->p c=false) {l x rest:List UInt8} {a:Nat} (h:l.drop a=x ++ rest) (hx:∀ c ∈ x,p c=true) (hr:oF rest):bC p l a=a + x.length:=by
 rw [bC,h,T4 hp hx hr]
theorem VO (c:UInt8) (h:aU c=false):a7 c=false:=by
 have:=cN (p:=fun c=>aU c || !a7 c) (by decide +kernel) c
 rw [h] at this
 simpa using this
theorem HS {l x rest:List UInt8} {a:Nat} (h:l.drop a=x ++ rest) (hr:oF rest) (hx:cC x=true):cF l a=.ok 1 x 0 (a + x.length)/\∃ c,l[a]? = some c/\(c == 32 || c == 9 || c == 10)=false/\(c == 35)=false:=by
 obtain ⟨c,h0,h1,h2,h3⟩:=(JG x).1 hx
 have hc:l[a]? = some c:=by
  cases x with
  | nil=>cases h0
  | cons d x=>simp at h0; subst h0; exact uI h
 have hz:bC aU l a=a + x.length:=J9 (fun _ h=>h) h h3 hr
 have hsk:=cN (p:=fun c=>!(bD c.toNat) || (!(c == 32 || c == 9 || c == 10) && !(c == 35))) (by decide +kernel) c
 simp only [h2,Bool.not_true,Bool.false_or,Bool.and_eq_true,Bool.not_eq_true'] at hsk
 refine ⟨?_,c,hc,hsk⟩
 have hn:(l[a + x.length]? == some 45)=false:=by
  have:=G9 h 0
  rw [Nat.add_zero] at this
  rw [this]
  cases hq:rest[0]? with
  | none=>rfl
  | some d=>exact (hr d hq).2
 have h16:decide (16 < a + x.length - a)=false:=by simp; omega
 simp only [cF,hc,h2,aI,fJ,hz,h16,hn,aD,JA h]
theorem LV {l rest:List UInt8} {a:Nat} {n:Int} (h:l.drop a=dS n ++ rest) (hr:oF rest) (h1:-9223372036854775808<=n) (h2:n<=9223372036854775807) :
 cF l a=.ok 2 [] n (a + (dS n).length)/\∃ c,l[a]? = some c/\(c == 32 || c == 9 || c == 10)=false/\(c == 35)=false:=by
 have hm:n.natAbs < 10 ^ (19 + 1):=by omega
 have hd:=xM 19 n.natAbs hm
 obtain ⟨c0,ds,hds⟩:∃ c ds,digs n.natAbs=c :: ds:=by
  cases hq:digs n.natAbs with
  | nil=>exact absurd hq (C7 _)
  | cons c ds=>exact ⟨c,ds,rfl⟩
 have hc0:=iU.1 (hd c0 (by rw [hds]; simp))
 have hlim:∀ neg,neg=decide (n < 0)->valL (b6 neg) 0 (digs n.natAbs)=some n.natAbs/\signed neg n.natAbs=n:=fun neg hn=>by
  rw [rU (by cases neg<;>decide) _ _ (Nat.zero_le _) hd,tD 19 _ hm]
  have:n.natAbs<=b6 neg:=by subst hn; unfold b6; cases hh:decide (n < 0)<;>simp at hh ⊢<;>omega
  refine ⟨by simp [this],?_⟩
  subst hn; unfold signed; cases hh:decide (n < 0)<;>simp at hh ⊢<;>omega
 have fin:∀ (f:Nat) (neg:Bool),neg=decide (n < 0)->l.drop f=digs n.natAbs ++ rest->(l[a]? == some 45)=neg->(bif neg then a + 1 else a)=f->fM l a=.ok 2 [] n (f + (digs n.natAbs).length):=fun f neg hn hf hng hff=>by
  have hz:bC a7 l f=f + (digs n.natAbs).length:=J9 VO hf hd hr
  have hw:kY l (f + (digs n.natAbs).length)=false:=by
   have:=G9 hf 0
   rw [Nat.add_zero] at this
   unfold kY
   rw [this]
   cases hq:rest[0]? with
   | none=>rfl
   | some d=>show (aU d && !a7 d || d == 45)=false; rw [(hr d hq).1,(hr d hq).2]; rfl
  have hs:((digs n.natAbs == []) || ((digs n.natAbs)[0]? == some 48 && (decide (1 < (digs n.natAbs).length) || neg)))=false:=by
   rcases bF 0 n.natAbs with h0 | h0
   · have h3:=uO 19 n.natAbs hm h0
     have e1:((digs n.natAbs)[0]? == some 48)=false:=by rw [beq_eq_false_iff_ne]; exact h3
     have e2:(digs n.natAbs == [])=false:=by rw [beq_eq_false_iff_ne]; exact C7 _
     rw [e1,e2]; rfl
   · obtain rfl:n=0:=by omega
     subst hn
     rw [show (0:Int).natAbs=0 from rfl,kP (by omega)]; decide
  simp only [fM,hng,hff,hz,JA hf,hs,aD,(hlim neg hn).1,hw,(hlim neg hn).2]
 cases hn:decide (n < 0) with
 | true=>
  have e:dS n=45 :: digs n.natAbs:=by simp only [dS,hn,aI]
  rw [e] at h ⊢
  have hc:=uI h
  refine ⟨?_,45,hc,by decide,by decide⟩
  have e1:bD ((45:UInt8).toNat:Int)=false:=by decide
  have e2:(a7 45 || (45:UInt8) == 45)=true:=by decide
  simp only [cF,hc,e1,e2,aD,aI]
  rw [fin (a + 1) true hn.symm (MU h) (by rw [hc]; decide) rfl]
  simp; omega
 | false=>
  have e:dS n=digs n.natAbs:=by simp only [dS,hn,aD]
  rw [e] at h ⊢
  have hc:l[a]? = some c0:=by rw [hds] at h; exact uI h
  have hsk:=cN (p:=fun c=>!(a7 c) || ((!(c == 32 || c == 9 || c == 10) && !(c == 35)) && (!(bD c.toNat) && !(c == 45)))) (by decide +kernel) c0
  have hd0:=hd c0 (by rw [hds]; simp)
  simp only [hd0,Bool.not_true,Bool.false_or,Bool.and_eq_true,Bool.not_eq_true'] at hsk
  obtain ⟨h3,h4,h5⟩:=hsk
  refine ⟨?_,c0,hc,h3⟩
  simp only [cF,hc,h4,hd0,Bool.true_or,aD,aI]
  exact fin a false hn.symm h (by rw [hc]; simpa using h5) rfl
theorem M8 {l rest:List UInt8} {a:Nat} {t:Tx} (hf:TkFit t) (ho:gE t.k t.x t.n=true) (h:l.drop a=dA t.k t.x t.n ++ rest) (hr:t.k=1\/t.k=2->oF rest) :
 cF l a=.ok t.k t.x t.n (a + (dA t.k t.x t.n).length)/\t.k ≠ 0/\∃ c,l[a]? = some c/\(c == 32 || c == 9 || c == 10)=false/\(c == 35)=false:=by
 obtain ⟨k,x,n,b⟩:=t
 have hlo:=hf.lo; have hhi:=hf.hi
 simp only at ho h hlo hhi ⊢
 unfold gE at ho
 cases h1:k == 1 with
 | true=>
  obtain rfl:k=1:=by simpa using h1
  simp only [h1,aI,Bool.and_eq_true,beq_iff_eq] at ho
  obtain ⟨rfl,ho⟩:=ho
  have e:dA 1 x 0=x:=rfl
  rw [e] at h ⊢
  exact ⟨(HS h (hr (.inl rfl)) ho).1,by decide,(HS h (hr (.inl rfl)) ho).2⟩
 | false=>
 cases h2:k == 2 with
 | true=>
  obtain rfl:k=2:=by simpa using h2
  simp only [h1,h2,aI,aD,beq_iff_eq] at ho
  subst ho
  have e:dA 2 [] n=dS n:=rfl
  rw [e] at h ⊢
  exact ⟨(LV h (hr (.inr rfl)) hlo hhi).1,by decide,(LV h (hr (.inr rfl)) hlo hhi).2⟩
 | false=>
 cases h3:k == 3 with
 | true=>
  obtain rfl:k=3:=by simpa using h3
  simp only [h1,h2,h3,aI,aD,Bool.and_eq_true,beq_iff_eq,decide_eq_true_eq] at ho
  obtain ⟨rfl,hl,hx⟩:=ho
  have e:dA 3 x 0=iO x:=rfl
  rw [e] at h ⊢
  exact ⟨(DV h hl hx).1,by decide,(DV h hl hx).2⟩
 | false=>
 cases h4:k == 4 with
 | false=>simp only [h1,h2,h3,h4,aD] at ho; cases ho
 | true=>
  obtain rfl:k=4:=by simpa using h4
  simp only [h1,h2,h3,h4,aI,aD,Bool.and_eq_true,beq_iff_eq] at ho
  obtain ⟨rfl,ho⟩:=ho
  have e:dA 4 x 0=x:=rfl
  rw [e] at h ⊢
  match x,ho with
  | [c],ho=>exact ⟨(EU h ho).1,by decide,(EU h ho).2⟩
  | [],ho=>cases ho
  | _ :: _ :: _,ho=>cases ho
def y4 (g:List UInt8):Prop:=∀ rest,dE false (g ++ rest)=g.length + dE false rest
theorem kQ:y4 []:=fun rest=>by simp
abbrev hU:Type:=List (List UInt8 × Tx)
def cG:hU->List UInt8
 | []=>[]
 | (g,t) :: r=>g ++ (sZ t ++ cG r)
def eX:hU->Prop
 | []=>True
 | (g,t) :: r=>y4 g/\TkFit t/\okT t=true/\(t.k=1\/t.k=2->oF (cG r))/\eX r
theorem IV {l:List UInt8}:∀ (us:hU) (f a:Nat),eX us->a<=l.length->l.length < f + a->l.drop a=cG us->
 ∃ ms,c8 f l a=.ok ms/\ms.map cQ=us.map (fun u=>wM u.2) ++ [(0,[],0)]
 | [],f,a,_,hle,hlt,h=>by
  have ha:l.length<=a:=List.drop_eq_nil_iff.1 h
  obtain ⟨f,rfl⟩:∃ g,f=g + 1:=⟨f - 1,by omega⟩
  have hn:l[a]? = none:=List.getElem?_eq_none ha
  exact ⟨[⟨0,[],0,a⟩],by rw [c8,x7 ha]; simp [cF,hn],rfl⟩
 | (g,u) :: us,f,a,⟨hg,hf,ho,hs,hok⟩,hle,hlt,h=>by
  have h':l.drop a=g ++ (sZ u ++ cG us):=h
  have h1:l.drop (a + g.length)=sZ u ++ cG us:=by rw [<-List.drop_drop,h',List.drop_left]
  obtain ⟨ht,hk,c,hc,hb,hh⟩:=M8 hf ho h1 hs
  have hlc:=(a6.1 hc).1
  obtain ⟨f,rfl⟩:∃ g,f=g + 1:=⟨f - 1,by omega⟩
  have hsk:bI l a=a + g.length:=by
   have e:=BU hc hb hh
   unfold bI at e ⊢
   rw [h',hg,<-h1]
   omega
  have h2:l.drop (a + g.length + (sZ u).length)=cG us:=by rw [<-List.drop_drop,h1,List.drop_left]
  have hlen:a + g.length + (sZ u).length<=l.length:=by
   have:=congrArg List.length h1
   rw [List.length_drop,List.length_append] at this
   omega
  have hne:0 < (sZ u).length:=by
   rcases Nat.eq_zero_or_pos (sZ u).length with h0 | h0
   · have e0:sZ u=[]:=List.eq_nil_of_length_eq_zero h0
     obtain ⟨_,_,c,hc,_⟩:=M8 (l:=sZ u) (a:=0) (rest:=[]) hf ho (by simp) (fun _ c hc=>by cases hc)
     rw [e0] at hc; cases hc
   · exact h0
  obtain ⟨ms,hm,hmm⟩:=IV us f (a + g.length + (sZ u).length) hok hlen (by omega) h2
  have hk0:(u.k == 0)=false:=by simpa using hk
  refine ⟨⟨u.k,u.x,u.n,a + g.length⟩ :: ms,?_,by simp [hmm]⟩
  rw [c8,hsk,ht]
  simp only [hk0,aD,hm,SR.cons]
theorem IM {us:hU} (hok:eX us) (hl:(cG us).length<=4000):(aQ (cG us)).err=0/\(aQ (cG us)).toks.map cQ=us.map (fun u=>wM u.2) ++ [(0,[],0)]:=by
 obtain ⟨ms,h1,h2⟩:=IV (l:=cG us) us ((cG us).length + 1) 0 hok (Nat.zero_le _) (by omega) rfl
 have h4:decide (4000 < (cG us).length)=false:=by simp; omega
 unfold aQ
 rw [h4,aD,h1]
 exact ⟨rfl,h2⟩
theorem kM:∀ (a b:hU),cG (a ++ b)=cG a ++ cG b
 | [],b=>rfl
 | (g,t) :: r,b=>by rw [List.cons_append,cG,cG,kM r b]; simp [List.append_assoc]
def eM (c:UInt8):Tx:=⟨4,[c],0,0⟩
def uH (x:List UInt8):Tx:=⟨1,x,0,0⟩
def jB (F:Vl->List UInt8->hU):Bool->List Vl->hU
 | _,[]=>[]
 | c,x :: r=>(bif c then [([],eM 44)] else []) ++ (F x (bif c then [32] else []) ++ jB F true r)
def gN (F:Ty->Vl->List UInt8->hU) (u:St):Bool->List (Int × Vl)->hU
 | _,[]=>[]
 | c,x :: r=>(bif c then [([],eM 44)] else []) ++ (((bif c then [32] else []),uH (bl (bH u x.1).nm)) :: ([32],eM 61) :: (F (bH u x.1).ty x.2 [32] ++ gN F u true r))
def b9:Nat->Sc->Ty->Vl->List UInt8->hU
 | 0=>fun _ _ _ _=>[]
 | N + 1=>fun s t v g=>bif t.k == 1 then [(g,uH (uF v.n))] else bif t.k == 4 then [(g,⟨3,bl v.s,0,0⟩)] else bif t.k == 7 then [(g,uH (bl (jI (enOf s t).ns v.n (enOf s t).vs 0)))]
  else bif t.k == 5 then (g,eM 91) :: (jB (b9 N s (t.e.headD default)) false v.l ++ [([],eM 93)])
  else bif t.k == 6 then (g,eM 123) :: (gN (b9 N s) (stOf s t) false v.f ++ [([],eM 125)])
  else [(g,⟨2,[],v.n,0⟩)]
theorem jP (N:Nat) (s:Sc) (t:Ty) (v:Vl) (g:List UInt8):b9 (N + 1) s t v g=bif t.k == 1 then [(g,uH (uF v.n))] else bif t.k == 4 then [(g,⟨3,bl v.s,0,0⟩)] else bif t.k == 7 then [(g,uH (bl (jI (enOf s t).ns v.n (enOf s t).vs 0)))]
 else bif t.k == 5 then (g,eM 91) :: (jB (b9 N s (t.e.headD default)) false v.l ++ [([],eM 93)])
 else bif t.k == 6 then (g,eM 123) :: (gN (b9 N s) (stOf s t) false v.f ++ [([],eM 125)])
 else [(g,⟨2,[],v.n,0⟩)]:=rfl
theorem RT {F:Vl->List UInt8->hU} {f:Vl->List UInt8}:∀ (c:Bool) (l:List Vl),(∀ x ∈ l,∀ g,cG (F x g)=g ++ f x)->cG (jB F c l)=d8 c (l.map f)
 | _,[],_=>rfl
 | c,x :: r,h=>by
  rw [jB,kM,kM,h x (List.mem_cons_self ..),RT true r fun y hy=>h y (List.mem_cons_of_mem _ hy),List.map_cons,d8]
  cases c<;>simp [cG,eM,dA]
theorem TF {F:Ty->Vl->List UInt8->hU} {u:St} {f:Int × Vl->List UInt8}:∀ (c:Bool) (l:List (Int × Vl)),(∀ x ∈ l,∀ g,cG (F (bH u x.1).ty x.2 g)=g ++ f x)->cG (gN F u c l)=d8 c (l.map fun x=>bl (bH u x.1).nm ++ [32,61,32] ++ f x)
 | _,[],_=>rfl
 | c,x :: r,h=>by
  rw [gN,kM,cG,cG,kM,h x (List.mem_cons_self ..),TF true r fun y hy=>h y (List.mem_cons_of_mem _ hy),List.map_cons,d8]
  cases c<;>simp [cG,eM,uH,dA]
theorem BF:∀ (N:Nat) (s:Sc) (t:Ty) (v:Vl) (g:List UInt8),0 < N->v.h<=N->(fP N s t v).2=false->cG (b9 N s t v g)=g ++ (fP N s t v).1
 | 0,_,_,_,_,h,_,_=>absurd h (by decide)
 | N + 1,s,t,v,g,_,hh,hb=>by
  have one:∀ x:Tx,cG [(g,x)]=g ++ sZ x:=fun x=>by simp [cG]
  rw [jV] at hb ⊢
  rw [jP]
  cases c1:t.k == 1 with
  | true=>rw [aI,aI,one]; rfl
  | false=>
  rw [c1,aD] at hb
  cases c4:t.k == 4 with
  | true=>
   rw [c4,aI] at hb
   rw [aD,aI,aD,aI,one]
   unfold oA at hb ⊢
   cases hp:decide ((bl v.s).length<=200) && (bl v.s).all fN with
   | true=>rfl
   | false=>rw [hp] at hb; cases hb
  | false=>
  rw [c4,aD] at hb
  cases c7:t.k == 7 with
  | true=>rw [aD,aD,aI,aD,aD,aI,one]; rfl
  | false=>
  rw [c7,aD] at hb
  cases c5:t.k == 5 with
  | true=>
   rw [c5,aI] at hb
   have hb:=fT hb
   simp only [aD,aI]
   rw [cG,kM,RT false v.l (f:=fun x=>(fP N s (t.e.headD default) x).1) fun x hx g=>BF N s _ x g (by have:=Vl.h_l hx; have:=x.h_pos; omega) (by have:=Vl.h_l hx; omega) (hb x hx)]
   simp [nG,cG,eM,dA]
  | false=>
  rw [c5,aD] at hb
  cases c6:t.k == 6 with
  | true=>
   rw [c6,aI] at hb
   have hb:=fT hb
   simp only [aD,aI]
   rw [cG,kM,TF false v.f (f:=fun x=>(fP N s (bH (stOf s t) x.1).ty x.2).1) fun x hx g=>BF N s _ x.2 g (by have:=Vl.h_f hx; have:=x.2.h_pos; omega) (by have:=Vl.h_f hx; omega) (hb x hx)]
   have e:w4 (fP N) s (stOf s t)=fun x=>bl (bH (stOf s t) x.1).nm ++ [32,61,32] ++ (fP N s (bH (stOf s t) x.1).ty x.2).1:=rfl
   unfold jS
   rw [e]
   simp [cG,eM,dA]
  | false=>simp only [aD]; rw [one]; rfl
theorem AD:y4 [32]:=fun rest=>by
 rw [List.cons_append,List.nil_append]
 show dE false (32 :: rest)=1 + dE false rest
 rw [Nat.add_comm]
 simp [dE]
theorem oJ {c:UInt8} {r:List UInt8} (h1:aU c=false) (h2:(c == 45)=false):oF (c :: r):=fun d hd=>by
 simp at hd; subst hd; exact ⟨h1,h2⟩
theorem kN {c:UInt8} {g:List UInt8} {r:hU} (hg:y4 g) (hc:dB c.toNat=true) (hr:eX r):eX ((g,eM c) :: r):=by
 refine ⟨hg,⟨by show (-9223372036854775808:Int)<=0; decide,by show (0:Int)<=9223372036854775807; decide,by show 1<=100000; decide⟩,?_,fun h=>(by rcases h with h | h<;>cases h),hr⟩
 show ((0:Int) == 0 && dB c.toNat)=true
 rw [hc]; rfl
theorem xY {x g:List UInt8} {r:hU} (hg:y4 g) (hx:cC x=true) (hr:eX r) (hs:oF (cG r)):eX ((g,uH x) :: r):=by
 refine ⟨hg,⟨by show (-9223372036854775808:Int)<=0; decide,by show (0:Int)<=9223372036854775807; decide,by show x.length<=100000; have:=rI hx; omega⟩,?_,fun _=>hs,hr⟩
 show ((0:Int) == 0 && cC x)=true
 rw [hx]; rfl
theorem NG {F:Vl->List UInt8->hU} {rest:hU} (h1:eX rest) (h2:oF (cG rest)):∀ (c:Bool) (l:List Vl),(∀ x ∈ l,∀ g r,y4 g->eX r->oF (cG r)->eX (F x g ++ r))->eX (jB F c l ++ rest)/\(c=true->oF (cG (jB F c l ++ rest)))
 | _,[],_=>⟨h1,fun _=>h2⟩
 | c,x :: r,h=>by
  obtain ⟨i1,i2⟩:=NG h1 h2 true r fun y hy=>h y (List.mem_cons_of_mem _ hy)
  have hx:=fun g hg=>h x (List.mem_cons_self ..) g (jB F true r ++ rest) hg i1 (i2 rfl)
  cases c with
  | false=>
   rw [jB,aD,aD,List.nil_append,List.append_assoc]
   exact ⟨hx [] kQ,fun h=>by cases h⟩
  | true=>
   rw [jB,aI,aI,List.singleton_append,List.cons_append,List.append_assoc]
   exact ⟨kN kQ (by decide) (hx [32] AD),fun _=>oJ (by decide) (by decide)⟩
theorem NN {F:Ty->Vl->List UInt8->hU} {u:St} {rest:hU} (h1:eX rest) (h2:oF (cG rest)):∀ (c:Bool) (l:List (Int × Vl)),(∀ x ∈ l,cC (bl (bH u x.1).nm)=true/\∀ g r,y4 g->eX r->oF (cG r)->eX (F (bH u x.1).ty x.2 g ++ r))->eX (gN F u c l ++ rest)/\(c=true->oF (cG (gN F u c l ++ rest)))
 | _,[],_=>⟨h1,fun _=>h2⟩
 | c,x :: r,h=>by
  obtain ⟨i1,i2⟩:=NN h1 h2 true r fun y hy=>h y (List.mem_cons_of_mem _ hy)
  obtain ⟨hn,hx⟩:=h x (List.mem_cons_self ..)
  have hx:=hx [32] (gN F u true r ++ rest) AD i1 (i2 rfl)
  have hy:∀ g,y4 g->eX ((g,uH (bl (bH u x.1).nm)) :: ([32],eM 61) :: (F (bH u x.1).ty x.2 [32] ++ (gN F u true r ++ rest))):=fun g hg=>
   xY hg hn (kN AD (by decide) hx) (oJ (by decide) (by decide))
  cases c with
  | false=>
   rw [gN,aD,aD,List.nil_append,List.cons_append,List.cons_append,List.append_assoc]
   exact ⟨hy [] kQ,fun h=>by cases h⟩
  | true=>
   rw [gN,aI,aI,List.singleton_append,List.cons_append,List.cons_append,List.cons_append,List.append_assoc]
   exact ⟨kN kQ (by decide) (hy [32] AD),fun _=>oJ (by decide) (by decide)⟩
theorem L5 {ns:List ByteArray} {n:Int}:∀ (l:List Int) (i:Nat),l.length + i=ns.length->(l.any fun x=>x == n)=true->jI ns n l i ∈ ns
 | [],_,_,h=>by cases h
 | m :: l,i,hl,h=>by
  rw [jI]
  rw [List.length_cons] at hl
  have hi:decide ((i:Int) < (ns.length:Int))=true:=by simp; omega
  rw [hi,Bool.and_true]
  cases hc:m == n with
  | true=>
   rw [aI,List.getD_eq_getElem?_getD,aW (show i < ns.length by omega)]
   exact List.getElem_mem _
  | false=>
   rw [List.any_cons,hc,Bool.false_or] at h
   exact L5 l (i + 1) (by omega) h
theorem KV {u:St} {x:Int} (h:(fF u.fs x).isSome=true):bH u x ∈ u.fs:=by
 obtain ⟨f,hf⟩:=Option.isSome_iff_exists.1 h
 unfold bH
 rw [hf]
 exact List.mem_of_find?_eq_some hf
theorem HR {fs:List Fl}:∀ {l:List (Int × Vl)} {p:Option Int},ftA fs p l=true->∀ x ∈ l,(fF fs x.1).isSome=true
 | y :: l,p,h,x,hx=>by
  rw [kJ,Bool.and_eq_true,Bool.and_eq_true] at h
  rcases List.mem_cons.1 hx with rfl | hx
  · exact h.1.1
  · exact HR h.2 x hx
theorem QA {u:St} {l:List (Int × Vl)} (h:dR u.fs l=true):∀ x ∈ l,bH u x.1 ∈ u.fs:=fun x hx=>by
 unfold dR at h
 rw [Bool.and_eq_true] at h
 exact KV (HR h.1 x hx)
theorem MP:∀ {l:List Vl},pF l=true->∀ x ∈ l,jO x=true
 | y :: l,h,x,hx=>by
  rw [pF,Bool.and_eq_true] at h
  rcases List.mem_cons.1 hx with rfl | hx
  · exact h.1
  · exact MP h.2 x hx
theorem LO:∀ {l:List (Int × Vl)},oW l=true->∀ x ∈ l,jO x.2=true
 | y :: l,h,x,hx=>by
  rw [yL,Bool.and_eq_true] at h
  rcases List.mem_cons.1 hx with rfl | hx
  · exact h.1
  · exact LO h.2 x hx
theorem vD:∀ (N:Nat) (s:Sc) (t:Ty) (v:Vl) (g:List UInt8) (rest:hU),Nice s->VlOk v->v.h<=N->eL s t v=0->jO v=true->y4 g->eX rest->oF (cG rest)->eX (b9 N s t v g ++ rest)
 | 0,_,_,v,_,_,_,_,h,_,_,_,_,_=>by have:=v.h_pos; omega
 | N + 1,s,t,v,g,rest,hn,hv,hh,h0,hp,hg,hr,hs=>by
  have hc:=nS h0
  rw [jP]
  rw [qD,Bool.and_eq_true,Bool.and_eq_true,Bool.and_eq_true] at hp
  obtain ⟨⟨p1,p2⟩,p3,p4⟩:=hp
  cases c1:t.k == 1 with
  | true=>
   refine xY hg ?_ hr hs
   unfold uF; cases v.n == 1<;>decide
  | false=>
  rw [aD]
  cases c4:t.k == 4 with
  | true=>
   refine ⟨hg,⟨by show (-9223372036854775808:Int)<=0; decide,by show (0:Int)<=9223372036854775807; decide,by show (bl v.s).length<=100000; have:=of_decide_eq_true p1; omega⟩,?_,fun h=>(by rcases h with h | h<;>cases h),hr⟩
   show ((0:Int) == 0 && (decide ((bl v.s).length<=200) && (bl v.s).all fN))=true
   rw [p1,p2]; rfl
  | false=>
  rw [aD]
  cases c7:t.k == 7 with
  | true=>
   refine xY hg ?_ hr hs
   have hrg:=(hc.nu c4 (b7 c7 (by decide)) (b7 c7 (by decide))).2.2.2
   unfold s3 at hrg
   rw [c1,b7 c7 (b:=2) (by decide),b7 c7 (b:=3) (by decide),c7] at hrg
   have hen:=hn.enOf t
   exact hen.m _ (L5 (enOf s t).vs 0 (by rw [hen.l]; rfl) hrg)
  | false=>
  rw [aD]
  cases c5:t.k == 5 with
  | true=>
   obtain ⟨_,e1,e2,e4,e3⟩:=hc.ls c5
   have h93:eX (([],eM 93) :: rest):=kN kQ (by decide) hr
   have:=(NG h93 (oJ (by decide) (by decide)) false v.l fun x hx g r q1 q2 q3=>vD N s (t.e.headD default) x g r hn (hv.l x hx) (by have:=Vl.h_l hx; omega) (e3 x hx) (MP p3 x hx) q1 q2 q3).1
   rw [aI,List.cons_append,List.append_assoc]
   exact kN hg (by decide) this
  | false=>
  rw [aD]
  cases c6:t.k == 6 with
  | true=>
   obtain ⟨_,e1,e2,e4,e3⟩:=hc.st c6
   have h93:eX (([],eM 125) :: rest):=kN kQ (by decide) hr
   have hm:=QA e4
   have:=(NN h93 (oJ (by decide) (by decide)) false v.f fun x hx=>⟨(hn.stOf t).m _ (hm x hx),fun g r q1 q2 q3=>vD N s _ x.2 g r hn (hv.f x hx) (by have:=Vl.h_f hx; omega) (e3 x hx) (LO p4 x hx) q1 q2 q3⟩).1
   rw [aI,List.cons_append,List.append_assoc]
   exact kN hg (by decide) this
  | false=>
   refine ⟨hg,⟨hv.n.1,hv.n.2,by show 0<=100000; decide⟩,rfl,fun _=>hs,hr⟩
abbrev jQ:Type:=Int × List UInt8 × Int
def bU (l:hU):List jQ:=l.map fun u=>wM u.2
theorem eY (a b:hU):bU (a ++ b)=bU a ++ bU b:=List.map_append
theorem OA (N:Nat) (s:Sc) (t:Ty) (v:Vl) (g:List UInt8):bU (b9 N s t v g)=bU (b9 N s t v []):=by
 cases N with
 | zero=>rfl
 | succ N=>
  rw [jP,jP]
  cases t.k == 1<;>cases t.k == 4<;>cases t.k == 7<;>cases t.k == 5<;>cases t.k == 6<;>rfl
theorem iW {ts:List Tk} {n:Nat} {k m:Int} {x:List UInt8} {R:List jQ} (h:(ts.map cQ).drop n=(k,x,m) :: R):n < ts.length/\(aT ts n).k=k/\(aT ts n).x=x/\(aT ts n).n=m/\(ts.map cQ).drop (n + 1)=R:=by
 have h1:n < (ts.map cQ).length:=by
  rcases bF n (ts.map cQ).length with h1 | h1
  · exact h1
  · rw [List.drop_eq_nil_iff.2 h1] at h; cases h
 rw [List.drop_eq_getElem_cons h1] at h
 obtain ⟨h2,h3⟩:=List.cons.inj h
 have hn:n < ts.length:=by simpa using h1
 have e:aT ts n=ts[n]:=by unfold aT; simp [List.getD_eq_getElem?_getD,aW hn]
 rw [List.getElem_map] at h2
 simp only [cQ,Prod.mk.injEq] at h2
 exact ⟨hn,by rw [e]; exact h2.1,by rw [e]; exact h2.2.1,by rw [e]; exact h2.2.2,h3⟩
theorem nM {ts:List Tk} {n:Nat} {y:jQ} {R:List jQ} (h:(ts.map cQ).drop n=y :: R) (hR:R ≠ []):n + 1 < ts.length/\bN ts n=n + 1:=by
 have h1:n + 1 < ts.length:=by
  have:=congrArg List.length h
  rw [List.length_drop,List.length_map,List.length_cons] at this
  have:0 < R.length:=List.length_pos_iff.2 hR
  omega
 exact ⟨h1,if_pos h1⟩
theorem AB {ts:List Tk} {n:Nat} {xs R:List jQ} (h:(ts.map cQ).drop n=xs ++ R):(ts.map cQ).drop (n + xs.length)=R:=by
 rw [<-List.drop_drop,h,List.drop_left]
abbrev cK (c:UInt8):jQ:=(4,[c],0)
theorem aCN {ts:List Tk} {n:Nat} {c:UInt8} {R:List jQ} (h:(ts.map cQ).drop n=cK c :: R):cX 4 [c] (aT ts n)=true:=by
 obtain ⟨_,h1,h2,_⟩:=iW h
 unfold cX
 rw [h1,h2]; simp
theorem kT {ts:List Tk} {n:Nat} {c:UInt8} {R:List jQ} (h:(ts.map cQ).drop n=cK c :: R) (hR:R ≠ []):bM [c] ts (bP n)=bP (n + 1)/\cB [c] ts (bP n)=true/\bR [c] ts (bP n)=bP (n + 1):=by
 have h1:=aCN h
 have h2:=(nM h hR).2
 refine ⟨?_,by rw [qN,h1],?_⟩
 · unfold bM; rw [qN,h1,h2]; rfl
 · unfold bR; rw [qN,h1,h2]; rfl
theorem KA {ts:List Tk} {n:Nat} {c:UInt8} {k m:Int} {x:List UInt8} {R:List jQ} (h:(ts.map cQ).drop n=(k,x,m) :: R) (hne:¬ (k=4/\x=[c])):cB [c] ts (bP n)=false:=by
 obtain ⟨_,h1,h2,_⟩:=iW h
 rw [qN]
 unfold cX
 rw [h1,h2,Bool.eq_false_iff]
 intro hh
 rw [Bool.and_eq_true] at hh
 exact hne ⟨eq_of_beq hh.1,eq_of_beq hh.2⟩
theorem uU {α β:Type} {one:α->Fs->α × Fs} {ts:List Tk} {tk:β->List jQ} {upd:α->β->α} {I:α->List β->Prop}
 (hs:∀ a x r n R,I a (x :: r)->R ≠ []->(ts.map cQ).drop n=tk x ++ R->one a (bP n)=(upd a x,bP (n + (tk x).length))/\I (upd a x) r) {c:UInt8} (hc:c ≠ 44) :
 ∀ (r:List β) (x:β) (a:α) (n f:Nat) (R:List jQ),I a (x :: r)->r.length < f->(ts.map cQ).drop n=tk x ++ (r.flatMap (fun y=>cK 44 :: tk y) ++ cK c :: R)->R ≠ []->
  hY one ts f a (bP n)=((x :: r).foldl upd a,bP (n + (tk x ++ r.flatMap fun y=>cK 44 :: tk y).length))
 | r,x,a,n,0,R,_,h,_,_=>absurd h (Nat.not_lt_zero _)
 | r,x,a,n,f + 1,R,hI,hf,hd,hR=>by
  obtain ⟨h1,h2⟩:=hs a x r n _ hI (by simp) hd
  have hd2:=AB hd
  rw [iL]
  simp only [aD,h1]
  cases r with
  | nil=>
   rw [List.flatMap_nil,List.nil_append] at hd2
   rw [KA hd2 fun h=>hc (List.cons.inj h.2).1,List.flatMap_nil,List.append_nil]
   rfl
  | cons y r=>
   rw [List.flatMap_cons,List.cons_append,List.cons_append,List.append_assoc] at hd2
   obtain ⟨_,m2,m3⟩:=kT hd2 (by simp)
   have hd3:=(iW hd2).2.2.2.2
   rw [m2,m3,aI,uU hs hc r y (upd a x) (n + (tk x).length + 1) f R h2 (by simp at hf; omega) hd3 hR]
   rw [List.foldl_cons,show n + (tk x).length + 1 + (tk y ++ r.flatMap fun y=>cK 44 :: tk y).length=n + (tk x ++ (y :: r).flatMap fun y=>cK 44 :: tk y).length by
    simp only [List.flatMap_cons,List.length_append,List.length_cons]
    omega]
   rfl
def xC (N:Nat) (s:Sc) (u:St) (x:Int × Vl):List jQ:=(1,bl (bH u x.1).nm,0) :: cK 61 :: bU (b9 N s (bH u x.1).ty x.2 [])
theorem YC (N:Nat) (s:Sc) (u:Ty):∀ l:List Vl,bU (jB (b9 N s u) true l)=l.flatMap fun y=>cK 44 :: bU (b9 N s u y [])
 | []=>rfl
 | x :: r=>by
  rw [jB,eY,eY,YC N s u r,List.flatMap_cons,aI,aI,OA]
  rfl
theorem IY (N:Nat) (s:Sc) (u:Ty) (x:Vl) (r:List Vl):bU (jB (b9 N s u) false (x :: r))=bU (b9 N s u x []) ++ r.flatMap fun y=>cK 44 :: bU (b9 N s u y []):=by
 rw [jB,eY,eY,YC,aD,aD]; rfl
theorem ZB (N:Nat) (s:Sc) (u:St):∀ l:List (Int × Vl),bU (gN (b9 N s) u true l)=l.flatMap fun y=>cK 44 :: xC N s u y
 | []=>rfl
 | x :: r=>by
  have e:∀ g y,bU ((g,y) :: (([32],eM 61) :: (b9 N s (bH u x.1).ty x.2 [32] ++ gN (b9 N s) u true r)))=wM y :: cK 61 :: (bU (b9 N s (bH u x.1).ty x.2 []) ++ bU (gN (b9 N s) u true r)):=fun g y=>by
   rw [<-OA N s _ _ [32],<-eY]; rfl
  rw [gN,eY,e,ZB N s u r,List.flatMap_cons]
  rfl
theorem IN (N:Nat) (s:Sc) (u:St) (x:Int × Vl) (r:List (Int × Vl)):bU (gN (b9 N s) u false (x :: r))=xC N s u x ++ r.flatMap fun y=>cK 44 :: xC N s u y:=by
 have e:∀ g y,bU ((g,y) :: (([32],eM 61) :: (b9 N s (bH u x.1).ty x.2 [32] ++ gN (b9 N s) u true r)))=wM y :: cK 61 :: (bU (b9 N s (bH u x.1).ty x.2 []) ++ bU (gN (b9 N s) u true r)):=fun g y=>by
  rw [<-OA N s _ _ [32],<-eY]; rfl
 rw [gN,eY,e,ZB]
 rfl
theorem II {N:Nat} {s:Sc} {t:Ty} {v:Vl} (hN:0 < N):∃ k x m R,bU (b9 N s t v [])=(k,x,m) :: R/\∀ c:UInt8,c ≠ 91->c ≠ 123->¬ (k=4/\x=[c]):=by
 obtain ⟨N,rfl⟩:∃ M,N=M + 1:=⟨N - 1,by omega⟩
 rw [jP]
 cases t.k == 1 with
 | true=>exact ⟨1,_,0,[],rfl,fun c _ _ h=>absurd h.1 (by decide)⟩
 | false=>
 cases t.k == 4 with
 | true=>exact ⟨3,_,0,[],rfl,fun c _ _ h=>absurd h.1 (by decide)⟩
 | false=>
 cases t.k == 7 with
 | true=>exact ⟨1,_,0,[],rfl,fun c _ _ h=>absurd h.1 (by decide)⟩
 | false=>
 cases t.k == 5 with
 | true=>exact ⟨4,[91],0,_,rfl,fun c h1 _ h=>h1 (List.cons.inj h.2).1.symm⟩
 | false=>
 cases t.k == 6 with
 | true=>exact ⟨4,[123],0,_,rfl,fun c _ h1 h=>h1 (List.cons.inj h.2).1.symm⟩
 | false=>exact ⟨2,_,_,[],rfl,fun c _ _ h=>absurd h.1 (by decide)⟩
theorem EN {e:En} (he:NEn e) {n:Int} (h:(e.vs.any fun x=>x == n)=true):∃ i:Nat,e.vs[i]? = some n/\e.ns[i]? = some (jI e.ns n e.vs 0):=by
 have key:∀ (l:List Int) (i:Nat),e.vs.drop i=l->(l.any fun x=>x == n)=true->∃ j:Nat,e.vs[j]? = some n/\e.ns[j]? = some (jI e.ns n l i):=by
  intro l
  induction l with
  | nil=>intro i _ h; cases h
  | cons m l ih=>
   intro i hd h
   have hi:i < e.vs.length:=by
    rcases bF i e.vs.length with h1 | h1
    · exact h1
    · rw [List.drop_eq_nil_iff.2 h1] at hd; cases hd
   have hi2:i < e.ns.length:=by have:=he.l; omega
   rw [List.drop_eq_getElem_cons hi] at hd
   obtain ⟨h1,h2⟩:=List.cons.inj hd
   rw [jI,show decide ((i:Int) < (e.ns.length:Int))=true by simp; omega,Bool.and_true]
   cases hc:m == n with
   | true=>
    refine ⟨i,?_,?_⟩
    · rw [aW hi,h1,eq_of_beq hc]
    · rw [aI,List.getD_eq_getElem?_getD,aW hi2]; rfl
   | false=>
    rw [List.any_cons,hc,Bool.false_or] at h
    exact ih (i + 1) h2 h
 exact key e.vs 0 rfl h
theorem aEP {ns:List ByteArray} (hd:∀ k x,ns[k]? = some x->dG (ns.take k) x=false) {i:Nat} {x:ByteArray} (hi:ns[i]? = some x):gD ns x 0=i:=by
 have key:∀ (j k:Nat),k + j=i->gD (ns.drop k) x k=i:=by
  intro j
  induction j with
  | zero=>
   intro k hk
   obtain rfl:k=i:=by omega
   obtain ⟨h1,h2⟩:=a6.1 hi
   rw [List.drop_eq_getElem_cons h1,gD,h2,decide_eq_true rfl]; rfl
  | succ j ih=>
   intro k hk
   have hl:=(a6.1 hi).1
   have hk1:k < ns.length:=by omega
   rw [List.drop_eq_getElem_cons hk1,gD]
   have hne:decide (x=ns[k])=false:=by
    have h:=hd i x hi
    unfold dG at h
    have:=fT h ns[k] (bJ (i:=k) (by rw [List.getElem?_take_of_lt (by omega),aW hk1]))
    exact this
   rw [hne,aD]
   exact ih (k + 1) (by omega)
 exact key i 0 (by omega)
theorem tY:∀ (l acc:List Vl),l.foldl (fun a x=>a ++ [x]) acc=acc ++ l
 | [],acc=>by simp
 | x :: l,acc=>by rw [List.foldl_cons,tY l]; simp
def KO (a:zD) (x:Int × Vl):zD:=(x.1,a.2 ++ [x])
theorem sR:∀ (l:List (Int × Vl)) (a:zD),(l.foldl KO a).2=a.2 ++ l
 | [],a=>by simp
 | x :: l,a=>by rw [List.foldl_cons,sR l]; simp [KO]
theorem kH {α:Type} (f:α->List jQ):∀ l:List α,l.length<=(l.flatMap fun y=>cK 44 :: f y).length
 | []=>Nat.le_refl _
 | x :: l=>by
  have:=kH f l
  rw [List.flatMap_cons,List.length_append,List.length_cons,List.length_cons]; omega
theorem CE {v:Vl} {k:Int} (hk:v.k=k) (hs:bl v.s=[]) (hl:v.l=[]) (hf:v.f=[]):v=.mk k v.n (mk []) [] []:=by
 obtain ⟨k',n,s,l,f⟩:=v
 have q1:k'=k:=hk
 have q2:l=[]:=hl
 have q3:f=[]:=hf
 have q4:s=mk []:=mS (by rw [jF]; exact hs)
 rw [q1,q2,q3,q4]
 rfl
theorem wI (l:hU):(bU l).length=l.length:=List.length_map ..
theorem aAH {ts:List Tk} {n:Nat} {xs:List jQ} (h:(ts.map cQ).drop n=xs):xs.length<=ts.length:=by
 have:=congrArg List.length h
 rw [List.length_drop,List.length_map] at this
 omega
theorem DD {s:Sc} (hn:Nice s) {ts:List Tk}:∀ (N:Nat) (t:Ty) (v:Vl) (n:Nat) (R:List jQ),v.h<=N->eL s t v=0->(ts.map cQ).drop n=bU (b9 N s t v []) ++ R->R ≠ []->
 pP N s ts t (bP n)=(v,bP (n + (bU (b9 N s t v [])).length))
 | 0,_,v,_,_,h,_,_,_=>by have:=v.h_pos; omega
 | N + 1,t,v,n,R,hh,h0,hd,hR=>by
  have hc:=nS h0
  rw [iD]
  rw [jP] at hd ⊢
  cases c1:t.k == 1 with
  | true=>
   rw [c1,aI] at hd
   obtain ⟨f1,f2,f3,f4⟩:=hc.nu (b7 c1 (by decide)) (b7 c1 (by decide)) (b7 c1 (by decide))
   have hv:=CE (by rw [hc.kk,eq_of_beq c1]) f1 f2 f3
   unfold s3 at f4
   rw [c1,aI] at f4
   obtain ⟨_,a1,a2,_⟩:=iW hd
   obtain ⟨_,a3⟩:=nM hd hR
   rw [aI,aI]
   show gS ts (bP n)=(v,bP (n + 1))
   unfold gS cX
   rw [show (bP n).n=n from rfl,a1,a2,a3]
   rw [Bool.or_eq_true] at f4
   rcases f4 with f4 | f4
   · have e:v.n=0:=eq_of_beq f4
     rw [e] at hv ⊢
     rw [hv]; rfl
   · have e:v.n=1:=eq_of_beq f4
     rw [e] at hv ⊢
     rw [hv]; rfl
  | false=>
  rw [c1,aD] at hd
  rw [aD,aD]
  cases c4:t.k == 4 with
  | true=>
   rw [c4,aI] at hd
   obtain ⟨f1,f2,f3,f4⟩:=hc.tx c4
   obtain ⟨_,a1,a2,_⟩:=iW hd
   obtain ⟨_,a3⟩:=nM hd hR
   rw [aI,aI]
   show vB ts (bP n)=(v,bP (n + 1))
   unfold vB iN gR gV
   rw [show (bP n).n=n from rfl,a1,a3]
   show (Vl.mk 4 0 (mk (aT ts n).x) [] [],bP (n + 1))=_
   rw [a2,lC]
   have hk:=hc.kk
   rw [eq_of_beq c4] at hk
   obtain ⟨k',m,x,l,f⟩:=v
   have hk:k'=4:=hk
   have f1:m=0:=f1
   have f2:l=[]:=f2
   have f3:f=[]:=f3
   subst hk f1 f2 f3
   rfl
  | false=>
  rw [c4,aD] at hd
  rw [aD,aD]
  cases c7:t.k == 7 with
  | true=>
   rw [c7,aI] at hd
   obtain ⟨f1,f2,f3,f4⟩:=hc.nu c4 (b7 c7 (by decide)) (b7 c7 (by decide))
   have hv:=CE (by rw [hc.kk,eq_of_beq c7]) f1 f2 f3
   unfold s3 at f4
   rw [c1,b7 c7 (b:=2) (by decide),b7 c7 (b:=3) (by decide),c7] at f4
   obtain ⟨_,a1,a2,_⟩:=iW hd
   obtain ⟨_,a3⟩:=nM hd hR
   rw [aI,aI]
   show dZ (enOf s t) ts (bP n)=(v,bP (n + 1))
   have hen:=hn.enOf t
   obtain ⟨i,i1,i2⟩:=EN hen (n:=v.n) f4
   have hi:=(a6.1 i1).1
   have ei:hJ (enOf s t) ts (bP n)=(i:Int):=by
    unfold hJ
    rw [show (bP n).n=n from rfl,a1,a2]
    show gD (enOf s t).ns (mk (bl (jI (enOf s t).ns v.n (enOf s t).vs 0))) 0=i
    rw [lC,aEP hen.d i2]
   unfold dZ
   rw [ei,show decide ((i:Int) < 0)=false by simp,show decide (((enOf s t).vs.length:Int)<=(i:Int))=false by simp; omega]
   have e2:(enOf s t).vs.getD ((i:Int)).toNat 0=v.n:=by simp [List.getD_eq_getElem?_getD,i1]
   rw [e2,show (bP n).n=n from rfl,a3,hv]
   rfl
  | false=>
  rw [c7,aD] at hd
  rw [aD,aD]
  cases c5:t.k == 5 with
  | true=>
   rw [c5,aI] at hd
   obtain ⟨f1,f2,f3,f4,f5⟩:=hc.ls c5
   rw [aI,aI]
   have hk:=hc.kk
   rw [eq_of_beq c5] at hk
   have hv:v=.mk 5 0 (mk []) v.l []:=by
    obtain ⟨k',m,x,l,f⟩:=v
    have q1:k'=5:=hk
    have q2:m=0:=f1
    have q3:f=[]:=f3
    have q4:x=mk []:=mS (by rw [jF]; exact f2)
    rw [q1,q2,q3,q4]
    rfl
   have hd0:(ts.map cQ).drop n=cK 91 :: (bU (jB (b9 N s (t.e.headD default)) false v.l) ++ (cK 93 :: R)):=by
    rw [hd]
    show wM (eM 91) :: (bU (jB (b9 N s (t.e.headD default)) false v.l ++ [([],eM 93)]) ++ R)=_
    rw [eY,List.append_assoc]; rfl
   have hN1:∀ x ∈ v.l,x.h<=N:=fun x hx=>by have:=Vl.h_l hx; omega
   have hlen:(bU ((([]:List UInt8),eM 91) :: (jB (b9 N s (t.e.headD default)) false v.l ++ [([],eM 93)]))).length=(bU (jB (b9 N s (t.e.headD default)) false v.l)).length + 2:=by
    rw [wI,wI]; simp
   rw [hlen]
   obtain ⟨m1,_,_⟩:=kT hd0 (by simp)
   have hd1:=(iW hd0).2.2.2.2
   show kF (pP N) s ts (t.e.headD default) (bP n)=_
   generalize t.e.headD default=u at *
   cases hvl:v.l with
   | nil=>
    rw [hvl] at hd1
    have hd1:(ts.map cQ).drop (n + 1)=cK 93 :: R:=hd1
    obtain ⟨_,m2,m3⟩:=kT hd1 hR
    unfold kF cI
    rw [m1,m2,m3]
    refine Prod.ext ?_ rfl
    rw [hvl] at hv
    exact hv.symm
   | cons x r=>
    rw [hvl] at hd1
    have hx:=hN1 x (by rw [hvl]; exact List.mem_cons_self ..)
    rw [IY,List.append_assoc] at hd1
    obtain ⟨k0,x0,m0,R0,hh0,hh1⟩:=II (N:=N) (s:=s) (t:=u) (v:=x) (by have:=x.h_pos; omega)
    have hno:cB [93] ts (bP (n + 1))=false:=by
     have hd1:=hd1
     rw [hh0] at hd1
     exact KA hd1 (hh1 93 (by decide) (by decide))
    have hsr:=uU (one:=hM (pP N) s ts u) (ts:=ts) (tk:=fun y=>bU (b9 N s u y [])) (upd:=fun a y=>a ++ [y]) (I:=fun _ l=>∀ y ∈ l,y.h<=N/\eL s u y=0)
     (fun a y r n' R' hI hR' hd'=>⟨by
       have:=DD hn N u y n' R' (hI y (List.mem_cons_self ..)).1 (hI y (List.mem_cons_self ..)).2 hd' hR'
       unfold hM
       rw [this],fun z hz=>hI z (List.mem_cons_of_mem _ hz)⟩) (c:=93) (by decide) r x [] (n + 1) (ts.length + 1) R (fun y hy=>⟨hN1 y (by rw [hvl]; exact hy),f5 y (by rw [hvl]; exact hy)⟩) (by
       have h1:=kH (fun y=>bU (b9 N s u y [])) r
       have h2:=aAH hd1
       rw [List.length_append,List.length_append] at h2
       omega) hd1 hR
    have hd2:(ts.map cQ).drop (n + 1 + (bU (b9 N s u x []) ++ r.flatMap fun y=>cK 44 :: bU (b9 N s u y [])).length)=cK 93 :: R:=AB (by rw [hd1,List.append_assoc])
    obtain ⟨m4,_,_⟩:=kT hd2 hR
    unfold kF cI
    rw [m1,hno,aD,hsr,m4,tY,IY,List.nil_append]
    refine Prod.ext ?_ ?_
    · rw [hvl] at hv
      exact hv.symm
    · show bP _=bP _
      congr 1
      omega
  | false=>
  rw [c5,aD] at hd
  rw [aD,aD]
  cases c6:t.k == 6 with
  | true=>
   rw [c6,aI] at hd
   obtain ⟨f1,f2,f3,f4,f5⟩:=hc.st c6
   rw [aI,aI]
   have hk:=hc.kk
   rw [eq_of_beq c6] at hk
   have hv:v=.mk 6 0 (mk []) [] v.f:=by
    obtain ⟨k',m,x,l,f⟩:=v
    have q1:k'=6:=hk
    have q2:m=0:=f1
    have q3:l=[]:=f3
    have q4:x=mk []:=mS (by rw [jF]; exact f2)
    rw [q1,q2,q3,q4]
    rfl
   have hd0:(ts.map cQ).drop n=cK 123 :: (bU (gN (b9 N s) (stOf s t) false v.f) ++ (cK 125 :: R)):=by
    rw [hd]
    show wM (eM 123) :: (bU (gN (b9 N s) (stOf s t) false v.f ++ [([],eM 125)]) ++ R)=_
    rw [eY,List.append_assoc]; rfl
   have hN1:∀ x ∈ v.f,x.2.h<=N:=fun x hx=>by have:=Vl.h_f hx; omega
   have hlen:(bU ((([]:List UInt8),eM 123) :: (gN (b9 N s) (stOf s t) false v.f ++ [([],eM 125)]))).length=(bU (gN (b9 N s) (stOf s t) false v.f)).length + 2:=by
    rw [wI,wI]; simp
   rw [hlen]
   obtain ⟨m1,_,_⟩:=kT hd0 (by simp)
   have hd1:=(iW hd0).2.2.2.2
   have hu:=hn.stOf t
   show gM (pP N) s ts (stOf s t) (bP n)=_
   generalize stOf s t=u at *
   cases hvf:v.f with
   | nil=>
    rw [hvf] at hd1
    have hd1:(ts.map cQ).drop (n + 1)=cK 125 :: R:=hd1
    obtain ⟨_,m2,m3⟩:=kT hd1 hR
    unfold gM cI
    rw [m1,m2,m3]
    refine Prod.ext ?_ rfl
    rw [hvf] at hv
    exact hv.symm
   | cons x r=>
    rw [hvf] at hd1
    rw [IN,List.append_assoc] at hd1
    have hno:cB [125] ts (bP (n + 1))=false:=KA (k:=1) hd1 fun h=>absurd h.1 (by decide)
    have hfa:ftA u.fs (some 0) v.f=true:=by
     unfold dR at f4
     rw [Bool.and_eq_true] at f4
     have h1:=f4.1
     rw [hvf,kJ,Bool.and_eq_true,Bool.and_eq_true] at h1
     have hm:=KV h1.1.1
     have hnum:(bH u x.1).num=x.1:=by
      obtain ⟨f,hf⟩:=Option.isSome_iff_exists.1 h1.1.1
      unfold bH
      rw [hf]
      have:=List.find?_some hf
      simpa using this
     have:=(hu.n _ hm).1
     rw [hvf,kJ,h1.1.1,h1.2,Bool.true_and,Bool.and_true]
     exact decide_eq_true (by omega)
    have hsr:=uU (one:=dH (pP N) s ts u) (ts:=ts) (tk:=xC N s u) (upd:=KO) (I:=fun a l=>ftA u.fs (some a.1) l=true/\∀ y ∈ l,y.2.h<=N/\eL s (bH u y.1).ty y.2=0)
     (fun a y r n' R' hI hR' hd'=>by
       obtain ⟨hI1,hI2⟩:=hI
       rw [kJ,Bool.and_eq_true,Bool.and_eq_true] at hI1
       obtain ⟨⟨j1,j2⟩,j3⟩:=hI1
       have hm:=KV j1
       have hnum:(bH u y.1).num=y.1:=by
        obtain ⟨f,hf⟩:=Option.isSome_iff_exists.1 j1
        unfold bH
        rw [hf]
        have:=List.find?_some hf
        simpa using this
       refine ⟨?_,j3,fun z hz=>hI2 z (List.mem_cons_of_mem _ hz)⟩
       unfold xC at hd' ⊢
       rw [List.cons_append,List.cons_append] at hd'
       obtain ⟨_,b1,b2,_,hd2⟩:=iW hd'
       obtain ⟨_,b3⟩:=nM hd' (by simp)
       obtain ⟨i,hi⟩:=List.mem_iff_getElem?.1 hm
       have hlast:a.1 < (bH u y.1).num:=by rw [hnum]; exact of_decide_eq_true j2
       have hfit:=aA5 hu (ts:=ts) (z:=bP n') (last:=a.1) (by show ((aT ts n').k == 1)=true; rw [b1]; rfl) hi (by show (bl (bH u y.1).nm == (aT ts n').x)=true; rw [b2]; simp) hlast
       have hRne:bU (b9 N s (bH u y.1).ty y.2 []) ++ R' ≠ []:=by simp [hR']
       have hz:iH ts (bP n')=bP (n' + 1 + 1):=by
        unfold iH
        rw [show (⟨(bP n').bad,(bP n').off,bN ts (bP n').n⟩:Fs)=bP (n' + 1) from by rw [b3]]
        exact (kT hd2 hRne).1
       have hd3:=(iW hd2).2.2.2.2
       obtain ⟨g1,g2⟩:=hI2 y (List.mem_cons_self ..)
       have hp:=DD hn N (bH u y.1).ty y.2 (n' + 1 + 1) R' g1 g2 hd3 hR'
       unfold dH
       rw [hfit.1,hfit.2,aD,hz,hp,hnum]
       refine Prod.ext rfl ?_
       show bP _=bP _
       congr 1
       simp only [List.length_cons]
       omega) (c:=125) (by decide) r x (0,[]) (n + 1) (ts.length + 1) R ⟨by rw [<-hvf]; exact hfa,fun y hy=>⟨hN1 y (by rw [hvf]; exact hy),f5 y (by rw [hvf]; exact hy)⟩⟩ (by
       have h1:=kH (xC N s u) r
       have h2:=aAH hd1
       rw [List.length_append,List.length_append] at h2
       omega) hd1 hR
    have hd2:(ts.map cQ).drop (n + 1 + (xC N s u x ++ r.flatMap fun y=>cK 44 :: xC N s u y).length)=cK 125 :: R:=AB (by rw [hd1,List.append_assoc])
    obtain ⟨m4,_,_⟩:=kT hd2 hR
    unfold gM cI
    rw [m1,hno,aD,hsr,m4,IN]
    refine Prod.ext ?_ ?_
    · show Vl.mk 6 0 (mk []) [] (List.foldl KO (0,[]) (x :: r)).2=v
      rw [sR,List.nil_append]
      rw [hvf] at hv
      exact hv.symm
    · show bP _=bP _
      congr 1
      omega
  | false=>
   rw [c6,aD] at hd
   obtain ⟨f1,f2,f3,f4⟩:=hc.nu c4 c5 c6
   have hv:=CE (v:=v) rfl f1 f2 f3
   obtain ⟨_,a1,_,a2,_⟩:=iW hd
   obtain ⟨_,a3⟩:=nM hd hR
   rw [aD,aD]
   show CY t.k ts (bP n)=(v,bP (n + 1))
   unfold CY iN gR gV
   rw [show (bP n).n=n from rfl,a1,a3]
   show (Vl.mk t.k (aT ts n).n (mk []) [] [],bP (n + 1))=_
   rw [a2,<-hc.kk]
   exact congrArg (·,bP (n + 1)) hv.symm
theorem aE5 {s:Sc} (hd:Dg s) {t:Ty} {v:Vl} (hv:VlOk v) (hh:v.h<=16) (hx:lD (fP 16) s t v ≠ []):fK (pP 16) s t (lD (fP 16) s t v)=(v,0,0):=by
 unfold lD at hx ⊢
 by_cases h0:fG s t v=0
 · rw [h0,show ((0:Int) != 0)=false from rfl,aD] at hx ⊢
   obtain ⟨h1,_⟩:=rR h0
   cases hb:(fP 16 s t v).2 with
   | true=>rw [hb] at hx; exact absurd rfl hx
   | false=>
   cases hl:decide (4000 < ((fP 16 s t v).1.length:Int)) with
   | true=>rw [hb,hl] at hx; exact absurd rfl hx
   | false=>
   rw [Bool.false_or,aD]
   have hl:=of_decide_eq_false hl
   have hp:jO v=true:=by
    have:=GI 16 s t v hh h1
    rw [hb] at this
    simpa using this.symm
   have hok:=vD 16 s t v [] [] hd.ni hv hh h1 hp kQ trivial (fun c hc=>by cases hc)
   have hsx:=BF 16 s t v [] (by decide) hh hb
   rw [List.append_nil] at hok
   rw [List.nil_append] at hsx
   obtain ⟨s1,s2⟩:=IM hok (by rw [hsx]; omega)
   rw [hsx] at s1 s2
   have hva:=(nS h1).va
   have hpb:=DD hd.ni (ts:=(aQ (fP 16 s t v).1).toks) 16 t v 0 [(0,[],0)] hh h1 (by rw [List.drop_zero,s2]; rfl) (by simp)
   have hend:=AB (ts:=(aQ (fP 16 s t v).1).toks) (n:=0) (xs:=bU (b9 16 s t v [])) (R:=[(0,[],0)]) (by rw [List.drop_zero,s2]; rfl)
   obtain ⟨_,e1,_⟩:=iW hend
   unfold fK CV rN
   rw [aAJ hd,hva,s1,hpb]
   simp only [Bool.not_true,aD,show ((0:Int) != 0)=false from rfl]
   rw [e1]
   simp only [show ((0:Int) != 0)=false from rfl,aD,h0]
 · rw [show (fG s t v != 0)=true by simpa using h0,aI] at hx
   exact absurd rfl hx
def sz (z:Fs):Fs:=⟨z.bad,0,z.n⟩
attribute [go_sem ↓] tL IR vldFn
theorem UC:Meets Tryz.prog 42 vldFn.sp:=by
 refine aE Tryz.func42 aQH 1 (by rw [Tryz.ntmps42]; decide) (aH UT (aH Y1 (aA _))) SQ ?_
 intro xs H K h
 obtain ⟨⟨hp,rfl⟩,hK⟩:=h
 obtain ⟨k,x,n,a,rfl,hx⟩:=pR hp
 have hK':K (bS (gE k (bl x) n)) []:=hK
 simp -dsimp only [go_sem,aIQ,aC9]
 have fin:∀ (H':Hp) (b:Bool),b=gE k (bl x) n->W.Fin 0 K (bS b) H':=fun H' b h2=>by
  subst h2
  exact .sel [] (by simp) (by simp) rfl (.done hK')
 refine ⟨fun h1=>fin _ _ (by simp [gE,h1,Bool.and_comm]),fun h1=>⟨fun h2=>fin _ _ (by simp [gE,h1,h2]),fun h2=>⟨fun h3=>?_,fun h3=>⟨fun h4=>?_,fun h4=>fin _ _ (by simp [gE,h1,h2,h3,h4])⟩⟩⟩⟩
 · refine aL (α:=Nat) (fun i=>[(1,.va (.c1 (.pt 0 0))),(3,iS .i64 i)]) (fun _=>[.cells (mL k x n a) 71]) (fun i=>i<=(bl x).length/\((bl x).take i).all fN=true) (fun i=>(bl x).length - i) 0 1 ⟨by omega,rfl⟩ ?_ (by simp [go_sem]) ?_
   · simp [go_sem]
   rintro i ⟨hi,hall⟩
   simp -dsimp only [go_sem]
   have GZ:∀ c:UInt8,decide ((c.toNat:Int) < 32)=!decide (32<=c):=fun c=>by
    have:decide (32<=c)=decide (32<=c.toNat):=by rw [decide_eq_decide,UInt8.le_iff_toNat_le]; rfl
    rw [this,<-decide_not,decide_eq_decide]; omega
   have GG:∀ c:UInt8,decide (126 < (c.toNat:Int))=!decide (c<=126):=fun c=>by
    have:decide (c<=126)=decide (c.toNat<=126):=by rw [decide_eq_decide,UInt8.le_iff_toNat_le]; rfl
    rw [this,<-decide_not,decide_eq_decide]; omega
   have bad:∀ c,(bl x)[i]? = some c->fN c=false->gE k (bl x) n=false:=fun c hc hb=>by
    have:(bl x).all fN=false:=by
     rw [Bool.eq_false_iff]
     intro ha
     have:=List.all_eq_true.1 ha c (bJ hc)
     rw [hb] at this; cases this
    simp [gE,h1,h2,h3,this]
   refine ⟨fun h5=>⟨by simp at h5; omega,fun c hc=>⟨fun _=>by simp at h5; omega,fun d hd=>?_⟩⟩,fun h5=>?_⟩
   · rw [GZ,GG]
     rw [GZ] at hd
     have hE:(!decide (32<=c) || !decide (d<=126))=!fN c:=by
      unfold fN
      cases h6:decide (32<=c) with
      | false=>rfl
      | true=>
       rw [h6] at hd
       obtain rfl:c=d:=by have:=hd rfl; rw [hc] at this; exact bG this
       simp
     rw [hE]
     refine ⟨fun h6=>fin _ _ (bad c hc (by simpa using h6)).symm,fun h6=>⟨by omega,aC (i + 1) 1 ⟨by simp at h5; omega,?_⟩ (by simp at h5; omega) ?_ (by simp [go_sem])⟩⟩
     · rw [List.take_add_one,hc,List.all_append,hall]
       simpa using h6
     · simp [go_sem]
   · obtain rfl:i=(bl x).length:=by simp at h5; omega
     rw [List.take_length] at hall
     refine fin _ _ ?_
     simp [gE,h1,h2,h3,hall]
     rw [Bool.and_comm]
     congr 1
     rw [decide_eq_decide]; omega
 · refine ⟨fun h5=>by simp at h5; omega,fun c hc=>⟨fun _=>by have:=c.toNat_lt; omega,fin _ _ ?_⟩⟩
   simp only [gE,h1,h2,h3,h4,aI,aD]
   rw [Bool.and_comm]
   congr 1
   cases hb:bl x with
   | nil=>rfl
   | cons d r=>
    rw [hb] at hc
    cases r with
    | nil=>
     obtain rfl:d=c:=by simpa using hc
     rfl
    | cons e r=>
     have:((((d :: e :: r).length:Nat):Int) == 1)=false:=by simp; omega
     rw [this]; rfl
theorem VL:Meets Tryz.prog 17 prtFn.sp:=by
 refine aE Tryz.func17 aPF 1 (by rw [Tryz.ntmps17]; decide) (aH UC (aH RZ (aH US (aA _)))) EG ?_
 intro xs H K h
 obtain ⟨⟨hp,rfl⟩,hK⟩:=h
 obtain ⟨ts,rfl,h60,hf⟩:=l6 hp
 have hK':K (tS (mk (gP ts))) []:=by have:=hK; rw [show prtFn.val=tV from rfl,mI] at this; exact this
 simp -dsimp only [go_sem,aFE,aD1]
 refine aL (α:=Nat) (fun i=>[(0,.va (.c1 (.fz (ts.map y6)))),(3,tS (mk (cT ts i))),(4,iS .i64 i)]) (fun _=>[]) (fun i=>i<=ts.length) (fun i=>ts.length - i) 0 0 (by omega) ?_ (by simp [go_sem]) ?_
 · simp [go_sem,cT]
 intro i hi
 have hl:=rZ hf i hi
 simp -dsimp only [go_sem,NK]
 refine ⟨fun h1=>⟨by simp at h1; omega,fun t ht=>⟨by have:=(hf t (bJ ht)).len; omega,fun h2=>⟨by omega,?_⟩,fun h2=>?_⟩⟩,fun h1=>?_⟩
 · refine aC (i + 1) 0 (by simp at h1; omega) (by simp at h1; omega) ?_ rfl
   have:cT ts (i + 1)=cT ts i:=by rw [l5 ht]; simp [kK,h2]
   simp [go_sem,this]
 · have h2':gE t.k t.x t.n=true:=by simpa using h2
   have hst:=l5 ht
   have hft:=hf t (bJ ht)
   have hxl:=xP hft
   have hdl:=yS hft.lo hft.hi
   have hlt:i < ts.length:=by simp at h1; omega
   simp only [kK,h2',aI] at hst
   have q2:(t.k == 2)=true->dA t.k t.x t.n=dS t.n:=fun h=>by
    have:t.k=2:=by simpa using h
    simp [dA,this]
   have q3:(t.k == 3)=true->dA t.k t.x t.n=iO t.x:=fun h=>by
    have:t.k=3:=by simpa using h
    simp [dA,this]
   have q4:(t.k == 2)=false->(t.k == 3)=false->dA t.k t.x t.n=t.x:=fun h k=>by
    unfold gE at h2'
    unfold dA
    rw [h,k] at h2' ⊢
    cases h1:t.k == 1<;>cases h4:t.k == 4<;>simp [h1,h4] at h2' ⊢
   have hlx:=hft.len
   refine ⟨fun h3=>?_,fun h3=>?_⟩
   · have h3':(cT ts i == [])=false:=h3
     rw [h3',aD] at hst
     refine ⟨by omega,by omega,fun u hu=>?_⟩
     rw [ht] at hu
     obtain rfl:=bG hu
     refine ⟨fun h4=>⟨by omega,fun u hu=>?_⟩,fun h4=>⟨fun h5=>⟨by omega,fun u hu=>?_⟩,fun h5=>⟨by omega,fun u hu=>?_⟩⟩⟩
     all_goals
      rw [ht] at hu
      obtain rfl:=bG hu
     · rw [q2 h4] at hst hxl
       refine ⟨⟨hft.lo,hft.hi⟩,by omega,by omega,aC (i + 1) 0 hlt (by omega) ?_ rfl⟩
       simp [go_sem,hst]
     · rw [q3 h5] at hst hxl
       refine ⟨by omega,by omega,by omega,aC (i + 1) 0 hlt (by omega) ?_ rfl⟩
       simp [go_sem,hst]
     · rw [q4 h4 h5] at hst hxl
       refine ⟨by omega,by omega,aC (i + 1) 0 hlt (by omega) ?_ rfl⟩
       simp [go_sem,hst]
   · have h3':(cT ts i == [])=true:=by simpa using h3
     rw [h3',aI,List.append_nil] at hst
     refine ⟨by omega,fun u hu=>?_⟩
     rw [ht] at hu
     obtain rfl:=bG hu
     refine ⟨fun h4=>⟨by omega,fun u hu=>?_⟩,fun h4=>⟨fun h5=>⟨by omega,fun u hu=>?_⟩,fun h5=>⟨by omega,fun u hu=>?_⟩⟩⟩
     all_goals
      rw [ht] at hu
      obtain rfl:=bG hu
     · rw [q2 h4] at hst hxl
       refine ⟨⟨hft.lo,hft.hi⟩,by omega,by omega,aC (i + 1) 0 hlt (by omega) ?_ rfl⟩
       simp [go_sem,hst]
     · rw [q3 h5] at hst hxl
       refine ⟨by omega,by omega,by omega,aC (i + 1) 0 hlt (by omega) ?_ rfl⟩
       simp [go_sem,hst]
     · rw [q4 h4 h5] at hst hxl
       refine ⟨by omega,by omega,aC (i + 1) 0 hlt (by omega) ?_ rfl⟩
       simp [go_sem,hst]
 · obtain rfl:i=ts.length:=by simp at h1; omega
   rw [rM]
   exact .done hK'
def gpB (k:Int):List UInt8:=bif k == 1 then [10,9] else bif k == 2 then [32,35,32,114,101,109,97,114,107,10] else bif k == 3 then [32,32] else [32]
def gpK (fill:List UInt8) (i:Nat):Int:=bif decide (i < fill.length) then ((fill.getD i 0).toNat:Int).tmod 4 else 0
def tx (t:Tk):Tx:=⟨t.k,t.x,t.n,t.a⟩
def oth (fill:List UInt8):Nat->List Tk->List UInt8
 | _,[]=>[]
 | i,t :: r=>gpB (gpK fill i) ++ (gP [tx t] ++ oth fill (i + 1) r)
theorem aGX {t:Tk} (h:Gtk t.k t.x t.n):TkFit (tx t):=⟨h.i.1,h.i.2,by have:=h.len; show t.x.length<=100000; omega⟩
def Eat (ts:List Tk) (n:Nat) (xs:List jQ) (m:Nat):Prop:=(ts.map cQ).drop n=xs ++ (ts.map cQ).drop m
theorem Eat.app {ts:List Tk} {a b c:Nat} {xs ys:List jQ} (h1:Eat ts a xs b) (h2:Eat ts b ys c):Eat ts a (xs ++ ys) c:=by
 unfold Eat at *
 rw [h1,h2,List.append_assoc]
structure Gts (ts:List Tk):Prop where
 e:Ends ts
 g:∀ t ∈ ts,Gtk t.k t.x t.n
theorem jT (ts:List Tk) (z:Fs):(dQ ts z).bad=true:=by
 unfold dQ
 cases h:z.bad with
 | true=>exact h
 | false=>rfl
theorem sE {ts:List Tk} {n:Nat} (h:n < ts.length):aT ts n ∈ ts:=bJ (gZ h)
theorem qP {ts:List Tk} (hg:Gts ts) {n:Nat} (h:n < ts.length) (hk:(aT ts n).k ≠ 0):n < bN ts n/\bN ts n < ts.length/\Eat ts n [cQ (aT ts n)] (bN ts n):=by
 have hlt:n + 1 < ts.length:=by
  rcases bF (n + 1) ts.length with h1 | h1
  · exact h1
  · exact absurd ((hg.e.last n _ (gZ h)).2 (by omega)) hk
 have hx:bN ts n=n + 1:=if_pos hlt
 rw [hx]
 refine ⟨by omega,hlt,?_⟩
 have h1:n < (ts.map cQ).length:=by simpa using h
 have e:aT ts n=ts[n]:=by unfold aT; simp [List.getD_eq_getElem?_getD,aW h]
 unfold Eat
 rw [List.drop_eq_getElem_cons h1,List.getElem_map,e]; rfl
theorem DT {ts:List Tk} (hg:Gts ts) {c:UInt8} {z:Fs} (h:z.n < ts.length) (hh:cB [c] ts z=true):z.bad=false/\z.n < bN ts z.n/\bN ts z.n < ts.length/\Eat ts z.n [cK c] (bN ts z.n):=by
 unfold cB cX at hh
 rw [Bool.and_eq_true,Bool.and_eq_true] at hh
 obtain ⟨h1,h2,h3⟩:=hh
 have hk:(aT ts z.n).k=4:=eq_of_beq h2
 have hx:(aT ts z.n).x=[c]:=eq_of_beq h3
 obtain ⟨a1,a2,a3⟩:=qP hg h (by rw [hk]; decide)
 refine ⟨by simpa using h1,a1,a2,?_⟩
 have ho:=(hg.g _ (sE h)).o (by rw [hk]; decide)
 rw [hk,hx] at ho
 have h0:(aT ts z.n).n=0:=by
  have ho:((aT ts z.n).n == 0 && dB c.toNat)=true:=ho
  rw [Bool.and_eq_true] at ho
  exact eq_of_beq ho.1
 rw [cQ,hk,hx,h0] at a3
 exact a3
theorem sI {ts:List Tk} (hg:Gts ts) {c:UInt8} {z:Fs} (h:z.n < ts.length) (hb:(bM [c] ts z).bad=false):z.bad=false/\z.n < (bM [c] ts z).n/\(bM [c] ts z).n < ts.length/\Eat ts z.n [cK c] (bM [c] ts z).n:=by
 unfold bM at *
 cases hh:cB [c] ts z with
 | false=>rw [hh,aD,jT] at hb; cases hb
 | true=>exact DT hg h hh
theorem KR {ts:List Tk} (hg:Gts ts) {k:Int} (hk:k ≠ 0) {z:Fs} (h:z.n < ts.length) (hb:(gR k ts z).bad=false):z.bad=false/\iN k ts z=aT ts z.n/\(aT ts z.n).k=k/\z.n < (gR k ts z).n/\(gR k ts z).n < ts.length/\Eat ts z.n [cQ (aT ts z.n)] (gR k ts z).n:=by
 unfold gR iN at *
 cases hh:gV k ts z with
 | false=>rw [hh,aD,jT] at hb; cases hb
 | true=>
  unfold gV at hh
  rw [Bool.and_eq_true] at hh
  have h2:(aT ts z.n).k=k:=eq_of_beq hh.2
  exact ⟨by simpa using hh.1,rfl,h2,qP hg h (by rw [h2]; exact hk)⟩
def pK {β:Type} (tk:β->List jQ):List β->List jQ
 | []=>[]
 | x :: r=>tk x ++ r.flatMap fun y=>cK 44 :: tk y
section
variable {α β:Type} {one:α->Fs->α × Fs} {ts:List Tk} {tk:β->List jQ} {upd:α->β->α} {Q:β->Prop}
def PG (one:α->Fs->α × Fs) (ts:List Tk) (tk:β->List jQ) (upd:α->β->α) (Q:β->Prop):Prop:=
 ∀ a z,z.n < ts.length->(one a z).2.bad=false->∃ x,(one a z).1=upd a x/\Eat ts z.n (tk x) (one a z).2.n/\z.n<=(one a z).2.n/\(one a z).2.n < ts.length/\Q x
theorem KD (hg:Gts ts) (hs:PG one ts tk upd Q):∀ (f:Nat) (a:α) (z:Fs),z.n < ts.length->ts.length < f + z.n->z.bad=false->(hY one ts f a z).2.bad=false->
 ∃ x r,(hY one ts f a z).1=(x :: r).foldl upd a/\Eat ts z.n (pK tk (x :: r)) (hY one ts f a z).2.n/\(hY one ts f a z).2.n < ts.length/\∀ y ∈ x :: r,Q y
 | 0,a,z,h,hf,_,_=>by omega
 | f + 1,a,z,h,hf,hz,hb=>by
  rw [iL,hz,aD] at hb ⊢
  cases hh:cB [44] ts (one a z).2 with
  | false=>
   rw [hh,aD] at hb
   obtain ⟨x,h1,h2,_,h3,h4⟩:=hs a z h hb
   rw [aD]
   exact ⟨x,[],h1,by simpa [pK] using h2,h3,fun y hy=>by rw [List.mem_singleton] at hy; subst hy; exact h4⟩
  | true=>
   rw [hh,aI] at hb
   rw [aI]
   have hb1:(one a z).2.bad=false:=by
    unfold cB at hh
    rw [Bool.and_eq_true] at hh
    simpa using hh.1
   obtain ⟨x,h1,h2,h2',h3,h4⟩:=hs a z h hb1
   obtain ⟨_,b1,b2,b3⟩:=DT hg h3 hh
   have hN:bR [44] ts (one a z).2=⟨false,(one a z).2.off,bN ts (one a z).2.n⟩:=by unfold bR; rw [hh]; rfl
   rw [hN] at hb ⊢
   obtain ⟨y,r,c1,c2,c3,c4⟩:=KD hg hs f (one a z).1 ⟨false,(one a z).2.off,bN ts (one a z).2.n⟩ b2 (by show ts.length < f + bN ts (one a z).2.n; omega) rfl hb
   refine ⟨x,y :: r,by rw [c1,h1]; rfl,?_,c3,fun w hw=>?_⟩
   · have:=(h2.app b3).app c2
     have e:pK tk (x :: y :: r)=tk x ++ [cK 44] ++ pK tk (y :: r):=by simp [pK]
     rw [e]; exact this
   · rcases List.mem_cons.1 hw with rfl | hw
     · exact h4
     · exact c4 w hw
theorem IZ (hg:Gts ts) (hs:PG one ts tk upd Q) {op sh:UInt8} {a:α} {z:Fs} (h:z.n < ts.length) (hb:(cI one [op] [sh] ts a z).2.bad=false) :
 z.bad=false/\∃ l,(cI one [op] [sh] ts a z).1=l.foldl upd a/\Eat ts z.n (cK op :: (pK tk l ++ [cK sh])) (cI one [op] [sh] ts a z).2.n/\(cI one [op] [sh] ts a z).2.n < ts.length/\∀ y ∈ l,Q y:=by
 have hmn:=hZ (w:=[op]) h
 unfold cI at *
 cases hh:cB [sh] ts (bM [op] ts z) with
 | true=>
  rw [hh,aI] at hb
  rw [aI]
  obtain ⟨b0,b1,b2,b3⟩:=DT hg hmn.2 hh
  obtain ⟨c0,c1,c2,c3⟩:=sI hg h b0
  have hN:(bR [sh] ts (bM [op] ts z)).n=bN ts (bM [op] ts z).n:=by unfold bR; rw [hh]; rfl
  refine ⟨c0,[],rfl,?_,?_,fun y hy=>by cases hy⟩
  · show Eat ts z.n _ (bR [sh] ts (bM [op] ts z)).n
    rw [hN]; exact c3.app b3
  · show (bR [sh] ts (bM [op] ts z)).n < _
    rw [hN]; exact b2
 | false=>
  rw [hh,aD] at hb
  rw [aD]
  have hm:(bM [op] ts z).bad=false:=by
   cases hm:(bM [op] ts z).bad with
   | false=>rfl
   | true=>rw [JQ hm,kR hm,hm] at hb; cases hb
  obtain ⟨c0,c1,c2,c3⟩:=sI hg h hm
  cases hr:(hY one ts (ts.length + 1) a (bM [op] ts z)).2.bad with
  | true=>rw [kR hr,hr] at hb; cases hb
  | false=>
   obtain ⟨x,r,d1,d2,d3,d4⟩:=KD hg hs (ts.length + 1) a (bM [op] ts z) c2 (by omega) hm hr
   obtain ⟨e0,e1,e2,e3⟩:=sI hg d3 hb
   refine ⟨c0,x :: r,d1,?_,e2,d4⟩
   have:=(c3.app d2).app e3
   rw [show [cK op] ++ pK tk (x :: r) ++ [cK sh]=cK op :: (pK tk (x :: r) ++ [cK sh]) from rfl] at this
   exact this
end
theorem NO:∀ (l:List ByteArray) (x:ByteArray) (i:Nat),0<=gD l x i->∃ j:Nat,gD l x i=((i + j:Nat):Int)/\l[j]? = some x
 | [],x,i,h=>by rw [gD] at h; omega
 | y :: l,x,i,h=>by
  rw [gD] at h ⊢
  cases hc:decide (x=y) with
  | true=>exact ⟨0,rfl,by rw [of_decide_eq_true hc]; rfl⟩
  | false=>
   rw [hc,aD] at h
   obtain ⟨j,h1,h2⟩:=NO l x (i + 1) h
   exact ⟨j + 1,by rw [aD,h1]; congr 1; omega,by simpa using h2⟩
theorem PW {e:En} (he:NEn e):∀ (d i:Nat) (x y:Int),e.vs[i]? = some x->e.vs[i + d + 1]? = some y->x < y
 | 0,i,x,y,h1,h2=>he.a (i + 0 + 1) x y (by omega) (by simpa using h1) h2
 | d + 1,i,x,y,h1,h2=>by
  have hl:=(a6.1 h2).1
  have hm:e.vs[i + d + 1]? = some (e.vs[i + d + 1]'(by omega)):=aW _
  have a1:=PW he d i _ _ h1 hm
  have a2:=he.a (i + (d + 1) + 1) _ y (by omega) (by rw [show i + (d + 1) + 1 - 1=i + d + 1 by omega]; exact hm) h2
  omega
theorem aII {e:En} (he:NEn e) {i j:Nat} {n:Int} (h1:e.vs[i]? = some n) (h2:e.vs[j]? = some n):i=j:=by
 rcases Nat.lt_trichotomy i j with h | h | h
 · have:=PW he (j - i - 1) i n n h1 (by rw [show i + (j - i - 1) + 1=j by omega]; exact h2)
   omega
 · exact h
 · have:=PW he (i - j - 1) j n n h2 (by rw [show j + (i - j - 1) + 1=i by omega]; exact h1)
   omega
theorem SW {N:Nat}:∀ {l:List Vl},(∀ x ∈ l,x.h<=N)->Vl.hl l<=N
 | [],_=>by rw [Vl.hl]; omega
 | x :: l,h=>by
  have h1:=h x (by simp)
  have h2:=SW fun y hy=>h y (List.mem_cons_of_mem _ hy)
  rw [Vl.hl]; omega
theorem SK {N:Nat}:∀ {l:List (Int × Vl)},(∀ x ∈ l,x.2.h<=N)->Vl.hf l<=N
 | [],_=>by rw [Vl.hf]; omega
 | (k,x) :: l,h=>by
  have h1:x.h<=N:=h (k,x) (by simp)
  have h2:=SK fun y hy=>h y (List.mem_cons_of_mem _ hy)
  rw [Vl.hf]; omega
theorem QV:∀ {l:List Vl},(∀ x ∈ l,jO x=true)->pF l=true
 | [],_=>rfl
 | x :: l,h=>by rw [pF,h x (by simp),QV fun y hy=>h y (List.mem_cons_of_mem _ hy)]; rfl
theorem RP:∀ {l:List (Int × Vl)},(∀ x ∈ l,jO x.2=true)->oW l=true
 | [],_=>rfl
 | x :: l,h=>by rw [yL,h x (by simp),RP fun y hy=>h y (List.mem_cons_of_mem _ hy)]; rfl
theorem vX (N:Nat) (k n:Int):(Vl.mk k n (mk []) [] []).h<=N + 1/\jO (.mk k n (mk []) [] [])=true:=by
 refine ⟨?_,by rw [rS rfl rfl]; rfl⟩
 rw [Vl.h,Vl.hl,Vl.hf]; omega
theorem aE7 (N:Nat) (s:Sc) (u:Ty) (l:List Vl):bU (jB (b9 N s u) false l)=pK (fun x=>bU (b9 N s u x [])) l:=by
 cases l with
 | nil=>rfl
 | cons x r=>exact IY N s u x r
theorem aEI (N:Nat) (s:Sc) (u:St) (l:List (Int × Vl)):bU (gN (b9 N s) u false l)=pK (xC N s u) l:=by
 cases l with
 | nil=>rfl
 | cons x r=>exact IN N s u x r
abbrev aEH (N:Nat) (s:Sc) (ts:List Tk) (t:Ty) (z:Fs) (r:Vl × Fs):Prop:=Eat ts z.n (bU (b9 N s t r.1 [])) r.2.n/\r.2.n < ts.length/\r.1.h<=N/\jO r.1=true
theorem IP {s:Sc} (hn:Nice s) {ts:List Tk} (hg:Gts ts):∀ (N:Nat) (t:Ty) (z:Fs),dP N s t->z.n < ts.length->(pP N s ts t z).2.bad=false->aEH N s ts t z (pP N s ts t z)
 | 0,t,z,hd,_,_=>hd.elim
 | N + 1,t,z,hd,h,hb=>by
  have hgt:=hg.g _ (sE h)
  rw [iD] at hb ⊢
  unfold aEH
  rw [jP]
  cases c1:t.k == 1 with
  | true=>
   rw [c1,aI] at hb
   simp only [aI]
   have key:∀ (w:List UInt8) (n:Int),uF n=w->cX 1 w (aT ts z.n)=true->Eat ts z.n (bU [([],uH (uF n))]) (bN ts z.n)/\bN ts z.n < ts.length:=fun w n hw ht=>by
    unfold cX at ht
    rw [Bool.and_eq_true] at ht
    have hk:(aT ts z.n).k=1:=eq_of_beq ht.1
    have hx:(aT ts z.n).x=w:=eq_of_beq ht.2
    obtain ⟨a1,a2,a3⟩:=qP hg h (by rw [hk]; decide)
    have ho:=hgt.o (by rw [hk]; decide)
    rw [hk] at ho
    have ho:((aT ts z.n).n == 0 && cC (aT ts z.n).x)=true:=ho
    rw [Bool.and_eq_true] at ho
    refine ⟨?_,a2⟩
    rw [cQ,hk,hx,eq_of_beq ho.1] at a3
    rw [hw]; exact a3
   unfold gS at hb ⊢
   cases b1:(!z.bad && cX 1 o8 (aT ts z.n)) with
   | true=>
    rw [Bool.and_eq_true] at b1
    obtain ⟨a1,a2⟩:=key o8 1 rfl b1.2
    exact ⟨a1,a2,vX N 1 1⟩
   | false=>
   cases b2:(!z.bad && cX 1 mE (aT ts z.n)) with
   | true=>
    rw [Bool.and_eq_true] at b2
    obtain ⟨a1,a2⟩:=key mE 0 rfl b2.2
    exact ⟨a1,a2,vX N 1 0⟩
   | false=>
    rw [b1,b2] at hb
    exact absurd ((jT ts z).symm.trans hb) (by decide)
  | false=>
  rw [c1,aD] at hb
  cases c4:t.k == 4 with
  | true=>
   rw [c4,aI] at hb
   simp only [aD,aI]
   obtain ⟨_,a1,a2,_,a4,a5⟩:=KR hg (k:=3) (by decide) h hb
   have ho:=hgt.o (by rw [a2]; decide)
   rw [a2] at ho
   have ho:((aT ts z.n).n == 0 && (decide ((aT ts z.n).x.length<=200) && (aT ts z.n).x.all fN))=true:=ho
   rw [Bool.and_eq_true] at ho
   unfold vB
   rw [a1]
   refine ⟨?_,a4,?_,?_⟩
   · rw [cQ,a2,eq_of_beq ho.1] at a5
     show Eat ts z.n [(3,bl (mk (aT ts z.n).x),0)] _
     rw [jF]; exact a5
   · rw [Vl.h,Vl.hl,Vl.hf]; omega
   · rw [rS rfl rfl]
     show (decide ((bl (mk (aT ts z.n).x)).length<=200) && (bl (mk (aT ts z.n).x)).all fN)=true
     rw [jF]; exact ho.2
  | false=>
  rw [c4,aD] at hb
  cases c7:t.k == 7 with
  | true=>
   rw [c7,aI] at hb
   simp only [aD,aI]
   have hen:=hn.enOf t
   have hb:(dZ (enOf s t) ts z).2.bad=false:=hb
   show Eat ts z.n (bU [([],uH (bl (jI (enOf s t).ns (dZ (enOf s t) ts z).1.n (enOf s t).vs 0)))]) (dZ (enOf s t) ts z).2.n/\(dZ (enOf s t) ts z).2.n < ts.length/\(dZ (enOf s t) ts z).1.h<=N + 1/\jO (dZ (enOf s t) ts z).1=true
   generalize enOf s t=e at *
   unfold dZ at hb ⊢
   cases b1:(decide (hJ e ts z < 0) || decide ((e.vs.length:Int)<=hJ e ts z)) with
   | true=>
    rw [b1] at hb
    exact absurd ((jT ts z).symm.trans hb) (by decide)
   | false=>
    rw [Bool.or_eq_false_iff] at b1
    have b2:=of_decide_eq_false b1.1
    have b3:=of_decide_eq_false b1.2
    have hk1:(!z.bad && (aT ts z.n).k == 1)=true:=by
     cases hk:(!z.bad && (aT ts z.n).k == 1) with
     | true=>rfl
     | false=>unfold hJ at b2; rw [hk] at b2; exact absurd (show (-1:Int) < 0 by decide) b2
    have hix:hJ e ts z=gD e.ns (mk (aT ts z.n).x) 0:=by unfold hJ; rw [hk1]; rfl
    rw [Bool.and_eq_true] at hk1
    have hk:(aT ts z.n).k=1:=eq_of_beq hk1.2
    obtain ⟨j,j1,j2⟩:=NO e.ns (mk (aT ts z.n).x) 0 (by rw [<-hix]; omega)
    rw [hix,j1,Nat.zero_add] at b3
    have hjv:j < e.vs.length:=by omega
    have hv:e.vs[j]? = some e.vs[j]:=aW hjv
    have hvn:e.vs.getD (hJ e ts z).toNat 0=e.vs[j]:=by rw [hix,j1,Nat.zero_add]; simp [List.getD_eq_getElem?_getD,hv]
    obtain ⟨i,i1,i2⟩:=EN hen (n:=e.vs[j]) (List.any_eq_true.2 ⟨e.vs[j],List.getElem_mem hjv,beq_self_eq_true _⟩)
    obtain rfl:=aII hen i1 hv
    rw [j2] at i2
    have hnm:=bG i2
    obtain ⟨a1,a2,a3⟩:=qP hg h (by rw [hk]; decide)
    have ho:=hgt.o (by rw [hk]; decide)
    rw [hk] at ho
    have ho:((aT ts z.n).n == 0 && cC (aT ts z.n).x)=true:=ho
    rw [Bool.and_eq_true] at ho
    rw [hvn]
    refine ⟨?_,a2,vX N 7 _⟩
    show Eat ts z.n (bU [([],uH (bl (jI e.ns e.vs[i] e.vs 0)))]) (bN ts z.n)
    rw [<-hnm,jF]
    rw [cQ,hk,eq_of_beq ho.1] at a3
    exact a3
  | false=>
  rw [c7,aD] at hb
  cases c5:t.k == 5 with
  | true=>
   rw [c5,aI] at hb
   simp only [aD,aI]
   obtain ⟨u,hu,_,hdu⟩:=hd.1 c5
   rw [hu] at hb ⊢
   have hb:(cI (hM (pP N) s ts u) [91] [93] ts [] z).2.bad=false:=hb
   have hone:PG (hM (pP N) s ts u) ts (fun x=>bU (b9 N s u x [])) (fun a x=>a ++ [x]) (fun x=>x.h<=N/\jO x=true):=fun a z' h' hb'=>by
    obtain ⟨e1,e2,e3,e4⟩:=IP hn hg N u z' hdu h' hb'
    exact ⟨(pP N s ts u z').1,rfl,e1,(tF N s ts u z' h').1,e2,e3,e4⟩
   obtain ⟨_,l,l1,l2,l3,l4⟩:=IZ hg hone h hb
   rw [tY,List.nil_append] at l1
   unfold kF
   show Eat ts z.n (bU (([],eM 91) :: (jB (b9 N s u) false (cI (hM (pP N) s ts u) [91] [93] ts [] z).1 ++ [([],eM 93)]))) _/\_/\(Vl.mk 5 0 (mk []) (cI (hM (pP N) s ts u) [91] [93] ts [] z).1 []).h<=N + 1/\jO (.mk 5 0 (mk []) (cI (hM (pP N) s ts u) [91] [93] ts [] z).1 [])=true
   rw [l1]
   refine ⟨?_,l3,?_,?_⟩
   · rw [<-aE7] at l2
     have e:bU (([],eM 91) :: (jB (b9 N s u) false l ++ [([],eM 93)]))=cK 91 :: (bU (jB (b9 N s u) false l) ++ [cK 93]):=by rw [<-List.singleton_append,eY,eY]; rfl
     rw [e]; exact l2
   · have:=SW fun x hx=>(l4 x hx).1
     rw [Vl.h,Vl.hf]; omega
   · rw [qD]
     show (true && (pF l && oW []))=true
     rw [QV fun x hx=>(l4 x hx).2]; rfl
  | false=>
  rw [c5,aD] at hb
  cases c6:t.k == 6 with
  | true=>
   rw [c6,aI] at hb
   simp only [aD,aI]
   have hfd:=hd.2 c6
   have hst:=hn.stOf t
   generalize stOf s t=u at *
   have hb:(cI (dH (pP N) s ts u) [123] [125] ts (0,[]) z).2.bad=false:=hb
   have hone:PG (dH (pP N) s ts u) ts (xC N s u) KO (fun x=>x.2.h<=N/\jO x.2=true):=fun a z' h' hb'=>by
    unfold dH at hb' ⊢
    cases b1:j7 ts u a.1 z' with
    | true=>
     rw [b1] at hb'
     exact absurd ((jT ts z').symm.trans hb') (by decide)
    | false=>
     rw [b1,aD] at hb'
     rw [aD]
     unfold j7 at b1
     rw [Bool.or_eq_false_iff,Bool.or_eq_false_iff] at b1
     obtain ⟨⟨b2,b3⟩,_⟩:=b1
     have hk:(aT ts z'.n).k=1:=by simpa using b2
     have b3:=of_decide_eq_false b3
     obtain ⟨f,f1,f2,_⟩:=MT (x:=(aT ts z'.n).x) (fs:=u.fs) 0 (by unfold dL at b3; omega)
     have hfl:u.fs.getD (dL ts u z').toNat default=f:=by
      unfold dL
      rw [List.getD_eq_getElem?_getD,show (eV (aT ts z'.n).x u.fs 0).toNat=(eV (aT ts z'.n).x u.fs 0).toNat - 0 from rfl,f1]; rfl
     rw [hfl] at hb' ⊢
     have hmem:=bJ f1
     obtain ⟨a1,a2,a3⟩:=qP hg h' (by rw [hk]; decide)
     have hz:(iH ts z').bad=false:=by
      cases hz:(iH ts z').bad with
      | false=>rfl
      | true=>
       have:=aI1 N s ts f.ty hz
       have hb':(pP N s ts f.ty (iH ts z')).2.bad=false:=hb'
       rw [this,hz] at hb'; cases hb'
     obtain ⟨_,m1,m2,m3⟩:=sI hg (z:=⟨z'.bad,z'.off,bN ts z'.n⟩) a2 hz
     obtain ⟨e1,e2,e3,e4⟩:=IP hn hg N f.ty (iH ts z') (hfd f hmem) m2 hb'
     have ho:=(hg.g _ (sE h')).o (by rw [hk]; decide)
     rw [hk] at ho
     have ho:((aT ts z'.n).n == 0 && cC (aT ts z'.n).x)=true:=ho
     rw [Bool.and_eq_true] at ho
     have hff:bH u f.num=f:=by unfold bH; rw [F6 (W6 hst) hmem]; rfl
     refine ⟨(f.num,(pP N s ts f.ty (iH ts z')).1),rfl,?_,?_,e2,e3,e4⟩
     · have:=(a3.app m3).app e1
       rw [cQ,hk,eq_of_beq ho.1,<-eq_of_beq f2] at this
       show Eat ts z'.n ((1,bl (bH u f.num).nm,0) :: cK 61 :: bU (b9 N s (bH u f.num).ty (pP N s ts f.ty (iH ts z')).1 [])) _
       rw [hff]
       exact this
     · have:=(tF N s ts f.ty (iH ts z') m2).1
       have:bN ts z'.n < (iH ts z').n:=m1
       show z'.n<=(pP N s ts f.ty (iH ts z')).2.n
       omega
   obtain ⟨_,l,l1,l2,l3,l4⟩:=IZ hg hone h hb
   have l1:(cI (dH (pP N) s ts u) [123] [125] ts (0,[]) z).1.2=l:=by rw [l1,sR]; rfl
   unfold gM
   show Eat ts z.n (bU (([],eM 123) :: (gN (b9 N s) u false (cI (dH (pP N) s ts u) [123] [125] ts (0,[]) z).1.2 ++ [([],eM 125)]))) _/\_/\(Vl.mk 6 0 (mk []) [] (cI (dH (pP N) s ts u) [123] [125] ts (0,[]) z).1.2).h<=N + 1/\jO (.mk 6 0 (mk []) [] (cI (dH (pP N) s ts u) [123] [125] ts (0,[]) z).1.2)=true
   rw [l1]
   refine ⟨?_,l3,?_,?_⟩
   · rw [<-aEI] at l2
     have e:bU (([],eM 123) :: (gN (b9 N s) u false l ++ [([],eM 125)]))=cK 123 :: (bU (gN (b9 N s) u false l) ++ [cK 125]):=by rw [<-List.singleton_append,eY,eY]; rfl
     rw [e]; exact l2
   · have:=SK fun x hx=>(l4 x hx).1
     rw [Vl.h,Vl.hl]; omega
   · rw [qD]
     show (true && (pF [] && oW l))=true
     rw [RP fun x hx=>(l4 x hx).2]; rfl
  | false=>
   rw [c6,aD] at hb
   simp only [aD]
   obtain ⟨_,a1,a2,_,a4,a5⟩:=KR hg (k:=2) (by decide) h hb
   have ho:=hgt.o (by rw [a2]; decide)
   rw [a2] at ho
   have ho:((aT ts z.n).x == [])=true:=ho
   unfold CY
   rw [a1]
   refine ⟨?_,a4,vX N t.k _⟩
   rw [cQ,a2,eq_of_beq ho] at a5
   exact a5
theorem LH:∀ (l:List UInt8) (n:Nat),(∀ c ∈ l,a7 c=true)->decV n l < (n + 1) * 10 ^ l.length
 | [],n,_=>by rw [kI]; simp
 | c :: l,n,h=>by
  have hc:=iU.1 (h c (by simp))
  have ih:=LH l (10 * n + (c.toNat - 48)) fun d hd=>h d (by simp [hd])
  rw [fQ,List.length_cons,Nat.pow_succ]
  have h1:10 * n + (c.toNat - 48) + 1<=(n + 1) * 10:=by omega
  have h2:=Nat.mul_le_mul_right (10 ^ l.length) h1
  have h3:(n + 1) * 10 * 10 ^ l.length=(n + 1) * (10 ^ l.length * 10):=by rw [Nat.mul_assoc,Nat.mul_comm 10]
  omega
theorem yI:∀ (m:Nat) (r:List UInt8) (i:Nat) (out:List UInt8) (z:Nat) (o:List UInt8),r.length<=m->quoL i r out=(z,some o)->(o.flatMap gI).length + i + 1<=z + (out.flatMap gI).length
 | _,[],i,out,z,o,_,h=>by rw [lN] at h; cases h
 | 0,c :: r,i,out,z,o,hm,_=>by simp at hm
 | m + 1,c :: r,i,out,z,o,hm,h=>by
  rw [eS] at h
  have app:∀ d:UInt8,((out ++ [d]).flatMap gI).length=(out.flatMap gI).length + (gI d).length:=fun d=>by simp
  cases c1:decide (c < 32) || decide (126 < c) with
  | true=>rw [c1] at h; cases h
  | false=>
  rw [c1,aD] at h
  cases c2:c == 34 with
  | true=>
   rw [c2] at h
   simp only [aI,Prod.mk.injEq,aJ] at h
   rw [h.2]; omega
  | false=>
  rw [c2,aD] at h
  cases c3:c == 92 with
  | false=>
   rw [c3,aD] at h
   have:=yI m r _ _ z o (by simp at hm; omega) h
   rw [app,show (gI c).length=1 by unfold gI; rw [c2,c3]; rfl] at this
   omega
  | true=>
   rw [c3,aI] at h
   cases r with
   | nil=>cases h
   | cons d r=>
    simp only at h
    cases c4:d == 34 || d == 92 with
    | false=>rw [c4] at h; cases h
    | true=>
     rw [c4,aI] at h
     have:=yI m r _ _ z o (by simp at hm; omega) h
     have hl:=HN d
     rw [app] at this
     omega
theorem WF {l:List UInt8} {p:Nat} {k n:Int} {x:List UInt8} {z:Nat} (h:cF l p=.ok k x n z) (hk:k ≠ 0):(dA k x n).length + p<=z:=by
 unfold cF at h
 split at h
 · simp only [R.ok.injEq] at h
   exact absurd h.1.symm hk
 · rename_i c hc
   cases c1:bD c.toNat with
   | true=>
    rw [c1,aI] at h
    unfold fJ at h
    simp only at h
    cases d1:decide (16 < bC aU l p - p) with
    | true=>rw [d1] at h; cases h
    | false=>
     rw [d1,aD] at h
     cases d2:l[bC aU l p]? == some 45 with
     | true=>rw [d2] at h; cases h
     | false=>
      rw [d2,aD] at h
      simp only [R.ok.injEq] at h
      obtain ⟨rfl,rfl,rfl,rfl⟩:=h
      have:=lY (p:=aU) (l:=l) (a:=p)
      show ((l.take (bC aU l p)).drop p).length + p<=bC aU l p
      simp only [List.length_drop,List.length_take]; omega
   | false=>
   rw [c1,aD] at h
   cases c2:a7 c || c == 45 with
   | true=>
    rw [c2,aI] at h
    unfold fM at h
    simp only at h
    have hd:∀ d ∈ (l.take (bC a7 l (bif l[p]? == some 45 then p + 1 else p))).drop (bif l[p]? == some 45 then p + 1 else p),a7 d=true:=fun d hd=>oR d hd
    have hge:=lY (p:=a7) (l:=l) (a:=bif l[p]? == some 45 then p + 1 else p)
    have hsl:((l.take (bC a7 l (bif l[p]? == some 45 then p + 1 else p))).drop (bif l[p]? == some 45 then p + 1 else p)).length + (bif l[p]? == some 45 then p + 1 else p)<=bC a7 l (bif l[p]? == some 45 then p + 1 else p):=by
     simp only [List.length_drop,List.length_take]; omega
    generalize (l.take (bC a7 l (bif l[p]? == some 45 then p + 1 else p))).drop (bif l[p]? == some 45 then p + 1 else p)=s at *
    generalize (l[p]? == some 45)=neg at *
    cases d1:s == [] || (s[0]? == some 48 && (decide (1 < s.length) || neg)) with
    | true=>rw [d1] at h; cases h
    | false=>
    rw [d1,aD] at h
    rw [rU (lim:=b6 neg) (by cases neg<;>decide) _ _ (Nat.zero_le _) hd] at h
    cases hv:decide (decV 0 s<=b6 neg) with
    | false=>rw [hv] at h; cases h
    | true=>
    rw [hv] at h
    simp only [aI] at h
    cases d2:kY l (bC a7 l (bif neg then p + 1 else p)) with
    | true=>rw [d2] at h; cases h
    | false=>
     rw [d2,aD] at h
     simp only [R.ok.injEq] at h
     obtain ⟨rfl,rfl,rfl,rfl⟩:=h
     have hpos:0 < s.length:=by
      rw [Bool.or_eq_false_iff] at d1
      exact List.length_pos_iff.2 (by simpa using d1.1)
     have hlt:=LH s 0 hd
     have hdl:(digs (decV 0 s)).length<=s.length:=by
      have:=oV (s.length - 1) (decV 0 s) (by rw [show s.length - 1 + 1=s.length by omega]; simpa using hlt)
      omega
     show (dS (signed neg (decV 0 s))).length + p<=_
     have hds:(dS (signed neg (decV 0 s))).length<=(bif neg then 1 else 0) + (digs (decV 0 s)).length:=by
      unfold dS signed
      cases neg with
      | false=>simp only [aD]; rw [show decide (((decV 0 s:Nat):Int) < 0)=false by simp,aD,Int.natAbs_natCast]; omega
      | true=>
       simp only [aI,Int.natAbs_neg,Int.natAbs_natCast]
       cases decide (-((decV 0 s:Nat):Int) < 0)<;>simp<;>omega
     cases neg<;>simp only [aI,aD] at hsl hds ⊢<;>omega
   | false=>
   rw [c2,aD] at h
   cases c3:c == 34 with
   | true=>
    rw [c3,aI] at h
    unfold e7 at h
    split at h
    · cases h
    · rename_i z' o ho
      cases d1:decide (200 < o.length) with
      | true=>rw [d1] at h; cases h
      | false=>
       rw [d1,aD] at h
       simp only [R.ok.injEq] at h
       obtain ⟨rfl,rfl,rfl,rfl⟩:=h
       have:=yI _ _ _ [] _ _ (Nat.le_refl _) ho
       show (iO o).length + p<=z'
       unfold iO
       simp at this ⊢
       omega
   | false=>
   rw [c3,aD] at h
   cases c4:dB c.toNat with
   | false=>rw [c4] at h; cases h
   | true=>
    rw [c4,aI] at h
    simp only [R.ok.injEq] at h
    obtain ⟨rfl,rfl,rfl,rfl⟩:=h
    show 1 + p<=p + 1
    omega
def wT:List jQ->Nat
 | []=>0
 | (k,x,n) :: r=>(dA k x n).length + 1 + wT r
theorem TB:∀ a b:List jQ,wT (a ++ b)=wT a + wT b
 | [],b=>by rw [List.nil_append,wT]; omega
 | (k,x,n) :: a,b=>by rw [List.cons_append,wT,wT,TB a b]; omega
theorem EM {l:List UInt8}:∀ (f a:Nat) (ts:List Tk),a<=l.length->c8 f l a=.ok ts->wT (ts.map cQ) + 2 * a<=2 * l.length + 1
 | 0,a,ts,ha,h=>by cases h; show 0 + 2 * a<=_; omega
 | f + 1,a,ts,ha,h=>by
  rw [c8] at h
  have hle:=lP ha
  have hge:=rO (l:=l) (a:=a)
  split at h
  · cases h
  · rename_i k x n z hR
    have ht:=(mN hle).2 hR
    cases hk:k == 0 with
    | true=>
     rw [hk] at h
     simp only [aI,SR.ok.injEq] at h
     subst h
     obtain ⟨h1,rfl,rfl⟩:=ht.zero (eq_of_beq hk)
     have e:dA k [] 0=[]:=by rw [eq_of_beq hk]; rfl
     show (dA k [] 0).length + 1 + 0 + 2 * a<=_
     rw [e]; simp; omega
    | false=>
     rw [hk] at h
     have hk0:k ≠ 0:=by simpa using hk
     obtain ⟨_,_,h2,h3,_⟩:=ht.one hk0
     have hl:=WF hR hk0
     cases hr:c8 f l z with
     | bad e t=>rw [hr] at h; cases h
     | ok us=>
      rw [hr] at h
      simp only [aD,SR.cons,SR.ok.injEq] at h
      subst h
      have ih:=EM f z us h3 hr
      show (dA k x n).length + 1 + wT (us.map cQ) + 2 * a<=_
      omega
theorem SO (l:List UInt8):wT ((aQ l).toks.map cQ)<=2 * l.length + 1:=by
 unfold aQ
 cases h:decide (4000 < l.length) with
 | true=>exact Nat.zero_le _
 | false=>
  rw [aD]
  cases hr:c8 (l.length + 1) l 0 with
  | bad e t=>exact Nat.zero_le _
  | ok ts=>have:=EM _ _ _ (Nat.zero_le _) hr; show wT (ts.map cQ)<=_; omega
theorem TI:∀ us:hU,(∀ u ∈ us,u.1.length<=1)->(cG us).length<=wT (bU us)
 | [],_=>Nat.le_refl _
 | (g,t) :: r,h=>by
  have h1:g.length<=1:=h (g,t) (by simp)
  have h2:=TI r fun u hu=>h u (List.mem_cons_of_mem _ hu)
  rw [cG,List.length_append,List.length_append]
  show _<=(sZ t).length + 1 + wT (bU r)
  omega
def Gp (l:hU):Prop:=∀ u ∈ l,u.1.length<=1
theorem Gp.nil:Gp []:=fun _ h=>by cases h
theorem Gp.cons {g:List UInt8} {t:Tx} {l:hU} (h1:g.length<=1) (h2:Gp l):Gp ((g,t) :: l):=fun u hu=>by
 rcases List.mem_cons.1 hu with rfl | hu
 · exact h1
 · exact h2 u hu
theorem Gp.app {a b:hU} (h1:Gp a) (h2:Gp b):Gp (a ++ b):=fun u hu=>by
 rcases List.mem_append.1 hu with hu | hu
 · exact h1 u hu
 · exact h2 u hu
theorem Q3 {F:Vl->List UInt8->hU} (hF:∀ x g,g.length<=1->Gp (F x g)):∀ (c:Bool) (l:List Vl),Gp (jB F c l)
 | _,[]=>Gp.nil
 | c,x :: r=>by
  rw [jB]
  refine Gp.app (by cases c<;>first | exact Gp.nil | exact Gp.cons (by decide) Gp.nil) (Gp.app (hF x _ (by cases c<;>decide)) (Q3 hF true r))
theorem QN {F:Ty->Vl->List UInt8->hU} (hF:∀ t x g,g.length<=1->Gp (F t x g)) (u:St):∀ (c:Bool) (l:List (Int × Vl)),Gp (gN F u c l)
 | _,[]=>Gp.nil
 | c,x :: r=>by
  rw [gN]
  refine Gp.app (by cases c<;>first | exact Gp.nil | exact Gp.cons (by decide) Gp.nil) (Gp.cons (by cases c<;>decide) (Gp.cons (by decide) (Gp.app (hF _ _ _ (by decide)) (QN hF u true r))))
theorem J8 (s:Sc):∀ (N:Nat) (t:Ty) (v:Vl) (g:List UInt8),g.length<=1->Gp (b9 N s t v g)
 | 0,_,_,_,_=>Gp.nil
 | N + 1,t,v,g,h=>by
  rw [jP]
  cases t.k == 1 with
  | true=>exact Gp.cons h Gp.nil
  | false=>
  cases t.k == 4 with
  | true=>exact Gp.cons h Gp.nil
  | false=>
  cases t.k == 7 with
  | true=>exact Gp.cons h Gp.nil
  | false=>
  cases t.k == 5 with
  | true=>exact Gp.cons h (Gp.app (Q3 (fun x g hg=>J8 s N _ x g hg) false _) (Gp.cons (by decide) Gp.nil))
  | false=>
  cases t.k == 6 with
  | true=>exact Gp.cons h (Gp.app (QN (fun t x g hg=>J8 s N t x g hg) _ false _) (Gp.cons (by decide) Gp.nil))
  | false=>exact Gp.cons h Gp.nil
theorem UJ {P:Prs} {s:Sc} {t:Ty} {x:List UInt8} {v:Vl} {a:Int} (h:fK P s t x=(v,0,a)) :
 mZ s t=true/\(aQ x).err=0/\(rN (aQ x).toks (P s (aQ x).toks t ⟨false,0,0⟩).2).bad=false/\(P s (aQ x).toks t ⟨false,0,0⟩).1=v/\fG s t v=0/\a=0:=by
 unfold fK at h
 cases h1:mZ s t with
 | false=>rw [h1] at h; exact absurd (show (13:Int)=0 from congrArg (fun w=>w.2.1) h) (by decide)
 | true=>
  rw [h1,Bool.not_true,aD] at h
  cases h2:(aQ x).err != 0 with
  | true=>
   rw [h2,aI] at h
   have:(aQ x).err=0:=congrArg (fun w=>w.2.1) h
   rw [this] at h2; cases h2
  | false=>
   rw [h2,aD] at h
   have h0:(aQ x).err=0:=by simpa using h2
   unfold CV at h
   generalize P s (aQ x).toks t ⟨false,0,0⟩=r at *
   cases h3:(rN (aQ x).toks r.2).bad with
   | true=>rw [h3] at h; exact absurd (show (2:Int)=0 from congrArg (fun w=>w.2.1) h) (by decide)
   | false=>
    rw [h3,aD] at h
    cases h4:fG s t r.1 != 0 with
    | true=>
     rw [h4,aI] at h
     have:fG s t r.1=0:=congrArg (fun w=>w.2.1) h
     rw [this] at h4; cases h4
    | false=>
     rw [h4,aD] at h
     have hv:r.1=v:=congrArg (fun w=>w.1) h
     refine ⟨rfl,h0,rfl,hv,?_,(congrArg (fun w=>w.2.2) h).symm⟩
     rw [<-hv]; simpa using h4
theorem S4 {s:Sc} (hf:s.fit) (hd:Dg s) {t:Ty} (ht:TyOk t) (hD:mZ s t=true->dP 16 s t) {x:List UInt8} (hx:x.length<=800) {v:Vl} {a:Int} (hp:fK (pP 16) s t x=(v,0,a)) :
 lD (fP 16) s t v ≠ []/\(aQ x).err=0/\(aQ (lD (fP 16) s t v)).err=0/\(aQ (lD (fP 16) s t v)).toks.map cQ=(aQ x).toks.map cQ/\v.h<=16/\fG s t v=0/\VlOk v:=by
 have hvo:=Q1 hf ht hD x
 rw [hp] at hvo
 have hvo:VlOk v:=hvo
 obtain ⟨hpm,h0,h1,h2,h3,_⟩:=UJ hp
 have hgts:Gts (aQ x).toks:=⟨(AX h0).e,sD x⟩
 have hlen:=SO x
 generalize (aQ x).toks=ts at *
 unfold rN at h1
 cases hk:(aT ts (pP 16 s ts t ⟨false,0,0⟩).2.n).k != 0 with
 | true=>
  rw [hk,aI,jT] at h1; cases h1
 | false=>
 rw [hk,aD] at h1
 have hk:(aT ts (pP 16 s ts t ⟨false,0,0⟩).2.n).k=0:=by simpa using hk
 obtain ⟨e1,e2,e3,e4⟩:=IP hd.ni hgts 16 t ⟨false,0,0⟩ (hD hpm) hgts.e.pos h1
 rw [h2] at e1 e3 e4
 generalize (pP 16 s ts t ⟨false,0,0⟩).2.n=m at *
 have hend:(ts.map cQ).drop m=[(0,[],0)]:=by
  have hl:=(hgts.e.last m _ (gZ e2)).1 hk
  obtain ⟨g1,g2⟩:=(hgts.g _ (sE e2)).e hk
  have hm:m < (ts.map cQ).length:=by simpa using e2
  have e:aT ts m=ts[m]:=by unfold aT; simp [List.getD_eq_getElem?_getD,aW e2]
  rw [List.drop_eq_getElem_cons hm,List.getElem_map,<-e,List.drop_eq_nil_iff.2 (by simp; omega),cQ,hk,g1,g2]
 have e1:ts.map cQ=bU (b9 16 s t v []) ++ [(0,[],0)]:=by
  have e1:(ts.map cQ).drop 0=bU (b9 16 s t v []) ++ (ts.map cQ).drop m:=e1
  rw [hend,List.drop_zero] at e1; exact e1
 obtain ⟨hc,_⟩:=rR h3
 have hb:(fP 16 s t v).2=false:=by rw [GI 16 s t v e3 hc,e4]; rfl
 have hsx:=BF 16 s t v [] (by decide) e3 hb
 rw [List.nil_append] at hsx
 have hl1:=TI _ (J8 s 16 t v [] (by decide))
 rw [hsx] at hl1
 rw [e1,TB] at hlen
 have hl2:decide (4000 < ((fP 16 s t v).1.length:Int))=false:=by rw [decide_eq_false_iff_not]; omega
 have hfm:lD (fP 16) s t v=(fP 16 s t v).1:=by
  unfold lD
  rw [h3,hb,hl2]; rfl
 have hok:=vD 16 s t v [] [] hd.ni hvo e3 hc e4 kQ trivial (fun c hc=>by cases hc)
 rw [List.append_nil] at hok
 obtain ⟨s1,s2⟩:=IM hok (by rw [hsx]; omega)
 rw [hsx] at s1 s2
 rw [hfm]
 refine ⟨fun hn=>?_,h0,s1,by rw [s2,e1]; rfl,e3,h3,hvo⟩
 rw [hn] at s2
 obtain ⟨k,y,m,R,q,_⟩:=II (N:=16) (s:=s) (t:=t) (v:=v) (by decide)
 have s2:((aQ []).toks.map cQ)=bU (b9 16 s t v []) ++ [(0,[],0)]:=s2
 rw [q] at s2
 have:=congrArg List.length s2
 rw [show ((aQ []).toks.map cQ).length=1 from rfl] at this
 simp at this
attribute [go_sem ↓] mK
theorem EK:∀ (a b:List Tx) (acc:List UInt8),a.map wM=b.map wM->a.foldl kK acc=b.foldl kK acc
 | [],[],_,_=>rfl
 | [],_ :: _,_,h=>by cases h
 | _ :: _,[],_,h=>by cases h
 | x :: a,y :: b,acc,h=>by
  rw [List.map_cons,List.map_cons] at h
  obtain ⟨h1,h2⟩:=List.cons.inj h
  simp only [wM,Prod.mk.injEq] at h1
  rw [List.foldl_cons,List.foldl_cons,show kK acc x=kK acc y by unfold kK; rw [h1.1,h1.2.1,h1.2.2]]
  exact EK a b _ h2
theorem NA {l:List UInt8} (h:(aQ l).err=0):BC [.va (.c1 (.fz ((aQ l).toks.map dI)))]:=by
 refine ⟨(aQ l).toks.map tx,by rw [List.map_map]; rfl,by rw [List.length_map]; exact (AX h).e.le,fun t ht=>?_⟩
 obtain ⟨u,hu,rfl⟩:=List.mem_map.1 ht
 exact aGX (sD l u hu)
theorem LM (ts:List Tk):tV [.va (.c1 (.fz (ts.map dI)))]=tA (mk (gP (ts.map tx))):=by
 have:=mI (ts.map tx)
 rw [List.map_map] at this
 exact this
theorem WG {ts us:List Tk} (h:ts.map cQ=us.map cQ):gP (ts.map tx)=gP (us.map tx):=by
 unfold gP
 exact EK _ _ _ (by rw [List.map_map,List.map_map]; exact h)
theorem UV {P:Prs} {s:Sc} {t:Ty} {x:List UInt8} (h:(fK P s t x).2.1 ≠ 0):(fK P s t x).1=v0:=by
 unfold fK at *
 cases h1:mZ s t with
 | false=>rfl
 | true=>
  rw [h1] at h
  cases h2:(aQ x).err != 0 with
  | true=>rfl
  | false=>
   rw [h2] at h
   simp only [Bool.not_true,aD] at h ⊢
   unfold CV at *
   cases h3:(rN (aQ x).toks (P s (aQ x).toks t ⟨false,0,0⟩).2).bad with
   | true=>rfl
   | false=>
    rw [h3] at h
    simp only [aD] at h ⊢
    cases h4:fG s t (P s (aQ x).toks t ⟨false,0,0⟩).1 != 0 with
    | true=>rfl
    | false=>rw [h4] at h; exact absurd rfl h
noncomputable def EX:cS:=[(8,.f feFn),(10,.f qTrue),(11,.f (FC 16)),(13,.s (tN (dP 16) (pP 16))),(16,.s mK),(17,.f prtFn),(15,.f eqFn)]
theorem G4:j5 EX 8=some feFn:=rfl
theorem tK:j5 EX 10=some qTrue:=rfl
theorem QT:j5 EX 11=some (FC 16):=rfl
theorem RE:sp EX 13=tN (dP 16) (pP 16):=rfl
theorem S3:sp EX 16=mK:=rfl
theorem aIW:j5 EX 17=some prtFn:=rfl
theorem QP:j5 EX 15=some eqFn:=rfl
theorem KP:Meets Tryz.prog 7 lpFn.sp:=by
 refine aE (Γ:=EX) Tryz.func7 aO1 3 (by rw [Tryz.ntmps7]; decide) (aH aFW (aH UG (aH (G7 16) (aB (NV 16) (aB aDO (aH VL (aH aB3 (aA _)))))))) (fun av H K h=>by obtain ⟨_,_,_,rfl,_⟩:=zT h.1.1; rfl) ?_
 rintro av H K ⟨⟨h,rfl⟩,hK⟩
 obtain ⟨s,t,x,rfl,hs,ht,hx⟩:=zT h
 have hK:K (bS true) []:=hK
 clear h
 have fin:∀ R:Hp,W.Fin 0 K (bS true) R:=fun R=>.sel [] (by simp) (by simp) rfl (.done (by simpa [go_sem] using hK))
 clear hK
 rw [iE] at hx
 have k4:=jG ht
 have k5:=oN t
 have k6:=ME hs
 have k7:=oG s
 cases h1:uW s t with
 | false=>
  simp (maxSteps:=1000000) -dsimp only [go_sem,aG,aO t,PI,OG,G4,tK,k4,k5,k6,k7,h1]
  exact fin _
 | true=>
 cases h2:decide (800 < ((bl x).length:Int)) with
 | true=>
  simp (maxSteps:=1000000) -dsimp only [go_sem,aG,aO t,PI,OG,G4,tK,k4,k5,k6,k7,h1,h2]
  exact fin _
 | false=>
  obtain ⟨hf,hd,hft⟩:=aCQ hs h1
  have hD:mZ s t=true->dP 16 s t:=fun h=>aH0 hf hd ht hft (by rw [<-aAJ hd]; exact h)
  have hok:=Q1 hf ht hD (bl x)
  have hfail:=UV (P:=pP 16) (s:=s) (t:=t) (x:=bl x)
  have hshort:=fun v a=>S4 (v:=v) (a:=a) hf hd ht hD (x:=bl x) (by have:=of_decide_eq_false h2; omega)
  simp (maxSteps:=1000000) -dsimp only [go_sem,aG,aO t,PI,OG,G4,tK,k4,k5,k6,k7,h1,h2]
  refine aF rfl (.done ?_)
  simp (maxSteps:=1000000) -dsimp only [go_sem,GU,RE]
  refine JN hf ht hD ?_
  generalize fK (pP 16) s t (bl x)=r at *
  obtain ⟨v,e,a⟩:=r
  have hok:VlOk v:=hok
  simp (maxSteps:=1000000) -dsimp only [go_sem,aX v]
  refine aF rfl (.done ?_)
  cases h3:e != 0 with
  | true=>
   obtain rfl:v=v0:=hfail (by simpa using h3)
   simp (maxSteps:=1000000) -dsimp only [go_sem,A0,QP,tK,h3]
   exact ⟨⟨rfl,f6 hok⟩,fin _⟩
  | false=>
   obtain rfl:e=0:=by simpa using h3
   obtain ⟨n1,n2,n3,n4,n5,n6,_⟩:=hshort v a rfl
   have hrt:=aE5 (s:=s) hd (t:=t) hok n5 n1
   have k1:=f6 hok
   have k2:=lK v
   have k8:=jL hf
   have k9:(fG s t v=0->dF 16 s t v)=True:=eq_true fun h=>N7 16 s t v hf hd.ni ht hok n5 (rR h).1 (rR h).2
   simp (maxSteps:=1000000) -dsimp only [go_sem,A0,h3]
   refine aF rfl (.done ?_)
   simp (maxSteps:=1000000) -dsimp only [go_sem,HO,QT,FC,k1,k2,k4,k5,k6,k7,k8,k9]
   generalize hy:lD (fP 16) s t v=y at *
   refine aF rfl (.done ?_)
   simp (maxSteps:=1000000) -dsimp only [go_sem,HI,RE]
   refine JN hf ht hD ?_
   rw [jF,hrt]
   simp (maxSteps:=1000000) -dsimp only [go_sem,aX v]
   refine aF rfl (.done ?_)
   simp (maxSteps:=1000000) -dsimp only [go_sem,KE,S3]
   refine aF rfl (.done ?_)
   simp (maxSteps:=1000000) -dsimp only [go_sem,I7,S3]
   refine aF rfl (.done ?_)
   have p1:=eq_true (NA n2)
   have p2:=eq_true (NA n3)
   have q1:=LM (aQ (bl x)).toks
   have q2:=LM (aQ y).toks
   have q3:=WG n4
   rw [q3] at q2
   simp (maxSteps:=1000000) -dsimp only [go_sem,B6,QP,tK,QT,aIW,FC,prtFn,k1,k2,k4,k5,k6,k7,k8,k9,hy,p1,p2,q1,q2,n2,n3,beq_self_eq_true]
   exact fin _
end Go.Proofs.YtkpohmhenegkiaaGreatDoor
namespace Go.W
open Go.RowKit
structure Stay (w w':World):Prop where
 os:w'.os=w.os
 out:w'.output=w.output
 size:w.heap.size<=w'.heap.size
 keep:∀ b:Nat,b < w.heap.size->w'.heap[b]? = w.heap[b]?
theorem Stay.kept {w w':World} (h:Stay w w') (may:MemPlace->Prop):w.keptBut w' may:=by
 refine ⟨h.os,h.out,fun i hi=>?_⟩
 rw [h.keep i hi]
 split
 · rename_i h1 h2; rw [h1] at h2; cases h2; exact ⟨rfl,rfl,rfl,fun _ _=>rfl⟩
 · rename_i h1 h2; rw [h1] at h2; cases h2; exact Or.inr ⟨rfl,rfl⟩
 · rfl
theorem Stay.frozen {w w':World} (h:Stay w w') {a:Addr} (ha:a.block < w.heap.size):w'.frozen? a=w.frozen? a:=by
 unfold World.frozen?; rw [h.keep _ ha]
theorem Stay.cell {w w':World} (h:Stay w w') {a:Addr} (ha:a.block < w.heap.size):w'.cell? a=w.cell? a:=by
 unfold World.cell?; rw [h.keep _ ha]
theorem aCP {w:World} {ro:RO} (h:∀ (b off:Nat) (v:Value),ro b off=some v->w.cell? ⟨b,off,none⟩=some v):Rel ⟨w,dY [],ro,gm []⟩ [] ro w where
 own:=fun n g blk h=>by simp at h
 inj:=fun n m gn gm bn bm b h=>by simp at h
 apart:=fun b off v _ n g blk h=>by simp at h
 rd:=h
 ro0:=fun _ _ _ h=>h
 rob:=fun b off v h=>.inl h
 par:=fun n b g blk h=>by simp at h
 gx:=.refl _
 sz:=Nat.le_refl _
 keep:=fun b _ _=>rfl
 os:=rfl
 tape:=rfl
 output:=rfl
theorem Meets.run {P:Program} {f:FuncId} {s:Fun} (hm:Meets P f s.sp) {av:List S} {vs:List Value} {ro:RO} {w:World} {x:A} (hpre:s.pre av) (hval:s.val av=x) (hl:av.length=vs.length)
 (hrel:∀ (i:Nat) (x:S) (v:Value),av[i]? = some x->vs[i]? = some v->x.rel (gm []) ro v) (hro:∀ (b off:Nat) (v:Value),ro b off=some v->w.cell? ⟨b,off,none⟩=some v) (hG:GR P ro w) :
 Calls P f vs.toArray w fun e w'=>∃ v γ ro',e=.returned v/\S.rel γ ro' (.va x) v/\Stay w w':=by
 subst hval
 refine (hm.2 av vs [] ro w (fun r H=>r=.va (s.val av)/\H=[]) hl hrel (aCP hro) ⟨⟨hpre,rfl⟩,rfl,rfl⟩ hG).mono ?_
 rintro e w' ⟨r,v,E',ro',rfl,h1,⟨rfl,h2⟩,h3⟩
 exact ⟨v,_,ro',rfl,h1,h3.os,h3.output,h3.sz,fun b hb=>h3.keep b hb (by simp [dY])⟩
theorem Meets.yes {P:Program} {f:FuncId} {s:Fun} (hm:Meets P f s.sp) {av:List S} {vs:List Value} {ro:RO} {w:World} (hpre:s.pre av) (hval:s.val av=.c1 (.vl (.bool true))) (hl:av.length=vs.length)
 (hrel:∀ (i:Nat) (x:S) (v:Value),av[i]? = some x->vs[i]? = some v->x.rel (gm []) ro v) (hro:∀ (b off:Nat) (v:Value),ro b off=some v->w.cell? ⟨b,off,none⟩=some v) (hG:GR P ro w) :
 Calls P f vs.toArray w fun e w'=>e=.returned (.bool true)/\Stay w w':=by
 refine (hm.run hpre hval hl hrel hro hG).mono ?_
 rintro e w' ⟨v,γ,ro',rfl,h1,h2⟩
 have:v=.bool true:=h1
 exact ⟨by rw [this],h2⟩
section
variable {H:Type} {enc:TypeId × Value->H} {P:Program}
theorem H5 {f:Func} {s:ChangeSpec} {apart fresh handsOn again:Bool} {W W':World} {args:Array Value} {v:Value} {ds gs:List (DataW H)} {before pa pv:List MemPlace}
 (hW:DataW.Whole enc P f.params.toList s.vars apart W args.toList ds gs before)
 (hres:∀ (b:Nat) (sp:Nat->Bool) (hd:Bool),DataW.TrodAll enc P W' b sp hd f.resultTypes.toList (v.resultList f.resultTypes.size) (s.fn H (ds ++ gs)).results [])
 (hargs:∀ sp:Nat->Bool,(∀ p ∈ before,sp p.block=true)->DataW.TrodAll enc P W' 0 sp true f.params.toList args.toList (s.fn H (ds ++ gs)).args pa)
 (hvars:∀ sp:Nat->Bool,(∀ p ∈ before,sp p.block=true)->DataW.TrodVars enc P W' sp s.vars (s.fn H (ds ++ gs)).vars pv)
 (hps:before=pa ++ pv) (hs:Stay W W')
 (hok:∀ (j:Nat) (t:TypeId) (r:Value),f.resultTypes[j]? = some t->(v.resultList f.resultTypes.size)[j]? = some r->Value.okWide P W' .any 0 t r) :
 s.post enc P f apart fresh handsOn again W args v W':=by
 have hlt:∀ p ∈ before,p.block < W.heap.size:=fun p hp=>hW.lt p hp
 have hsp:∀ p ∈ before,(fun b=>decide (b < W.heap.size)) p.block=true:=fun p hp=>by simpa using hlt p hp
 have hall:∀ p ∈ before,(fun _:Nat=>true) p.block=true:=fun _ _=>rfl
 obtain ⟨_,_,_,_,_,hz,hn⟩:=id hW
 refine ⟨ds,gs,before,[],pa,pv,hW,hres _ _ _,hargs _ hsp,hvars _ hsp,World.keptBut_mono (fun p hp=>⟨hp,.inr ?_⟩) (hs.kept (· ∈ before)),fun _=>⟨hok,_,_,([] ++ pa) ++ pv,
  ⟨[] ++ pa,pv,ChangeShapes.trodAll_append (hargs _ hall) (hres _ _ _),hvars _ hall,rfl,fun b off hp=>?_,fun ha=>?_⟩,fun p hp _=>?_⟩⟩
 · rw [hps,List.mem_append] at hp; exact hp
 · have hb:MemPlace.cell b off ∈ before:=by rw [hps]; simpa using hp
   rw [hs.frozen (hlt _ hb)]
   exact hz b off hb
 · have:=hn ha
   rw [hps] at this
   simpa using this
 · rw [hps]
   simpa using hp
end
open Go.RowKit
def mG (W:World):RO:=fun b off=>W.cell? ⟨b,off,none⟩
theorem aE9 (W:World):∀ (b off:Nat) (v:Value),mG W b off=some v->W.cell? ⟨b,off,none⟩=some v:=fun _ _ _ h=>h
theorem aEY (ro:RO):FzR ro [] (.slice none 0 0):=
 FzR.mk [] 1 none none (fun h=>absurd rfl h) 0 (fun _=>.bool true) (by simp) (by simp) (by simp) (by simp) (by simp) (by simp) (by simp)
def sF (P:Program):Bool:=(List.range P.types.size).all fun t=>match P.underlying t with | some (.slice e)=>decide (0 < P.cellsOf e) | _=>true
section
variable {H:Type} {enc:TypeId × Value->H} {P:Program}
theorem S9 {W W':World} (h:Stay W W') {p:MemPlace} (hp:p.block < W.heap.size):W.sameAt W' p:=by
 cases p with
 | cell b off=>exact h.cell (a:=⟨b,off,none⟩) hp
 | map b=>exact h.keep b hp
theorem uA {W W':World} {sp:Nat->Bool} (hl:laidOutB P=true) (hm:mapsRowed P=true) (hs:sF P=true) (hst:Stay W W') :
 ∀ {ts:List TypeId} {vs:List Value} {ds:List (DataW H)} {ps:List MemPlace},(∀ t ∈ ts,t < P.types.size)->DataW.TrodAll enc P W 0 (fun _=>true) true ts vs ds ps->(∀ p ∈ ps,p.block < W.heap.size)->(∀ p ∈ ps,sp p.block=true)->
  DataW.TrodAll enc P W' 0 sp true ts vs ds ps
 | [],[],[],ps,_,h,_,_=>h
 | t :: ts,v :: vs,d :: ds,ps,ht,h,hb,hp=>by
  obtain ⟨p,q,⟨n,h1⟩,h2,rfl⟩:=h
  have hsz:∀ {t e:TypeId},t < P.types.size->P.underlying t=some (.slice e)->0 < P.cellsOf e:=fun {t e} ht hu=>by
   have:=List.all_eq_true.1 hs t (List.mem_range.2 ht)
   rw [hu] at this
   simpa using this
  exact ⟨p,q,⟨n,DataW.trod_stays (T:=(· < P.types.size)) (kids_rows hl hm) hsz (fun h=>by cases h) (ht t (by simp)) h1 (fun x hx=>S9 hst (hb x (by simp [hx]))) (fun x hx=>hp x (by simp [hx]))⟩,
   uA hl hm hs hst (fun u hu=>ht u (by simp [hu])) h2 (fun x hx=>hb x (by simp [hx])) (fun x hx=>hp x (by simp [hx])),rfl⟩
 | [],_ :: _,_,_,_,h,_,_=>h.elim
 | [],[],_ :: _,_,_,h,_,_=>h.elim
 | _ :: _,[],_,_,_,h,_,_=>h.elim
 | _ :: _,_ :: _,[],_,_,h,_,_=>h.elim
theorem V6 {f:Func} {s:ChangeSpec} {apart fresh handsOn again:Bool} {W W':World} {args:Array Value} {ds gs:List (DataW H)} {before:List MemPlace} {tb:TypeId}
 (hl:laidOutB P=true) (hm:mapsRowed P=true) (hsr:sF P=true) (hps:∀ t ∈ f.params.toList,t < P.types.size) (hrt:f.resultTypes=#[tb]) (htb:P.underlying tb=some .bool)
 (hvars:s.vars=[]) (hW:DataW.Whole enc P f.params.toList s.vars apart W args.toList ds gs before) (hfn:s.fn H (ds ++ gs)={ results:=[.lit (.bool true)],args:=ds,vars:=[] }) (hst:Stay W W') :
 s.post enc P f apart fresh handsOn again W args (.bool true) W':=by
 have hlt:∀ p ∈ before,p.block < W.heap.size:=fun p hp=>hW.lt p hp
 obtain ⟨p,q,hA,hV,hb,_,_⟩:=id hW
 have hq:q=[]:=by
  rw [hvars] at hV
  cases gs with
  | nil=>exact hV
  | cons g gs=>exact hV.elim
 subst hq
 have hbp:before=p:=by rw [hb]; simp
 refine H5 (pa:=p) (pv:=[]) hW (fun b sp hd=>?_) (fun sp hsp=>?_) (fun sp hsp=>?_) hb hst ?_
 · rw [hrt,hfn]
   exact ⟨[],[],⟨1,by simp [DataW.trod,Value.cells,htb]⟩,rfl,rfl⟩
 · rw [hfn]
   rw [hbp] at hlt hsp
   exact uA hl hm hsr hst hps hA hlt hsp
 · rw [hfn,hvars]; rfl
 · intro j t r h1 h2
   rw [hrt] at h1 h2
   match j with
   | 0=>
    cases h1
    cases h2
    simp [Value.okWide,Cell.okWide,Cell.ok,htb]
   | j + 1=>cases h1
end
open Go.RowKit
inductive Fit (P:Program):TypeId->List C->Prop
 | int {t:TypeId} {k:IntKind} {n:Int}:P.underlying t=some (.int k)->(Lit.int k n).wf=true->Fit P t [.vl (.int k n)]
 | bool {t:TypeId} {b:Bool}:P.underlying t=some .bool->Fit P t [.vl (.bool b)]
 | str {t:TypeId} {s:ByteArray}:P.underlying t=some .string->s.size<=maxLen->Fit P t [.vl (.string s)]
 | sl {t e:TypeId} {xs:List (List C)}:P.underlying t=some (.slice e)->xs.length<=maxLen->(∀ r ∈ xs,Fit P e r)->Fit P t [.fz xs]
 | st {t:TypeId} {fs:Array Field} {parts:List (List C)}:P.underlying t=some (.struct fs)->parts.length=fs.size->(∀ (i:Nat) (f:Field) (p:List C),fs[i]? = some f->parts[i]? = some p->Fit P f.type p)->Fit P t parts.flatten
section
variable {P:Program} {t e:TypeId} {xs:List C}
theorem Fit.inv_int {k:IntKind} (ht:P.underlying t=some (.int k)) (h:Fit P t xs):∃ n:Int,xs=[.vl (.int k n)]/\(Lit.int k n).wf=true:=by
 cases h with
 | int h1 h2=>rw [ht] at h1; cases h1; exact ⟨_,rfl,h2⟩
 | bool h1=>rw [ht] at h1; cases h1
 | str h1=>rw [ht] at h1; cases h1
 | sl h1=>rw [ht] at h1; cases h1
 | st h1=>rw [ht] at h1; cases h1
theorem Fit.inv_bool (ht:P.underlying t=some .bool) (h:Fit P t xs):∃ b:Bool,xs=[.vl (.bool b)]:=by
 cases h with
 | int h1 h2=>rw [ht] at h1; cases h1
 | bool h1=>exact ⟨_,rfl⟩
 | str h1=>rw [ht] at h1; cases h1
 | sl h1=>rw [ht] at h1; cases h1
 | st h1=>rw [ht] at h1; cases h1
theorem Fit.inv_str (ht:P.underlying t=some .string) (h:Fit P t xs):∃ s:ByteArray,xs=[.vl (.string s)]/\s.size<=maxLen:=by
 cases h with
 | int h1 h2=>rw [ht] at h1; cases h1
 | bool h1=>rw [ht] at h1; cases h1
 | str h1 h2=>exact ⟨_,rfl,h2⟩
 | sl h1=>rw [ht] at h1; cases h1
 | st h1=>rw [ht] at h1; cases h1
theorem Fit.inv_sl (ht:P.underlying t=some (.slice e)) (h:Fit P t xs):∃ ys:List (List C),xs=[.fz ys]/\ys.length<=maxLen/\∀ r ∈ ys,Fit P e r:=by
 cases h with
 | int h1 h2=>rw [ht] at h1; cases h1
 | bool h1=>rw [ht] at h1; cases h1
 | str h1=>rw [ht] at h1; cases h1
 | sl h1 h2 h3=>rw [ht] at h1; cases h1; exact ⟨_,rfl,h2,h3⟩
 | st h1=>rw [ht] at h1; cases h1
theorem Fit.inv_st {fs:Array Field} (ht:P.underlying t=some (.struct fs)) (h:Fit P t xs):∃ parts:List (List C),xs=parts.flatten/\parts.length=fs.size/\∀ (i:Nat) (f:Field) (p:List C),fs[i]? = some f->parts[i]? = some p->Fit P f.type p:=by
 cases h with
 | int h1 h2=>rw [ht] at h1; cases h1
 | bool h1=>rw [ht] at h1; cases h1
 | str h1=>rw [ht] at h1; cases h1
 | sl h1=>rw [ht] at h1; cases h1
 | st h1 h2 h3=>rw [ht] at h1; cases h1; exact ⟨_,rfl,h2,h3⟩
end
theorem Fit.rows {P:Program} {e:TypeId} {α:Type} {row:α->List C} {Q:α->Prop} {ys:List (List C)} (hi:∀ r,Fit P e r->∃ a,r=row a/\Q a) (h:∀ r ∈ ys,Fit P e r):∃ l:List α,ys=l.map row/\∀ a ∈ l,Q a:=by
 induction ys with
 | nil=>exact ⟨[],rfl,fun a h=>by cases h⟩
 | cons r ys ih=>
  obtain ⟨l,h1,h2⟩:=ih fun r hr=>h r (List.mem_cons_of_mem _ hr)
  obtain ⟨a,h3,h4⟩:=hi r (h r (by simp))
  refine ⟨a :: l,by rw [h1,h3]; rfl,fun x hx=>?_⟩
  rcases List.mem_cons.1 hx with rfl | hx
  · exact h4
  · exact h2 x hx
def K0 (P:Program):Nat->List Field->Option Nat
 | o,[]=>some o
 | o,f :: r=>if f.offset=o then K0 P (o + P.cellsOf f.type) r else none
def PK (P:Program) (ts:List TypeId):Bool:=ts.all fun t=>match P.underlying t with
 | some (.int _) | some .bool | some .string=>true
 | some (.slice e)=>ts.contains e && decide (0 < P.cellsOf e)
 | some (.struct fs)=>fs.toList.all (fun f=>ts.contains f.type) && K0 P 0 fs.toList == some (P.cellsOf t)
 | _=>false
theorem aFZ {P:Program} {R:C->Value->Prop} {Q:Field->List C->Prop} {cs:List Value}:∀ (fs:List Field) (o:Nat),K0 P o fs=some cs.length->
 (∀ (i:Nat) (f:Field),fs[i]? = some f->∃ p,Q f p/\All2 R p ((cs.drop f.offset).take (P.cellsOf f.type)))->
 ∃ parts:List (List C),parts.length=fs.length/\(∀ (i:Nat) (f:Field) (p:List C),fs[i]? = some f->parts[i]? = some p->Q f p)/\All2 R parts.flatten (cs.drop o)
 | [],o,ho,_=>by
  simp only [K0,aJ] at ho
  subst ho
  exact ⟨[],rfl,fun i f p h=>by simp at h,by simpa using All2.nil⟩
 | f :: fs,o,ho,h=>by
  simp only [K0] at ho
  split at ho
  · rename_i hf
    obtain ⟨parts,h1,h2,h3⟩:=aFZ fs _ ho fun i f hf=>h (i + 1) f (by simpa using hf)
    obtain ⟨p,h4,h5⟩:=h 0 f rfl
    refine ⟨p :: parts,by simp [h1],fun i g q hg hq=>?_,?_⟩
    · cases i with
      | zero=>simp at hg hq; subst hg hq; exact h4
      | succ i=>exact h2 i g q (by simpa using hg) (by simpa using hq)
    · have:cs.drop o=(cs.drop f.offset).take (P.cellsOf f.type) ++ cs.drop (o + P.cellsOf f.type):=by
       rw [hf,<-List.drop_drop,List.take_append_drop]
      rw [List.flatten_cons,this]
      exact h5.app h3
  · cases ho
section
variable {H:Type} {enc:TypeId × Value->H} {P:Program} {W:World} {ts:List TypeId}
theorem QQ {b off len cap sz:Nat} {oa:Option Addr} (hoa:len ≠ 0->oa=some ⟨b,off,none⟩) (hsz:0 < sz) (X:Nat->List C) (hl:∀ i,i < len->(X i).length=sz) (hc:len<=cap)
 (h:∀ i,i < len->∀ j c,(X i)[j]? = some c->∃ v,W.cell? ⟨b,off + (i * sz + j),none⟩=some v/\c.fv (mG W) v/\c.shut=true) :
 FzR (mG W) ((List.range len).map X) (.slice oa len cap):=by
 have hz:∀ x ∈ (List.range len).map X,x.length=sz:=fun x hx=>by
  obtain ⟨i,hi,rfl⟩:=List.mem_map.1 hx
  exact hl i (List.mem_range.1 hi)
 have hfl:∀ k c,((List.range len).map X).flatten[k]? = some c->∃ v,W.cell? ⟨b,off + k,none⟩=some v/\c.fv (mG W) v/\c.shut=true:=fun k c hk=>by
  have hkl:k < len * sz:=by
   have h1:=(a6.1 hk).1
   rw [kH _ hz] at h1
   simpa using h1
  have hi:k / sz < len:=(Nat.div_lt_iff_lt_mul hsz).2 hkl
  have hj:=Nat.mod_lt k hsz
  have hg:=oS hz (i:=k / sz) (j:=k % sz) (by simpa using hi) hj
  rw [Nat.mul_comm,Nat.div_add_mod,hk] at hg
  have hxi:((List.range len).map X)[k / sz]? = some (X (k / sz)):=by simp [hi]
  rw [hxi,Option.bind_some] at hg
  have:=h (k / sz) hi (k % sz) c hg.symm
  rwa [Nat.mul_comm,Nat.div_add_mod] at this
 have hr:=FzR.mk (ro:=mG W) ((List.range len).map X) sz (some (b,off)) oa (fun hne=>hoa (fun e=>by subst e; simp at hne)) cap (fun k=>(W.cell? ⟨b,off + k,none⟩).getD undef) hz (by simpa using hc) (fun _=>rfl)
  (fun k c hk=>by
    obtain ⟨v,h2,_⟩:=hfl k c hk
    simp [mG,h2])
  (fun k v hk=>by
    obtain ⟨u,h1,h2,_⟩:=hfl k _ hk
    have:u=v:=h2
    simp [h1,this])
  (fun k ys hk=>by
    obtain ⟨u,h1,h2,_⟩:=hfl k _ hk
    have:FzR (mG W) ys u:=h2
    simpa [h1] using this)
  (fun c hc=>by
    obtain ⟨k,hk⟩:=List.mem_iff_getElem?.1 hc
    obtain ⟨u,_,_,h3⟩:=hfl k c hk
    exact h3)
 simpa using hr
theorem pZ (hok:PK P ts=true):∀ (n:Nat) (t:TypeId) (cs:List Value) (y:DataW H × List MemPlace),t ∈ ts->DataW.trod enc P W 0 (fun _=>true) true n t cs=some y->
 ∃ xs,Fit P t xs/\All2 (C.fv (mG W)) xs cs/\∀ c ∈ xs,c.shut=true
 | 0,t,cs,y,_,h=>by simp [DataW.trod] at h
 | n + 1,t,cs,y,ht,h=>by
  have h1:=List.all_eq_true.1 hok t ht
  split at h1
  · rename_i k hu
    obtain ⟨m,rfl,_,hw⟩:=DataW.trod_int hu h
    exact ⟨_,.int hu hw,.cons rfl .nil,fun c hc=>by simp at hc; subst hc; rfl⟩
  · rename_i hu
    obtain ⟨b,rfl,_⟩:=DataW.trod_bool hu h
    exact ⟨_,.bool hu,.cons rfl .nil,fun c hc=>by simp at hc; subst hc; rfl⟩
  · rename_i hu
    obtain ⟨s,rfl,_,hs⟩:=DataW.trod_string hu h
    exact ⟨_,.str hu hs,.cons rfl .nil,fun c hc=>by simp at hc; subst hc; rfl⟩
  · rename_i e hu
    simp only [Bool.and_eq_true,List.contains_iff_mem,decide_eq_true_eq] at h1
    obtain ⟨he,hpos⟩:=h1
    rcases DataW.trod_slice hu h with ⟨rfl,_⟩ | ⟨a,len,cap,elems,rest,n',hn',rfl,_,_,hl,hm,hel,hi,_⟩
    · exact ⟨_,.sl hu (Nat.zero_le _) (fun r hr=>by cases hr),.cons (aEY _) .nil,fun c hc=>by simp at hc; subst hc; rfl⟩
    · obtain rfl:n=n':=by omega
      have hall:∀ i,i < len->∃ x:List C,Fit P e x/\x.length=P.cellsOf e/\(∀ j c,x[j]? = some c->∃ v,W.cell? ((a.add (i * P.cellsOf e)).add j)=some v/\c.fv (mG W) v/\c.shut=true):=fun i hil=>by
       have h1:=hi i hil
       rw [aW (by omega)] at h1
       obtain ⟨cs',h2,h3⟩:=Option.bind_eq_some_iff.1 h1
       obtain ⟨x,h4,h5,h6⟩:=pZ hok n e cs' _ he h3
       obtain ⟨_,h7,h8⟩:=World.cells?_some h2
       refine ⟨x,h4,h5.1.trans h7,fun j c hj=>?_⟩
       obtain ⟨v,h9,h10⟩:=h5.get hj
       have hjl:j < P.cellsOf e:=by rw [<-h7,<-h5.1]; exact (a6.1 hj).1
       refine ⟨v,?_,h10,h6 c (bJ hj)⟩
       have:=h8 j hjl
       rwa [h9] at this
      by_cases h0:len=0
      · subst h0
        refine ⟨[.fz []],.sl hu (Nat.zero_le _) (fun r hr=>by cases hr),.cons ?_ .nil,fun c hc=>by simp at hc; subst hc; rfl⟩
        exact QQ (b:=0) (off:=0) (fun h=>absurd rfl h) hpos (fun _=>[]) (fun i hi=>by omega) (Nat.zero_le _) (fun i hi=>by omega)
      · obtain ⟨x0,_,hx0l,hx0⟩:=hall 0 (by omega)
        have hsp:a.spot=none:=by
         have hx:∃ c,x0[0]? = some c:=⟨_,aW (by omega)⟩
         obtain ⟨c,hc⟩:=hx
         obtain ⟨v,hv,_⟩:=hx0 0 c hc
         unfold World.cell? at hv
         split at hv
         · split at hv
           · cases hv
           · rename_i hs; simpa [Addr.add] using hs
         · cases hv
        obtain ⟨b,off,spot⟩:=a
        obtain rfl:spot=none:=hsp
        haveI:Inhabited (List C):=⟨[]⟩
        obtain ⟨X,hX⟩:=Go.Deep.choose_lt hall
        refine ⟨[.fz ((List.range len).map X)],.sl hu (by simp; omega) (fun r hr=>?_),.cons ?_ .nil,fun c hc=>by simp at hc; subst hc; rfl⟩
        · obtain ⟨i,hi,rfl⟩:=List.mem_map.1 hr
          exact (hX i (List.mem_range.1 hi)).1
        · exact QQ (fun _=>rfl) hpos X (fun i hi=>(hX i hi).2.1) hl (fun i hi j c hj=>by
           obtain ⟨v,h2,h3⟩:=(hX i hi).2.2 j c hj
           exact ⟨v,by simpa [Go.WideShapes.add_plain,Nat.add_assoc] using h2,h3⟩)
  · rename_i fs hu
    simp only [Bool.and_eq_true,List.all_eq_true,List.contains_iff_mem,beq_iff_eq] at h1
    obtain ⟨hft,hof⟩:=h1
    obtain ⟨ys,n',hn,_,hcl,hyl,hf⟩:=DataW.trod_struct hu h
    obtain rfl:n=n':=by omega
    obtain ⟨parts,k1,k2,k3⟩:=aFZ (P:=P) (R:=fun c v=>C.fv (mG W) c v/\c.shut=true) (Q:=fun f p=>Fit P f.type p) (cs:=cs) fs.toList 0 (by rw [hcl]; exact hof) (fun i f hfi=>by
     have hfi':fs[i]? = some f:=by simpa using hfi
     have h2:=hf i f hfi'
     have hil:i < fs.size:=(Array.getElem?_eq_some_iff.1 hfi').1
     rw [aW (by omega)] at h2
     obtain ⟨x,h4,h5,h6⟩:=pZ hok n f.type _ _ (hft f (bJ hfi)) h2
     exact ⟨x,h4,⟨h5.1,fun j c v hc hv=>⟨h5.2 j c v hc hv,h6 c (bJ hc)⟩⟩⟩)
    refine ⟨parts.flatten,.st hu (by simpa using k1) (fun i f p hfi hp=>k2 i f p (by simpa using hfi) hp),?_,fun c hc=>?_⟩
    · simpa using k3.imp (fun _ _ h=>h.1)
    · obtain ⟨j,hj⟩:=List.mem_iff_getElem?.1 hc
      obtain ⟨v,_,_,h3⟩:=k3.get hj
      exact h3
  · cases h1
theorem sH (hok:PK P ts=true) {t:TypeId} {v:Value} {d:DataW H} {ps:List MemPlace} (ht:t ∈ ts) (h:DataW.Trod enc P W 0 (fun _=>true) true t v d ps):∃ xs,Fit P t xs/\All2 (C.fv (mG W)) xs v.cells.toList/\∀ c ∈ xs,c.shut=true:=by
 obtain ⟨n,h⟩:=h
 exact pZ hok n t _ _ ht h
theorem aIE {c:C} {v:Value} (h:All2 (C.fv (mG W)) [c] v.cells.toList) (hv:v.cells.toList=[v]) (hs:c.shut=true):(S.va (.c1 c)).rel (gm []) (mG W) v:=by
 rw [hv] at h
 exact (C.rel_shut hs).2 (h.2 0 c v rfl rfl)
theorem SL {cs:List C} {vs:Array Value} (h:All2 (C.fv (mG W)) cs (Value.agg vs).cells.toList) (hs:∀ c ∈ cs,c.shut=true):(S.va (.gs cs)).rel (gm []) (mG W) (.agg vs):=
 ⟨vs.toList,by simp,⟨by simpa [Value.cells] using h.1,fun i c v hc hv=>(C.rel_shut (hs c (bJ hc))).2 (h.2 i c v hc (by simpa [Value.cells] using hv))⟩⟩
end
end Go.W
namespace Go.Proofs.YtkpohmhenegkiaaGreatDoor
open Go.W
theorem v3:Tryz.prog.underlying 3=some (.int .i64):=by kernel_rfl
theorem v4:Tryz.prog.underlying 4=some .bool:=by kernel_rfl
theorem v9:Tryz.prog.underlying 9=some .string:=by kernel_rfl
theorem v22:Tryz.prog.underlying 22=some (.slice 92):=by kernel_rfl
theorem v23:Tryz.prog.underlying 23=some (.slice 95):=by kernel_rfl
theorem v30:Tryz.prog.underlying 93=some (.slice 97):=by kernel_rfl
theorem v35:Tryz.prog.underlying 89=some (.slice 9):=by kernel_rfl
theorem SE:Tryz.prog.underlying 26=some (.slice 28):=by kernel_rfl
theorem v45:Tryz.prog.underlying 90=some (.slice 3):=by kernel_rfl
theorem TJ:Tryz.prog.underlying 28=some (.struct #[⟨"Kind",3,0,false,"","",0⟩,⟨"Size",3,1,false,"","",8⟩,⟨"Name",9,2,false,"","",16⟩,⟨"Elem",26,3,false,"","",32⟩]):=by kernel_rfl
theorem v53:Tryz.prog.underlying 97=some (.struct #[⟨"Number",3,0,false,"","",0⟩,⟨"Name",9,1,false,"","",8⟩,⟨"Type",28,2,false,"","",24⟩,⟨"Optional",4,6,false,"","",80⟩]):=by kernel_rfl
theorem v32:Tryz.prog.underlying 95=some (.struct #[⟨"Name",9,0,false,"","",0⟩,⟨"Fields",93,1,false,"","",16⟩]):=by kernel_rfl
theorem v47:Tryz.prog.underlying 92=some (.struct #[⟨"Name",9,0,false,"","",0⟩,⟨"Names",89,1,false,"","",16⟩,⟨"Numbers",90,2,false,"","",40⟩]):=by kernel_rfl
theorem v25:Tryz.prog.underlying 25=some (.struct #[⟨"Version",3,0,false,"","",0⟩,⟨"Enums",22,1,false,"","",8⟩,⟨"Structs",23,2,false,"","",32⟩]):=by kernel_rfl
theorem n9 {α:Type} {row:α->List C} {Q:α->Prop} {ys:List (List C)} (h:∀ r ∈ ys,∃ a,r=row a/\Q a):∃ l:List α,ys=l.map row/\∀ a ∈ l,Q a:=by
 induction ys with
 | nil=>exact ⟨[],rfl,fun a h=>by cases h⟩
 | cons r ys ih=>
  obtain ⟨l,h1,h2⟩:=ih fun r hr=>h r (List.mem_cons_of_mem _ hr)
  obtain ⟨a,h3,h4⟩:=h r List.mem_cons_self
  refine ⟨a :: l,by rw [h1,h3]; rfl,fun x hx=>?_⟩
  rcases List.mem_cons.1 hx with rfl | hx
  · exact h4
  · exact h2 x hx
theorem HB {n:Int} (h:(Lit.int .i64 n).wf=true):cH n:=by simpa [cH,Lit.wf,IntKind.min,IntKind.max,IntKind.signed,IntKind.bits] using h
theorem mW {n:Nat} (h:n<=maxLen):n<=9223372036854775807:=by unfold maxLen at h; exact h
theorem aRH:∀ {t:TypeId} {cs:List C},Fit Tryz.prog t cs->(t=28->∃ a,cs=aN a/\TyOk a)/\(t=26->∃ l:List Ty,cs=[.fz (l.map aN)]/\l.length<=9223372036854775807/\∀ a ∈ l,TyOk a):=by
 intro t cs h
 induction h with
 | int h1 _=>exact ⟨fun e=>(by rw [e,TJ] at h1; cases h1),fun e=>(by rw [e,SE] at h1; cases h1)⟩
 | bool h1=>exact ⟨fun e=>(by rw [e,TJ] at h1; cases h1),fun e=>(by rw [e,SE] at h1; cases h1)⟩
 | str h1 _=>exact ⟨fun e=>(by rw [e,TJ] at h1; cases h1),fun e=>(by rw [e,SE] at h1; cases h1)⟩
 | @sl t e xs h1 h2 h3 ih=>
  refine ⟨fun e=>(by rw [e,TJ] at h1; cases h1),fun e=>?_⟩
  subst e
  rw [SE] at h1
  cases h1
  obtain ⟨l,rfl,hl⟩:=n9 (row:=aN) (Q:=TyOk) fun r hr=>(ih r hr).1 rfl
  exact ⟨l,rfl,by have:=mW h2; simpa using this,hl⟩
 | @st t fs parts h1 h2 h3 ih=>
  refine ⟨fun e=>?_,fun e=>(by rw [e,SE] at h1; cases h1)⟩
  subst e
  rw [TJ] at h1
  cases h1
  match parts,h2 with
  | [p0,p1,p2,p3],_=>
   obtain ⟨k,rfl,hk⟩:=Fit.inv_int v3 (h3 0 _ p0 rfl rfl)
   obtain ⟨s,rfl,hs⟩:=Fit.inv_int v3 (h3 1 _ p1 rfl rfl)
   obtain ⟨n,rfl,hn⟩:=Fit.inv_str v9 (h3 2 _ p2 rfl rfl)
   obtain ⟨l,rfl,hl,ho⟩:=(ih 3 _ p3 rfl rfl).2 rfl
   exact ⟨.mk k s n l,by rw [aN,aV]; rfl,.mk (HB hk) (HB hs) (mW hn) hl ho⟩
theorem aAX {cs:List C} (h:Fit Tryz.prog 28 cs):∃ a,cs=aN a/\TyOk a:=(aRH h).1 rfl
theorem aLK {cs:List C} (h:Fit Tryz.prog 97 cs):∃ a:Fl,cs=aZ a/\a.ok:=by
 obtain ⟨parts,rfl,h2,h3⟩:=Fit.inv_st v53 h
 match parts,h2 with
 | [p0,p1,p2,p3],_=>
  obtain ⟨k,rfl,hk⟩:=Fit.inv_int v3 (h3 0 _ p0 rfl rfl)
  obtain ⟨n,rfl,hn⟩:=Fit.inv_str v9 (h3 1 _ p1 rfl rfl)
  obtain ⟨t,rfl,ht⟩:=aAX (h3 2 _ p2 rfl rfl)
  obtain ⟨b,rfl⟩:=Fit.inv_bool v4 (h3 3 _ p3 rfl rfl)
  exact ⟨⟨k,n,t,b⟩,by rw [aO]; rfl,HB hk,mW hn,ht⟩
theorem aKT {cs:List C} (h:Fit Tryz.prog 95 cs):∃ a:St,cs=aP a/\a.ok:=by
 obtain ⟨parts,rfl,h2,h3⟩:=Fit.inv_st v32 h
 match parts,h2 with
 | [p0,p1],_=>
  obtain ⟨n,rfl,hn⟩:=Fit.inv_str v9 (h3 0 _ p0 rfl rfl)
  obtain ⟨ys,rfl,hl,hy⟩:=Fit.inv_sl v30 (h3 1 _ p1 rfl rfl)
  obtain ⟨l,rfl,ho⟩:=n9 (row:=aZ) (Q:=Fl.ok) fun r hr=>aLK (hy r hr)
  exact ⟨⟨n,l⟩,rfl,mW hn,by have:=mW hl; simpa using this,ho⟩
theorem aJV {cs:List C} (h:Fit Tryz.prog 92 cs):∃ a:En,cs=bL a/\a.ok:=by
 obtain ⟨parts,rfl,h2,h3⟩:=Fit.inv_st v47 h
 match parts,h2 with
 | [p0,p1,p2],_=>
  obtain ⟨n,rfl,hn⟩:=Fit.inv_str v9 (h3 0 _ p0 rfl rfl)
  obtain ⟨ys,rfl,hl,hy⟩:=Fit.inv_sl v35 (h3 1 _ p1 rfl rfl)
  obtain ⟨zs,rfl,hl2,hz⟩:=Fit.inv_sl v45 (h3 2 _ p2 rfl rfl)
  obtain ⟨l,rfl,ho⟩:=n9 (row:=bQ) (Q:=fun b=>b.size<=9223372036854775807) fun r hr=>by
   obtain ⟨s,rfl,hs⟩:=Fit.inv_str v9 (hy r hr); exact ⟨s,rfl,mW hs⟩
  obtain ⟨m,rfl,hm⟩:=n9 (row:=cU) (Q:=cH) fun r hr=>by
   obtain ⟨s,rfl,hs⟩:=Fit.inv_int v3 (hz r hr); exact ⟨s,rfl,HB hs⟩
  exact ⟨⟨n,l,m⟩,rfl,mW hn,by have:=mW hl; simpa using this,by have:=mW hl2; simpa using this,ho,hm⟩
theorem aLR (cs:List C) (h:Fit Tryz.prog 25 cs):∃ a:Sc,cs=aG a/\a.ok:=by
 obtain ⟨parts,rfl,h2,h3⟩:=Fit.inv_st v25 h
 match parts,h2 with
 | [p0,p1,p2],_=>
  obtain ⟨n,rfl,hn⟩:=Fit.inv_int v3 (h3 0 _ p0 rfl rfl)
  obtain ⟨ys,rfl,hl,hy⟩:=Fit.inv_sl v22 (h3 1 _ p1 rfl rfl)
  obtain ⟨zs,rfl,hl2,hz⟩:=Fit.inv_sl v23 (h3 2 _ p2 rfl rfl)
  obtain ⟨l,rfl,ho⟩:=n9 (row:=bL) (Q:=En.ok) fun r hr=>aJV (hy r hr)
  obtain ⟨m,rfl,hm⟩:=n9 (row:=aP) (Q:=St.ok) fun r hr=>aKT (hz r hr)
  exact ⟨⟨n,l,m⟩,rfl,HB hn,by have:=mW hl; simpa using this,by have:=mW hl2; simpa using this,ho,hm⟩
theorem aDZ (cs:List C) (h:Fit Tryz.prog 28 cs):∃ a,cs=aN a/\TyOk a:=aAX h
end Go.Proofs.YtkpohmhenegkiaaGreatDoor
namespace Go.W
inductive FitW (P:Program):TypeId->List C->Prop
 | int {t:TypeId} {k:IntKind} {n:Int}:P.underlying t=some (.int k)->(Lit.int k n).wf=true->FitW P t [.vl (.int k n)]
 | bool {t:TypeId} {b:Bool}:P.underlying t=some .bool->FitW P t [.vl (.bool b)]
 | str {t:TypeId} {s:ByteArray}:P.underlying t=some .string->s.size<=maxLen->FitW P t [.vl (.string s)]
 | sl {t e:TypeId} {xs:List (List C)}:P.underlying t=some (.slice e)->xs.length<=maxLen->xs.length * P.bytesOf e<=reachBytes->(∀ r ∈ xs,FitW P e r)->FitW P t [.fz xs]
 | st {t:TypeId} {fs:Array Field} {parts:List (List C)}:P.underlying t=some (.struct fs)->parts.length=fs.size->(∀ (i:Nat) (f:Field) (p:List C),fs[i]? = some f->parts[i]? = some p->FitW P f.type p)->FitW P t parts.flatten
theorem FitW.fit {P:Program} {t:TypeId} {xs:List C} (h:FitW P t xs):Fit P t xs:=by
 induction h with
 | int h1 h2=>exact .int h1 h2
 | bool h1=>exact .bool h1
 | str h1 h2=>exact .str h1 h2
 | sl h1 h2 _ _ ih=>exact .sl h1 h2 ih
 | st h1 h2 _ ih=>exact .st h1 h2 ih
section
variable {P:Program} {t e:TypeId} {xs:List C}
theorem FitW.inv_sl (ht:P.underlying t=some (.slice e)) (h:FitW P t xs):∃ ys:List (List C),xs=[.fz ys]/\ys.length<=maxLen/\ys.length * P.bytesOf e<=reachBytes/\∀ r ∈ ys,FitW P e r:=by
 cases h with
 | int h1 h2=>rw [ht] at h1; cases h1
 | bool h1=>rw [ht] at h1; cases h1
 | str h1=>rw [ht] at h1; cases h1
 | sl h1 h2 h3 h4=>rw [ht] at h1; cases h1; exact ⟨_,rfl,h2,h3,h4⟩
 | st h1 h2 h3=>rw [ht] at h1; cases h1
theorem FitW.inv_st {fs:Array Field} (ht:P.underlying t=some (.struct fs)) (h:FitW P t xs):∃ parts:List (List C),xs=parts.flatten/\parts.length=fs.size/\∀ (i:Nat) (f:Field) (p:List C),fs[i]? = some f->parts[i]? = some p->FitW P f.type p:=by
 cases h with
 | int h1 h2=>rw [ht] at h1; cases h1
 | bool h1=>rw [ht] at h1; cases h1
 | str h1=>rw [ht] at h1; cases h1
 | sl h1=>rw [ht] at h1; cases h1
 | st h1 h2 h3=>rw [ht] at h1; cases h1; exact ⟨_,rfl,h2,h3⟩
end
section
variable {H:Type} {enc:TypeId × Value->H} {P:Program} {W:World} {ts:List TypeId}
end
end Go.W
