/- Lemmas and walks for the proof. -/
import Derived.Test.YtkpohmhenegkiaaGreatDoorSe
import Derived.Test.YtkpohmhenegkiaaGreatDoorProg
import Derived.ProofKit
import Derived.OpenShut
import Derived.ChangeStays
import Derived.Deep.Slices
import Derived.JoinedCond
import Derived.KernelRfl
set_option maxRecDepth 100000
set_option maxHeartbeats 8000000
namespace Go.Proofs.YtkpohmhenegkiaaGreatDoor
open Go.W
attribute [-go_sem] cB cH cC eG cO gN
noncomputable def M9 (D:Sc->Ty->Vl->Prop) (F:fD):cJ:=(23,.f (gX (fun _ _ _=>True) fun s t v=>.int .i64 (hY s t v))) :: G0 D F
theorem NQ {D:Sc->Ty->Vl->Prop} {F:fD} (h:FmtM D F):dB Tryz.prog (M9 D F):=aG AP (qM h)
theorem ZX (D:Sc->Ty->Vl->Prop) (F:fD):sp (M9 D F) 24=lM:=rfl
theorem J6 (D:Sc->Ty->Vl->Prop) (F:fD):jJ (M9 D F) 23=some (gX (fun _ _ _=>True) fun s t v=>.int .i64 (hY s t v)):=rfl
theorem SM (D:Sc->Ty->Vl->Prop) (F:fD) (k:Int):sp (M9 D F) (gC k)=iC D F (gC k):=by
 unfold gC
 cases k == 1<;>cases k == 4<;>cases k == 7<;>cases k == 5<;>cases k == 6<;>rfl
def G8 (F:fD) (s:Sc) (t:Ty) (v:Vl):List UInt8:=bif hY s t v != 0 then [] else bif (F s t v).2 || decide (4000 < ((F s t v).1.length:Int)) then [] else (F s t v).1
def aOC (D:Sc->Ty->Vl->Prop) (F:fD):W.Spec:=fun av H K=>∃ s t v,av=[.va (.gs (aF s)),.va (.gs (aN t)),.va (.gs (bJ v))]/\H=[]/\s.fit/\TyOk t/\VlOk v/\(hY s t v=0->D s t v)/\K (tS (mk (G8 F s t v))) []
theorem Z0 {D:Sc->Ty->Vl->Prop} {F:fD} (hF:FmtM D F):Meets Tryz.prog 11 (aOC D F):=by
 refine aE Tryz.func11 aOG 3 (by rw [Tryz.ntmps11]; decide) (NQ hF) (fun av H K h=>by obtain ⟨_,_,_,rfl,_⟩:=h; rfl) ?_
 rintro av H K ⟨s,t,v,rfl,rfl,hs,ht,hv,hD,hK⟩
 have k1:=fV hv
 have k2:=lO v
 have k4:=iB ht
 have k5:=nC t
 have k6:=i7 hs
 have k7:=m5 s
 have fin:∀ (x:List UInt8) (R:Hp),G8 F s t v=x->W.Fin 0 K (tS (mk x)) R:=fun x R h=>by
  rw [h] at hK
  exact .sel [] (by simp) (by simp) rfl (.done (by simpa [go_sem] using hK))
 clear hK
 unfold G8 at fin
 cases h1:hY s t v != 0 with
 | true=>
  rw [h1] at fin
  simp (maxSteps:=1000000) -dsimp only [go_sem,aF,aO t,aV v,SV,Q9,J6,k1,k2,k4,k5,k6,k7,h1]
  exact fin [] _ rfl
 | false=>
 rw [h1,aI] at fin
 have hD:=hD (by simpa using h1)
 simp (maxSteps:=1000000) -dsimp only [go_sem,aF,aO t,aV v,SV,Q9,J6,k1,k2,k4,k5,k6,k7,h1]
 refine aD rfl (.done ?_)
 simp (maxSteps:=1000000) -dsimp only [go_sem,H6,ZX,SM]
 refine rY hs ht hv hD ?_
 generalize F s t v=r at *
 obtain ⟨x,b⟩:=r
 simp only at fin
 simp (maxSteps:=1000000) -dsimp only [go_sem]
 refine aD rfl (.done ?_)
 cases b with
 | true=>
  rw [Bool.true_or,aL] at fin
  simp (maxSteps:=1000000) -dsimp only [go_sem,sI,Bool.or_true]
  exact fin [] _ rfl
 | false=>
  rw [Bool.false_or] at fin
  cases h2:decide (4000 < (x.length:Int)) with
  | true=>
   rw [h2,aL] at fin
   simp (maxSteps:=1000000) -dsimp only [go_sem,sI,Bool.or_false,h2]
   exact fin [] _ rfl
  | false=>
   rw [h2,aI] at fin
   simp (maxSteps:=1000000) -dsimp only [go_sem,sI,Bool.or_false,h2]
   exact fin x _ rfl
end Go.Proofs.YtkpohmhenegkiaaGreatDoor
namespace Go.Proofs.YtkpohmhenegkiaaGreatDoor
open Go.W
def Q0 (v:Vl):Bool:=(v.k != 4 && !(bl v.s == [])) || (v.k != 5 && decide (0 < (v.l.length:Int))) || (v.k != 6 && decide (0 < (v.f.length:Int)))
def T5 (v:Vl):Bool:=(v.k == 4 || v.k == 5 || v.k == 6) && v.n != 0
def PU (s:Sc) (t:Ty) (v:Vl):Bool:=bif !(valF s.ss s.es t) || v.k != t.k || Q0 v then false else bif T5 v then false else bif v.k != 6 then true else fI (stOf s t).fs v.f
def zP (s:Sc) (t:Ty) (n:Int):Bool:=
 bif t.k == 1 then n == 0 || n == 1
 else bif t.k == 2 then t.s == 64 || (decide (-(2 ^ (t.s.toNat - 1):Int)<=n) && decide (n < (2 ^ (t.s.toNat - 1):Int)))
 else bif t.k == 3 then decide (0<=n) && decide (n < (2 ^ t.s.toNat:Int))
 else bif t.k == 7 then (enOf s t).vs.any fun x=>x == n else true
def aFY (t:Ty) (a b:Int):Bool:=(t.k == 4 && decide (t.s < a)) || (t.k == 5 && decide (t.s < b))
mutual
def J5 (s:Sc) (t:Ty):Vl->Int
 | .mk k n str l f=>bif !(PU s t (.mk k n str l f)) then 13 else bif !(zP s t n) then 4 else bif aFY t (bl str).length l.length then 3
  else bif E6 s (t.e.headD default) l != 0 then E6 s (t.e.headD default) l else LP s (stOf s t) f
def E6 (s:Sc) (t:Ty):List Vl->Int
 | []=>0
 | v :: r=>bif J5 s t v != 0 then J5 s t v else E6 s t r
def LP (s:Sc) (u:St):List (Int × Vl)->Int
 | []=>0
 | (i,v) :: r=>bif J5 s (gH u i).ty v != 0 then J5 s (gH u i).ty v else LP s u r
end
theorem oX {α:Type} {l:List α} (h:decide (0 < (l.length:Int))=false):l=[]:=by
 have:=of_decide_eq_false h
 exact List.length_eq_zero_iff.1 (by omega)
theorem aBF {s:Sc} {t:Ty} {n:Int} (hp:valF s.ss s.es t=true) (h4:(t.k == 4)=false) (h5:(t.k == 5)=false) (h6:(t.k == 6)=false):zP s t n=CW s t n:=by
 unfold zP CW
 cases h1:t.k == 1 with
 | true=>rfl
 | false=>
 cases h2:t.k == 2 with
 | true=>rfl
 | false=>
 cases h3:t.k == 3 with
 | true=>rfl
 | false=>
 cases h7:t.k == 7 with
 | true=>rfl
 | false=>
  exfalso
  obtain ⟨k,sz,nm,e⟩:=t
  have h1:(k == 1)=false:=h1
  have h2:(k == 2)=false:=h2
  have h3:(k == 3)=false:=h3
  have h4:(k == 4)=false:=h4
  have h5:(k == 5)=false:=h5
  have h6:(k == 6)=false:=h6
  have h7:(k == 7)=false:=h7
  rw [valF,h1,h2,h3,h4,h5,h6,h7] at hp
  cases hp
mutual
theorem OT (s:Sc) (t:Ty):∀ v:Vl,J5 s t v=iX s t v
 | .mk k n str l f=>by
  have hL:∀ u,E6 s u l=j5 s u l:=fun u=>NY s u l
  have hE:LP s (stOf s t) f=jQ s ((fS s.ss t.n).getD default).fs f:=O7 s (stOf s t) f
  rw [J5,iX,hL,hE]
  unfold PU
  cases hp:valF s.ss s.es t with
  | false=>rfl
  | true=>
  show (bif !(bif !true || k != t.k || Q0 (.mk k n str l f) then false else bif T5 (.mk k n str l f) then false else bif k != 6 then true else fI (stOf s t).fs f) then 13 else _)=_
  cases hk:k != t.k with
  | true=>rfl
  | false=>
  have hk':k=t.k:=by simpa using hk
  subst hk'
  have eA:Q0 (.mk t.k n str l f)=((t.k != 4 && !(bl str == [])) || (t.k != 5 && decide (0 < (l.length:Int))) || (t.k != 6 && decide (0 < (f.length:Int)))):=rfl
  have eB:T5 (.mk t.k n str l f)=((t.k == 4 || t.k == 5 || t.k == 6) && n != 0):=rfl
  rw [eA,eB]
  unfold aFY
  cases h4:t.k == 4 with
  | true=>
   have e4:t.k=4:=eq_of_beq h4
   have er:zP s t n=true:=by unfold zP; rw [e4]; rfl
   rw [er,e4]
   unfold nL
   cases hn:n != 0<;>cases hl:decide (0 < (l.length:Int))<;>cases hf:decide (0 < (f.length:Int))<;>cases hs:decide (t.s < ((bl str).length:Int))<;>(try rw [oX hl])<;>(try rw [oX hf])<;>simp [j5,jQ]
  | false=>
  cases h5:t.k == 5 with
  | true=>
   have e5:t.k=5:=eq_of_beq h5
   have er:zP s t n=true:=by unfold zP; rw [e5]; rfl
   rw [er,e5]
   generalize j5 s (t.e.headD default) l=q
   have hq:(bif q != 0 then q else 0)=q:=by
    cases hz:q != 0 with
    | true=>rfl
    | false=>
     have hq0:q=0:=by simpa using hz
     rw [hq0]; rfl
   cases hn:n != 0<;>cases hb:bl str == []<;>cases hf:decide (0 < (f.length:Int))<;>cases hs:decide (t.s < (l.length:Int))<;>(try rw [oX hf])<;>simp [jQ,hq]
  | false=>
  cases h6:t.k == 6 with
  | true=>
   have e6:t.k=6:=eq_of_beq h6
   have er:zP s t n=true:=by unfold zP; rw [e6]; rfl
   have ef:(stOf s t).fs=((fS s.ss t.n).getD default).fs:=rfl
   rw [er,e6,ef]
   cases hn:n != 0<;>cases hb:bl str == []<;>cases hl:decide (0 < (l.length:Int))<;>cases hs:fI ((fS s.ss t.n).getD default).fs f<;>(try rw [oX hl])<;>simp [j5]
  | false=>
   rw [aBF hp h4 h5 h6]
   have c4:(t.k != 4)=true:=by rw [bne,h4]; rfl
   have c5:(t.k != 5)=true:=by rw [bne,h5]; rfl
   have c6:(t.k != 6)=true:=by rw [bne,h6]; rfl
   rw [c4,c5,c6]
   unfold n3
   cases hb:bl str == []<;>cases hl:decide (0 < (l.length:Int))<;>cases hf:decide (0 < (f.length:Int))<;>cases hr:CW s t n<;>(try rw [oX hl])<;>(try rw [oX hf])<;>simp [j5,jQ]
theorem NY (s:Sc) (t:Ty):∀ l:List Vl,E6 s t l=j5 s t l
 | []=>by rw [E6,j5]
 | v :: r=>by rw [E6,j5,OT s t v,NY s t r]
theorem O7 (s:Sc) (u:St):∀ l:List (Int × Vl),LP s u l=jQ s u.fs l
 | []=>by rw [LP,jQ]
 | (i,v) :: r=>by
  rw [LP,jQ,OT s (gH u i).ty v,O7 s u r]; rfl
end
mutual
def f7:Vl->Int
 | .mk k n s l f=>bif oR (.mk k n s l f) then 0 else 1 + j1 (j0 0 l) f
def j0 (d:Int):List Vl->Int
 | []=>d
 | v :: r=>j0 (max d (f7 v)) r
def j1 (d:Int):List (Int × Vl)->Int
 | []=>d
 | (_,v) :: r=>j1 (max d (f7 v)) r
end
theorem GL (v:Vl):f7 v=bif oR v then 0 else 1 + j1 (j0 0 v.l) v.f:=by cases v; rw [f7]; rfl
theorem FJ {g:Vl->Int} {n:Nat} (hg:∀ x,g x=min (f7 x) n) (D:Int) (x:Vl):lL g ((n:Int) - 1) (min D n) x=min (max D (f7 x)) n:=by
 unfold lL
 rw [hg x]
 cases h:decide (min D (n:Int)<=(n:Int) - 1) with
 | true=>have:=of_decide_eq_true h; rw [aL]; omega
 | false=>have:=of_decide_eq_false h; rw [aI]; omega
theorem UN {g:Vl->Int} {n:Nat} (hg:∀ x,g x=min (f7 x) n):∀ (l:List Vl) (D:Int),l.foldl (lL g ((n:Int) - 1)) (min D n)=min (j0 D l) n
 | [],D=>by rw [j0]; rfl
 | x :: l,D=>by rw [List.foldl_cons,FJ hg,UN hg l,j0]
theorem V0 {g:Vl->Int} {n:Nat} (hg:∀ x,g x=min (f7 x) n):∀ (l:List (Int × Vl)) (D:Int),l.foldl (o6 g ((n:Int) - 1)) (min D n)=min (j1 D l) n
 | [],D=>by rw [j1]; rfl
 | (i,x) :: l,D=>by
  rw [List.foldl_cons,show o6 g ((n:Int) - 1) (min D n) (i,x)=lL g ((n:Int) - 1) (min D n) x from rfl,FJ hg,V0 hg l,j1]
theorem W0 {g:Vl->Int} {n:Nat} (hg:∀ x,g x=min (f7 x) n) (v:Vl):H7 g ((n:Int) - 1) v=min (f7 v) ((n:Int) + 1):=by
 unfold H7
 rw [GL]
 cases oR v with
 | true=>rw [aL,aL]; omega
 | false=>
  rw [aI,aI]
  have h1:=UN hg v.l 0
  rw [show min (0:Int) (n:Int)=0 by omega] at h1
  rw [h1,V0 hg v.f]
  omega
mutual
theorem YP:∀ v:Vl,0<=f7 v
 | .mk k n s l f=>by
  rw [f7]
  have h1:=KB l 0
  have h2:=JA f (j0 0 l)
  cases oR (.mk k n s l f) with
  | true=>exact Int.le_refl _
  | false=>rw [aI]; omega
theorem KB:∀ (l:List Vl) (d:Int),d<=j0 d l
 | [],d=>by rw [j0]; exact Int.le_refl _
 | v :: r,d=>by
  rw [j0]
  have:=KB r (max d (f7 v))
  omega
theorem JA:∀ (l:List (Int × Vl)) (d:Int),d<=j1 d l
 | [],d=>by rw [j1]; exact Int.le_refl _
 | (_,v) :: r,d=>by
  rw [j1]
  have:=JA r (max d (f7 v))
  omega
end
theorem LC:∀ (n:Nat) (x:Vl),iF n x=min (f7 x) n
 | 0,x=>by have:=YP x; show (0:Int)=min (f7 x) 0; omega
 | n + 1,x=>by
  rw [iF,y6,W0 (LC n) x]
  omega
theorem YX (n:Nat) (v:Vl):rD n v=min (f7 v) ((n:Int) + 1):=by rw [y6,W0 (LC n) v]
theorem ZG (v:Vl):decide (6 < rD 7 v)=decide (6 < f7 v):=by
 rw [YX]
 rw [Bool.eq_iff_iff,decide_eq_true_iff,decide_eq_true_iff]
 omega
mutual
theorem XD:∀ v:Vl,f7 v<=v.h
 | .mk k n s l f=>by
  rw [f7,Vl.h]
  have h1:=WD l 0
  have h2:=V3 f (j0 0 l)
  cases oR (.mk k n s l f) with
  | true=>rw [aL]; omega
  | false=>rw [aI]; omega
theorem WD:∀ (l:List Vl) (d:Int),j0 d l<=max d (Vl.hl l)
 | [],d=>by rw [j0,Vl.hl]; omega
 | v :: r,d=>by
  rw [j0,Vl.hl]
  have h1:=XD v
  have h2:=WD r (max d (f7 v))
  omega
theorem V3:∀ (l:List (Int × Vl)) (d:Int),j1 d l<=max d (Vl.hf l)
 | [],d=>by rw [j1,Vl.hf]; omega
 | (i,v) :: r,d=>by
  rw [j1,Vl.hf]
  have h1:=XD v
  have h2:=V3 r (max d (f7 v))
  omega
end
mutual
def prV:Vl->Bool
 | .mk _ _ s l f=>(decide ((bl s).length<=200) && (bl s).all gZ) && (prL l && prG f)
def prL:List Vl->Bool
 | []=>true
 | v :: r=>prV v && prL r
def prG:List (Int × Vl)->Bool
 | []=>true
 | (_,v) :: r=>prV v && prG r
end
theorem EX (c:UInt8):decide ((c.toNat:Int) < 32)=!decide (32<=c):=by
 have:decide (32<=c)=decide (32<=c.toNat):=by rw [decide_eq_decide,UInt8.le_iff_toNat_le]; rfl
 rw [this,<-decide_not,decide_eq_decide]; omega
theorem EG (c:UInt8):decide (126 < (c.toNat:Int))=!decide (c<=126):=by
 have:decide (c<=126)=decide (c.toNat<=126):=by rw [decide_eq_decide,UInt8.le_iff_toNat_le]; rfl
 rw [this,<-decide_not,decide_eq_decide]; omega
def aNB (s:Sc):Prop:=∀ e ∈ s.es,e.ns.length=e.vs.length
structure NSt (ss:List St) (es:List En) (u:St):Prop where
 l:u.fs.length<=16
 n:∀ f ∈ u.fs,1<=f.num/\f.num<=127
 m:∀ f ∈ u.fs,cG (bl f.nm)=true
 v:∀ f ∈ u.fs,valF ss es f.ty=true
 a:∀ k f g,0 < k->u.fs[k - 1]? = some g->u.fs[k]? = some f->g.num < f.num
 d:∀ k f,u.fs[k]? = some f->(u.fs.take k).any (fun g=>decide (g.nm=f.nm))=false
structure NEn (e:En):Prop where
 l:e.ns.length=e.vs.length
 s:e.ns.length<=16
 m:∀ n ∈ e.ns,cG (bl n)=true
 d:∀ k x,e.ns[k]? = some x->cZ (e.ns.take k) x=false
 a:∀ k x y,0 < k->e.vs[k - 1]? = some x->e.vs[k]? = some y->x < y
 n:∀ x ∈ e.vs,0<=x/\x<=127
structure Nice (s:Sc):Prop where
 st:∀ u ∈ s.ss,NSt s.ss s.es u
 en:∀ e ∈ s.es,NEn e
theorem fZ {b:Bool} {x y:Int} (h:(bif b then x else y)=0) (hx:x ≠ 0):b=false/\y=0:=by
 cases b with
 | true=>exact absurd h hx
 | false=>exact ⟨rfl,h⟩
theorem PR {x y:Int} (h:(bif x != 0 then x else y)=0):x=0/\y=0:=by
 by_cases c:x=0
 · subst c; exact ⟨rfl,h⟩
 · rw [show (x != 0)=true by simpa using c] at h; exact absurd h c
theorem OY {ss:List St} {es:List En} {t:St} {k:Nat} {f:Fl} (hx:t.fs[k]? = some f) (h:oD ss es t k=0) :
 (1<=f.num/\f.num<=127)/\(∀ g,0 < k->t.fs[k - 1]? = some g->g.num < f.num)/\cG (bl f.nm)=true/\(t.fs.take k).any (fun g=>decide (g.nm=f.nm))=false/\valF ss es f.ty=true:=by
 unfold oD at h
 rw [hx] at h
 simp only at h
 obtain ⟨c1,h⟩:=fZ h (by decide)
 obtain ⟨c2,h⟩:=fZ h (by decide)
 obtain ⟨c3,h⟩:=fZ h (by decide)
 obtain ⟨c4,h⟩:=fZ h (by decide)
 obtain ⟨c5,h⟩:=fZ h (by decide)
 simp only [Bool.or_eq_false_iff,decide_eq_false_iff_not] at c1
 refine ⟨⟨by omega,by omega⟩,fun g hk hg=>?_,by simpa using c3,c4,by simpa using c5⟩
 rw [hg] at c2
 simp only at c2
 rw [show decide (0 < (k:Int))=true by simp; omega,Bool.true_and] at c2
 have:=of_decide_eq_false c2
 omega
theorem B6 {e:En} {k:Nat} {x:ByteArray} {n:Int} (hx:e.ns[k]? = some x) (hn:e.vs[k]? = some n) (h:jW e k=0) :
 cG (bl x)=true/\cZ (e.ns.take k) x=false/\(0<=n/\n<=127)/\(k=0->n=0)/\∀ m,0 < k->e.vs[k - 1]? = some m->m < n:=by
 unfold jW at h
 rw [hx,hn] at h
 simp only at h
 obtain ⟨c3,h⟩:=fZ h (by decide)
 obtain ⟨c4,h⟩:=fZ h (by decide)
 obtain ⟨c1,h⟩:=fZ h (by decide)
 obtain ⟨c2,h⟩:=fZ h (by decide)
 rw [Bool.or_eq_false_iff] at c1 c2
 have a1:=of_decide_eq_false c1.1
 have a2:=of_decide_eq_false c1.2
 refine ⟨by simpa using c3,c4,⟨by omega,by omega⟩,fun hk=>?_,fun m hk hm=>?_⟩
 · have c2:=c2.1
   rw [show decide ((k:Int)=0)=true by simp; omega,Bool.true_and] at c2
   exact Decidable.of_not_not (of_decide_eq_false c2)
 · have c2:=c2.2
   rw [hm] at c2
   simp only at c2
   rw [show decide (0 < (k:Int))=true by simp; omega,Bool.true_and] at c2
   have:=of_decide_eq_false c2
   omega
theorem KZ {e:En} (h:B4 e=0):0 < e.ns.length/\e.ns.length=e.vs.length/\∀ k < e.ns.length,jW e k=0:=by
 unfold B4 at h
 obtain ⟨c1,h⟩:=fZ h (by decide)
 simp only [Bool.or_eq_false_iff,decide_eq_false_iff_not] at c1
 exact ⟨by omega,by omega,fun k hk=>kL (m:=e.ns.length) (by rw [Nat.sub_zero]; exact h) k hk⟩
theorem qP {s:Sc} (h:d8 s=0):eD s=false/\IJ s=0/\DN s=0/\tB s.ss=0:=by
 unfold d8 at h
 obtain ⟨_,h⟩:=fZ h (by decide)
 obtain ⟨c2,h⟩:=fZ h (by decide)
 obtain ⟨c3,h⟩:=PR h
 obtain ⟨c4,h⟩:=PR h
 exact ⟨c2,c3,c4,h⟩
theorem J3 {s:Sc} (h:d8 s=0):Nice s:=by
 obtain ⟨c2,c3,c4,_⟩:=qP h
 obtain ⟨l1,l2,l3,l4⟩:=uS c2
 refine ⟨fun u hu=>?_,fun e he=>?_⟩
 · obtain ⟨i,hi⟩:=List.mem_iff_getElem?.1 hu
   have hc:=(JC hi (kL c4 i (aZ.1 hi).1)).2
   have key:=fun k f (hx:u.fs[k]? = some f)=>OY hx (kL hc k (aZ.1 hx).1)
   have mem:∀ f ∈ u.fs,∃ k,u.fs[k]? = some f:=fun f hf=>List.mem_iff_getElem?.1 hf
   exact ⟨l4 u hu,fun f hf=>(mem f hf).elim fun k hx=>(key k f hx).1,fun f hf=>(mem f hf).elim fun k hx=>(key k f hx).2.2.1,fun f hf=>(mem f hf).elim fun k hx=>(key k f hx).2.2.2.2,
    fun k f g hk hg hf=>(key k f hf).2.1 g hk hg,fun k f hf=>(key k f hf).2.2.2.1⟩
 · obtain ⟨i,hi⟩:=List.mem_iff_getElem?.1 he
   obtain ⟨hp,hl,hc⟩:=KZ (KP hi (kL c3 i (aZ.1 hi).1)).2.2
   have key:=fun k x n (hx:e.ns[k]? = some x) (hn:e.vs[k]? = some n)=>B6 hx hn (hc k (aZ.1 hx).1)
   have iL:∀ k x,e.ns[k]? = some x->∃ n,e.vs[k]? = some n:=fun k x hx=>⟨_,aY (hl ▸ (aZ.1 hx).1)⟩
   have oth2:∀ k n,e.vs[k]? = some n->∃ x,e.ns[k]? = some x:=fun k x hx=>⟨_,aY (hl ▸ (aZ.1 hx).1)⟩
   refine ⟨hl,l3 e he,fun x hx=>?_,fun k x hx=>?_,fun k x y hk hx hy=>?_,fun n hn=>?_⟩
   · obtain ⟨k,hk⟩:=List.mem_iff_getElem?.1 hx
     obtain ⟨n,hn⟩:=iL k x hk
     exact (key k x n hk hn).1
   · obtain ⟨n,hn⟩:=iL k x hx
     exact (key k x n hx hn).2.1
   · obtain ⟨z,hz⟩:=oth2 k y hy
     exact (key k z y hz hy).2.2.2.2 x hk hx
   · obtain ⟨k,hk⟩:=List.mem_iff_getElem?.1 hn
     obtain ⟨z,hz⟩:=oth2 k n hk
     exact (key k z n hz hk).2.2.1
theorem RH {s:Sc} (h:d8 s=0) {e:En} (he:e ∈ s.es):e.vs[0]? = some 0:=by
 obtain ⟨c2,c3,c4,_⟩:=qP h
 obtain ⟨i,hi⟩:=List.mem_iff_getElem?.1 he
 obtain ⟨hp,hl,hc⟩:=KZ (KP hi (kL c3 i (aZ.1 hi).1)).2.2
 have h1:e.ns[0]? = some e.ns[0]:=aY hp
 have h2:e.vs[0]? = some (e.vs[0]'(hl ▸ hp)):=aY (hl ▸ hp)
 rw [h2,(B6 h1 h2 (hc 0 hp)).2.2.2.1 rfl]
theorem Nice.stOf {s:Sc} (h:Nice s) (t:Ty):NSt s.ss s.es (stOf s t):=by
 unfold Proofs.YtkpohmhenegkiaaGreatDoor.stOf
 cases h1:fS s.ss t.n with
 | none=>exact ⟨by decide,fun _ h=>(by cases h),fun _ h=>(by cases h),fun _ h=>(by cases h),fun _ _ _ _ h=>(by cases h),fun _ _ h=>(by cases h)⟩
 | some u=>exact h.st u (List.mem_of_find?_eq_some h1)
theorem Nice.enOf {s:Sc} (h:Nice s) (t:Ty):NEn (enOf s t):=by
 unfold Proofs.YtkpohmhenegkiaaGreatDoor.enOf
 cases h1:eU s.es t.n with
 | none=>exact ⟨rfl,by decide,fun _ h=>(by cases h),fun _ _ h=>(by cases h),fun _ _ _ _ h=>(by cases h),fun _ h=>(by cases h)⟩
 | some u=>exact h.en u (List.mem_of_find?_eq_some h1)
theorem Nice.eq {s:Sc} (h:Nice s):aNB s:=fun e he=>(h.en e he).l
theorem RP {x:List UInt8} (h:cG x=true):x.length<=16:=by
 rcases bE 16 x.length with h1 | h1
 · rw [nW h1] at h; cases h
 · exact h1
structure Ck (s:Sc) (t:Ty) (v:Vl):Prop where
 va:valF s.ss s.es t=true
 kk:v.k=t.k
 tx:(t.k == 4)=true->v.n=0/\v.l=[]/\v.f=[]/\((bl v.s).length:Int)<=t.s
 ls:(t.k == 5)=true->v.n=0/\bl v.s=[]/\v.f=[]/\(v.l.length:Int)<=t.s/\∀ x ∈ v.l,iX s (t.e.headD default) x=0
 st:(t.k == 6)=true->v.n=0/\bl v.s=[]/\v.l=[]/\fI (stOf s t).fs v.f=true/\∀ x ∈ v.f,iX s (gH (stOf s t) x.1).ty x.2=0
 nu:(t.k == 4)=false->(t.k == 5)=false->(t.k == 6)=false->bl v.s=[]/\v.l=[]/\v.f=[]/\CW s t v.n=true
theorem mI {k a b:Int} (h:(k == a)=true) (hab:a ≠ b):(k == b)=false:=by
 have:=eq_of_beq h; simp; omega
def gR:Nat->Nat
 | 0=>500
 | m + 1=>40 * gR m
def WI:PC:=.seq (.reg [.e 2 (.bx 25 (.t 0)),.e 3 (.bx 28 (.t 1)),.q 4 (.mv (.k (.bool false)))]) (.seq (.reg [.l 5 (.ldn 3 (.t 2)),.a 6 (.cq 18 [(.t 5)]),.v 7 6,⟨some 8,(some (7,true)),.l (.ldn 4 (.t 3))⟩,⟨some 9,(some (7,true)),.cq 19 [(.t 8)]⟩,.a 10 (.pick (.t 7) (.t 9) (.k (.bool false))),.v 11 10,⟨some 12,(some (11,true)),.l (.ldn 3 (.t 2))⟩,⟨some 13,(some (11,true)),.cq 20 [(.t 12)]⟩,⟨some 14,(some (11,true)),.q (.bin .eql true (.t 13) (.i 0))⟩,.a 15 (.pick (.t 11) (.t 14) (.k (.bool false))),.v 4 15]) .ret)
def VB:List RV:=[.mv (.t 4)]
theorem ok8:aM Tryz.prog true ⟨fun r k=>if r=1/\k=1 then .q else if r=1/\k=4 then .q else if r=1/\k=8 then .q else .own [],fun _=>false⟩ Tryz.f8=some (WI,VB):=by kernel_rfl
def FI:PC:=.seq (.gh (.reg [.v 49 5,.q 50 (.bin .eql true (.t 49) (.i 0)),.v 51 50,⟨some 52,(some (51,true)),.l (.ldn 3 (.t 1))⟩,⟨some 53,(some (51,true)),.l (.ldn 4 (.t 2))⟩,⟨some 54,(some (51,true)),.l (.ldn 5 (.t 4))⟩,⟨some 55,(some (51,true)),.cq 11 [(.t 52),(.t 53),(.t 54)]⟩,⟨some 56,(some (51,true)),.q (.mv (.t 3))⟩,⟨some 57,(some (51,true)),.q (.bin .eql true (.t 55) (.t 56))⟩,.a 58 (.pick (.t 51) (.t 57) (.k (.bool false))),.v 59 58,⟨some 60,(some (59,true)),.q (.fa 4 (.t 4))⟩,⟨some 61,(some (59,true)),.l (.ld1 (.t 60))⟩,⟨some 62,(some (59,true)),.q (.lnL (.t 61))⟩,⟨some 63,(some (59,true)),.q (.bin .eql true (.t 62) (.i 3))⟩,.a 64 (.pick (.t 59) (.t 63) (.k (.bool false))),.v 65 64,⟨some 66,(some (65,true)),.q (.fa 4 (.t 4))⟩,⟨some 67,(some (65,true)),.l (.ld1 (.t 66))⟩,⟨some 68,(some (65,true)),.l (.ia 6 (.t 67) (.i 1))⟩,⟨some 69,(some (65,true)),.q (.fa 0 (.t 68))⟩,⟨some 70,(some (65,true)),.l (.ld1 (.t 69))⟩,⟨some 71,(some (65,true)),.q (.bin .eql true (.t 70) (.i 4))⟩,.a 72 (.pick (.t 65) (.t 71) (.k (.bool false))),.v 73 72,⟨some 74,(some (73,true)),.q (.fa 4 (.t 4))⟩,⟨some 75,(some (73,true)),.l (.ld1 (.t 74))⟩,⟨some 76,(some (73,true)),.l (.ia 6 (.t 75) (.i 1))⟩,⟨some 77,(some (73,true)),.q (.fa 1 (.t 76))⟩,⟨some 78,(some (73,true)),.q (.fa 1 (.t 77))⟩,⟨some 79,(some (73,true)),.l (.ld1 (.t 78))⟩,⟨some 80,(some (73,true)),.q (.bin .eql true (.t 79) (.i 3))⟩,.a 81 (.pick (.t 73) (.t 80) (.k (.bool false))),.v 82 81,⟨some 83,(some (82,true)),.q (.mv (.t 8))⟩,⟨some 84,(some (82,true)),.q (.bin .eql true (.t 83) (.i 4))⟩,.a 85 (.pick (.t 82) (.t 84) (.k (.bool false))),.v 86 85,⟨some 87,(some (86,true)),.q (.mv (.t 9))⟩,⟨some 88,(some (86,true)),.q (.bin .eql true (.t 87) (.i 0))⟩,.a 89 (.pick (.t 86) (.t 88) (.k (.bool false))),.v 90 89,⟨some 91,(some (90,true)),.q (.mv (.t 11))⟩,⟨some 92,(some (90,true)),.q (.bin .eql true (.t 91) (.i 2))⟩,.a 93 (.pick (.t 90) (.t 92) (.k (.bool false))),.v 94 93,⟨some 95,(some (94,true)),.q (.mv (.t 12))⟩,⟨some 96,(some (94,true)),.q (.bin .eql true (.t 95) (.i 13))⟩,.a 97 (.pick (.t 94) (.t 96) (.k (.bool false))),.v 98 97,⟨some 99,(some (98,true)),.q (.mv (.t 14))⟩,⟨some 100,(some (98,true)),.q (.bin .eql true (.t 99) (.i 2))⟩,.a 101 (.pick (.t 98) (.t 100) (.k (.bool false))),.v 102 101,⟨some 103,(some (102,true)),.q (.mv (.t 15))⟩,⟨some 104,(some (102,true)),.q (.bin .eql true (.t 103) (.i 15))⟩,.a 105 (.pick (.t 102) (.t 104) (.k (.bool false))),.v 0 105])) .ret
@[go_sem ↓] theorem aPS:a6 FI:=a7 _
def FM:PC:=.seq (.gh (.reg [.l 43 (.ldn 3 (.t 1)),.l 44 (.ldn 4 (.t 2)),.a 45 (.cl 13 [(.t 43),(.t 44),(.k (.string (mk [123,120,32,61,32,49,44,32,109,111,100,101,32,61,32,115,116,111,112,44,32,108,32,61,32,91,93,125])))] []),.v 42 45,.q 46 (.ex (.t 42) 0),.q 47 (.ex (.t 42) 1),.q 48 (.ex (.t 42) 2),.e 13 (.al (.agg #[(.int .i64 0),(.int .i64 0),(.string (mk [])),(.slice none 0 0),(.slice none 0 0)]) 32),.s (.st 5 (.t 13) (.t 46)),.v 14 47,.v 15 48])) (FI)
@[go_sem ↓] theorem aOH:a6 FM:=a7 _
def GV:PC:=.seq (.gh (.reg [.l 36 (.ldn 3 (.t 1)),.l 37 (.ldn 4 (.t 2)),.a 38 (.cl 13 [(.t 36),(.t 37),(.k (.string (mk [123,109,111,100,101,32,61,32,114,117,110,44,32,120,32,61,32,49,125])))] []),.v 35 38,.q 39 (.ex (.t 35) 0),.q 40 (.ex (.t 35) 1),.q 41 (.ex (.t 35) 2),.e 10 (.al (.agg #[(.int .i64 0),(.int .i64 0),(.string (mk [])),(.slice none 0 0),(.slice none 0 0)]) 32),.s (.st 5 (.t 10) (.t 39)),.v 11 40,.v 12 41])) (FM)
@[go_sem ↓] theorem aL1:a6 GV:=a7 _
def EV:PC:=.seq (.gh (.reg [.l 29 (.ldn 3 (.t 1)),.l 30 (.ldn 4 (.t 2)),.a 31 (.cl 13 [(.t 29),(.t 30),(.k (.string (mk [123,120,32,61,32,50,48,48,44,32,109,111,100,101,32,61,32,114,117,110,44,32,108,32,61,32,91,93,125])))] []),.v 28 31,.q 32 (.ex (.t 28) 0),.q 33 (.ex (.t 28) 1),.q 34 (.ex (.t 28) 2),.e 7 (.al (.agg #[(.int .i64 0),(.int .i64 0),(.string (mk [])),(.slice none 0 0),(.slice none 0 0)]) 32),.s (.st 5 (.t 7) (.t 32)),.v 8 33,.v 9 34])) (GV)
@[go_sem ↓] theorem aL6:a6 EV:=a7 _
def HD:PC:=.seq (.gh (.reg [.l 21 (.ldn 3 (.t 1)),.l 22 (.ldn 4 (.t 2)),.v 23 3,.a 24 (.cl 13 [(.t 21),(.t 22),(.t 23)] []),.v 20 24,.q 25 (.ex (.t 20) 0),.q 26 (.ex (.t 20) 1),.q 27 (.ex (.t 20) 2),.e 4 (.al (.agg #[(.int .i64 0),(.int .i64 0),(.string (mk [])),(.slice none 0 0),(.slice none 0 0)]) 32),.s (.st 5 (.t 4) (.t 25)),.v 5 26,.v 6 27])) (EV)
@[go_sem ↓] theorem aLI:a6 HD:=a7 _
def GK:PC:=.seq (.gh (.reg [.q 3 (.mv (.k (.string (mk [123,120,32,61,32,45,53,44,32,109,111,100,101,32,61,32,114,117,110,44,32,108,32,61,32,91,116,114,117,101,44,32,102,97,108,115,101,93,125]))))])) (HD)
@[go_sem ↓] theorem aN7:a6 GK:=a7 _
def aAX:PC:=.seq (.reg [.q 0 (.mv (.k (.bool false)))]) (.seq (.reg [.a 17 (.cl 22 [] []),.v 16 17,.q 18 (.ex (.t 16) 0),.q 19 (.ex (.t 16) 1),.e 1 (.al (.agg #[(.int .i64 0),(.slice none 0 0),(.slice none 0 0)]) 25),.e 2 (.al (.agg #[(.int .i64 0),(.int .i64 0),(.string (mk [])),(.slice none 0 0)]) 28),.s (.st 3 (.t 1) (.t 18)),.s (.st 4 (.t 2) (.t 19))]) (GK))
def aFI:List RV:=[.mv (.t 0)]
theorem aK4:aM Tryz.prog true ⟨fun r k=>if r=7/\k=6 then .q else .own [],fun r=>[2,3,4,5,6,7].contains r⟩ Tryz.f10=some (aAX,aFI):=by kernel_rfl
def aE4:PC:=.seq (.reg [.e 0 (.al (.agg #[(.int .i64 0),(.slice none 0 0),(.slice none 0 0)]) 25),.e 1 (.al (.agg #[(.int .i64 0),(.int .i64 0),(.string (mk [])),(.slice none 0 0)]) 28)]) (.seq (.reg [.q 5 (.bd [(.int .i64 0),(.int .i64 0),(.string (mk [])),(.slice none 0 0)] [(0,1,(.i 1))]),.e 6 (.bsl 28 4 [(.t 5)]),.q 7 (.bd [(.int .i64 0),(.int .i64 0),(.string (mk [])),(.slice none 0 0)] [(0,1,(.i 5)),(1,1,(.i 2)),(3,1,(.t 6))]),.e 2 (.al (.agg #[(.int .i64 0),(.int .i64 0),(.string (mk [])),(.slice none 0 0)]) 28),.s (.st 4 (.t 2) (.t 7))]) (.seq (.reg [.q 8 (.bd [(.int .i64 0),(.int .i64 0),(.string (mk [])),(.slice none 0 0)] [(0,1,(.i 2)),(1,1,(.i 8))]),.q 9 (.bd [(.int .i64 0),(.string (mk [])),(.int .i64 0),(.int .i64 0),(.string (mk [])),(.slice none 0 0),(.bool false)] [(0,1,(.i 1)),(1,1,(.k (.string (mk [120])))),(2,4,(.t 8))]),.q 10 (.bd [(.int .i64 0),(.int .i64 0),(.string (mk [])),(.slice none 0 0)] [(0,1,(.i 4)),(1,1,(.i 5))]),.q 11 (.bd [(.int .i64 0),(.string (mk [])),(.int .i64 0),(.int .i64 0),(.string (mk [])),(.slice none 0 0),(.bool false)] [(0,1,(.i 2)),(1,1,(.k (.string (mk [110,97,109,101])))),(2,4,(.t 10)),(6,1,(.k (.bool true)))]),.q 12 (.bd [(.int .i64 0),(.int .i64 0),(.string (mk [])),(.slice none 0 0)] [(0,1,(.i 7)),(2,1,(.k (.string (mk [77,111,100,101]))))]),.q 13 (.bd [(.int .i64 0),(.string (mk [])),(.int .i64 0),(.int .i64 0),(.string (mk [])),(.slice none 0 0),(.bool false)] [(0,1,(.i 4)),(1,1,(.k (.string (mk [109,111,100,101])))),(2,4,(.t 12))]),.l 14 (.ldn 4 (.t 2)),.q 15 (.bd [(.int .i64 0),(.string (mk [])),(.int .i64 0),(.int .i64 0),(.string (mk [])),(.slice none 0 0),(.bool false)] [(0,1,(.i 5)),(1,1,(.k (.string (mk [108])))),(2,4,(.t 14))]),.e 16 (.bslx 97 7 [(.t 9),(.t 11),(.t 13),(.t 15)]),.v 3 16]) (.seq (.reg [.e 17 (.bsl 9 1 [(.k (.string (mk [105,100,108,101]))),(.k (.string (mk [114,117,110])))]),.e 18 (.bsl 3 1 [(.i 0),(.i 3)]),.q 19 (.bd [(.string (mk [])),(.slice none 0 0),(.slice none 0 0)] [(0,1,(.k (.string (mk [77,111,100,101])))),(1,1,(.t 17)),(2,1,(.t 18))]),.e 20 (.bslx 92 3 [(.t 19)]),.v 21 3,.q 22 (.bd [(.string (mk [])),(.slice none 0 0)] [(0,1,(.k (.string (mk [80,111,115,101])))),(1,1,(.t 21))]),.e 23 (.bslx 95 2 [(.t 22)]),.q 24 (.bd [(.int .i64 0),(.slice none 0 0),(.slice none 0 0)] [(0,1,(.i 1)),(1,1,(.t 20)),(2,1,(.t 23))]),.e 4 (.al (.agg #[(.int .i64 0),(.slice none 0 0),(.slice none 0 0)]) 25),.s (.st 3 (.t 4) (.t 24))]) (.seq (.reg [.l 25 (.ldn 3 (.t 4)),.q 26 (.bd [(.int .i64 0),(.int .i64 0),(.string (mk [])),(.slice none 0 0)] [(0,1,(.i 6)),(2,1,(.k (.string (mk [80,111,115,101]))))]),.s (.st 3 (.t 0) (.t 25)),.s (.st 4 (.t 1) (.t 26))]) .ret))))
def aCN:List RV:=[.ld (.ldn 3 (.t 0)),.ld (.ldn 4 (.t 1))]
theorem aK0:aM Tryz.prog true ⟨fun r k=>if r=2/\k=8 then .q else if r=3/\k=3 then .q else if r=3/\k=6 then .q else .own [],fun _=>false⟩ Tryz.f22=some (aE4,aCN):=by kernel_rfl
def rB (a b:Int × Int):Int × Int:=(IntKind.i64.wrap (a.1 + b.1),max a.2 b.2)
mutual
def nU:Vl->Int->Int × Int
 | .mk _ _ _ l f,lev=>bif decide (20 < lev) then (1,lev) else H0 f (lev + 1) (uU l (lev + 1) (1,lev))
def uU:List Vl->Int->Int × Int->Int × Int
 | [],_,a=>a
 | v :: r,lev,a=>uU r lev (rB a (nU v lev))
def H0:List (Int × Vl)->Int->Int × Int->Int × Int
 | [],_,a=>a
 | (_,v) :: r,lev,a=>H0 r lev (rB a (nU v lev))
end
mutual
theorem ZU:∀ (v:Vl) (lev:Int),lev<=(nU v lev).2
 | .mk k n s l f,lev=>by
  rw [nU]
  cases decide (20 < lev) with
  | true=>exact Int.le_refl _
  | false=>
   have h1:=tD l (lev + 1) (1,lev)
   have h2:=tR f (lev + 1) (uU l (lev + 1) (1,lev))
   rw [aI]
   simp only at h1
   omega
theorem tD:∀ (l:List Vl) (lev:Int) (a:Int × Int),a.2<=(uU l lev a).2
 | [],_,_=>by rw [uU]; exact Int.le_refl _
 | v :: r,lev,a=>by
  have h:=tD r lev (rB a (nU v lev))
  rw [uU]
  unfold rB at h ⊢
  simp only at h
  omega
theorem tR:∀ (l:List (Int × Vl)) (lev:Int) (a:Int × Int),a.2<=(H0 l lev a).2
 | [],_,_=>by rw [H0]; exact Int.le_refl _
 | (i,v) :: r,lev,a=>by
  have h:=tR r lev (rB a (nU v lev))
  rw [H0]
  unfold rB at h ⊢
  simp only at h
  omega
end
mutual
theorem UW:∀ (v:Vl) (lev:Int),(nU v lev).2<=12->lev + v.h<=13
 | .mk k n s l f,lev,h=>by
  have h0:=ZU (.mk k n s l f) lev
  rw [nU] at h h0
  cases c:decide (20 < lev) with
  | true=>have:=of_decide_eq_true c; rw [c,aL] at h; simp only at h; omega
  | false=>
   rw [c,aI] at h h0
   have h1:=tD l (lev + 1) (1,lev)
   have h2:=tR f (lev + 1) (uU l (lev + 1) (1,lev))
   have h3:=WP f (lev + 1) (uU l (lev + 1) (1,lev)) h
   have h4:=WR l (lev + 1) (1,lev) (by omega)
   rw [Vl.h]
   simp only at h1
   omega
theorem WR:∀ (l:List Vl) (lev:Int) (a:Int × Int),(uU l lev a).2<=12->Vl.hl l=0\/lev + Vl.hl l<=13
 | [],_,_,_=>.inl (by rw [Vl.hl])
 | v :: r,lev,a,h=>by
  rw [uU] at h
  have h1:=tD r lev (rB a (nU v lev))
  have h2:(nU v lev).2<=(rB a (nU v lev)).2:=by unfold rB; simp only; omega
  have h3:=UW v lev (by omega)
  have h4:=WR r lev _ h
  rw [Vl.hl]
  omega
theorem WP:∀ (l:List (Int × Vl)) (lev:Int) (a:Int × Int),(H0 l lev a).2<=12->Vl.hf l=0\/lev + Vl.hf l<=13
 | [],_,_,_=>.inl (by rw [Vl.hf])
 | (i,v) :: r,lev,a,h=>by
  rw [H0] at h
  have h1:=tR r lev (rB a (nU v lev))
  have h2:(nU v lev).2<=(rB a (nU v lev)).2:=by unfold rB; simp only; omega
  have h3:=UW v lev (by omega)
  have h4:=WP r lev _ h
  rw [Vl.hf]
  omega
end
def s0 (s:Sc) (t:Ty):Bool:=kF s && fewT t && d8 s == 0
def EB:List S->Prop:=fun av=>match av with
 | [.va (.gs r),.va (.gs q)]=>qD r/\eO q
 | _=>False
theorem qG {av:List S} (h:EB av):∃ s t,av=[.va (.gs (aF s)),.va (.gs (aN t))]/\s.ok/\TyOk t:=by
 unfold EB at h
 split at h
 · obtain ⟨⟨s,rfl,h1⟩,⟨t,rfl,h2⟩⟩:=h; exact ⟨s,t,rfl,h1,h2⟩
 · exact h.elim
noncomputable def VF:List S->A:=fun av=>match av with
 | [.va (.gs r),.va (.gs q)]=>bA (s0 (C.sc r) (C.ty q))
 | _=>.gs []
noncomputable def feFn:Fun:=⟨EB,VF,fun av h=>by obtain ⟨_,_,rfl,_⟩:=qG h; trivial⟩
attribute [go_sem] feFn EB VF
theorem J4 {s:Sc} (h:s.ok):qD [.vl (.int .i64 s.ver),.fz (s.es.map bI),.fz (s.ss.map aP)]:=KF h
theorem aDC:Meets Tryz.prog 8 feFn.sp:=by
 refine aE Tryz.func8 ok8 2 (by rw [Tryz.ntmps8]; decide) (aG aOS (aG EU (aG aAI (aA _)))) (fun av H K h=>by obtain ⟨_,_,rfl,_⟩:=qG h.1.1; rfl) ?_
 rintro av H K ⟨⟨h,rfl⟩,hK⟩
 obtain ⟨s,t,rfl,hs,ht⟩:=qG h
 have hK:K (bS (s0 s t)) []:=by
  have:feFn.val [.va (.gs (aF s)),.va (.gs (aN t))]=bA (s0 s t):=by
   show bA (s0 (C.sc (aF s)) (C.ty (aN t)))=_
   rw [fW,eX]
  rw [this] at hK; exact hK
 clear h
 have fin:∀ (b:Bool) (R:Hp),s0 s t=b->W.Fin 0 K (bS b) R:=fun b R h=>by
  rw [h] at hK; exact .sel [] (by simp) (by simp) rfl (.done (by simpa [go_sem] using hK))
 clear hK
 unfold s0 at fin
 have k4:=iB ht
 have k5:=nC t
 have k6:=J4 hs
 have k7:=m5 s
 cases h1:kF s with
 | false=>
  rw [h1,Bool.false_and,Bool.false_and] at fin
  simp (maxSteps:=1000000) -dsimp only [go_sem,aF,aO t,WI,VB,k4,k5,k6,k7,h1]
  exact fin _ _ rfl
 | true=>
 have k8:=i7 (AQ hs h1)
 cases h2:fewT t with
 | false=>
  rw [h1,h2,Bool.and_false,Bool.false_and] at fin
  simp (maxSteps:=1000000) -dsimp only [go_sem,aF,aO t,WI,VB,f0Fn,k4,k5,k6,k7,k8,h1,h2]
  exact fin _ _ rfl
 | true=>
  rw [h1,h2,Bool.and_true,Bool.true_and] at fin
  cases h3:d8 s == 0<;>rw [h3] at fin <;>
  · simp (maxSteps:=1000000) -dsimp only [go_sem,aF,aO t,WI,VB,f0Fn,k4,k5,k6,k7,k8,h1,h2,h3]
    exact fin _ _ rfl
theorem aAD {s:Sc} {t:Ty} (hs:s.ok) (h:s0 s t=true):s.fit/\Nice s:=by
 unfold s0 at h
 rw [Bool.and_eq_true,Bool.and_eq_true] at h
 exact ⟨AQ hs h.1.1,J3 (eq_of_beq h.2)⟩
theorem aD2 {ts:List Tk} {n:Nat} (he:Ends ts) (hn:n < ts.length) (hk:(bH ts n).k ≠ 0):b7 ts n=n + 1:=by
 have h:=he.last n _ (jH hn)
 unfold b7
 rw [if_pos]
 by_cases e:n + 1=ts.length
 · exact absurd (h.2 e) hk
 · omega
abbrev iW (n:Nat):Fs:=⟨false,0,n⟩
def moN (w:List UInt8) (ts:List Tk) (n:Nat):Fs:=bif cA [44] ts (iW n) then bY [44] ts (iW n) else cI w ts (iW n)
theorem O0 {ts:List Tk} {z:Fs} (h:z.bad=true):cT ts z=z:=by unfold cT; rw [h]; rfl
theorem HJ {w:List UInt8} {ts:List Tk} {z:Fs} (h:z.bad=true):cA w ts z=false:=by unfold cA; rw [h]; rfl
theorem CB {w:List UInt8} {ts:List Tk} {z:Fs} (h:z.bad=true):cI w ts z=z:=by unfold cI; rw [HJ h]; exact O0 h
structure Vr {α:Type} (ts:List Tk) (r:α × Fs) (v:α) (n:Nat) (b:Bool):Prop where
 hb:r.2.bad=b
 hn:n < ts.length
 ok:b=false->v=r.1/\r.2=iW n
 er:b=true->r.2.off=((bH ts n).a:Int)
theorem YY {ts:List Tk} {n:Nat} (he:Ends ts) (hn:n < ts.length) (hk:(bH ts n).k ≠ 0):n + 1 < ts.length:=by
 have h:=he.last n _ (jH hn)
 by_cases e:n + 1=ts.length
 · exact absurd (h.2 e) hk
 · omega
theorem QC {k:Int} {w:List UInt8} {t:Tk} (h:c8 k w t=true):t.k=k:=by unfold c8 at h; rw [Bool.and_eq_true] at h; exact eq_of_beq h.1
end Go.Proofs.YtkpohmhenegkiaaGreatDoor
namespace Go.W
section
variable {P:Program} {f:FuncId} {s t:Spec}
def C.pl:C->C->Prop
 | .vl v,c'=>c'=.vl v
 | c,c'=>∃ u,c'=.vl u/\(c.one->u.oneCell'=true)
def A.pl:A->A->Prop
 | .c1 c,.c1 c'=>C.pl c c'
 | .gs cs,.gs cs'=>All2 C.pl cs cs'
 | _,_=>False
def S.pl:S->S->Prop
 | .va a,s=>∃ b,s=.va b/\A.pl a b
 | .tu l,s=>∃ m,s=.tu m/\All2 A.pl l m
 | _,s=>s=.un
end
end Go.W
namespace Go.Proofs.YtkpohmhenegkiaaGreatDoor
open Go.W
theorem aIV {α:Type} {ts:List Tk} {n:Nat} {v:α} {z:Fs} (h:z=iW z.n\/z=cT ts (iW n)) (hn:n < ts.length) (hz:z.n < ts.length):Vr ts (v,z) v z.n z.bad:=by
 rcases h with h | h
 · rw [h]; exact ⟨rfl,hz,fun _=>⟨rfl,rfl⟩,fun h=>(by cases h)⟩
 · rw [h]; exact ⟨rfl,hn,fun h=>(by cases h),fun _=>rfl⟩
theorem RE (w:List UInt8) (ts:List Tk) (n:Nat):cI w ts (iW n)=iW (cI w ts (iW n)).n\/cI w ts (iW n)=cT ts (iW n):=by
 unfold cI
 cases cA w ts (iW n) with
 | true=>exact .inl rfl
 | false=>exact .inr rfl
abbrev C3:List (Nat × S):=[(0,.va (.c1 (.pt 0 0))),(4,.va (.c1 (.pt 1 0))),(5,.va (.c1 (.pt 2 0))),(6,.va (.c1 (.pt 3 0))),(7,.va (.c1 (.pt 4 0)))]
theorem ZI {ss:List St} {es:List En} {t:Ty} (h:valF ss es t=true):(t.k == 1)=true\/(t.k == 2)=true\/(t.k == 3)=true\/(t.k == 4)=true\/(t.k == 5)=true\/(t.k == 6)=true\/(t.k == 7)=true:=by
 obtain ⟨k,s,n,e⟩:=t
 show (k == 1)=true\/_
 rw [valF.eq_def] at h
 simp only at h
 cases h1:k == 1<;>cases h2:k == 2<;>cases h3:k == 3<;>cases h4:k == 4<;>cases h5:k == 5<;>cases h6:k == 6<;>cases h7:k == 7 <;>
 first
  | (simp [Ty.k,h1,h2,h3,h4,h5,h6,h7]; done)
  | (rw [h1,h2,h3,h4,h5,h6,h7] at h; cases h)
theorem OW {w:List UInt8} {ts:List Tk} {n:Nat}:cA w ts (iW n)=c8 4 w (bH ts n):=by unfold cA; rw [Bool.not_false,Bool.true_and]
theorem E8 {w:List UInt8} {ts:List Tk} {n:Nat} (he:Ends ts) (hn:n < ts.length) (h:c8 4 w (bH ts n)=true):bY w ts (iW n)=iW (n + 1):=by
 unfold bY; rw [OW,h,aD2 he hn (by rw [QC h]; decide)]; rfl
structure Ser {α:Type} (one:α->Fs->α × Fs) (sh:List UInt8) (ts:List Tk) (Q:α × Fs) (f:Nat) (m:Bool) (a:α) (n:Nat) (b:Bool):Prop where
 hn:n < ts.length
 go:m=true->b=false/\ts.length < n + f/\jF one ts f a (iW n)=Q
 no:m=false->Vr ts (Q.1,cI sh ts Q.2) a n b
theorem Ser.next {α:Type} {one:α->Fs->α × Fs} {sh:List UInt8} {ts:List Tk} {Q:α × Fs} {f:Nat} {a a':α} {n n':Nat} {b':Bool} (he:Ends ts) (ho:CO one ts) (h:Ser one sh ts Q (f + 1) true a n false) (hr:Vr ts (one a (iW n)) a' n' b') :
 (b'=true->Ser one sh ts Q f false a' n' true)/\(b'=false->Ser one sh ts Q f (cA [44] ts (iW n')) a' (moN sh ts n').n (moN sh ts n').bad):=by
 obtain ⟨_,h2,h3⟩:=h.go rfl
 rw [iG] at h3
 simp only [aI] at h3
 refine ⟨fun hb=>?_,fun hb=>?_⟩
 · have hbad:(one a (iW n)).2.bad=true:=by rw [hr.hb,hb]
   rw [HJ hbad,aI] at h3
   refine ⟨hr.hn,fun h=>(by cases h),fun _=>?_⟩
   rw [<-h3]
   exact ⟨by rw [CB hbad,hbad],hr.hn,fun h=>(by cases h),fun _=>by rw [CB hbad]; exact hr.er hb⟩
 · obtain ⟨e1,e2⟩:=hr.ok hb
   have hn':=hr.hn
   rw [e2] at h3
   unfold moN
   cases hc:cA [44] ts (iW n') with
   | true=>
    have hc':=hc
    rw [OW] at hc'
    have hm:=YY he hn' (by rw [QC hc']; decide)
    rw [hc,aL,E8 he hn' hc'] at h3
    rw [aL,E8 he hn' hc']
    refine ⟨hm,fun _=>⟨rfl,?_,by rw [e1]; exact h3⟩,fun h=>(by cases h)⟩
    have h5:=(ho a (iW n) h.hn).1
    rw [e2] at h5
    show ts.length < n' + 1 + f
    have h5:n<=n':=h5
    omega
   | false=>
    rw [hc,aI] at h3
    rw [aI]
    have hq:Q=(a',iW n'):=by rw [<-h3,e1,<-e2]
    refine ⟨(gU (w:=sh) hn').2,fun h=>(by cases h),fun _=>?_⟩
    rw [hq]
    exact aIV (RE sh ts n') hn' (gU (w:=sh) hn').2
theorem sD:∀ (m:Nat) (r:List UInt8) (i:Nat) (out:List UInt8) (z:Nat) (o:List UInt8),r.length<=m->out.all gZ=true->quoL i r out=(z,some o)->o.all gZ=true
 | _,[],i,out,z,o,_,_,h=>by rw [nA] at h; cases h
 | 0,c :: r,i,out,z,o,hm,_,_=>by simp at hm
 | m + 1,c :: r,i,out,z,o,hm,ho,h=>by
  rw [eR] at h
  have app:∀ d:UInt8,gZ d=true->(out ++ [d]).all gZ=true:=fun d hd=>by rw [List.all_append,ho]; simp [hd]
  cases c1:decide (c < 32) || decide (126 < c) with
  | true=>rw [c1] at h; cases h
  | false=>
  rw [c1,aI] at h
  have hp:gZ c=true:=by
   unfold gZ
   simp only [Bool.or_eq_false_iff,decide_eq_false_iff_not,UInt8.not_lt] at c1
   simp [c1.1,c1.2]
  cases c2:c == 34 with
  | true=>
   rw [c2] at h
   simp only [aL,Prod.mk.injEq,aH] at h
   rw [<-h.2]; exact ho
  | false=>
  rw [c2,aI] at h
  cases c3:c == 92 with
  | false=>
   rw [c3,aI] at h
   exact sD m r _ _ z o (by simp at hm; omega) (app c hp) h
  | true=>
   rw [c3,aL] at h
   cases r with
   | nil=>cases h
   | cons d r=>
    simp only at h
    cases c4:d == 34 || d == 92 with
    | false=>rw [c4] at h; cases h
    | true=>
     rw [c4,aL] at h
     refine sD m r _ _ z o (by simp at hm; omega) (app d ?_) h
     rw [Bool.or_eq_true] at c4
     rcases c4 with e | e<;>rw [eq_of_beq e]<;>decide
structure Gtk (k:Int) (x:List UInt8) (n:Int):Prop where
 e:k=0->x=[]/\n=0
 o:k ≠ 0->eT k x n=true
 i:b6 n
theorem QP {l:List UInt8} {p:Nat} {k n:Int} {x:List UInt8} {z:Nat} (h:b9 l p=.ok k x n z):Gtk k x n:=by
 have z0:b6 0:=⟨by decide,by decide⟩
 unfold b9 at h
 split at h
 · simp only [R.ok.injEq] at h
   obtain ⟨rfl,rfl,rfl,_⟩:=h
   exact ⟨fun _=>⟨rfl,rfl⟩,fun h=>absurd rfl h,z0⟩
 · rename_i c hc
   cases c1:bB c.toNat with
   | true=>
    rw [c1,aL] at h
    unfold fG at h
    simp only at h
    cases d1:decide (16 < bD aT l p - p) with
    | true=>rw [d1] at h; cases h
    | false=>
     rw [d1,aI] at h
     cases d2:l[bD aT l p]? == some 45 with
     | true=>rw [d2] at h; cases h
     | false=>
      rw [d2,aI] at h
      simp only [R.ok.injEq] at h
      obtain ⟨rfl,rfl,rfl,rfl⟩:=h
      refine ⟨fun h=>absurd h (by decide),fun _=>?_,z0⟩
      have hx:cG ((l.take (bD aT l p)).drop p)=true:=by
       have hlt:=(aZ.1 hc).1
       have hw:aT c=true:=by
        have:=cD (p:=fun c=>!bB c.toNat || aT c) (by decide +kernel) c
        rw [c1] at this; exact this
       have hg:p + 1<=bD aT l p:=by rw [<-gJ hc hw]; exact pL
       refine (HB _).2 ⟨c,?_,?_,c1,fun d hd=>qL d hd⟩
       · rw [List.getElem?_drop,Nat.add_zero,List.getElem?_take_of_lt (by omega),hc]
       · have:=of_decide_eq_false d1
         simp only [List.length_drop,List.length_take]; omega
      show ((0:Int) == 0 && cG _)=true
      rw [hx]; rfl
   | false=>
   rw [c1,aI] at h
   cases c2:a8 c || c == 45 with
   | true=>
    rw [c2,aL] at h
    unfold fB at h
    simp only at h
    have hd:∀ d ∈ (l.take (bD a8 l (bif l[p]? == some 45 then p + 1 else p))).drop (bif l[p]? == some 45 then p + 1 else p),a8 d=true:=fun d hd=>qL d hd
    generalize (l.take (bD a8 l (bif l[p]? == some 45 then p + 1 else p))).drop (bif l[p]? == some 45 then p + 1 else p)=s at *
    generalize (l[p]? == some 45)=neg at *
    cases d1:s == [] || (s[0]? == some 48 && (decide (1 < s.length) || neg)) with
    | true=>rw [d1] at h; cases h
    | false=>
    rw [d1,aI] at h
    cases hv:valL (bX neg) 0 s with
    | none=>rw [hv] at h; cases h
    | some m=>
    rw [hv] at h
    simp only at h
    have hm:=K8 (lim:=bX neg) (by cases neg<;>decide) (Nat.zero_le _) hd hv
    cases d2:j8 l (bD a8 l (bif neg then p + 1 else p)) with
    | true=>rw [d2] at h; cases h
    | false=>
     rw [d2,aI] at h
     simp only [R.ok.injEq] at h
     obtain ⟨rfl,rfl,rfl,rfl⟩:=h
     refine ⟨fun h=>absurd h (by decide),fun _=>rfl,?_⟩
     cases neg with
     | true=>have hm:m<=9223372036854775808:=hm; show b6 (-(m:Int)); unfold b6; omega
     | false=>have hm:m<=9223372036854775807:=hm; show b6 (m:Int); unfold b6; omega
   | false=>
   rw [c2,aI] at h
   cases c3:c == 34 with
   | true=>
    rw [c3,aL] at h
    unfold eP at h
    split at h
    · cases h
    · rename_i z' o ho
      cases d1:decide (200 < o.length) with
      | true=>rw [d1] at h; cases h
      | false=>
       rw [d1,aI] at h
       simp only [R.ok.injEq] at h
       obtain ⟨rfl,rfl,rfl,rfl⟩:=h
       refine ⟨fun h=>absurd h (by decide),fun _=>?_,z0⟩
       have h1:=sD _ _ _ [] _ _ (Nat.le_refl _) rfl ho
       have h2:decide (o.length<=200)=true:=by have:=of_decide_eq_false d1; simp; omega
       show ((0:Int) == 0 && (decide (o.length<=200) && o.all gZ))=true
       rw [h1,h2]; rfl
   | false=>
   rw [c3,aI] at h
   cases c4:dT c.toNat with
   | false=>rw [c4] at h; cases h
   | true=>
    rw [c4,aL] at h
    simp only [R.ok.injEq] at h
    obtain ⟨rfl,rfl,rfl,rfl⟩:=h
    refine ⟨fun h=>absurd h (by decide),fun _=>?_,z0⟩
    show ((0:Int) == 0 && dT c.toNat)=true
    rw [c4]; rfl
theorem zO {l:List UInt8}:∀ (f a:Nat) (ts:List Tk),dG f l a=.ok ts->∀ t ∈ ts,Gtk t.k t.x t.n
 | 0,a,ts,h=>by cases h; intro t ht; cases ht
 | f + 1,a,ts,h=>by
  rw [dG] at h
  split at h
  · cases h
  · rename_i k x n z hR
    have hg:=QP hR
    cases hk:k == 0 with
    | true=>
     rw [hk] at h
     simp only [aL,SR.ok.injEq] at h
     subst h
     intro t ht
     rw [List.mem_singleton.1 ht]; exact hg
    | false=>
     rw [hk] at h
     cases hr:dG f l z with
     | bad e t=>rw [hr] at h; cases h
     | ok us=>
      rw [hr] at h
      simp only [aI,SR.cons,SR.ok.injEq] at h
      subst h
      intro t ht
      rcases List.mem_cons.1 ht with rfl | ht
      · exact hg
      · exact zO f z us hr t ht
theorem qI (l:List UInt8):∀ t ∈ (aU l).toks,Gtk t.k t.x t.n:=by
 unfold aU
 cases h:decide (4000 < l.length) with
 | true=>intro t ht; cases ht
 | false=>
  rw [aI]
  cases hr:dG (l.length + 1) l 0 with
  | bad e t=>intro t ht; cases ht
  | ok ts=>exact zO _ _ _ hr
theorem ZE {k:Int} {x:List UInt8} {n:Int} (h:eT k x n=true):x.length<=200:=by
 unfold eT at h
 cases c1:k == 1 with
 | true=>rw [c1,aL,Bool.and_eq_true] at h; have:=RP h.2; omega
 | false=>
 rw [c1,aI] at h
 cases c2:k == 2 with
 | true=>rw [c2,aL] at h; rw [eq_of_beq h]; exact Nat.zero_le _
 | false=>
 rw [c2,aI] at h
 cases c3:k == 3 with
 | true=>rw [c3,aL,Bool.and_eq_true,Bool.and_eq_true] at h; exact of_decide_eq_true h.2.1
 | false=>
 rw [c3,aI] at h
 cases c4:k == 4 with
 | false=>rw [c4] at h; cases h
 | true=>
  rw [c4,aL,Bool.and_eq_true] at h
  match x,h with
  | [],_=>exact Nat.zero_le _
  | [_],_=>exact (by decide:1<=200)
  | _ :: _ :: _,h=>exact absurd h.2 (by simp)
theorem Gtk.len {k:Int} {x:List UInt8} {n:Int} (h:Gtk k x n):x.length<=200:=by
 by_cases hk:k=0
 · rw [(h.e hk).1]; exact Nat.zero_le _
 · exact ZE (h.o hk)
theorem PP {l:List UInt8} {ts:List Tk} (h:rU l 0 ts) (hl:l.length<=4000):Ends ts:=
 ⟨LJ h,by have:=GW h; omega,fun i t ht=>(K7 h ht).2.2.2.1⟩
theorem QT {l:List UInt8}:∀ {a:Nat} {ts:List Tk},rU l a ts->∀ t ∈ ts,t.a<=l.length
 | _,[],_=>fun t ht=>by cases ht
 | _,t :: ts,⟨_,h2,z,_,h4,h5⟩=>fun u hu=>by
  rcases List.mem_cons.1 hu with rfl | hu
  · exact h2
  · by_cases h0:t.k=0
    · rw [h4 h0] at hu; cases hu
    · exact QT (h5 h0) u hu
theorem yP {l:List UInt8} (h:(aU l).err=0):Tks (aU l).toks:=by
 rcases MC l with ⟨h1,_⟩ | ⟨_,_,h3,h4⟩
 · exact absurd h h1
 · have hg:=qI l
   exact ⟨PP h4 h3,fun t ht=>(hg t ht).i,fun t ht=>by have:=(hg t ht).len; omega,fun t ht=>by have:=QT h4 t ht; omega⟩
structure Dg (s:Sc):Prop where
 ni:Nice s
 g:Gd s.ss s.es
 ac:uW s.ss
 d6:∀ u ∈ s.ss,dD s.ss u.nm<=6
 z:∀ e ∈ s.es,e.vs[0]? = some 0
theorem aGW {s:Sc} (hf:s.fit) (h:d8 s=0):Dg s:=by
 obtain ⟨c2,c3,c4,c5⟩:=qP h
 unfold tB at c5
 obtain ⟨d1,c5⟩:=fZ c5 (by decide)
 obtain ⟨d2,c5⟩:=fZ c5 (by decide)
 exact ⟨J3 h,KH hf c2 c4,fun t ht=>jR d1 t ht,fun u hu=>by have:=of_decide_eq_false (jR d2 u hu); omega,fun e he=>RH h he⟩
abbrev pE (s:Sc) (t:Ty):Int:=bV (dD s.ss) t
theorem rG (s:Sc) (t:Ty):0<=pE s t:=by
 unfold pE bV
 have:=EQ s.ss (cF t).2.n
 cases (cF t).2.k == 6 with
 | true=>rw [aL]; omega
 | false=>rw [aI]; omega
theorem A8 {s:Sc} {t u:Ty} (h5:(t.k == 5)=true) (he:t.e=[u]):pE s t=pE s u + 1:=by
 obtain ⟨k,z,n,e⟩:=t
 have hk:k=5:=eq_of_beq h5
 have he:e=[u]:=he
 subst hk he
 unfold pE bV
 rw [cF,show ((5:Int) == 5)=true from rfl,aL,WT]
 simp only
 omega
theorem x5 {s:Sc} {t:Ty} (h6:(t.k == 6)=true):pE s t=dD s.ss t.n:=by
 obtain ⟨k,z,n,e⟩:=t
 have hk:k=6:=eq_of_beq h6
 subst hk
 unfold pE bV
 rw [cF,show ((6:Int) == 5)=false from rfl,aI]
 show ((0:Nat):Int) + (bif (6:Int) == 6 then dD s.ss n else 0)=dD s.ss n
 simp
theorem va6 {s:Sc} {t:Ty} (h:valF s.ss s.es t=true) (h6:(t.k == 6)=true):∃ u,fS s.ss t.n=some u/\stOf s t=u/\u ∈ s.ss/\u.nm=t.n:=by
 have hh:fO s.ss t.n=true:=by
  obtain ⟨k,z,n,e⟩:=t
  have hk:k=6:=eq_of_beq h6
  subst hk
  rw [valF] at h; simp at h; exact h.1.1
 rw [<-xZ] at hh
 obtain ⟨u,hu⟩:=Option.isSome_iff_exists.1 hh
 exact ⟨u,hu,by unfold stOf; rw [hu]; rfl,(gE hu).1,(gE hu).2⟩
theorem va7 {s:Sc} {t:Ty} (h:valF s.ss s.es t=true) (h7:(t.k == 7)=true):enOf s t ∈ s.es:=by
 have hh:fN s.es t.n=true:=by
  obtain ⟨k,z,n,e⟩:=t
  have hk:k=7:=eq_of_beq h7
  subst hk
  rw [valF] at h; simp at h; exact h.1.1
 rw [<-BK] at hh
 obtain ⟨u,hu⟩:=Option.isSome_iff_exists.1 hh
 unfold enOf
 rw [hu]
 exact (LQ hu).1
theorem tJ {s:Sc} (hd:Dg s) {t:Ty} (h:valF s.ss s.es t=true) (h6:(t.k == 6)=true):1<=dD s.ss t.n/\dD s.ss t.n<=6/\∀ f ∈ (stOf s t).fs,pE s f.ty + 1<=dD s.ss t.n:=by
 obtain ⟨u,h1,h2,h3,h4⟩:=va6 h h6
 have e:=D8 hd.g hd.ac h1
 have h0:=jA (dD s.ss) u.fs
 refine ⟨by omega,by rw [<-h4]; exact hd.d6 u h3,fun f hf=>?_⟩
 rw [h2] at hf
 have:=LF (dp:=dD s.ss) hf
 show bV (dD s.ss) f.ty + 1<=_
 omega
theorem L6 {s:Sc} (hs:s.fit) (hd:Dg s):∀ (N:Nat) (t:Ty),TyOk t->valF s.ss s.es t=true->pE s t < N->dP N s t
 | 0,t,_,_,h=>by have:=rG s t; omega
 | N + 1,t,ht,hv,h=>by
  refine ⟨fun h5=>?_,fun h6 f hf=>?_⟩
  · obtain ⟨u,he,hu⟩:=M1 hv h5
    have e:=A8 (s:=s) h5 he
    have hto:=ht.e u (by rw [he]; exact List.mem_singleton.2 rfl)
    exact ⟨u,he,hto,L6 hs hd N u hto hu (by omega)⟩
  · have e:=x5 (s:=s) h6
    have:=(tJ hd hv h6).2.2 f hf
    exact L6 hs hd N f.ty ((mO hs t).fs f hf).ty ((hd.ni.stOf t).v f hf) (by omega)
theorem aGR {ss:List St} {es:List En} {u:St} (hu:NSt ss es u):u.fs.Pairwise fun f g=>f.num < g.num:=by
 have key:∀ (l:List Fl),(∀ k f g,0 < k->l[k - 1]? = some g->l[k]? = some f->g.num < f.num)->l.Pairwise fun f g=>f.num < g.num:=by
  intro l
  induction l with
  | nil=>intro _; exact .nil
  | cons y l ih=>
   intro h
   have hl:=ih fun k f g hk h1 h2=>h (k + 1) f g (by omega) (by rw [show k + 1 - 1=k - 1 + 1 by omega]; simpa using h1) (by simpa using h2)
   refine List.pairwise_cons.2 ⟨fun f hf=>?_,hl⟩
   cases l with
   | nil=>cases hf
   | cons z l=>
    have h1:=h 1 z y (by omega) rfl rfl
    rcases List.mem_cons.1 hf with rfl | hf
    · exact h1
    · exact Int.lt_trans h1 ((List.pairwise_cons.1 hl).1 f hf)
 exact key u.fs hu.a
theorem MK:∀ {fs:List Fl} {f:Fl},fs.Pairwise (fun f g=>f.num < g.num)->f ∈ fs->fF fs f.num=some f
 | y :: l,f,hp,hf=>by
  obtain ⟨h1,h2⟩:=List.pairwise_cons.1 hp
  show List.find? _ _=_
  rw [List.find?_cons]
  rcases List.mem_cons.1 hf with rfl | hf
  · simp
  · have:=h1 f hf
    have e:decide (y.num=f.num)=false:=by simp; omega
    rw [e]
    exact MK h2 hf
theorem X3 {fs:List Fl}:∀ (L:List (Int × Vl)) (p:Option Int),(∀ x ∈ L,(fF fs x.1).isSome=true)->L.Pairwise (fun x y=>x.1 < y.1)->(∀ q,p=some q->∀ x ∈ L,q < x.1)->ftA fs p L=true
 | [],_,_,_,_=>by rw [JU]
 | x :: L,p,h1,h2,h3=>by
  obtain ⟨h4,h5⟩:=List.pairwise_cons.1 h2
  rw [FS,h1 x (List.mem_cons_self ..),X3 L (some x.1) (fun y hy=>h1 y (List.mem_cons_of_mem _ hy)) h5 fun q hq y hy=>by cases hq; exact h4 y hy]
  cases p with
  | none=>rfl
  | some q=>
   have:=h3 q rfl x (List.mem_cons_self ..)
   show (true && decide (q < x.1) && true)=true
   rw [decide_eq_true this]; rfl
theorem I9 {s:Sc} {fs:List Fl}:∀ (L:List (Int × Vl)),(∀ x ∈ L,iX s ((fF fs x.1).getD default).ty x.2=0)->jQ s fs L=0
 | [],_=>by rw [jQ]
 | x :: L,h=>by
  rw [FB,h x (List.mem_cons_self ..)]
  exact I9 L fun y hy=>h y (List.mem_cons_of_mem _ hy)
theorem N7 {B:Int}:∀ (L:List (Int × Vl)) (d:Int),d<=B->(∀ x ∈ L,f7 x.2<=B)->j1 d L<=B
 | [],d,h,_=>by rw [j1]; exact h
 | (i,v) :: L,d,h,hx=>by
  rw [j1]
  have:=hx (i,v) (List.mem_cons_self ..)
  exact N7 L _ (by simp only at this; omega) fun y hy=>hx y (List.mem_cons_of_mem _ hy)
def zl (s:Sc) (t:Ty):Int:=bif t.k == 6 then dD s.ss t.n else bif t.k == 5 then 1 else 0
theorem aHD {s:Sc} {t:Ty} (hv:valF s.ss s.es t=true):zl s t<=pE s t:=by
 unfold zl
 have h0:=rG s t
 cases h6:t.k == 6 with
 | true=>rw [x5 h6]; exact Int.le_refl _
 | false=>
  cases h5:t.k == 5 with
  | true=>
   obtain ⟨u,he,_⟩:=M1 hv h5
   have:=A8 (s:=s) h5 he
   have:=rG s u
   rw [aI,aL]; omega
  | false=>exact h0
theorem H4 (n:Nat):(0:Int) < 2 ^ n:=Int.pow_pos (by decide)
theorem aCF {s:Sc} {t:Ty} (h:valF s.ss s.es t=true) (hk:(t.k == 4)=true\/(t.k == 5)=true):1<=t.s:=by
 obtain ⟨k,z,n,e⟩:=t
 show 1<=z
 rcases hk with hk | hk
 · have hk:k=4:=eq_of_beq hk
   subst hk
   rw [valF.eq_def] at h
   simp at h
   omega
 · have hk:k=5:=eq_of_beq hk
   subst hk
   rw [valF.eq_def] at h
   simp at h
   omega
theorem JB {s:Sc} (hd:Dg s) (n:Nat) {t:Ty} (hv:valF s.ss s.es t=true) (h6:(t.k == 6)=false):iX s t (zF s (n + 1) t)=0/\f7 (zF s (n + 1) t)<=zl s t:=by
 have e:zF s (n + 1) t=.mk t.k 0 (mk []) [] []:=by rw [mK,hv,h6]; rfl
 rw [e]
 constructor
 · rw [wU,hv]
   show (bif !true || t.k != t.k then (13:Int) else _)=0
   rw [bne_self_eq_false,Bool.not_true,Bool.or_false,aI]
   cases h4:t.k == 4 with
   | true=>
    have:=aCF hv (.inl h4)
    have d:decide (t.s < (((bl (mk [])).length:Nat):Int))=false:=by rw [n4]; simp; omega
    show nL t 0 (mk []) (([]:List Vl).length:Int) (([]:List (Int × Vl)).length:Int)=0
    unfold nL
    rw [d]; rfl
   | false=>
   rw [aI]
   cases h5:t.k == 5 with
   | true=>
    have:=aCF hv (.inr h5)
    have d:decide (t.s < ((([]:List Vl).length:Nat):Int))=false:=by simp; omega
    show (bif decide (t.s < ((([]:List Vl).length:Nat):Int)) then (3:Int) else j5 s (t.e.headD default) [])=0
    rw [d,j5]; rfl
   | false=>
   rw [aI,h6,aI]
   show n3 s t 0 (mk []) ((0:Nat):Int) ((0:Nat):Int)=0
   unfold n3
   have hr:CW s t 0=true:=by
    unfold CW
    rcases ZI hv with h | h | h | h | h | h | h
    · rw [h]; rfl
    · rw [mI h (b:=1) (by decide),h,aI,aL]
      have:=H4 (t.s.toNat - 1)
      rw [decide_eq_true (show -(2 ^ (t.s.toNat - 1):Int)<=0 by omega),decide_eq_true this,Bool.and_true,Bool.or_true]
    · rw [mI h (b:=1) (by decide),mI h (b:=2) (by decide),h,aI,aI,aL]
      have:=H4 t.s.toNat
      rw [decide_eq_true this]; rfl
    · rw [h4] at h; cases h
    · rw [h5] at h; cases h
    · rw [h6] at h; cases h
    · rw [mI h (b:=1) (by decide),mI h (b:=2) (by decide),mI h (b:=3) (by decide),h]
      have hm:=hd.z _ (va7 hv h)
      show (enOf s t).vs.any (fun x=>x == 0)=true
      rw [List.any_eq_true]
      exact ⟨0,bK hm,rfl⟩
   rw [hr,n4]; rfl
 · rw [GL]
   unfold zl
   rw [h6,aI]
   cases h5:t.k == 5 with
   | true=>
    have hs:oR (.mk t.k 0 (mk []) [] [])=false:=by
     show (t.k != 5 && t.k != 6 && _ && _)=false
     rw [bne,h5]; rfl
    rw [hs]
    show 1 + j1 (j0 0 []) []<=1
    rw [j0,j1]; decide
   | false=>
    have hs:oR (.mk t.k 0 (mk []) [] [])=true:=by
     show (t.k != 5 && t.k != 6 && _ && _)=true
     rw [bne,bne,h5,h6]; rfl
    rw [hs]; exact Int.le_refl _
theorem aJE {s:Sc} (hd:Dg s):∀ (n:Nat) (t:Ty),valF s.ss s.es t=true->((t.k == 6)=true->dD s.ss t.n<=n)->iX s t (zF s (n + 1) t)=0/\f7 (zF s (n + 1) t)<=zl s t:=by
 intro n
 induction n with
 | zero=>
  intro t hv h
  cases h6:t.k == 6 with
  | true=>have:=(tJ hd hv h6).1; have:=h h6; omega
  | false=>exact JB hd 0 hv h6
 | succ n ih=>
  intro t hv h
  cases h6:t.k == 6 with
  | false=>exact JB hd (n + 1) hv h6
  | true=>
   have hdn:=h h6
   obtain ⟨h1,h2,h3⟩:=tJ hd hv h6
   have hu:=hd.ni.stOf t
   have hpw:=aGR hu
   have hk:t.k=6:=eq_of_beq h6
   have e:zF s (n + 1 + 1) t=.mk 6 0 (mk []) [] (zE s (n + 1) (stOf s t).fs):=by rw [mK,hv,h6]; rfl
   have hm:∀ x ∈ zE s (n + 1) (stOf s t).fs,∃ f ∈ (stOf s t).fs,x=(f.num,zF s (n + 1) f.ty):=fun x hx=>by
    unfold zE at hx
    obtain ⟨f,hf,rfl⟩:=List.mem_map.1 hx
    exact ⟨f,(List.mem_filter.1 hf).1,rfl⟩
   have hf:∀ f ∈ (stOf s t).fs,iX s f.ty (zF s (n + 1) f.ty)=0/\f7 (zF s (n + 1) f.ty)<=dD s.ss t.n - 1:=fun f hf=>by
    have hvf:=hu.v f hf
    have h4:=h3 f hf
    have h5:=aHD hvf
    obtain ⟨a,b⟩:=ih f.ty hvf fun h7=>by have:=x5 (s:=s) h7; omega
    exact ⟨a,by omega⟩
   rw [e]
   constructor
   · rw [wU,hv]
     show (bif !true || (6:Int) != t.k then (13:Int) else _)=0
     rw [hk]
     show (bif !(fI (stOf s t).fs (zE s (n + 1) (stOf s t).fs)) then (13:Int) else jQ s (stOf s t).fs (zE s (n + 1) (stOf s t).fs))=0
     have hfit:fI (stOf s t).fs (zE s (n + 1) (stOf s t).fs)=true:=by
      unfold fI
      rw [Bool.and_eq_true,List.all_eq_true]
      refine ⟨X3 _ none (fun x hx=>?_) ?_ (fun q h=>by cases h),fun f hf=>?_⟩
      · obtain ⟨f,hf,rfl⟩:=hm x hx
        rw [MK hpw hf]; rfl
      · unfold zE
        rw [List.pairwise_map]
        exact hpw.filter _
      · cases ho:f.opt with
        | true=>rfl
        | false=>
         unfold pN
         rw [Bool.false_or,List.any_eq_true]
         refine ⟨(f.num,zF s (n + 1) f.ty),?_,by simp⟩
         unfold zE
         exact List.mem_map.2 ⟨f,List.mem_filter.2 ⟨hf,by rw [ho]; rfl⟩,rfl⟩
     rw [hfit,Bool.not_true,aI]
     refine I9 _ fun x hx=>?_
     obtain ⟨f,hfm,rfl⟩:=hm x hx
     rw [MK hpw hfm]
     exact (hf f hfm).1
   · rw [GL]
     unfold zl
     rw [h6,aL]
     show 1 + j1 (j0 0 []) (zE s (n + 1) (stOf s t).fs)<=dD s.ss t.n
     rw [j0]
     have:=N7 (B:=dD s.ss t.n - 1) (zE s (n + 1) (stOf s t).fs) 0 (by omega) fun x hx=>by
      obtain ⟨f,hfm,rfl⟩:=hm x hx
      exact (hf f hfm).2
     omega
theorem aI9 {s:Sc} (hd:Dg s) (t:Ty):oZ s t=valF s.ss s.es t:=by
 unfold oZ hY
 rw [ZG]
 cases hv:valF s.ss s.es t with
 | true=>
  obtain ⟨h1,h2⟩:=aJE hd 22 t hv fun h6=>by have:=(tJ hd hv h6).2.1; omega
  have h3:zl s t<=6:=by
   unfold zl
   cases h6:t.k == 6 with
   | true=>exact (tJ hd hv h6).2.1
   | false=>
    cases t.k == 5 with
    | true=>exact (by decide:(1:Int)<=6)
    | false=>exact (by decide:(0:Int)<=6)
  rw [decide_eq_false (show ¬ 6 < f7 (zF s (22 + 1) t) by omega),h1]; rfl
 | false=>
  have e:zF s 23 t=.mk 0 0 (mk []) [] []:=by rw [mK,hv]; rfl
  rw [e,wU,hv]
  cases decide (6 < f7 (.mk 0 0 (mk []) [] []))<;>rfl
def aMO:Ty:=.mk 2 8 (mk []) []
def xTx:Ty:=.mk 4 5 (mk []) []
def xMo:Ty:=.mk 7 0 (mk [77,111,100,101]) []
def xBo:Ty:=.mk 1 0 (mk []) []
def xLi:Ty:=.mk 5 2 (mk []) [xBo]
def xF1:Fl:=⟨1,mk [120],aMO,false⟩
def xF2:Fl:=⟨2,mk [110,97,109,101],xTx,true⟩
def xF4:Fl:=⟨4,mk [109,111,100,101],xMo,false⟩
def xF5:Fl:=⟨5,mk [108],xLi,false⟩
def XI:St:=⟨mk [80,111,115,101],[xF1,xF2,xF4,xF5]⟩
def xEn:En:=⟨mk [77,111,100,101],[mk [105,100,108,101],mk [114,117,110]],[0,3]⟩
def xS:Sc:=⟨1,[xEn],[XI]⟩
def xT:Ty:=.mk 6 0 (mk [80,111,115,101]) []
def xSp:W.Spec:=fun av H K=>av=[]/\H=[]/\K (.tu [.gs (aF xS),.gs (aN xT)]) []
theorem LV:Meets Tryz.prog 22 xSp:=by
 refine aE Tryz.func22 aK0 0 (by rw [Tryz.ntmps22]; decide) (aA _) (fun av H K h=>by obtain ⟨rfl,_⟩:=h; rfl) ?_
 rintro av H K ⟨rfl,rfl,hK⟩
 simp (maxSteps:=1000000) -dsimp only [go_sem,aE4,aCN]
 refine .opn 2 _ _ _ rfl (.nfr 2 _ _ _ rfl (.shu 2 _ _ _ rfl ?_ (.pub 2 _ _ _ rfl ?_)))
 · simp [C.nf,C.shut]
 simp -dsimp only [go_sem,cN,C.nf,C.pub]
 refine .nfr 4 _ _ _ rfl (.shu 4 _ _ _ rfl ?_ (.pub 4 _ _ _ rfl ?_))
 · simp [C.nf,C.shut]
 simp -dsimp only [go_sem,cN,C.nf,C.pub]
 refine .pub 5 _ _ _ rfl (.pub 6 _ _ _ rfl ?_)
 simp -dsimp only [go_sem,cN,C.pub]
 refine .shu 7 _ _ _ rfl ?_ (.pub 7 _ _ _ rfl ?_)
 · simp [C.shut]
 simp -dsimp only [go_sem,cN,C.pub]
 refine .shu 8 _ _ _ rfl ?_ (.pub 8 _ _ _ rfl ?_)
 · simp [C.shut]
 simp -dsimp only [go_sem,cN,C.pub]
 refine .sel [] (by simp) (by simp) rfl (.done ?_)
 simp -dsimp only [go_sem]
 exact hK
def x1:List UInt8:=[123,120,32,61,32,45,53,44,32,109,111,100,101,32,61,32,114,117,110,44,32,108,32,61,32,91,116,114,117,101,44,32,102,97,108,115,101,93,125]
def x2:List UInt8:=[123,120,32,61,32,50,48,48,44,32,109,111,100,101,32,61,32,114,117,110,44,32,108,32,61,32,91,93,125]
def x3:List UInt8:=[123,109,111,100,101,32,61,32,114,117,110,44,32,120,32,61,32,49,125]
def x4:List UInt8:=[123,120,32,61,32,49,44,32,109,111,100,101,32,61,32,115,116,111,112,44,32,108,32,61,32,91,93,125]
def lA (k n:Int):Vl:=.mk k n (mk []) [] []
def xL:Vl:=.mk 5 0 (mk []) [lA 1 1,lA 1 0] []
def xV:Vl:=.mk 6 0 (mk []) [] [(1,lA 2 (-5)),(4,lA 7 3),(5,xL)]
theorem e1:fM (pP 10) xS xT x1=(xV,0,0):=by kernel_rfl
theorem e2:fM (pP 10) xS xT x2=(v0,4,0):=by kernel_rfl
theorem e3:fM (pP 10) xS xT x3=(v0,2,13):=by kernel_rfl
theorem e4:fM (pP 10) xS xT x4=(v0,2,15):=by kernel_rfl
theorem e0:hY xS xT xV=0:=by kernel_rfl
theorem e5:G8 (fP 10) xS xT xV=x1:=by kernel_rfl
theorem IH (k s:Int) (n:ByteArray) (h1:b6 k) (h2:b6 s) (h3:n.size<=9223372036854775807):TyOk (.mk k s n []):=.mk h1 h2 h3 (Nat.zero_le _) (fun t h=>by cases h)
theorem VO:TyOk xT:=IH _ _ _ ⟨by decide,by decide⟩ ⟨by decide,by decide⟩ (by decide)
theorem aBN:TyOk xLi:=.mk ⟨by decide,by decide⟩ ⟨by decide,by decide⟩ (by decide) (by decide) fun t ht=>by
 rw [List.mem_singleton.1 ht]; exact IH _ _ _ ⟨by decide,by decide⟩ ⟨by decide,by decide⟩ (by decide)
theorem aIS:xS.ok:=by
 refine ⟨⟨by decide,by decide⟩,by decide,by decide,fun e he=>?_,fun u hu=>?_⟩
 · rw [List.mem_singleton.1 he]
   refine ⟨by decide,by decide,by decide,fun n hn=>?_,fun n hn=>?_⟩
   · have:n=mk [105,100,108,101]\/n=mk [114,117,110]:=by simpa [xEn] using hn
     rcases this with rfl | rfl<;>decide
   · have:n=0\/n=3:=by simpa [xEn] using hn
     rcases this with rfl | rfl<;>exact ⟨by decide,by decide⟩
 · rw [List.mem_singleton.1 hu]
   refine ⟨by decide,by decide,fun f hf=>?_⟩
   have:f=xF1\/f=xF2\/f=xF4\/f=xF5:=by simpa [XI] using hf
   rcases this with rfl | rfl | rfl | rfl
   · exact ⟨⟨by decide,by decide⟩,by decide,IH _ _ _ ⟨by decide,by decide⟩ ⟨by decide,by decide⟩ (by decide)⟩
   · exact ⟨⟨by decide,by decide⟩,by decide,IH _ _ _ ⟨by decide,by decide⟩ ⟨by decide,by decide⟩ (by decide)⟩
   · exact ⟨⟨by decide,by decide⟩,by decide,IH _ _ _ ⟨by decide,by decide⟩ ⟨by decide,by decide⟩ (by decide)⟩
   · exact ⟨⟨by decide,by decide⟩,by decide,aBN⟩
theorem aAY:kF xS=true:=by kernel_rfl
theorem QU:xS.fit:=AQ aIS aAY
theorem uC {N:Nat} {s:Sc} {t:Ty} (h5:(t.k == 5)=false) (h6:(t.k == 6)=false):dP (N + 1) s t:=⟨fun h=>(by rw [h5] at h; cases h),fun h=>(by rw [h6] at h; cases h)⟩
theorem PY:stOf xS xT=XI:=by kernel_rfl
theorem xD:dP 10 xS xT:=by
 refine ⟨fun h=>(nomatch h),fun _ f hf=>?_⟩
 rw [PY] at hf
 have:f=xF1\/f=xF2\/f=xF4\/f=xF5:=by simpa [XI] using hf
 rcases this with rfl | rfl | rfl | rfl
 · exact uC rfl rfl
 · exact uC rfl rfl
 · exact uC rfl rfl
 · exact ⟨fun _=>⟨xBo,rfl,IH _ _ _ ⟨by decide,by decide⟩ ⟨by decide,by decide⟩ (by decide),uC rfl rfl⟩,fun h=>(nomatch h)⟩
theorem xDF:dF 10 xS xT xV:=by
 have hl:∀ N t v,(fP N xS t v).1.length<=1000->(t.k == 5)=false->(t.k == 6)=false->bl v.s=[]->N=N - 1 + 1->dF N xS t v:=fun N t v h1 h2 h3 h4 h5=>by
  rw [h5] at h1 ⊢
  refine ⟨fun _=>by rw [h4]; decide,fun h=>?_,fun h=>?_,Nat.le_trans h1 (by decide)⟩
  · rw [h2] at h; cases h
  · rw [h3] at h; cases h
 refine ⟨fun h=>(nomatch h),fun h=>(nomatch h),fun _ x hx=>?_,by decide +kernel⟩
 have:x=(1,lA 2 (-5))\/x=(4,lA 7 3)\/x=(5,xL):=by simpa [xV,Vl.f] using hx
 rw [PY]
 rcases this with rfl | rfl | rfl
 · exact hl _ _ _ (by decide +kernel) rfl rfl rfl rfl
 · exact hl _ _ _ (by decide +kernel) rfl rfl rfl rfl
 · refine ⟨fun h=>(nomatch h),fun _=>⟨xBo,rfl,IH _ _ _ ⟨by decide,by decide⟩ ⟨by decide,by decide⟩ (by decide),fun y hy=>?_⟩,fun h=>(nomatch h),by decide +kernel⟩
   have:y=lA 1 1\/y=lA 1 0:=by simpa [xL,Vl.l] using hy
   rcases this with rfl | rfl
   · exact hl _ _ _ (by decide +kernel) rfl rfl rfl rfl
   · exact hl _ _ _ (by decide +kernel) rfl rfl rfl rfl
noncomputable def XL (N:Nat):Fun:=gX (fun s t v=>hY s t v=0->dF N s t v) fun s t v=>.string (mk (G8 (fP N) s t v))
theorem RA (N:Nat):Meets Tryz.prog 11 (XL N).sp:=eC (0:Nat) (fun (_:Nat)=>Z0 (aDZ N)) fun av H K h=>by
 obtain ⟨s,t,v,rfl,rfl,hs,ht,hv,hp,hK⟩:=iQ h
 exact ⟨0,s,t,v,rfl,rfl,hs,ht,hv,hp,hK⟩
theorem LM (N:Nat):Meets Tryz.prog 13 (rT (dP N) (pP N)):=aFC (V5 N) (AG N) fun _s _ts t z hs hts ht hD hn=>D5 hs hts N t z ht hD hn
theorem HH {N:Nat} {s:Sc} {t:Ty} {x:ByteArray} {K:S->Hp->Prop} (hs:s.fit) (ht:TyOk t) (hD:oZ s t=true->dP N s t) (hK:K (.tu [.gs (bJ (fM (pP N) s t (bl x)).1),iA .i64 (fM (pP N) s t (bl x)).2.1,iA .i64 (fM (pP N) s t (bl x)).2.2]) []) :
 rT (dP N) (pP N) [.va (.gs [.vl (.int .i64 s.ver),.fz (s.es.map bI),.fz (s.ss.map aP)]),.va (.gs [.vl (.int .i64 t.k),.vl (.int .i64 t.s),.vl (.string t.n),.fz (t.e.map aN)]),tS x] [] K:=
 ⟨s,t,x,by rw [aO]; rfl,rfl,hs,ht,hD,yP,hK⟩
theorem MT {x:List UInt8} {v:Vl} {e a:Int} {K:S->Hp->Prop} (h:fM (pP 10) xS xT x=(v,e,a)) (hK:K (.tu [.gs (bJ v),iA .i64 e,iA .i64 a]) []) :
 rT (dP 10) (pP 10) [.va (.gs [.vl (.int .i64 xS.ver),.fz (xS.es.map bI),.fz (xS.ss.map aP)]),.va (.gs [.vl (.int .i64 xT.k),.vl (.int .i64 xT.s),.vl (.string xT.n),.fz (xT.e.map aN)]),tS (mk x)] [] K:=
 HH QU VO (fun _=>xD) (by rw [n4,h]; exact hK)
noncomputable def XH:cJ:=[(22,.s xSp),(13,.s (rT (dP 10) (pP 10))),(11,.f (XL 10))]
theorem aEA:sp XH 22=xSp:=rfl
theorem xR:sp XH 13=rT (dP 10) (pP 10):=rfl
theorem aDV:jJ XH 11=some (XL 10):=rfl
theorem RS:Meets Tryz.prog 10 qTrue.sp:=by
 refine aE (Γ:=XH) Tryz.func10 aK4 0 (by rw [Tryz.ntmps10]; decide) (aB LV (aB (LM 10) (aG (RA 10) (aA _)))) PI ?_
 rintro av H K ⟨⟨h,rfl⟩,hK⟩
 obtain rfl:av=[]:=h
 have hK:K (bS true) []:=hK
 have fin:∀ R:Hp,W.Fin 0 K (bS true) R:=fun R=>.sel [] (by simp) (by simp) rfl (.done (by simpa [go_sem] using hK))
 clear hK
 have k1:=fV (show VlOk xV from by
  have hf:∀ k n:Int,b6 k->b6 n->VlOk (lA k n):=fun k n h1 h2=>rV h1 h2 (by decide)
  refine .mk ⟨by decide,by decide⟩ ⟨by decide,by decide⟩ (by decide) (by decide) (by decide) (fun x h=>by cases h) (fun x hx=>?_) (fun x hx=>?_)
  · have:x=(1,lA 2 (-5))\/x=(4,lA 7 3)\/x=(5,xL):=by simpa using hx
    rcases this with rfl | rfl | rfl<;>exact ⟨by decide,by decide⟩
  · have:x=(1,lA 2 (-5))\/x=(4,lA 7 3)\/x=(5,xL):=by simpa using hx
    rcases this with rfl | rfl | rfl
    · exact hf _ _ ⟨by decide,by decide⟩ ⟨by decide,by decide⟩
    · exact hf _ _ ⟨by decide,by decide⟩ ⟨by decide,by decide⟩
    · refine .mk ⟨by decide,by decide⟩ ⟨by decide,by decide⟩ (by decide) (by decide) (by decide) (fun y hy=>?_) (fun x h=>by cases h) (fun x h=>by cases h)
      have:y=lA 1 1\/y=lA 1 0:=by simpa using hy
      rcases this with rfl | rfl<;>exact hf _ _ ⟨by decide,by decide⟩ ⟨by decide,by decide⟩)
 have k2:=lO xV
 have k4:=iB VO
 have k5:=nC xT
 have k6:=i7 QU
 have k7:=m5 xS
 have k8:(hY xS xT xV=0->dF 10 xS xT xV)=True:=eq_true fun _=>xDF
 have g0:(x1 == [123,120,32,61,32,45,53,44,32,109,111,100,101,32,61,32,114,117,110,44,32,108,32,61,32,91,116,114,117,101,44,32,102,97,108,115,101,93,125])=true:=by decide +kernel
 have g1:((xV.f.length:Int) == 3)=true:=rfl
 have q1:=fun p=>PQ (l:=xV.f) (n:=1) (x:=(4,lA 7 3)) rfl p
 have g2:((4:Int) == 4)=true:=rfl
 have g3:((3:Int) == 3)=true:=rfl
 have g4:((0:Int) == 0)=true:=rfl
 have g5:((2:Int) == 2)=true:=rfl
 have g6:((13:Int) == 13)=true:=rfl
 have g7:((15:Int) == 15)=true:=rfl
 have g8:(1:Int) < (xV.f.length:Int):=by decide
 have g9:(lA 7 3).n=3:=rfl
 simp (maxSteps:=1000000) -dsimp only [go_sem,aAX,aFI,aEA]
 refine ⟨rfl,rfl,?_⟩
 simp (maxSteps:=1000000) -dsimp only [go_sem,aF,aO xT]
 refine aD rfl (.done ?_)
 simp (maxSteps:=1000000) -dsimp only [go_sem,GK]
 refine aD rfl (.done ?_)
 simp (maxSteps:=1000000) -dsimp only [go_sem,HD,xR]
 refine MT e1 ?_
 simp (maxSteps:=1000000) -dsimp only [go_sem,aV xV]
 refine aD rfl (.done ?_)
 simp (maxSteps:=1000000) -dsimp only [go_sem,EV,xR]
 refine MT e2 ?_
 simp (maxSteps:=1000000) -dsimp only [go_sem,aV v0]
 refine aD rfl (.done ?_)
 simp (maxSteps:=1000000) -dsimp only [go_sem,GV,xR]
 refine MT e3 ?_
 simp (maxSteps:=1000000) -dsimp only [go_sem,aV v0]
 refine aD rfl (.done ?_)
 simp (maxSteps:=1000000) -dsimp only [go_sem,FM,xR]
 refine MT e4 ?_
 simp (maxSteps:=1000000) -dsimp only [go_sem,aV v0]
 refine aD rfl (.done ?_)
 simp (maxSteps:=1000000) -dsimp only [go_sem,FI,aDV,XL,k1,k2,k4,k5,k6,k7,k8,e5,g0,g1,g2,g4,g5,g6,g7,↓q1,beq_self_eq_true]
 exact ⟨⟨by omega,by omega⟩,⟨by omega,by omega⟩,fin _⟩
def kC:PC:=.gh (.reg [.v 68 12,.v 69 15,.q 70 (.bin .add true (.t 68) (.t 69)),.v 71 9,.v 72 13,.v 73 13,.q 74 (.bin .add true (.t 73) (.i 1)),.q 75 (.sf 4 (.t 71) (some (.t 72)) (some (.t 74))),.a 76 (.cq 17 [(.t 75)]),.q 77 (.bin .add true (.t 70) (.t 76)),.v 12 77])
@[go_sem ↓] theorem aJ2:a6 kC:=a7 _
def kD:PC:=.seq (.seq (.gh (.reg [.v 61 14])) (.block 2 (.seq (.reg [.q 63 (.bin .eql true (.t 61) (.k (.int .u8 1))),.v 62 63]) (.cond (.t 62) (.reg [.q 15 (.mv (.k (.string (mk [10,9]))))]) (.seq (.reg [.q 65 (.bin .eql true (.t 61) (.k (.int .u8 2))),.v 64 65]) (.cond (.t 64) (.reg [.q 15 (.mv (.k (.string (mk [32,35,32,114,101,109,97,114,107,10]))))]) (.seq (.reg [.q 67 (.bin .eql true (.t 61) (.k (.int .u8 3))),.v 66 67]) (.cond (.t 66) (.reg [.q 15 (.mv (.k (.string (mk [32,32]))))]) .skip)))))))) (kC)
@[go_sem ↓] theorem aKD:a6 kD:=a7 _
def tE:PC:=.seq (.gh (.reg [.q 15 (.mv (.k (.string (mk [32]))))])) (kD)
@[go_sem ↓] theorem aJ1:a6 tE:=a7 _
def tX:PC:=.seq (.seq (.gh (.reg [.v 52 13,.v 53 3,.q 54 (.lnL (.t 53)),.q 55 (.bin .lss true (.t 52) (.t 54))])) (.cond (.t 55) (.reg [.v 56 3,.v 57 13,.l 58 (.ia 1 (.t 56) (.t 57)),.l 59 (.ld1 (.t 58)),.q 60 (.bin .rem true (.t 59) (.k (.int .u8 4))),.v 14 60]) .skip)) (tE)
@[go_sem ↓] theorem aJV:a6 tX:=a7 _
def AD:PC:=.seq (.gh (.reg [.v 98 17,.v 99 20,.q 100 (.bin .eql true (.t 98) (.t 99)),.v 101 100,⟨some 102,(some (101,true)),.l (.ldn 5 (.t 16))⟩,⟨some 103,(some (101,true)),.l (.ldn 5 (.t 19))⟩,⟨some 104,(some (101,true)),.cq 15 [(.t 102),(.t 103)]⟩,.a 105 (.pick (.t 101) (.t 104) (.k (.bool false))),.v 106 105,⟨some 107,(some (106,true)),.cq 10 []⟩,.a 108 (.pick (.t 106) (.t 107) (.k (.bool false))),.v 8 108])) .ret
@[go_sem ↓] theorem aKL:a6 AD:=a7 _
def AB:PC:=.seq (.gh (.reg [.l 91 (.ldn 3 (.t 4)),.l 92 (.ldn 4 (.t 5)),.v 93 12,.a 94 (.cl 13 [(.t 91),(.t 92),(.t 93)] []),.v 90 94,.q 95 (.ex (.t 90) 0),.q 96 (.ex (.t 90) 1),.q 97 (.ex (.t 90) 2),.e 19 (.al (.agg #[(.int .i64 0),(.int .i64 0),(.string (mk [])),(.slice none 0 0),(.slice none 0 0)]) 32),.s (.st 5 (.t 19) (.t 95)),.v 20 96,.v 21 97])) (AD)
@[go_sem ↓] theorem aJ6:a6 AB:=a7 _
def BL:PC:=.seq (.gh (.reg [.l 83 (.ldn 3 (.t 4)),.l 84 (.ldn 4 (.t 5)),.v 85 2,.a 86 (.cl 13 [(.t 83),(.t 84),(.t 85)] []),.v 82 86,.q 87 (.ex (.t 82) 0),.q 88 (.ex (.t 82) 1),.q 89 (.ex (.t 82) 2),.e 16 (.al (.agg #[(.int .i64 0),(.int .i64 0),(.string (mk [])),(.slice none 0 0),(.slice none 0 0)]) 32),.s (.st 5 (.t 16) (.t 87)),.v 17 88,.v 18 89])) (AB)
@[go_sem ↓] theorem aKC:a6 BL:=a7 _
def tT:PC:=.seq (.seq (.gh (.reg [.v 78 12,.q 79 (.lnS (.t 78)),.q 80 (.bin .gtr true (.t 79) (.i 4000))])) (.cond (.t 80) (.seq (.reg [.a 81 (.cq 10 []),.v 8 81]) .ret) .skip)) (BL)
@[go_sem ↓] theorem aKP:a6 tT:=a7 _
def F7:PC:=.seq (.seq (.gh (.reg [.q 13 (.mv (.i 0))])) (.block 0 (.loop (.seq (.seq (.reg [.v 46 13,.v 47 9,.q 48 (.lnL (.t 47)),.q 49 (.bin .lss true (.t 46) (.t 48))]) (.cond (.t 49) .skip (.exit 0))) (.seq (.block 1 (.seq (.reg [.q 14 (.mv (.k (.int .u8 0)))]) (tX))) (.reg [.v 50 13,.q 51 (.bin .add true (.t 50) (.i 1)),.v 13 51])))))) (tT)
@[go_sem ↓] theorem aN5:a6 F7:=a7 _
def HL:PC:=.seq (.gh (.reg [.q 12 (.mv (.k (.string (mk []))))])) (F7)
@[go_sem ↓] theorem aLC:a6 HL:=a7 _
def yS:PC:=.seq (.seq (.gh (.reg [.v 43 10,.q 44 (.bin .neq true (.t 43) (.i 0))])) (.cond (.t 44) (.seq (.reg [.a 45 (.cq 10 []),.v 8 45]) .ret) .skip)) (HL)
@[go_sem ↓] theorem aNJ:a6 yS:=a7 _
def F2:PC:=.seq (.gh (.reg [.v 38 2,.a 39 (.cl 16 [(.t 38)] []),.v 37 39,.q 40 (.ex (.t 37) 0),.q 41 (.ex (.t 37) 1),.q 42 (.ex (.t 37) 2),.v 9 40,.v 10 41,.v 11 42])) (yS)
@[go_sem ↓] theorem aOZ:a6 F2:=a7 _
def FD:PC:=.seq (.reg [.e 4 (.bx 25 (.t 0)),.e 5 (.bx 28 (.t 1)),.q 8 (.mv (.k (.bool false)))]) (.seq (.seq (.reg [.l 22 (.ldn 3 (.t 4)),.l 23 (.ldn 4 (.t 5)),.a 24 (.cq 8 [(.t 22),(.t 23)]),.q 25 (.not (.t 24)),.v 26 25,⟨some 27,(some (26,false)),.q (.mv (.t 2))⟩,⟨some 28,(some (26,false)),.q (.lnS (.t 27))⟩,⟨some 29,(some (26,false)),.q (.bin .gtr true (.t 28) (.i 800))⟩,.a 30 (.pick (.t 26) (.k (.bool true)) (.t 29)),.v 31 30,⟨some 32,(some (31,false)),.q (.mv (.t 3))⟩,⟨some 33,(some (31,false)),.q (.lnL (.t 32))⟩,⟨some 34,(some (31,false)),.q (.bin .gtr true (.t 33) (.i 1000))⟩,.a 35 (.pick (.t 31) (.k (.bool true)) (.t 34))]) (.cond (.t 35) (.seq (.reg [.a 36 (.cq 10 []),.v 8 36]) .ret) .skip)) (F2))
def E4:List RV:=[.mv (.t 8)]
theorem aLU:aM Tryz.prog true ⟨fun r k=>if r=1/\k=2 then .q else if r=2/\k=0 then .q else if r=5/\k=0 then .q else if r=21/\k=8 then .q else if r=23/\k=0 then .q else if r=26/\k=6 then .q else if r=26/\k=9 then .q else .own [],fun r=>[3,4,6,7,11,13,14,22,24,25,26,21].contains r⟩ Tryz.f6=some (FD,E4):=by kernel_rfl
theorem WE {s:Sc} (hd:Dg s):∀ (B:Nat) (t:Ty),t.h<=B->valF s.ss s.es t=true->pE s t<=B + 6
 | 0,t,h,_=>by have:=t.h_pos; omega
 | B + 1,t,h,hv=>by
  cases h5:t.k == 5 with
  | true=>
   obtain ⟨u,he,hu⟩:=M1 hv h5
   have hh:u.h<=B:=by
    obtain ⟨k,z,n,e⟩:=t
    have he:e=[u]:=he
    subst he
    rw [Ty.h,Ty.hs,Ty.hs] at h
    omega
   have:=WE hd B u hh hu
   rw [A8 h5 he]; omega
  | false=>
  cases h6:t.k == 6 with
  | true=>have:=(tJ hd hv h6).2.1; rw [x5 h6]; omega
  | false=>
   have:pE s t=0:=by
    obtain ⟨k,z,n,e⟩:=t
    have h5:(k == 5)=false:=h5
    have h6:(k == 6)=false:=h6
    unfold pE bV
    rw [cF,h5,aI]
    show ((0:Nat):Int) + (bif k == 6 then dD s.ss n else 0)=0
    rw [h6]; rfl
   omega
theorem aFM {t:Ty} (h:fewT t=true):t.h<=9:=by
 obtain ⟨k,s,n,e⟩:=t
 have h1:=(L5 h).1.2.2
 have:=M3 20 (.mk k s n e) (by omega)
 omega
theorem aFG {s:Sc} {t:Ty} (hs:s.fit) (hd:Dg s) (ht:TyOk t) (hf:fewT t=true) (hv:valF s.ss s.es t=true):dP 16 s t:=
 L6 hs hd 16 t ht hv (by have:=WE hd 9 t (aFM hf) hv; omega)
theorem M7:VlOk v0:=rV ⟨by decide,by decide⟩ ⟨by decide,by decide⟩ (by decide)
theorem aB5 {s:Sc} {t:Ty} (hs:s.fit) (ht:TyOk t) (hD:oZ s t=true->dP 16 s t) (x:List UInt8):VlOk (fM (pP 16) s t x).1:=by
 unfold fM
 cases h1:oZ s t with
 | false=>exact M7
 | true=>
  rw [Bool.not_true,aI]
  cases h2:(aU x).err != 0 with
  | true=>exact M7
  | false=>
   rw [aI]
   have hts:=yP (l:=x) (by simpa using h2)
   have:=D5 hs hts 16 t ⟨false,0,0⟩ ht (hD h1) hts.e.pos
   unfold MS
   generalize pP 16 s (aU x).toks t ⟨false,0,0⟩=r at *
   cases (lQ (aU x).toks r.2).bad<;>cases hY s t r.1 != 0<;>first | exact M7 | exact this
theorem Z9 {s:Sc} {t:Ty} (hs:s.ok) (h:s0 s t=true):s.fit/\Dg s/\fewT t=true:=by
 have hf:=(aAD hs h).1
 unfold s0 at h
 rw [Bool.and_eq_true,Bool.and_eq_true] at h
 exact ⟨hf,aGW hf (eq_of_beq h.2),h.1.2⟩
def xW (rest:List UInt8):Prop:=∀ c,rest[0]? = some c->aT c=false/\(c == 45)=false
theorem RD {p:UInt8->Bool} (hp:∀ c,aT c=false->p c=false) {x rest:List UInt8} (hx:∀ c ∈ x,p c=true) (hr:xW rest):(x ++ rest).takeWhile p=x:=by
 induction x with
 | nil=>
  cases rest with
  | nil=>rfl
  | cons c r=>rw [List.nil_append,List.takeWhile_cons,hp c (hr c rfl).1]; rfl
 | cons c x ih=>rw [List.cons_append,List.takeWhile_cons,if_pos (hx c (by simp)),ih fun d hd=>hx d (by simp [hd])]
theorem H5 {p:UInt8->Bool} (hp:∀ c,aT c=false->p c=false) {l x rest:List UInt8} {a:Nat} (h:l.drop a=x ++ rest) (hx:∀ c ∈ x,p c=true) (hr:xW rest):bD p l a=a + x.length:=by
 rw [bD,h,RD hp hx hr]
theorem S1 (c:UInt8) (h:aT c=false):a8 c=false:=by
 have:=cD (p:=fun c=>aT c || !a8 c) (by decide +kernel) c
 rw [h] at this
 simpa using this
theorem FR {l x rest:List UInt8} {a:Nat} (h:l.drop a=x ++ rest) (hr:xW rest) (hx:cG x=true):b9 l a=.ok 1 x 0 (a + x.length)/\∃ c,l[a]? = some c/\(c == 32 || c == 9 || c == 10)=false/\(c == 35)=false:=by
 obtain ⟨c,h0,h1,h2,h3⟩:=(HB x).1 hx
 have hc:l[a]? = some c:=by
  cases x with
  | nil=>cases h0
  | cons d x=>simp at h0; subst h0; exact sM h
 have hz:bD aT l a=a + x.length:=H5 (fun _ h=>h) h h3 hr
 have hsk:=cD (p:=fun c=>!(bB c.toNat) || (!(c == 32 || c == 9 || c == 10) && !(c == 35))) (by decide +kernel) c
 simp only [h2,Bool.not_true,Bool.false_or,Bool.and_eq_true,Bool.not_eq_true'] at hsk
 refine ⟨?_,c,hc,hsk⟩
 have hn:(l[a + x.length]? == some 45)=false:=by
  have:=E9 h 0
  rw [Nat.add_zero] at this
  rw [this]
  cases hq:rest[0]? with
  | none=>rfl
  | some d=>exact (hr d hq).2
 have h16:decide (16 < a + x.length - a)=false:=by simp; omega
 simp only [b9,hc,h2,aL,fG,hz,h16,hn,aI,G4 h]
theorem JN {l rest:List UInt8} {a:Nat} {n:Int} (h:l.drop a=dW n ++ rest) (hr:xW rest) (h1:-9223372036854775808<=n) (h2:n<=9223372036854775807) :
 b9 l a=.ok 2 [] n (a + (dW n).length)/\∃ c,l[a]? = some c/\(c == 32 || c == 9 || c == 10)=false/\(c == 35)=false:=by
 have hm:n.natAbs < 10 ^ (19 + 1):=by omega
 have hd:=vG 19 n.natAbs hm
 obtain ⟨c0,ds,hds⟩:∃ c ds,digs n.natAbs=c :: ds:=by
  cases hq:digs n.natAbs with
  | nil=>exact absurd hq (BC _)
  | cons c ds=>exact ⟨c,ds,rfl⟩
 have hc0:=iI.1 (hd c0 (by rw [hds]; simp))
 have hlim:∀ neg,neg=decide (n < 0)->valL (bX neg) 0 (digs n.natAbs)=some n.natAbs/\signed neg n.natAbs=n:=fun neg hn=>by
  rw [vS (by cases neg<;>decide) _ _ (Nat.zero_le _) hd,rL 19 _ hm]
  have:n.natAbs<=bX neg:=by subst hn; unfold bX; cases hh:decide (n < 0)<;>simp at hh ⊢<;>omega
  refine ⟨by simp [this],?_⟩
  subst hn; unfold signed; cases hh:decide (n < 0)<;>simp at hh ⊢<;>omega
 have fin:∀ (f:Nat) (neg:Bool),neg=decide (n < 0)->l.drop f=digs n.natAbs ++ rest->(l[a]? == some 45)=neg->(bif neg then a + 1 else a)=f->fB l a=.ok 2 [] n (f + (digs n.natAbs).length):=fun f neg hn hf hng hff=>by
  have hz:bD a8 l f=f + (digs n.natAbs).length:=H5 S1 hf hd hr
  have hw:j8 l (f + (digs n.natAbs).length)=false:=by
   have:=E9 hf 0
   rw [Nat.add_zero] at this
   unfold j8
   rw [this]
   cases hq:rest[0]? with
   | none=>rfl
   | some d=>show (aT d && !a8 d || d == 45)=false; rw [(hr d hq).1,(hr d hq).2]; rfl
  have hs:((digs n.natAbs == []) || ((digs n.natAbs)[0]? == some 48 && (decide (1 < (digs n.natAbs).length) || neg)))=false:=by
   rcases bE 0 n.natAbs with h0 | h0
   · have h3:=sT 19 n.natAbs hm h0
     have e1:((digs n.natAbs)[0]? == some 48)=false:=by rw [beq_eq_false_iff_ne]; exact h3
     have e2:(digs n.natAbs == [])=false:=by rw [beq_eq_false_iff_ne]; exact BC _
     rw [e1,e2]; rfl
   · obtain rfl:n=0:=by omega
     subst hn
     rw [show (0:Int).natAbs=0 from rfl,jL (by omega)]; decide
  simp only [fB,hng,hff,hz,G4 hf,hs,aI,(hlim neg hn).1,hw,(hlim neg hn).2]
 cases hn:decide (n < 0) with
 | true=>
  have e:dW n=45 :: digs n.natAbs:=by simp only [dW,hn,aL]
  rw [e] at h ⊢
  have hc:=sM h
  refine ⟨?_,45,hc,by decide,by decide⟩
  have e1:bB ((45:UInt8).toNat:Int)=false:=by decide
  have e2:(a8 45 || (45:UInt8) == 45)=true:=by decide
  simp only [b9,hc,e1,e2,aI,aL]
  rw [fin (a + 1) true hn.symm (KN h) (by rw [hc]; decide) rfl]
  simp; omega
 | false=>
  have e:dW n=digs n.natAbs:=by simp only [dW,hn,aI]
  rw [e] at h ⊢
  have hc:l[a]? = some c0:=by rw [hds] at h; exact sM h
  have hsk:=cD (p:=fun c=>!(a8 c) || ((!(c == 32 || c == 9 || c == 10) && !(c == 35)) && (!(bB c.toNat) && !(c == 45)))) (by decide +kernel) c0
  have hd0:=hd c0 (by rw [hds]; simp)
  simp only [hd0,Bool.not_true,Bool.false_or,Bool.and_eq_true,Bool.not_eq_true'] at hsk
  obtain ⟨h3,h4,h5⟩:=hsk
  refine ⟨?_,c0,hc,h3⟩
  simp only [b9,hc,h4,hd0,Bool.true_or,aI,aL]
  exact fin a false hn.symm h (by rw [hc]; simpa using h5) rfl
theorem K0 {l rest:List UInt8} {a:Nat} {t:Tx} (hf:TkFit t) (ho:eT t.k t.x t.n=true) (h:l.drop a=eJ t.k t.x t.n ++ rest) (hr:t.k=1\/t.k=2->xW rest) :
 b9 l a=.ok t.k t.x t.n (a + (eJ t.k t.x t.n).length)/\t.k ≠ 0/\∃ c,l[a]? = some c/\(c == 32 || c == 9 || c == 10)=false/\(c == 35)=false:=by
 obtain ⟨k,x,n,b⟩:=t
 have hlo:=hf.lo; have hhi:=hf.hi
 simp only at ho h hlo hhi ⊢
 unfold eT at ho
 cases h1:k == 1 with
 | true=>
  obtain rfl:k=1:=by simpa using h1
  simp only [h1,aL,Bool.and_eq_true,beq_iff_eq] at ho
  obtain ⟨rfl,ho⟩:=ho
  have e:eJ 1 x 0=x:=rfl
  rw [e] at h ⊢
  exact ⟨(FR h (hr (.inl rfl)) ho).1,by decide,(FR h (hr (.inl rfl)) ho).2⟩
 | false=>
 cases h2:k == 2 with
 | true=>
  obtain rfl:k=2:=by simpa using h2
  simp only [h1,h2,aL,aI,beq_iff_eq] at ho
  subst ho
  have e:eJ 2 [] n=dW n:=rfl
  rw [e] at h ⊢
  exact ⟨(JN h (hr (.inr rfl)) hlo hhi).1,by decide,(JN h (hr (.inr rfl)) hlo hhi).2⟩
 | false=>
 cases h3:k == 3 with
 | true=>
  obtain rfl:k=3:=by simpa using h3
  simp only [h1,h2,h3,aL,aI,Bool.and_eq_true,beq_iff_eq,decide_eq_true_eq] at ho
  obtain ⟨rfl,hl,hx⟩:=ho
  have e:eJ 3 x 0=jS x:=rfl
  rw [e] at h ⊢
  exact ⟨(BZ h hl hx).1,by decide,(BZ h hl hx).2⟩
 | false=>
 cases h4:k == 4 with
 | false=>simp only [h1,h2,h3,h4,aI] at ho; cases ho
 | true=>
  obtain rfl:k=4:=by simpa using h4
  simp only [h1,h2,h3,h4,aL,aI,Bool.and_eq_true,beq_iff_eq] at ho
  obtain ⟨rfl,ho⟩:=ho
  have e:eJ 4 x 0=x:=rfl
  rw [e] at h ⊢
  match x,ho with
  | [c],ho=>exact ⟨(CY h ho).1,by decide,(CY h ho).2⟩
  | [],ho=>cases ho
  | _ :: _ :: _,ho=>cases ho
def UL (g:List UInt8):Prop:=∀ rest,cV false (g ++ rest)=g.length + cV false rest
abbrev K4:Type:=List (List UInt8 × Tx)
def iK:K4->List UInt8
 | []=>[]
 | (g,t) :: r=>g ++ (r8 t ++ iK r)
theorem GU {c:UInt8} {r:List UInt8} (h1:aT c=false) (h2:(c == 45)=false):xW (c :: r):=fun d hd=>by
 simp at hd; subst hd; exact ⟨h1,h2⟩
abbrev X2:Type:=Int × List UInt8 × Int
def IN (l:K4):List X2:=l.map fun u=>UO u.2
abbrev aME (c:UInt8):X2:=(4,[c],0)
theorem m0 {α:Type} (f:α->List X2):∀ l:List α,l.length<=(l.flatMap fun y=>aME 44 :: f y).length
 | []=>Nat.le_refl _
 | x :: l=>by
  have:=m0 f l
  rw [List.flatMap_cons,List.length_append,List.length_cons,List.length_cons]; omega
def J8 (t:Tk):Tk:=⟨t.k,t.x,t.n,0⟩
def sk (ts:List Tk):List Tk:=ts.map J8
def sz (z:Fs):Fs:=⟨z.bad,0,z.n⟩
def mz {α:Type} (r:α × Fs):α × Fs:=(r.1,sz r.2)
theorem iN (ts:List Tk) (n:Nat):bH (sk ts) n=J8 (bH ts n):=by
 unfold bH sk
 rw [List.getD_eq_getElem?_getD,List.getD_eq_getElem?_getD,List.getElem?_map]
 cases ts[n]?<;>rfl
theorem pA (ts:List Tk) (n:Nat):b7 (sk ts) n=b7 ts n:=by unfold b7 sk; rw [List.length_map]
theorem kN (ts:List Tk) (z:Fs):cT (sk ts) (sz z)=sz (cT ts z):=by
 unfold cT
 rw [show (sz z).n=z.n from rfl,show (sz z).bad=z.bad from rfl,iN]
 cases z.bad<;>rfl
theorem AW (k:Int) (w:List UInt8) (t:Tk):c8 k w (J8 t)=c8 k w t:=rfl
theorem tV (w:List UInt8) (ts:List Tk) (z:Fs):cA w (sk ts) (sz z)=cA w ts z:=by
 unfold cA
 rw [show (sz z).n=z.n from rfl,show (sz z).bad=z.bad from rfl,iN,AW]
theorem KV (w:List UInt8) (ts:List Tk) (z:Fs):bY w (sk ts) (sz z)=sz (bY w ts z):=by
 unfold bY
 rw [tV,show (sz z).n=z.n from rfl,pA]
 cases cA w ts z<;>rfl
theorem vC (w:List UInt8) (ts:List Tk) (z:Fs):cI w (sk ts) (sz z)=sz (cI w ts z):=by
 unfold cI
 rw [tV,kN,show (sz z).n=z.n from rfl,pA]
 cases cA w ts z<;>rfl
theorem H9 (k:Int) (ts:List Tk) (z:Fs):fY k (sk ts) (sz z)=fY k ts z:=by
 unfold fY
 rw [show (sz z).n=z.n from rfl,show (sz z).bad=z.bad from rfl,iN]; rfl
theorem FW (k:Int) (ts:List Tk) (z:Fs):hJ k (sk ts) (sz z)=J8 (hJ k ts z):=by
 unfold hJ
 rw [H9,show (sz z).n=z.n from rfl,iN]
 cases fY k ts z<;>rfl
theorem FL (k:Int) (ts:List Tk) (z:Fs):jV k (sk ts) (sz z)=sz (jV k ts z):=by
 unfold jV
 rw [H9,kN,show (sz z).n=z.n from rfl,pA]
 cases fY k ts z<;>rfl
theorem TX (ts:List Tk) (z:Fs):gA (sk ts) (sz z)=mz (gA ts z):=by
 unfold gA
 rw [show (sz z).n=z.n from rfl,show (sz z).bad=z.bad from rfl,iN,AW,AW,pA,kN]
 cases (!z.bad && c8 1 qB (bH ts z.n))<;>cases (!z.bad && c8 1 mZ (bH ts z.n))<;>rfl
theorem YO (k:Int) (ts:List Tk) (z:Fs):A3 k (sk ts) (sz z)=mz (A3 k ts z):=by
 unfold A3
 rw [FW,FL]; rfl
theorem TK (ts:List Tk) (z:Fs):tC (sk ts) (sz z)=mz (tC ts z):=by
 unfold tC
 rw [FW,FL]; rfl
theorem QZ (e:En) (ts:List Tk) (z:Fs):f9 e (sk ts) (sz z)=mz (f9 e ts z):=by
 have h:iD e (sk ts) (sz z)=iD e ts z:=by
  unfold iD
  rw [show (sz z).n=z.n from rfl,show (sz z).bad=z.bad from rfl,iN]; rfl
 unfold f9
 rw [h,kN,show (sz z).n=z.n from rfl,pA]
 cases (decide (iD e ts z < 0) || decide ((e.vs.length:Int)<=iD e ts z))<;>rfl
theorem J7 {α:Type} {one one':α->Fs->α × Fs} {ts:List Tk} (h:∀ a z,one' a (sz z)=mz (one a z)):∀ (f:Nat) (a:α) (z:Fs),jF one' (sk ts) f a (sz z)=mz (jF one ts f a z)
 | 0,_,_=>rfl
 | f + 1,a,z=>by
  rw [iG,iG,h,show (sz z).bad=z.bad from rfl,show (mz (one a z)).2=sz (one a z).2 from rfl,tV,KV,show (mz (one a z)).1=(one a z).1 from rfl,J7 h f]
  cases z.bad<;>cases cA [44] ts (one a z).2<;>rfl
theorem JE {α:Type} {one one':α->Fs->α × Fs} {ts:List Tk} (h:∀ a z,one' a (sz z)=mz (one a z)) (op sh:List UInt8) (a:α) (z:Fs):eM one' op sh (sk ts) a (sz z)=mz (eM one op sh ts a z):=by
 unfold eM
 rw [vC,tV,KV,show (sk ts).length=ts.length from List.length_map ..,J7 h,show ∀ r:α × Fs,(mz r).2=sz r.2 from fun _=>rfl,vC]
 cases cA sh ts (cI op ts z)<;>rfl
theorem IF (ts:List Tk) (u:St) (z:Fs):dY (sk ts) u (sz z)=dY ts u z:=by
 unfold dY
 rw [show (sz z).n=z.n from rfl,iN]; rfl
theorem QR (ts:List Tk) (u:St) (m:Int) (z:Fs):i6 (sk ts) u m (sz z)=i6 ts u m z:=by
 unfold i6
 rw [IF,show (sz z).n=z.n from rfl,iN]; rfl
theorem Y2 (ts:List Tk) (z:Fs):lV (sk ts) (sz z)=sz (lV ts z):=by
 unfold lV
 rw [pA]
 exact vC [61] ts ⟨z.bad,z.off,b7 ts z.n⟩
theorem ED:∀ (N:Nat) (s:Sc) (ts:List Tk) (t:Ty) (z:Fs),pP N s (sk ts) t (sz z)=mz (pP N s ts t z)
 | 0,_,_,_,_=>rfl
 | N + 1,s,ts,t,z=>by
  have hl:l7 (pP N) s (sk ts) (t.e.headD default) (sz z)=mz (l7 (pP N) s ts (t.e.headD default) z):=by
   unfold l7
   rw [JE (one:=iY (pP N) s ts (t.e.headD default)) fun a z=>by unfold iY; rw [ED N]; rfl]; rfl
  have hst:iR (pP N) s (sk ts) (stOf s t) (sz z)=mz (iR (pP N) s ts (stOf s t) z):=by
   unfold iR
   rw [JE (one:=eH (pP N) s ts (stOf s t)) fun a z=>by
    unfold eH
    rw [QR,IF,Y2,kN,ED N]
    cases i6 ts (stOf s t) a.1 z<;>rfl]; rfl
  rw [gW,gW,TX,TK,QZ,hl,hst,YO]
  cases t.k == 1<;>cases t.k == 4<;>cases t.k == 7<;>cases t.k == 5<;>cases t.k == 6<;>rfl
theorem JY (ts:List Tk) (z:Fs):lQ (sk ts) (sz z)=sz (lQ ts z):=by
 unfold lQ
 rw [kN,show (sz z).n=z.n from rfl,iN]
 cases h:(bH ts z.n).k != 0<;>simp [J8,h]
theorem aHC {ts us:List Tk} (h:ts.map sN=us.map sN):sk ts=sk us:=by
 have e:J8=(fun p:X2=>(⟨p.1,p.2.1,p.2.2,0⟩:Tk)) ∘ sN:=rfl
 unfold sk
 rw [e,<-List.map_map,<-List.map_map,h]
theorem T9 {N:Nat} {s:Sc} {t:Ty} {x y:List UInt8} (h1:(aU x).err=0) (h2:(aU y).err=0) (h:(aU x).toks.map sN=(aU y).toks.map sN) :
 (fM (pP N) s t x).1=(fM (pP N) s t y).1/\(fM (pP N) s t x).2.1=(fM (pP N) s t y).2.1:=by
 unfold fM
 cases oZ s t with
 | false=>exact ⟨rfl,rfl⟩
 | true=>
  rw [h1,h2]
  simp only [Bool.not_true,aI,show ((0:Int) != 0)=false from rfl]
  have e:=aHC h
  generalize (aU x).toks=ts at *
  generalize (aU y).toks=us at *
  have a1:=ED N s ts t ⟨false,0,0⟩
  have a2:=ED N s us t ⟨false,0,0⟩
  rw [e,a2] at a1
  generalize pP N s ts t ⟨false,0,0⟩=r at *
  generalize pP N s us t ⟨false,0,0⟩=q at *
  have b1:q.1=r.1:=show (mz q).1=(mz r).1 by rw [a1]
  have b2:sz q.2=sz r.2:=show (mz q).2=(mz r).2 by rw [a1]
  have b3:(lQ us q.2).bad=(lQ ts r.2).bad:=by
   have c1:=JY us q.2
   have c2:=JY ts r.2
   rw [e,<-b2,c1] at c2
   exact show (sz (lQ us q.2)).bad=(sz (lQ ts r.2)).bad by rw [c2]
  unfold MS
  rw [b1,b3]
  cases (lQ ts r.2).bad<;>cases hY s t r.1 != 0<;>exact ⟨rfl,rfl⟩
attribute [go_sem ↓] rR GN vldFn
theorem RM:Meets Tryz.prog 42 vldFn.sp:=by
 refine aE Tryz.func42 aN6 1 (by rw [Tryz.ntmps42]; decide) (aG R7 (aG WG (aA _))) P4 ?_
 intro xs H K h
 obtain ⟨⟨hp,rfl⟩,hK⟩:=h
 obtain ⟨k,x,n,a,rfl,hx⟩:=oB hp
 have hK':K (bS (eT k (bl x) n)) []:=hK
 simp -dsimp only [go_sem,aF5,aAT]
 have fin:∀ (H':Hp) (b:Bool),b=eT k (bl x) n->W.Fin 0 K (bS b) H':=fun H' b h2=>by
  subst h2
  exact .sel [] (by simp) (by simp) rfl (.done hK')
 refine ⟨fun h1=>fin _ _ (by simp [eT,h1,Bool.and_comm]),fun h1=>⟨fun h2=>fin _ _ (by simp [eT,h1,h2]),fun h2=>⟨fun h3=>?_,fun h3=>⟨fun h4=>?_,fun h4=>fin _ _ (by simp [eT,h1,h2,h3,h4])⟩⟩⟩⟩
 · refine aK (α:=Nat) (fun i=>[(1,.va (.c1 (.pt 0 0))),(3,iS .i64 i)]) (fun _=>[.cells (lE k x n a) 71]) (fun i=>i<=(bl x).length/\((bl x).take i).all gZ=true) (fun i=>(bl x).length - i) 0 1 ⟨by omega,rfl⟩ ?_ (by simp [go_sem]) ?_
   · simp [go_sem]
   rintro i ⟨hi,hall⟩
   simp -dsimp only [go_sem]
   have EX:∀ c:UInt8,decide ((c.toNat:Int) < 32)=!decide (32<=c):=fun c=>by
    have:decide (32<=c)=decide (32<=c.toNat):=by rw [decide_eq_decide,UInt8.le_iff_toNat_le]; rfl
    rw [this,<-decide_not,decide_eq_decide]; omega
   have EG:∀ c:UInt8,decide (126 < (c.toNat:Int))=!decide (c<=126):=fun c=>by
    have:decide (c<=126)=decide (c.toNat<=126):=by rw [decide_eq_decide,UInt8.le_iff_toNat_le]; rfl
    rw [this,<-decide_not,decide_eq_decide]; omega
   have bad:∀ c,(bl x)[i]? = some c->gZ c=false->eT k (bl x) n=false:=fun c hc hb=>by
    have:(bl x).all gZ=false:=by
     rw [Bool.eq_false_iff]
     intro ha
     have:=List.all_eq_true.1 ha c (bK hc)
     rw [hb] at this; cases this
    simp [eT,h1,h2,h3,this]
   refine ⟨fun h5=>⟨by simp at h5; omega,fun c hc=>⟨fun _=>by simp at h5; omega,fun d hd=>?_⟩⟩,fun h5=>?_⟩
   · rw [EX,EG]
     rw [EX] at hd
     have hE:(!decide (32<=c) || !decide (d<=126))=!gZ c:=by
      unfold gZ
      cases h6:decide (32<=c) with
      | false=>rfl
      | true=>
       rw [h6] at hd
       obtain rfl:c=d:=by have:=hd rfl; rw [hc] at this; exact bG this
       simp
     rw [hE]
     refine ⟨fun h6=>fin _ _ (bad c hc (by simpa using h6)).symm,fun h6=>⟨by omega,aC (i + 1) 1 ⟨by simp at h5; omega,?_⟩ (by simp at h5; omega) ?_ (by simp [go_sem])⟩⟩
     · rw [List.take_add_one,hc,List.all_append,hall]
       simpa using h6
     · simp [go_sem]
   · obtain rfl:i=(bl x).length:=by simp at h5; omega
     rw [List.take_length] at hall
     refine fin _ _ ?_
     simp [eT,h1,h2,h3,hall]
     rw [Bool.and_comm]
     congr 1
     rw [decide_eq_decide]; omega
 · refine ⟨fun h5=>by simp at h5; omega,fun c hc=>⟨fun _=>by have:=c.toNat_lt; omega,fin _ _ ?_⟩⟩
   simp only [eT,h1,h2,h3,h4,aL,aI]
   rw [Bool.and_comm]
   congr 1
   cases hb:bl x with
   | nil=>rfl
   | cons d r=>
    rw [hb] at hc
    cases r with
    | nil=>
     obtain rfl:d=c:=by simpa using hc
     rfl
    | cons e r=>
     have:((((d :: e :: r).length:Nat):Int) == 1)=false:=by simp; omega
     rw [this]; rfl
theorem SX:Meets Tryz.prog 17 prtFn.sp:=by
 refine aE Tryz.func17 aM2 1 (by rw [Tryz.ntmps17]; decide) (aG RM (aG PF (aG R6 (aA _)))) CM ?_
 intro xs H K h
 obtain ⟨⟨hp,rfl⟩,hK⟩:=h
 obtain ⟨ts,rfl,h60,hf⟩:=kR hp
 have hK':K (tS (mk (cX ts))) []:=by have:=hK; rw [show prtFn.val=rZ from rfl,lB] at this; exact this
 simp -dsimp only [go_sem,aCU,aBL]
 refine aK (α:=Nat) (fun i=>[(0,.va (.c1 (.fz (ts.map qY)))),(3,tS (mk (cK ts i))),(4,iS .i64 i)]) (fun _=>[]) (fun i=>i<=ts.length) (fun i=>ts.length - i) 0 0 (by omega) ?_ (by simp [go_sem]) ?_
 · simp [go_sem,cK]
 intro i hi
 have hl:=qC hf i hi
 simp -dsimp only [go_sem,LD]
 refine ⟨fun h1=>⟨by simp at h1; omega,fun t ht=>⟨by have:=(hf t (bK ht)).len; omega,fun h2=>⟨by omega,?_⟩,fun h2=>?_⟩⟩,fun h1=>?_⟩
 · refine aC (i + 1) 0 (by simp at h1; omega) (by simp at h1; omega) ?_ rfl
   have:cK ts (i + 1)=cK ts i:=by rw [kQ ht]; simp [lP,h2]
   simp [go_sem,this]
 · have h2':eT t.k t.x t.n=true:=by simpa using h2
   have hst:=kQ ht
   have hft:=hf t (bK ht)
   have hxl:=vN hft
   have hdl:=H8 hft.lo hft.hi
   have hlt:i < ts.length:=by simp at h1; omega
   simp only [lP,h2',aL] at hst
   have q2:(t.k == 2)=true->eJ t.k t.x t.n=dW t.n:=fun h=>by
    have:t.k=2:=by simpa using h
    simp [eJ,this]
   have q3:(t.k == 3)=true->eJ t.k t.x t.n=jS t.x:=fun h=>by
    have:t.k=3:=by simpa using h
    simp [eJ,this]
   have q4:(t.k == 2)=false->(t.k == 3)=false->eJ t.k t.x t.n=t.x:=fun h k=>by
    unfold eT at h2'
    unfold eJ
    rw [h,k] at h2' ⊢
    cases h1:t.k == 1<;>cases h4:t.k == 4<;>simp [h1,h4] at h2' ⊢
   have hlx:=hft.len
   refine ⟨fun h3=>?_,fun h3=>?_⟩
   · have h3':(cK ts i == [])=false:=h3
     rw [h3',aI] at hst
     refine ⟨by omega,by omega,fun u hu=>?_⟩
     rw [ht] at hu
     obtain rfl:=bG hu
     refine ⟨fun h4=>⟨by omega,fun u hu=>?_⟩,fun h4=>⟨fun h5=>⟨by omega,fun u hu=>?_⟩,fun h5=>⟨by omega,fun u hu=>?_⟩⟩⟩
     all_goals
      rw [ht] at hu
      obtain rfl:=bG hu
     · rw [q2 h4] at hst hxl
       refine ⟨⟨hft.lo,hft.hi⟩,by omega,by omega,aC (i + 1) 0 hlt (by omega) ?_ rfl⟩
       simp [go_sem,hst]
     · rw [q3 h5] at hst hxl
       refine ⟨by omega,by omega,by omega,aC (i + 1) 0 hlt (by omega) ?_ rfl⟩
       simp [go_sem,hst]
     · rw [q4 h4 h5] at hst hxl
       refine ⟨by omega,by omega,aC (i + 1) 0 hlt (by omega) ?_ rfl⟩
       simp [go_sem,hst]
   · have h3':(cK ts i == [])=true:=by simpa using h3
     rw [h3',aL,List.append_nil] at hst
     refine ⟨by omega,fun u hu=>?_⟩
     rw [ht] at hu
     obtain rfl:=bG hu
     refine ⟨fun h4=>⟨by omega,fun u hu=>?_⟩,fun h4=>⟨fun h5=>⟨by omega,fun u hu=>?_⟩,fun h5=>⟨by omega,fun u hu=>?_⟩⟩⟩
     all_goals
      rw [ht] at hu
      obtain rfl:=bG hu
     · rw [q2 h4] at hst hxl
       refine ⟨⟨hft.lo,hft.hi⟩,by omega,by omega,aC (i + 1) 0 hlt (by omega) ?_ rfl⟩
       simp [go_sem,hst]
     · rw [q3 h5] at hst hxl
       refine ⟨by omega,by omega,by omega,aC (i + 1) 0 hlt (by omega) ?_ rfl⟩
       simp [go_sem,hst]
     · rw [q4 h4 h5] at hst hxl
       refine ⟨by omega,by omega,aC (i + 1) 0 hlt (by omega) ?_ rfl⟩
       simp [go_sem,hst]
 · obtain rfl:i=ts.length:=by simp at h1; omega
   rw [pY]
   exact .done hK'
def NP (e:List UInt8):K4->Prop
 | []=>True
 | (g,t) :: r=>UL g/\TkFit t/\PW t=true/\xW (iK r ++ e)/\NP e r
theorem CC {l e:List UInt8} (he:UL e):∀ (us:K4) (f a:Nat),NP e us->a<=l.length->l.length < f + a->l.drop a=iK us ++ e->
 ∃ ms,dG f l a=.ok ms/\ms.map sN=us.map (fun u=>UO u.2) ++ [(0,[],0)]
 | [],f,a,_,hle,hlt,h=>by
  have h:l.drop a=e:=h
  have hlen:=congrArg List.length h
  rw [List.length_drop] at hlen
  obtain ⟨f,rfl⟩:∃ g,f=g + 1:=⟨f - 1,by omega⟩
  have hsk:bF l a=l.length:=by
   have:=he []
   rw [List.append_nil,show cV false []=0 from rfl] at this
   unfold bF
   rw [h,this]; omega
  have hn:l[l.length]? = none:=List.getElem?_eq_none (Nat.le_refl _)
  exact ⟨[⟨0,[],0,l.length⟩],by rw [dG,hsk]; simp [b9,hn],rfl⟩
 | (g,u) :: us,f,a,⟨hg,hf,ho,hs,hok⟩,hle,hlt,h=>by
  have h':l.drop a=g ++ (r8 u ++ (iK us ++ e)):=by rw [h,iK]; simp [List.append_assoc]
  have h1:l.drop (a + g.length)=r8 u ++ (iK us ++ e):=by rw [<-List.drop_drop,h',List.drop_left]
  obtain ⟨ht,hk,c,hc,hb,hh⟩:=K0 hf ho h1 fun _=>hs
  have hlc:=(aZ.1 hc).1
  obtain ⟨f,rfl⟩:∃ g,f=g + 1:=⟨f - 1,by omega⟩
  have hsk:bF l a=a + g.length:=by
   have e:=zS hc hb hh
   unfold bF at e ⊢
   rw [h',hg,<-h1]
   omega
  have h2:l.drop (a + g.length + (r8 u).length)=iK us ++ e:=by rw [<-List.drop_drop,h1,List.drop_left]
  have hlen:a + g.length + (r8 u).length<=l.length:=by
   have:=congrArg List.length h1
   rw [List.length_drop,List.length_append] at this
   omega
  have hne:0 < (r8 u).length:=by
   rcases Nat.eq_zero_or_pos (r8 u).length with h0 | h0
   · have e0:r8 u=[]:=List.eq_nil_of_length_eq_zero h0
     obtain ⟨_,_,c,hc,_⟩:=K0 (l:=r8 u) (a:=0) (rest:=[]) hf ho (by simp) (fun _ c hc=>by cases hc)
     rw [e0] at hc; cases hc
   · exact h0
  obtain ⟨ms,hm,hmm⟩:=CC he us f (a + g.length + (r8 u).length) hok hlen (by omega) h2
  have hk0:(u.k == 0)=false:=by simpa using hk
  refine ⟨⟨u.k,u.x,u.n,a + g.length⟩ :: ms,?_,by simp [hmm]⟩
  rw [dG,hsk,ht]
  simp only [hk0,aI,hm,SR.cons]
theorem PL {us:K4} {e:List UInt8} (he:UL e) (hok:NP e us) (hl:(iK us ++ e).length<=4000):(aU (iK us ++ e)).err=0/\(aU (iK us ++ e)).toks.map sN=us.map (fun u=>UO u.2) ++ [(0,[],0)]:=by
 obtain ⟨ms,h1,h2⟩:=CC (l:=iK us ++ e) he us ((iK us ++ e).length + 1) 0 hok (Nat.zero_le _) (by omega) rfl
 have h4:decide (4000 < (iK us ++ e).length)=false:=by simp only [decide_eq_false_iff_not]; omega
 unfold aU
 rw [h4,aI,h1]
 exact ⟨rfl,h2⟩
def j4 (k:Int):List UInt8:=bif k == 1 then [10,9] else bif k == 2 then [32,35,32,114,101,109,97,114,107,10] else bif k == 3 then [32,32] else [32]
theorem J0 (k:Int):UL (j4 k):=fun rest=>by
 unfold j4
 cases k == 1<;>cases k == 2<;>cases k == 3<;>simp [cV]<;>omega
theorem HM (k:Int):∃ c r,j4 k=c :: r/\aT c=false/\(c == 45)=false:=by
 unfold j4
 cases k == 1<;>cases k == 2<;>cases k == 3<;>exact ⟨_,_,rfl,by decide,by decide⟩
theorem aAJ (k:Int):(j4 k).length<=10:=by
 unfold j4
 cases k == 1<;>cases k == 2<;>cases k == 3<;>decide
def rC (fill:List UInt8) (i:Nat):Int:=bif decide (i < fill.length) then ((fill.getD i 0).toNat:Int).tmod 4 else 0
def tx (t:Tk):Tx:=⟨t.k,t.x,t.n,t.a⟩
def iL (fill:List UInt8):Nat->List Tk->List UInt8
 | _,[]=>[]
 | i,t :: r=>j4 (rC fill i) ++ (cX [tx t] ++ iL fill (i + 1) r)
theorem vP (fill:List UInt8) (t:Tk):∀ (i:Nat) (l:List Tk),iL fill i (l ++ [t])=iL fill i l ++ j4 (rC fill (i + l.length)) ++ cX [tx t]
 | i,[]=>by simp [iL]
 | i,u :: l=>by
  rw [List.cons_append,iL,iL,vP fill t (i + 1) l,List.length_cons,show i + 1 + l.length=i + (l.length + 1) by omega]
  simp [List.append_assoc]
def CP (fill:List UInt8):Nat->List Tk->K4
 | _,[]=>[]
 | i,t :: r=>(j4 (rC fill i),tx t) :: CP fill (i + 1) r
theorem KJ (fill:List UInt8):∀ (i:Nat) (l:List Tk),(CP fill i l).map (fun u=>UO u.2)=l.map sN
 | _,[]=>rfl
 | i,t :: r=>by rw [CP,List.map_cons,KJ fill (i + 1) r]; rfl
theorem OA {t:Tk} (h:PW (tx t)=true):cX [tx t]=r8 (tx t):=by
 have h:eT (tx t).k (tx t).x (tx t).n=true:=h
 simp [cX,lP,h]
theorem BX (fill:List UInt8):∀ (i:Nat) (l:List Tk),(∀ t ∈ l,PW (tx t)=true)->iK (CP fill i l)=iL fill i l
 | _,[],_=>rfl
 | i,t :: r,h=>by rw [CP,iK,iL,OA (h t (by simp)),BX fill (i + 1) r fun u hu=>h u (by simp [hu])]
theorem ZV (fill:List UInt8) (k:Int) (i:Nat) (l:List Tk):xW (iK (CP fill i l) ++ j4 k):=by
 cases l with
 | nil=>
  obtain ⟨c,r,h,h1,h2⟩:=HM k
  show xW (j4 k)
  rw [h]; exact GU h1 h2
 | cons t l=>
  obtain ⟨c,r,h,h1,h2⟩:=HM (rC fill i)
  rw [CP,iK,h]; exact GU h1 h2
theorem O4 (fill:List UInt8) (k:Int):∀ (i:Nat) (l:List Tk),(∀ t ∈ l,PW (tx t)=true/\TkFit (tx t))->NP (j4 k) (CP fill i l)
 | _,[],_=>trivial
 | i,t :: r,h=>⟨J0 _,(h t (by simp)).2,(h t (by simp)).1,ZV fill k (i + 1) r,O4 fill k (i + 1) r fun u hu=>h u (by simp [hu])⟩
theorem PK {t:Tk} (h:Gtk t.k t.x t.n):TkFit (tx t):=⟨h.i.1,h.i.2,by have:=h.len; show t.x.length<=100000; omega⟩
theorem M0 {l:List UInt8} (h:(aU l).err=0):∃ us e,(aU l).toks=us ++ [e]/\(e.k=0/\e.x=[]/\e.n=0)/\∀ t ∈ us,PW (tx t)=true/\TkFit (tx t):=by
 have hg:=qI l
 have he:=(yP h).e
 generalize (aU l).toks=ts at *
 have hne:ts ≠ []:=fun h=>by have:=he.pos; rw [h] at this; exact absurd this (by decide)
 obtain ⟨us,e,rfl⟩:∃ us e,ts=us ++ [e]:=⟨ts.dropLast,ts.getLast hne,(List.dropLast_concat_getLast hne).symm⟩
 have hk:e.k=0:=(he.last us.length e (by simp)).2 (by simp)
 refine ⟨us,e,rfl,⟨hk,(hg e (by simp)).e hk⟩,fun t ht=>?_⟩
 have hgt:=hg t (by simp [ht])
 refine ⟨hgt.o fun h0=>?_,PK hgt⟩
 obtain ⟨i,hi,hti⟩:=List.getElem_of_mem ht
 have:=(he.last i t (by rw [List.getElem?_append_left hi,aY hi,hti])).1 h0
 simp at this
 omega
theorem SC {x fill:List UInt8} (h:(aU x).err=0) (hl:(iL fill 0 (aU x).toks).length<=4000):(aU (iL fill 0 (aU x).toks)).err=0/\(aU (iL fill 0 (aU x).toks)).toks.map sN=(aU x).toks.map sN:=by
 obtain ⟨us,e,h1,⟨h2,h3,h4⟩,h5⟩:=M0 h
 rw [h1] at hl ⊢
 have hp:cX [tx e]=[]:=by simp [cX,lP,tx,h2,eT]
 have hb:=BX fill 0 us fun t ht=>(h5 t ht).1
 rw [vP,hp,List.append_nil,<-hb] at hl ⊢
 obtain ⟨a1,a2⟩:=PL (J0 _) (O4 fill (rC fill (0 + us.length)) 0 us h5) hl
 refine ⟨a1,?_⟩
 rw [a2,KJ,List.map_append,List.map_cons,List.map_nil,sN,h2,h3,h4]
def D2:List S->Prop:=fun av=>match av with
 | [.va (.gs r),.va (.gs q),.va (.c1 (.vl (.string x))),.va (.c1 (.fz f))]=>qD r/\eO q/\x.size<=9223372036854775807/\∃ l:List UInt8,f=l.map fJ
 | _=>False
theorem yZ {av:List S} (h:D2 av):∃ s t x,∃ l:List UInt8,av=[.va (.gs (aF s)),.va (.gs (aN t)),tS x,.va (.c1 (.fz (l.map fJ)))]/\s.ok/\TyOk t/\x.size<=9223372036854775807:=by
 unfold D2 at h
 split at h
 · obtain ⟨⟨s,rfl,h1⟩,⟨t,rfl,h2⟩,h3,l,rfl⟩:=h; exact ⟨s,t,_,l,rfl,h1,h2,h3⟩
 · exact h.elim
def lsFn:Fun:=⟨D2,fun _=>bA true,fun _ _=>trivial⟩
attribute [go_sem] lsFn D2
noncomputable def GI:cJ:=[(8,.f feFn),(10,.f qTrue),(13,.s (rT (dP 16) (pP 16))),(16,.s lD),(17,.f prtFn),(15,.f eqFn)]
theorem zW:jJ GI 8=some feFn:=rfl
theorem nE:jJ GI 10=some qTrue:=rfl
theorem OU:sp GI 13=rT (dP 16) (pP 16):=rfl
theorem aFF:sp GI 16=lD:=rfl
theorem sB:jJ GI 17=some prtFn:=rfl
theorem aFW:jJ GI 15=some eqFn:=rfl
attribute [go_sem ↓] lD
theorem zV {t:Tk} (h:TkFit (tx t)):(cX [tx t]).length<=200003:=by
 have:=IK (acc:=[]) h
 simpa [cX] using this
theorem F4 {fill:List UInt8} {ts:List Tk} {i:Nat} {t:Tk} (h:ts[i]? = some t):iL fill 0 (ts.take (i + 1))=iL fill 0 (ts.take i) ++ j4 (rC fill i) ++ cX [tx t]:=by
 have hi:=(aZ.1 h).1
 have e:ts.take (i + 1)=ts.take i ++ [t]:=by rw [List.take_add_one,h]; rfl
 rw [e,vP,List.length_take,Nat.zero_add,Nat.min_eq_left (by omega)]
theorem JF {fill:List UInt8} {ts:List Tk} (hf:∀ t ∈ ts,TkFit (tx t)):∀ i,i<=ts.length->(iL fill 0 (ts.take i)).length<=i * 200013
 | 0,_=>by simp [iL]
 | i + 1,hi=>by
  have ht:ts[i]? = some ts[i]:=aY (by omega)
  have h1:=JF (fill:=fill) hf i (by omega)
  have h2:=zV (hf _ (bK ht))
  have h3:=aAJ (rC fill i)
  rw [F4 ht,List.length_append,List.length_append]
  omega
theorem ME:Meets Tryz.prog 6 lsFn.sp:=by
 refine aE (Γ:=GI) Tryz.func6 aLU 4 (by rw [Tryz.ntmps6]; decide) (aG aDC (aG RS (aB (LM 16) (aB aA8 (aG SX (aG ZN (aA _))))))) (fun av H K h=>by obtain ⟨_,_,_,_,rfl,_⟩:=yZ h.1.1; rfl) ?_
 rintro av H K ⟨⟨h,rfl⟩,hK⟩
 obtain ⟨s,t,x,l,rfl,hs,ht,hx⟩:=yZ h
 have hK:K (bS true) []:=hK
 clear h
 have fin:∀ R:Hp,W.Fin 0 K (bS true) R:=fun R=>.sel [] (by simp) (by simp) rfl (.done (by simpa [go_sem] using hK))
 clear hK
 rw [gD] at hx
 have k4:=iB ht
 have k5:=nC t
 have k6:=J4 hs
 have k7:=m5 s
 cases h1:s0 s t with
 | false=>
  simp (maxSteps:=1000000) -dsimp only [go_sem,aF,aO t,FD,E4,zW,nE,k4,k5,k6,k7,h1]
  exact fin _
 | true=>
 cases h2:decide (800 < ((bl x).length:Int)) with
 | true=>
  simp (maxSteps:=1000000) -dsimp only [go_sem,aF,aO t,FD,E4,zW,nE,k4,k5,k6,k7,h1,h2]
  exact fin _
 | false=>
 cases h3:decide (1000 < (l.length:Int)) with
 | true=>
  simp (maxSteps:=1000000) -dsimp only [go_sem,aF,aO t,FD,E4,zW,nE,k4,k5,k6,k7,h1,h2,h3]
  exact fin _
 | false=>
  obtain ⟨hf,hd,hft⟩:=Z9 hs h1
  have hD:oZ s t=true->dP 16 s t:=fun h=>aFG hf hd ht hft (by rw [<-aI9 hd]; exact h)
  simp (maxSteps:=1000000) -dsimp only [go_sem,aF,aO t,FD,E4,zW,nE,k4,k5,k6,k7,h1,h2,h3]
  refine aD rfl (.done ?_)
  simp (maxSteps:=1000000) -dsimp only [go_sem,F2,aFF]
  refine aD rfl (.done ?_)
  cases h4:(aU (bl x)).err != 0 with
  | true=>
   simp (maxSteps:=1000000) -dsimp only [go_sem,yS,nE,h4]
   exact fin _
  | false=>
   have h0:(aU (bl x)).err=0:=by simpa using h4
   simp (maxSteps:=1000000) -dsimp only [go_sem,yS,h4]
   refine aD rfl (.done ?_)
   simp (maxSteps:=1000000) -dsimp only [go_sem,HL]
   refine aD rfl (.done ?_)
   simp (maxSteps:=1000000) -dsimp only [go_sem,F7]
   have he:=(yP h0).e
   have hgo:=qI (bl x)
   have hos:=SC (fill:=l) h0
   have hps:=fun y h2 h3=>T9 (N:=16) (s:=s) (t:=t) h0 (y:=y) h2 h3
   generalize hts:(aU (bl x)).toks=ts at *
   have htf:∀ t ∈ ts,TkFit (tx t):=fun t ht=>PK (hgo t ht)
   refine aK (α:=Nat) (fun i=>[(2,tS x),(3,.va (.c1 (.fz (l.map fJ)))),(4,.va (.c1 (.pt 0 0))),(5,.va (.c1 (.pt 1 0))),(9,.va (.c1 (.fz (ts.map cS)))),(12,tS (mk (iL l 0 (ts.take i)))),(13,iS .i64 i)]) (fun _=>[.cells [.vl (.int .i64 s.ver),.fz (s.es.map bI),.fz (s.ss.map aP)] 25,.cells [.vl (.int .i64 t.k),.vl (.int .i64 t.s),.vl (.string t.n),.fz (t.e.map aN)] 28]) (fun i=>i<=ts.length) (fun i=>ts.length - i) 0 2 (by omega) ?_ rfl ?_
   · simp [go_sem,iL]
   intro i hi
   have hol:=JF (fill:=l) htf i hi
   have hle:=he.le
   cases h5:decide ((i:Int) < (ts.length:Int)) with
   | false=>
    obtain rfl:i=ts.length:=by simp at h5; omega
    simp (maxSteps:=1000000) -dsimp only [go_sem,h5]
    refine aD rfl (.done ?_)
    rw [List.take_length] at hol ⊢
    generalize iL l 0 ts=y at *
    cases h7:decide (4000 < (y.length:Int)) with
    | true=>
     simp (maxSteps:=1000000) -dsimp only [go_sem,tT,nE,h7]
     exact fin _
    | false=>
     obtain ⟨b1,b2⟩:=hos (by have:=of_decide_eq_false h7; omega)
     obtain ⟨c1,c2⟩:=hps y b1 b2.symm
     have hok:=aB5 hf ht hD y
     simp (maxSteps:=1000000) -dsimp only [go_sem,tT,h7]
     refine aD rfl (.done ?_)
     simp (maxSteps:=1000000) -dsimp only [go_sem,BL,OU]
     refine HH hf ht hD ?_
     generalize fM (pP 16) s t (bl x)=r at *
     generalize hq:fM (pP 16) s t y=q at *
     obtain ⟨v,e,a⟩:=r
     obtain ⟨v',e',a'⟩:=q
     have c1:v=v':=c1
     have c2:e=e':=c2
     subst c1; subst c2
     simp (maxSteps:=1000000) -dsimp only [go_sem,aV v]
     refine aD rfl (.done ?_)
     simp (maxSteps:=1000000) -dsimp only [go_sem,AB,OU]
     refine HH hf ht hD ?_
     rw [n4,hq]
     simp (maxSteps:=1000000) -dsimp only [go_sem,aV v]
     refine aD rfl (.done ?_)
     have k1:=fV hok
     simp (maxSteps:=1000000) -dsimp only [go_sem,AD,aFW,nE,k1,beq_self_eq_true]
     exact fin _
   | true=>
    have hlt:i < ts.length:=by simp at h5; omega
    have hg:ts[i]? = some ts[i]:=aY hlt
    generalize ts[i]=u at hg
    have hst:=F4 (fill:=l) hg
    have hsl:List.drop i (List.take ((i:Int) + 1).toNat (ts.map cS))=[qY (tx u)]:=by
     rw [show ((i:Int) + 1).toNat=i + 1 by omega,List.drop_take,show i + 1 - i=1 by omega,List.take_one,List.head?_drop,List.getElem?_map,hg]; rfl
    have hut:=htf u (bK hg)
    have hpl:=zV hut
    have hpv:rZ [.va (.c1 (.fz [qY (tx u)]))]=tA (mk (cX [tx u])):=lB [tx u]
    have hpp:y9 [.va (.c1 (.fz [qY (tx u)]))]=True:=eq_true ⟨[tx u],rfl,by simp,fun t ht=>by rw [List.mem_singleton] at ht; subst ht; exact hut⟩
    have hrl:(∀ r,r ∈ ts.map cS->r.length=4)=True:=eq_true fun r hr=>by
     obtain ⟨a,_,rfl⟩:=List.mem_map.1 hr; rfl
    have hstep:∀ w,j4 (rC l i)=w->mk (iL l 0 (ts.take i) ++ (w ++ cX [tx u]))=mk (iL l 0 (ts.take (i + 1))):=fun w hw=>by rw [hst,hw,List.append_assoc]
    simp (maxSteps:=1000000) -dsimp only [go_sem,h5]
    refine aD rfl (.done ?_)
    cases h6:decide ((i:Int) < (l.length:Int)) with
    | false=>
     have hk:rC l i=0:=by
      unfold rC
      rw [show decide (i < l.length)=false by simp at h6 ⊢; omega]; rfl
     simp (maxSteps:=1000000) -dsimp only [go_sem,tX,h6]
     refine aD rfl (.done ?_)
     simp (maxSteps:=1000000) -dsimp only [go_sem,tE]
     refine aD rfl (.done ?_)
     simp (maxSteps:=1000000) -dsimp only [go_sem,kD,show ((0:Int) == 1)=false from rfl,show ((0:Int) == 2)=false from rfl,show ((0:Int) == 3)=false from rfl]
     refine aD rfl (.done ?_)
     simp (maxSteps:=1000000) -dsimp only [go_sem,kC,sB,prtFn,hsl,hpv,hpp,hrl]
     refine ⟨by omega,⟨by omega,by omega⟩,⟨by omega,by omega,by omega⟩,by omega,⟨by omega,by omega⟩,aC (i + 1) 2 (by omega) (by omega) ?_ rfl⟩
     simp [go_sem]
     exact hstep [32] (by rw [hk]; rfl)
    | true=>
     simp (maxSteps:=1000000) -dsimp only [go_sem,tX,h6]
     refine ⟨⟨by omega,by simpa using h6⟩,fun c hc=>⟨by decide,aD rfl (.done ?_)⟩⟩
     have hk:rC l i=(c.toNat:Int).tmod 4:=by
      have h6:decide (i < l.length)=true:=by simp at h6 ⊢; omega
      unfold rC
      rw [h6,List.getD_eq_getElem?_getD,hc]; rfl
     simp (maxSteps:=1000000) -dsimp only [go_sem,tE]
     refine aD rfl (.done ?_)
     generalize (c.toNat:Int).tmod 4=k at *
     cases e1:k == 1 with
     | true=>
      simp (maxSteps:=1000000) -dsimp only [go_sem,kD,e1]
      refine aD rfl (.done ?_)
      simp (maxSteps:=1000000) -dsimp only [go_sem,kC,sB,prtFn,hsl,hpv,hpp,hrl]
      refine ⟨by omega,⟨by omega,by omega⟩,⟨by omega,by omega,by omega⟩,by omega,⟨by omega,by omega⟩,aC (i + 1) 2 (by omega) (by omega) ?_ rfl⟩
      simp [go_sem]
      exact hstep [10,9] (by rw [hk,j4,e1]; rfl)
     | false=>
     cases e2:k == 2 with
     | true=>
      simp (maxSteps:=1000000) -dsimp only [go_sem,kD,e1,e2]
      refine aD rfl (.done ?_)
      simp (maxSteps:=1000000) -dsimp only [go_sem,kC,sB,prtFn,hsl,hpv,hpp,hrl]
      refine ⟨by omega,⟨by omega,by omega⟩,⟨by omega,by omega,by omega⟩,by omega,⟨by omega,by omega⟩,aC (i + 1) 2 (by omega) (by omega) ?_ rfl⟩
      simp [go_sem]
      exact hstep [32,35,32,114,101,109,97,114,107,10] (by rw [hk,j4,e1,e2]; rfl)
     | false=>
     cases e3:k == 3 with
     | true=>
      simp (maxSteps:=1000000) -dsimp only [go_sem,kD,e1,e2,e3]
      refine aD rfl (.done ?_)
      simp (maxSteps:=1000000) -dsimp only [go_sem,kC,sB,prtFn,hsl,hpv,hpp,hrl]
      refine ⟨by omega,⟨by omega,by omega⟩,⟨by omega,by omega,by omega⟩,by omega,⟨by omega,by omega⟩,aC (i + 1) 2 (by omega) (by omega) ?_ rfl⟩
      simp [go_sem]
      exact hstep [32,32] (by rw [hk,j4,e1,e2,e3]; rfl)
     | false=>
      simp (maxSteps:=1000000) -dsimp only [go_sem,kD,e1,e2,e3]
      refine aD rfl (.done ?_)
      simp (maxSteps:=1000000) -dsimp only [go_sem,kC,sB,prtFn,hsl,hpv,hpp,hrl]
      refine ⟨by omega,⟨by omega,by omega⟩,⟨by omega,by omega,by omega⟩,by omega,⟨by omega,by omega⟩,aC (i + 1) 2 (by omega) (by omega) ?_ rfl⟩
      simp [go_sem]
      exact hstep [32] (by rw [hk,j4,e1,e2,e3]; rfl)
end Go.Proofs.YtkpohmhenegkiaaGreatDoor
namespace Go.W
open Go.RowKit
structure Stay (w w':World):Prop where
 os:w'.os=w.os
 out:w'.output=w.output
 size:w.heap.size<=w'.heap.size
 keep:∀ b:Nat,b < w.heap.size->w'.heap[b]? = w.heap[b]?
theorem Stay.kept {w w':World} (h:Stay w w') (may:MemPlace->Prop):w.keptBut w' may:=by
 refine ⟨h.os,h.out,fun i hi=>?_⟩
 rw [h.keep i hi]
 split
 · rename_i h1 h2; rw [h1] at h2; cases h2; exact ⟨rfl,rfl,rfl,fun _ _=>rfl⟩
 · rename_i h1 h2; rw [h1] at h2; cases h2; exact Or.inr ⟨rfl,rfl⟩
 · rfl
theorem Stay.frozen {w w':World} (h:Stay w w') {a:Addr} (ha:a.block < w.heap.size):w'.frozen? a=w.frozen? a:=by
 unfold World.frozen?; rw [h.keep _ ha]
theorem Stay.cell {w w':World} (h:Stay w w') {a:Addr} (ha:a.block < w.heap.size):w'.cell? a=w.cell? a:=by
 unfold World.cell?; rw [h.keep _ ha]
theorem Z8 {w:World} {ro:RO} (h:∀ (b off:Nat) (v:Value),ro b off=some v->w.cell? ⟨b,off,none⟩=some v):Rel ⟨w,dE [],ro,gm []⟩ [] ro w where
 own:=fun n g blk h=>by simp at h
 inj:=fun n m gn gm bn bm b h=>by simp at h
 apart:=fun b off v _ n g blk h=>by simp at h
 rd:=h
 ro0:=fun _ _ _ h=>h
 rob:=fun b off v h=>.inl h
 par:=fun n b g blk h=>by simp at h
 gx:=.refl _
 sz:=Nat.le_refl _
 keep:=fun b _ _=>rfl
 os:=rfl
 tape:=rfl
 output:=rfl
theorem Meets.run {P:Program} {f:FuncId} {s:Fun} (hm:Meets P f s.sp) {av:List S} {vs:List Value} {ro:RO} {w:World} {x:A} (hpre:s.pre av) (hval:s.val av=x) (hl:av.length=vs.length)
 (hrel:∀ (i:Nat) (x:S) (v:Value),av[i]? = some x->vs[i]? = some v->x.rel (gm []) ro v) (hro:∀ (b off:Nat) (v:Value),ro b off=some v->w.cell? ⟨b,off,none⟩=some v) (hG:GR P ro w) :
 Calls P f vs.toArray w fun e w'=>∃ v γ ro',e=.returned v/\S.rel γ ro' (.va x) v/\Stay w w':=by
 subst hval
 refine (hm.2 av vs [] ro w (fun r H=>r=.va (s.val av)/\H=[]) hl hrel (Z8 hro) ⟨⟨hpre,rfl⟩,rfl,rfl⟩ hG).mono ?_
 rintro e w' ⟨r,v,E',ro',rfl,h1,⟨rfl,h2⟩,h3⟩
 exact ⟨v,_,ro',rfl,h1,h3.os,h3.output,h3.sz,fun b hb=>h3.keep b hb (by simp [dE])⟩
theorem Meets.yes {P:Program} {f:FuncId} {s:Fun} (hm:Meets P f s.sp) {av:List S} {vs:List Value} {ro:RO} {w:World} (hpre:s.pre av) (hval:s.val av=.c1 (.vl (.bool true))) (hl:av.length=vs.length)
 (hrel:∀ (i:Nat) (x:S) (v:Value),av[i]? = some x->vs[i]? = some v->x.rel (gm []) ro v) (hro:∀ (b off:Nat) (v:Value),ro b off=some v->w.cell? ⟨b,off,none⟩=some v) (hG:GR P ro w) :
 Calls P f vs.toArray w fun e w'=>e=.returned (.bool true)/\Stay w w':=by
 refine (hm.run hpre hval hl hrel hro hG).mono ?_
 rintro e w' ⟨v,γ,ro',rfl,h1,h2⟩
 have:v=.bool true:=h1
 exact ⟨by rw [this],h2⟩
section
variable {H:Type} {enc:TypeId × Value->H} {P:Program}
theorem F6 {f:Func} {s:ChangeSpec} {apart fresh handsOn again:Bool} {W W':World} {args:Array Value} {v:Value} {ds gs:List (DataW H)} {before pa pv:List MemPlace}
 (hW:DataW.Whole enc P f.params.toList s.vars apart W args.toList ds gs before)
 (hres:∀ (b:Nat) (sp:Nat->Bool) (hd:Bool),DataW.TrodAll enc P W' b sp hd f.resultTypes.toList (v.resultList f.resultTypes.size) (s.fn H (ds ++ gs)).results [])
 (hargs:∀ sp:Nat->Bool,(∀ p ∈ before,sp p.block=true)->DataW.TrodAll enc P W' 0 sp true f.params.toList args.toList (s.fn H (ds ++ gs)).args pa)
 (hvars:∀ sp:Nat->Bool,(∀ p ∈ before,sp p.block=true)->DataW.TrodVars enc P W' sp s.vars (s.fn H (ds ++ gs)).vars pv)
 (hps:before=pa ++ pv) (hs:Stay W W')
 (hok:∀ (j:Nat) (t:TypeId) (r:Value),f.resultTypes[j]? = some t->(v.resultList f.resultTypes.size)[j]? = some r->Value.okWide P W' .any 0 t r) :
 s.post enc P f apart fresh handsOn again W args v W':=by
 have hlt:∀ p ∈ before,p.block < W.heap.size:=fun p hp=>hW.lt p hp
 have hsp:∀ p ∈ before,(fun b=>decide (b < W.heap.size)) p.block=true:=fun p hp=>by simpa using hlt p hp
 have hall:∀ p ∈ before,(fun _:Nat=>true) p.block=true:=fun _ _=>rfl
 obtain ⟨_,_,_,_,_,hz,hn⟩:=id hW
 refine ⟨ds,gs,before,[],pa,pv,hW,hres _ _ _,hargs _ hsp,hvars _ hsp,World.keptBut_mono (fun p hp=>⟨hp,.inr ?_⟩) (hs.kept (· ∈ before)),fun _=>⟨hok,_,_,([] ++ pa) ++ pv,
  ⟨[] ++ pa,pv,ChangeShapes.trodAll_append (hargs _ hall) (hres _ _ _),hvars _ hall,rfl,fun b off hp=>?_,fun ha=>?_⟩,fun p hp _=>?_⟩⟩
 · rw [hps,List.mem_append] at hp; exact hp
 · have hb:MemPlace.cell b off ∈ before:=by rw [hps]; simpa using hp
   rw [hs.frozen (hlt _ hb)]
   exact hz b off hb
 · have:=hn ha
   rw [hps] at this
   simpa using this
 · rw [hps]
   simpa using hp
end
open Go.RowKit
def k9 (W:World):RO:=fun b off=>W.cell? ⟨b,off,none⟩
theorem aCP (W:World):∀ (b off:Nat) (v:Value),k9 W b off=some v->W.cell? ⟨b,off,none⟩=some v:=fun _ _ _ h=>h
theorem aCG (ro:RO):FzR ro [] (.slice none 0 0):=
 FzR.mk [] 1 none none (fun h=>absurd rfl h) 0 (fun _=>.bool true) (by simp) (by simp) (by simp) (by simp) (by simp) (by simp) (by simp)
def qJ (P:Program):Bool:=(List.range P.types.size).all fun t=>match P.underlying t with | some (.slice e)=>decide (0 < P.cellsOf e) | _=>true
section
variable {H:Type} {enc:TypeId × Value->H} {P:Program}
theorem QK {W W':World} (h:Stay W W') {p:MemPlace} (hp:p.block < W.heap.size):W.sameAt W' p:=by
 cases p with
 | cell b off=>exact h.cell (a:=⟨b,off,none⟩) hp
 | map b=>exact h.keep b hp
theorem sG {W W':World} {sp:Nat->Bool} (hl:laidOutB P=true) (hm:mapsRowed P=true) (hs:qJ P=true) (hst:Stay W W') :
 ∀ {ts:List TypeId} {vs:List Value} {ds:List (DataW H)} {ps:List MemPlace},(∀ t ∈ ts,t < P.types.size)->DataW.TrodAll enc P W 0 (fun _=>true) true ts vs ds ps->(∀ p ∈ ps,p.block < W.heap.size)->(∀ p ∈ ps,sp p.block=true)->
  DataW.TrodAll enc P W' 0 sp true ts vs ds ps
 | [],[],[],ps,_,h,_,_=>h
 | t :: ts,v :: vs,d :: ds,ps,ht,h,hb,hp=>by
  obtain ⟨p,q,⟨n,h1⟩,h2,rfl⟩:=h
  have hsz:∀ {t e:TypeId},t < P.types.size->P.underlying t=some (.slice e)->0 < P.cellsOf e:=fun {t e} ht hu=>by
   have:=List.all_eq_true.1 hs t (List.mem_range.2 ht)
   rw [hu] at this
   simpa using this
  exact ⟨p,q,⟨n,DataW.trod_stays (T:=(· < P.types.size)) (kids_rows hl hm) hsz (fun h=>by cases h) (ht t (by simp)) h1 (fun x hx=>QK hst (hb x (by simp [hx]))) (fun x hx=>hp x (by simp [hx]))⟩,
   sG hl hm hs hst (fun u hu=>ht u (by simp [hu])) h2 (fun x hx=>hb x (by simp [hx])) (fun x hx=>hp x (by simp [hx])),rfl⟩
 | [],_ :: _,_,_,_,h,_,_=>h.elim
 | [],[],_ :: _,_,_,h,_,_=>h.elim
 | _ :: _,[],_,_,_,h,_,_=>h.elim
 | _ :: _,_ :: _,[],_,_,h,_,_=>h.elim
theorem TJ {f:Func} {s:ChangeSpec} {apart fresh handsOn again:Bool} {W W':World} {args:Array Value} {ds gs:List (DataW H)} {before:List MemPlace} {tb:TypeId}
 (hl:laidOutB P=true) (hm:mapsRowed P=true) (hsr:qJ P=true) (hps:∀ t ∈ f.params.toList,t < P.types.size) (hrt:f.resultTypes=#[tb]) (htb:P.underlying tb=some .bool)
 (hvars:s.vars=[]) (hW:DataW.Whole enc P f.params.toList s.vars apart W args.toList ds gs before) (hfn:s.fn H (ds ++ gs)={ results:=[.lit (.bool true)],args:=ds,vars:=[] }) (hst:Stay W W') :
 s.post enc P f apart fresh handsOn again W args (.bool true) W':=by
 have hlt:∀ p ∈ before,p.block < W.heap.size:=fun p hp=>hW.lt p hp
 obtain ⟨p,q,hA,hV,hb,_,_⟩:=id hW
 have hq:q=[]:=by
  rw [hvars] at hV
  cases gs with
  | nil=>exact hV
  | cons g gs=>exact hV.elim
 subst hq
 have hbp:before=p:=by rw [hb]; simp
 refine F6 (pa:=p) (pv:=[]) hW (fun b sp hd=>?_) (fun sp hsp=>?_) (fun sp hsp=>?_) hb hst ?_
 · rw [hrt,hfn]
   exact ⟨[],[],⟨1,by simp [DataW.trod,Value.cells,htb]⟩,rfl,rfl⟩
 · rw [hfn]
   rw [hbp] at hlt hsp
   exact sG hl hm hsr hst hps hA hlt hsp
 · rw [hfn,hvars]; rfl
 · intro j t r h1 h2
   rw [hrt] at h1 h2
   match j with
   | 0=>
    cases h1
    cases h2
    simp [Value.okWide,Cell.okWide,Cell.ok,htb]
   | j + 1=>cases h1
end
open Go.RowKit
inductive Fit (P:Program):TypeId->List C->Prop
 | int {t:TypeId} {k:IntKind} {n:Int}:P.underlying t=some (.int k)->(Lit.int k n).wf=true->Fit P t [.vl (.int k n)]
 | bool {t:TypeId} {b:Bool}:P.underlying t=some .bool->Fit P t [.vl (.bool b)]
 | str {t:TypeId} {s:ByteArray}:P.underlying t=some .string->s.size<=maxLen->Fit P t [.vl (.string s)]
 | sl {t e:TypeId} {xs:List (List C)}:P.underlying t=some (.slice e)->xs.length<=maxLen->(∀ r ∈ xs,Fit P e r)->Fit P t [.fz xs]
 | st {t:TypeId} {fs:Array Field} {parts:List (List C)}:P.underlying t=some (.struct fs)->parts.length=fs.size->(∀ (i:Nat) (f:Field) (p:List C),fs[i]? = some f->parts[i]? = some p->Fit P f.type p)->Fit P t parts.flatten
section
variable {P:Program} {t e:TypeId} {xs:List C}
theorem Fit.inv_int {k:IntKind} (ht:P.underlying t=some (.int k)) (h:Fit P t xs):∃ n:Int,xs=[.vl (.int k n)]/\(Lit.int k n).wf=true:=by
 cases h with
 | int h1 h2=>rw [ht] at h1; cases h1; exact ⟨_,rfl,h2⟩
 | bool h1=>rw [ht] at h1; cases h1
 | str h1=>rw [ht] at h1; cases h1
 | sl h1=>rw [ht] at h1; cases h1
 | st h1=>rw [ht] at h1; cases h1
theorem Fit.inv_bool (ht:P.underlying t=some .bool) (h:Fit P t xs):∃ b:Bool,xs=[.vl (.bool b)]:=by
 cases h with
 | int h1 h2=>rw [ht] at h1; cases h1
 | bool h1=>exact ⟨_,rfl⟩
 | str h1=>rw [ht] at h1; cases h1
 | sl h1=>rw [ht] at h1; cases h1
 | st h1=>rw [ht] at h1; cases h1
theorem Fit.inv_str (ht:P.underlying t=some .string) (h:Fit P t xs):∃ s:ByteArray,xs=[.vl (.string s)]/\s.size<=maxLen:=by
 cases h with
 | int h1 h2=>rw [ht] at h1; cases h1
 | bool h1=>rw [ht] at h1; cases h1
 | str h1 h2=>exact ⟨_,rfl,h2⟩
 | sl h1=>rw [ht] at h1; cases h1
 | st h1=>rw [ht] at h1; cases h1
theorem Fit.inv_sl (ht:P.underlying t=some (.slice e)) (h:Fit P t xs):∃ ys:List (List C),xs=[.fz ys]/\ys.length<=maxLen/\∀ r ∈ ys,Fit P e r:=by
 cases h with
 | int h1 h2=>rw [ht] at h1; cases h1
 | bool h1=>rw [ht] at h1; cases h1
 | str h1=>rw [ht] at h1; cases h1
 | sl h1 h2 h3=>rw [ht] at h1; cases h1; exact ⟨_,rfl,h2,h3⟩
 | st h1=>rw [ht] at h1; cases h1
theorem Fit.inv_st {fs:Array Field} (ht:P.underlying t=some (.struct fs)) (h:Fit P t xs):∃ parts:List (List C),xs=parts.flatten/\parts.length=fs.size/\∀ (i:Nat) (f:Field) (p:List C),fs[i]? = some f->parts[i]? = some p->Fit P f.type p:=by
 cases h with
 | int h1 h2=>rw [ht] at h1; cases h1
 | bool h1=>rw [ht] at h1; cases h1
 | str h1=>rw [ht] at h1; cases h1
 | sl h1=>rw [ht] at h1; cases h1
 | st h1 h2 h3=>rw [ht] at h1; cases h1; exact ⟨_,rfl,h2,h3⟩
end
theorem Fit.rows {P:Program} {e:TypeId} {α:Type} {row:α->List C} {Q:α->Prop} {ys:List (List C)} (hi:∀ r,Fit P e r->∃ a,r=row a/\Q a) (h:∀ r ∈ ys,Fit P e r):∃ l:List α,ys=l.map row/\∀ a ∈ l,Q a:=by
 induction ys with
 | nil=>exact ⟨[],rfl,fun a h=>by cases h⟩
 | cons r ys ih=>
  obtain ⟨l,h1,h2⟩:=ih fun r hr=>h r (List.mem_cons_of_mem _ hr)
  obtain ⟨a,h3,h4⟩:=hi r (h r (by simp))
  refine ⟨a :: l,by rw [h1,h3]; rfl,fun x hx=>?_⟩
  rcases List.mem_cons.1 hx with rfl | hx
  · exact h4
  · exact h2 x hx
def IU (P:Program):Nat->List Field->Option Nat
 | o,[]=>some o
 | o,f :: r=>if f.offset=o then IU P (o + P.cellsOf f.type) r else none
def M8 (P:Program) (ts:List TypeId):Bool:=ts.all fun t=>match P.underlying t with
 | some (.int _) | some .bool | some .string=>true
 | some (.slice e)=>ts.contains e && decide (0 < P.cellsOf e)
 | some (.struct fs)=>fs.toList.all (fun f=>ts.contains f.type) && IU P 0 fs.toList == some (P.cellsOf t)
 | _=>false
theorem aDF {P:Program} {R:C->Value->Prop} {Q:Field->List C->Prop} {cs:List Value}:∀ (fs:List Field) (o:Nat),IU P o fs=some cs.length->
 (∀ (i:Nat) (f:Field),fs[i]? = some f->∃ p,Q f p/\All2 R p ((cs.drop f.offset).take (P.cellsOf f.type)))->
 ∃ parts:List (List C),parts.length=fs.length/\(∀ (i:Nat) (f:Field) (p:List C),fs[i]? = some f->parts[i]? = some p->Q f p)/\All2 R parts.flatten (cs.drop o)
 | [],o,ho,_=>by
  simp only [IU,aH] at ho
  subst ho
  exact ⟨[],rfl,fun i f p h=>by simp at h,by simpa using All2.nil⟩
 | f :: fs,o,ho,h=>by
  simp only [IU] at ho
  split at ho
  · rename_i hf
    obtain ⟨parts,h1,h2,h3⟩:=aDF fs _ ho fun i f hf=>h (i + 1) f (by simpa using hf)
    obtain ⟨p,h4,h5⟩:=h 0 f rfl
    refine ⟨p :: parts,by simp [h1],fun i g q hg hq=>?_,?_⟩
    · cases i with
      | zero=>simp at hg hq; subst hg hq; exact h4
      | succ i=>exact h2 i g q (by simpa using hg) (by simpa using hq)
    · have:cs.drop o=(cs.drop f.offset).take (P.cellsOf f.type) ++ cs.drop (o + P.cellsOf f.type):=by
       rw [hf,<-List.drop_drop,List.take_append_drop]
      rw [List.flatten_cons,this]
      exact h5.app h3
  · cases ho
section
variable {H:Type} {enc:TypeId × Value->H} {P:Program} {W:World} {ts:List TypeId}
theorem N8 {b off len cap sz:Nat} {oa:Option Addr} (hoa:len ≠ 0->oa=some ⟨b,off,none⟩) (hsz:0 < sz) (X:Nat->List C) (hl:∀ i,i < len->(X i).length=sz) (hc:len<=cap)
 (h:∀ i,i < len->∀ j c,(X i)[j]? = some c->∃ v,W.cell? ⟨b,off + (i * sz + j),none⟩=some v/\c.fv (k9 W) v/\c.shut=true) :
 FzR (k9 W) ((List.range len).map X) (.slice oa len cap):=by
 have hz:∀ x ∈ (List.range len).map X,x.length=sz:=fun x hx=>by
  obtain ⟨i,hi,rfl⟩:=List.mem_map.1 hx
  exact hl i (List.mem_range.1 hi)
 have hfl:∀ k c,((List.range len).map X).flatten[k]? = some c->∃ v,W.cell? ⟨b,off + k,none⟩=some v/\c.fv (k9 W) v/\c.shut=true:=fun k c hk=>by
  have hkl:k < len * sz:=by
   have h1:=(aZ.1 hk).1
   rw [m0 _ hz] at h1
   simpa using h1
  have hi:k / sz < len:=(Nat.div_lt_iff_lt_mul hsz).2 hkl
  have hj:=Nat.mod_lt k hsz
  have hg:=nI hz (i:=k / sz) (j:=k % sz) (by simpa using hi) hj
  rw [Nat.mul_comm,Nat.div_add_mod,hk] at hg
  have hxi:((List.range len).map X)[k / sz]? = some (X (k / sz)):=by simp [hi]
  rw [hxi,Option.bind_some] at hg
  have:=h (k / sz) hi (k % sz) c hg.symm
  rwa [Nat.mul_comm,Nat.div_add_mod] at this
 have hr:=FzR.mk (ro:=k9 W) ((List.range len).map X) sz (some (b,off)) oa (fun hne=>hoa (fun e=>by subst e; simp at hne)) cap (fun k=>(W.cell? ⟨b,off + k,none⟩).getD undef) hz (by simpa using hc) (fun _=>rfl)
  (fun k c hk=>by
    obtain ⟨v,h2,_⟩:=hfl k c hk
    simp [k9,h2])
  (fun k v hk=>by
    obtain ⟨u,h1,h2,_⟩:=hfl k _ hk
    have:u=v:=h2
    simp [h1,this])
  (fun k ys hk=>by
    obtain ⟨u,h1,h2,_⟩:=hfl k _ hk
    have:FzR (k9 W) ys u:=h2
    simpa [h1] using this)
  (fun c hc=>by
    obtain ⟨k,hk⟩:=List.mem_iff_getElem?.1 hc
    obtain ⟨u,_,_,h3⟩:=hfl k c hk
    exact h3)
 simpa using hr
theorem oJ (hok:M8 P ts=true):∀ (n:Nat) (t:TypeId) (cs:List Value) (y:DataW H × List MemPlace),t ∈ ts->DataW.trod enc P W 0 (fun _=>true) true n t cs=some y->
 ∃ xs,Fit P t xs/\All2 (C.fv (k9 W)) xs cs/\∀ c ∈ xs,c.shut=true
 | 0,t,cs,y,_,h=>by simp [DataW.trod] at h
 | n + 1,t,cs,y,ht,h=>by
  have h1:=List.all_eq_true.1 hok t ht
  split at h1
  · rename_i k hu
    obtain ⟨m,rfl,_,hw⟩:=DataW.trod_int hu h
    exact ⟨_,.int hu hw,.cons rfl .nil,fun c hc=>by simp at hc; subst hc; rfl⟩
  · rename_i hu
    obtain ⟨b,rfl,_⟩:=DataW.trod_bool hu h
    exact ⟨_,.bool hu,.cons rfl .nil,fun c hc=>by simp at hc; subst hc; rfl⟩
  · rename_i hu
    obtain ⟨s,rfl,_,hs⟩:=DataW.trod_string hu h
    exact ⟨_,.str hu hs,.cons rfl .nil,fun c hc=>by simp at hc; subst hc; rfl⟩
  · rename_i e hu
    simp only [Bool.and_eq_true,List.contains_iff_mem,decide_eq_true_eq] at h1
    obtain ⟨he,hpos⟩:=h1
    rcases DataW.trod_slice hu h with ⟨rfl,_⟩ | ⟨a,len,cap,elems,rest,n',hn',rfl,_,_,hl,hm,hel,hi,_⟩
    · exact ⟨_,.sl hu (Nat.zero_le _) (fun r hr=>by cases hr),.cons (aCG _) .nil,fun c hc=>by simp at hc; subst hc; rfl⟩
    · obtain rfl:n=n':=by omega
      have hall:∀ i,i < len->∃ x:List C,Fit P e x/\x.length=P.cellsOf e/\(∀ j c,x[j]? = some c->∃ v,W.cell? ((a.add (i * P.cellsOf e)).add j)=some v/\c.fv (k9 W) v/\c.shut=true):=fun i hil=>by
       have h1:=hi i hil
       rw [aY (by omega)] at h1
       obtain ⟨cs',h2,h3⟩:=Option.bind_eq_some_iff.1 h1
       obtain ⟨x,h4,h5,h6⟩:=oJ hok n e cs' _ he h3
       obtain ⟨_,h7,h8⟩:=World.cells?_some h2
       refine ⟨x,h4,h5.1.trans h7,fun j c hj=>?_⟩
       obtain ⟨v,h9,h10⟩:=h5.get hj
       have hjl:j < P.cellsOf e:=by rw [<-h7,<-h5.1]; exact (aZ.1 hj).1
       refine ⟨v,?_,h10,h6 c (bK hj)⟩
       have:=h8 j hjl
       rwa [h9] at this
      by_cases h0:len=0
      · subst h0
        refine ⟨[.fz []],.sl hu (Nat.zero_le _) (fun r hr=>by cases hr),.cons ?_ .nil,fun c hc=>by simp at hc; subst hc; rfl⟩
        exact N8 (b:=0) (off:=0) (fun h=>absurd rfl h) hpos (fun _=>[]) (fun i hi=>by omega) (Nat.zero_le _) (fun i hi=>by omega)
      · obtain ⟨x0,_,hx0l,hx0⟩:=hall 0 (by omega)
        have hsp:a.spot=none:=by
         have hx:∃ c,x0[0]? = some c:=⟨_,aY (by omega)⟩
         obtain ⟨c,hc⟩:=hx
         obtain ⟨v,hv,_⟩:=hx0 0 c hc
         unfold World.cell? at hv
         split at hv
         · split at hv
           · cases hv
           · rename_i hs; simpa [Addr.add] using hs
         · cases hv
        obtain ⟨b,off,spot⟩:=a
        obtain rfl:spot=none:=hsp
        haveI:Inhabited (List C):=⟨[]⟩
        obtain ⟨X,hX⟩:=Go.Deep.choose_lt hall
        refine ⟨[.fz ((List.range len).map X)],.sl hu (by simp; omega) (fun r hr=>?_),.cons ?_ .nil,fun c hc=>by simp at hc; subst hc; rfl⟩
        · obtain ⟨i,hi,rfl⟩:=List.mem_map.1 hr
          exact (hX i (List.mem_range.1 hi)).1
        · exact N8 (fun _=>rfl) hpos X (fun i hi=>(hX i hi).2.1) hl (fun i hi j c hj=>by
           obtain ⟨v,h2,h3⟩:=(hX i hi).2.2 j c hj
           exact ⟨v,by simpa [Go.WideShapes.add_plain,Nat.add_assoc] using h2,h3⟩)
  · rename_i fs hu
    simp only [Bool.and_eq_true,List.all_eq_true,List.contains_iff_mem,beq_iff_eq] at h1
    obtain ⟨hft,hof⟩:=h1
    obtain ⟨ys,n',hn,_,hcl,hyl,hf⟩:=DataW.trod_struct hu h
    obtain rfl:n=n':=by omega
    obtain ⟨parts,k1,k2,k3⟩:=aDF (P:=P) (R:=fun c v=>C.fv (k9 W) c v/\c.shut=true) (Q:=fun f p=>Fit P f.type p) (cs:=cs) fs.toList 0 (by rw [hcl]; exact hof) (fun i f hfi=>by
     have hfi':fs[i]? = some f:=by simpa using hfi
     have h2:=hf i f hfi'
     have hil:i < fs.size:=(Array.getElem?_eq_some_iff.1 hfi').1
     rw [aY (by omega)] at h2
     obtain ⟨x,h4,h5,h6⟩:=oJ hok n f.type _ _ (hft f (bK hfi)) h2
     exact ⟨x,h4,⟨h5.1,fun j c v hc hv=>⟨h5.2 j c v hc hv,h6 c (bK hc)⟩⟩⟩)
    refine ⟨parts.flatten,.st hu (by simpa using k1) (fun i f p hfi hp=>k2 i f p (by simpa using hfi) hp),?_,fun c hc=>?_⟩
    · simpa using k3.imp (fun _ _ h=>h.1)
    · obtain ⟨j,hj⟩:=List.mem_iff_getElem?.1 hc
      obtain ⟨v,_,_,h3⟩:=k3.get hj
      exact h3
  · cases h1
theorem mA (hok:M8 P ts=true) {t:TypeId} {v:Value} {d:DataW H} {ps:List MemPlace} (ht:t ∈ ts) (h:DataW.Trod enc P W 0 (fun _=>true) true t v d ps):∃ xs,Fit P t xs/\All2 (C.fv (k9 W)) xs v.cells.toList/\∀ c ∈ xs,c.shut=true:=by
 obtain ⟨n,h⟩:=h
 exact oJ hok n t _ _ ht h
theorem QM {c:C} {v:Value} (h:All2 (C.fv (k9 W)) [c] v.cells.toList) (hv:v.cells.toList=[v]) (hs:c.shut=true):(S.va (.c1 c)).rel (gm []) (k9 W) v:=by
 rw [hv] at h
 exact (C.rel_shut hs).2 (h.2 0 c v rfl rfl)
theorem P0 {cs:List C} {vs:Array Value} (h:All2 (C.fv (k9 W)) cs (Value.agg vs).cells.toList) (hs:∀ c ∈ cs,c.shut=true):(S.va (.gs cs)).rel (gm []) (k9 W) (.agg vs):=
 ⟨vs.toList,by simp,⟨by simpa [Value.cells] using h.1,fun i c v hc hv=>(C.rel_shut (hs c (bK hc))).2 (h.2 i c v hc (by simpa [Value.cells] using hv))⟩⟩
end
end Go.W
namespace Go.Proofs.YtkpohmhenegkiaaGreatDoor
open Go.W
theorem v3:Tryz.prog.underlying 3=some (.int .i64):=by kernel_rfl
theorem v4:Tryz.prog.underlying 4=some .bool:=by kernel_rfl
theorem v9:Tryz.prog.underlying 9=some .string:=by kernel_rfl
theorem v22:Tryz.prog.underlying 22=some (.slice 92):=by kernel_rfl
theorem v23:Tryz.prog.underlying 23=some (.slice 95):=by kernel_rfl
theorem v30:Tryz.prog.underlying 93=some (.slice 97):=by kernel_rfl
theorem v35:Tryz.prog.underlying 89=some (.slice 9):=by kernel_rfl
theorem PT:Tryz.prog.underlying 26=some (.slice 28):=by kernel_rfl
theorem v45:Tryz.prog.underlying 90=some (.slice 3):=by kernel_rfl
theorem QS:Tryz.prog.underlying 28=some (.struct #[⟨"Kind",3,0,false,"","",0⟩,⟨"Size",3,1,false,"","",8⟩,⟨"Name",9,2,false,"","",16⟩,⟨"Elem",26,3,false,"","",32⟩]):=by kernel_rfl
theorem v53:Tryz.prog.underlying 97=some (.struct #[⟨"Number",3,0,false,"","",0⟩,⟨"Name",9,1,false,"","",8⟩,⟨"Type",28,2,false,"","",24⟩,⟨"Optional",4,6,false,"","",80⟩]):=by kernel_rfl
theorem v32:Tryz.prog.underlying 95=some (.struct #[⟨"Name",9,0,false,"","",0⟩,⟨"Fields",93,1,false,"","",16⟩]):=by kernel_rfl
theorem v47:Tryz.prog.underlying 92=some (.struct #[⟨"Name",9,0,false,"","",0⟩,⟨"Names",89,1,false,"","",16⟩,⟨"Numbers",90,2,false,"","",40⟩]):=by kernel_rfl
theorem v25:Tryz.prog.underlying 25=some (.struct #[⟨"Version",3,0,false,"","",0⟩,⟨"Enums",22,1,false,"","",8⟩,⟨"Structs",23,2,false,"","",32⟩]):=by kernel_rfl
theorem mY {α:Type} {row:α->List C} {Q:α->Prop} {ys:List (List C)} (h:∀ r ∈ ys,∃ a,r=row a/\Q a):∃ l:List α,ys=l.map row/\∀ a ∈ l,Q a:=by
 induction ys with
 | nil=>exact ⟨[],rfl,fun a h=>by cases h⟩
 | cons r ys ih=>
  obtain ⟨l,h1,h2⟩:=ih fun r hr=>h r (List.mem_cons_of_mem _ hr)
  obtain ⟨a,h3,h4⟩:=h r List.mem_cons_self
  refine ⟨a :: l,by rw [h1,h3]; rfl,fun x hx=>?_⟩
  rcases List.mem_cons.1 hx with rfl | hx
  · exact h4
  · exact h2 x hx
theorem FC {n:Int} (h:(Lit.int .i64 n).wf=true):b6 n:=by simpa [b6,Lit.wf,IntKind.min,IntKind.max,IntKind.signed,IntKind.bits] using h
theorem lS {n:Nat} (h:n<=maxLen):n<=9223372036854775807:=by unfold maxLen at h; exact h
theorem aO4:∀ {t:TypeId} {cs:List C},Fit Tryz.prog t cs->(t=28->∃ a,cs=aN a/\TyOk a)/\(t=26->∃ l:List Ty,cs=[.fz (l.map aN)]/\l.length<=9223372036854775807/\∀ a ∈ l,TyOk a):=by
 intro t cs h
 induction h with
 | int h1 _=>exact ⟨fun e=>(by rw [e,QS] at h1; cases h1),fun e=>(by rw [e,PT] at h1; cases h1)⟩
 | bool h1=>exact ⟨fun e=>(by rw [e,QS] at h1; cases h1),fun e=>(by rw [e,PT] at h1; cases h1)⟩
 | str h1 _=>exact ⟨fun e=>(by rw [e,QS] at h1; cases h1),fun e=>(by rw [e,PT] at h1; cases h1)⟩
 | @sl t e xs h1 h2 h3 ih=>
  refine ⟨fun e=>(by rw [e,QS] at h1; cases h1),fun e=>?_⟩
  subst e
  rw [PT] at h1
  cases h1
  obtain ⟨l,rfl,hl⟩:=mY (row:=aN) (Q:=TyOk) fun r hr=>(ih r hr).1 rfl
  exact ⟨l,rfl,by have:=lS h2; simpa using this,hl⟩
 | @st t fs parts h1 h2 h3 ih=>
  refine ⟨fun e=>?_,fun e=>(by rw [e,PT] at h1; cases h1)⟩
  subst e
  rw [QS] at h1
  cases h1
  match parts,h2 with
  | [p0,p1,p2,p3],_=>
   obtain ⟨k,rfl,hk⟩:=Fit.inv_int v3 (h3 0 _ p0 rfl rfl)
   obtain ⟨s,rfl,hs⟩:=Fit.inv_int v3 (h3 1 _ p1 rfl rfl)
   obtain ⟨n,rfl,hn⟩:=Fit.inv_str v9 (h3 2 _ p2 rfl rfl)
   obtain ⟨l,rfl,hl,ho⟩:=(ih 3 _ p3 rfl rfl).2 rfl
   exact ⟨.mk k s n l,by rw [aN,aS]; rfl,.mk (FC hk) (FC hs) (lS hn) hl ho⟩
theorem YE {cs:List C} (h:Fit Tryz.prog 28 cs):∃ a,cs=aN a/\TyOk a:=(aO4 h).1 rfl
theorem aIZ {cs:List C} (h:Fit Tryz.prog 97 cs):∃ a:Fl,cs=aX a/\a.ok:=by
 obtain ⟨parts,rfl,h2,h3⟩:=Fit.inv_st v53 h
 match parts,h2 with
 | [p0,p1,p2,p3],_=>
  obtain ⟨k,rfl,hk⟩:=Fit.inv_int v3 (h3 0 _ p0 rfl rfl)
  obtain ⟨n,rfl,hn⟩:=Fit.inv_str v9 (h3 1 _ p1 rfl rfl)
  obtain ⟨t,rfl,ht⟩:=YE (h3 2 _ p2 rfl rfl)
  obtain ⟨b,rfl⟩:=Fit.inv_bool v4 (h3 3 _ p3 rfl rfl)
  exact ⟨⟨k,n,t,b⟩,by rw [aO]; rfl,FC hk,lS hn,ht⟩
theorem aH8 {cs:List C} (h:Fit Tryz.prog 95 cs):∃ a:St,cs=aP a/\a.ok:=by
 obtain ⟨parts,rfl,h2,h3⟩:=Fit.inv_st v32 h
 match parts,h2 with
 | [p0,p1],_=>
  obtain ⟨n,rfl,hn⟩:=Fit.inv_str v9 (h3 0 _ p0 rfl rfl)
  obtain ⟨ys,rfl,hl,hy⟩:=Fit.inv_sl v30 (h3 1 _ p1 rfl rfl)
  obtain ⟨l,rfl,ho⟩:=mY (row:=aX) (Q:=Fl.ok) fun r hr=>aIZ (hy r hr)
  exact ⟨⟨n,l⟩,rfl,lS hn,by have:=lS hl; simpa using this,ho⟩
theorem aG9 {cs:List C} (h:Fit Tryz.prog 92 cs):∃ a:En,cs=bI a/\a.ok:=by
 obtain ⟨parts,rfl,h2,h3⟩:=Fit.inv_st v47 h
 match parts,h2 with
 | [p0,p1,p2],_=>
  obtain ⟨n,rfl,hn⟩:=Fit.inv_str v9 (h3 0 _ p0 rfl rfl)
  obtain ⟨ys,rfl,hl,hy⟩:=Fit.inv_sl v35 (h3 1 _ p1 rfl rfl)
  obtain ⟨zs,rfl,hl2,hz⟩:=Fit.inv_sl v45 (h3 2 _ p2 rfl rfl)
  obtain ⟨l,rfl,ho⟩:=mY (row:=bM) (Q:=fun b=>b.size<=9223372036854775807) fun r hr=>by
   obtain ⟨s,rfl,hs⟩:=Fit.inv_str v9 (hy r hr); exact ⟨s,rfl,lS hs⟩
  obtain ⟨m,rfl,hm⟩:=mY (row:=cL) (Q:=b6) fun r hr=>by
   obtain ⟨s,rfl,hs⟩:=Fit.inv_int v3 (hz r hr); exact ⟨s,rfl,FC hs⟩
  exact ⟨⟨n,l,m⟩,rfl,lS hn,by have:=lS hl; simpa using this,by have:=lS hl2; simpa using this,ho,hm⟩
theorem aI6 (cs:List C) (h:Fit Tryz.prog 25 cs):∃ a:Sc,cs=aF a/\a.ok:=by
 obtain ⟨parts,rfl,h2,h3⟩:=Fit.inv_st v25 h
 match parts,h2 with
 | [p0,p1,p2],_=>
  obtain ⟨n,rfl,hn⟩:=Fit.inv_int v3 (h3 0 _ p0 rfl rfl)
  obtain ⟨ys,rfl,hl,hy⟩:=Fit.inv_sl v22 (h3 1 _ p1 rfl rfl)
  obtain ⟨zs,rfl,hl2,hz⟩:=Fit.inv_sl v23 (h3 2 _ p2 rfl rfl)
  obtain ⟨l,rfl,ho⟩:=mY (row:=bI) (Q:=En.ok) fun r hr=>aG9 (hy r hr)
  obtain ⟨m,rfl,hm⟩:=mY (row:=aP) (Q:=St.ok) fun r hr=>aH8 (hz r hr)
  exact ⟨⟨n,l,m⟩,rfl,FC hn,by have:=lS hl; simpa using this,by have:=lS hl2; simpa using this,ho,hm⟩
theorem aBJ (cs:List C) (h:Fit Tryz.prog 28 cs):∃ a,cs=aN a/\TyOk a:=YE h
end Go.Proofs.YtkpohmhenegkiaaGreatDoor
namespace Go.W
inductive FitW (P:Program):TypeId->List C->Prop
 | int {t:TypeId} {k:IntKind} {n:Int}:P.underlying t=some (.int k)->(Lit.int k n).wf=true->FitW P t [.vl (.int k n)]
 | bool {t:TypeId} {b:Bool}:P.underlying t=some .bool->FitW P t [.vl (.bool b)]
 | str {t:TypeId} {s:ByteArray}:P.underlying t=some .string->s.size<=maxLen->FitW P t [.vl (.string s)]
 | sl {t e:TypeId} {xs:List (List C)}:P.underlying t=some (.slice e)->xs.length<=maxLen->xs.length * P.bytesOf e<=reachBytes->(∀ r ∈ xs,FitW P e r)->FitW P t [.fz xs]
 | st {t:TypeId} {fs:Array Field} {parts:List (List C)}:P.underlying t=some (.struct fs)->parts.length=fs.size->(∀ (i:Nat) (f:Field) (p:List C),fs[i]? = some f->parts[i]? = some p->FitW P f.type p)->FitW P t parts.flatten
theorem FitW.fit {P:Program} {t:TypeId} {xs:List C} (h:FitW P t xs):Fit P t xs:=by
 induction h with
 | int h1 h2=>exact .int h1 h2
 | bool h1=>exact .bool h1
 | str h1 h2=>exact .str h1 h2
 | sl h1 h2 _ _ ih=>exact .sl h1 h2 ih
 | st h1 h2 _ ih=>exact .st h1 h2 ih
section
variable {P:Program} {t e:TypeId} {xs:List C}
theorem FitW.inv_sl (ht:P.underlying t=some (.slice e)) (h:FitW P t xs):∃ ys:List (List C),xs=[.fz ys]/\ys.length<=maxLen/\ys.length * P.bytesOf e<=reachBytes/\∀ r ∈ ys,FitW P e r:=by
 cases h with
 | int h1 h2=>rw [ht] at h1; cases h1
 | bool h1=>rw [ht] at h1; cases h1
 | str h1=>rw [ht] at h1; cases h1
 | sl h1 h2 h3 h4=>rw [ht] at h1; cases h1; exact ⟨_,rfl,h2,h3,h4⟩
 | st h1 h2 h3=>rw [ht] at h1; cases h1
theorem FitW.inv_st {fs:Array Field} (ht:P.underlying t=some (.struct fs)) (h:FitW P t xs):∃ parts:List (List C),xs=parts.flatten/\parts.length=fs.size/\∀ (i:Nat) (f:Field) (p:List C),fs[i]? = some f->parts[i]? = some p->FitW P f.type p:=by
 cases h with
 | int h1 h2=>rw [ht] at h1; cases h1
 | bool h1=>rw [ht] at h1; cases h1
 | str h1=>rw [ht] at h1; cases h1
 | sl h1=>rw [ht] at h1; cases h1
 | st h1 h2 h3=>rw [ht] at h1; cases h1; exact ⟨_,rfl,h2,h3⟩
end
section
variable {H:Type} {enc:TypeId × Value->H} {P:Program} {W:World} {ts:List TypeId}
end
end Go.W
