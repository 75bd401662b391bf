/- Lemmas and walks for the proof. -/
import Derived.Test.YtkpohmhenegkiaaGreatDoorHd
import Derived.Test.YtkpohmhenegkiaaGreatDoorProg
import Derived.Shelf.Strconv.Itoa4
set_option maxRecDepth 100000
set_option maxHeartbeats 8000000
namespace Go.Proofs.YtkpohmhenegkiaaGreatDoor
open Go.W
theorem HP:TyOk default:=.mk (by unfold cH; decide) (by unfold cH; decide) (by decide) (by decide) (fun _ h=>by cases h)
theorem aHR {fs:List Fl} {u:St} (hu:u.ok) (e:fs=u.fs) (k:Int):TyOk ((fF fs k).getD default).ty:=by
 subst e
 cases hf:fF u.fs k with
 | none=>exact HP
 | some g=>exact (hu.fs g (List.mem_of_find?_eq_some hf)).ty
theorem R4 (N:Nat) (hc:Meets Tryz.prog 53 (i7 (ckH N) Z1).sp):Meets Tryz.prog 94 (i7 (fun _ _ v=>v.h<=N + 1) fun s t v=>.int .i64 (OV s t v)).sp:=by
 refine aE Tryz.func94 aN0 3 (by rw [Tryz.ntmps94]; decide) (aH hc (aB oI (aH aFT (aB s9 (aA _))))) lV ?_
 intro av H K h
 obtain ⟨s,t,v,rfl,rfl,hs,ht,hv,hh,hK⟩:=jX h
 clear h
 have fin:∀ (z:Int) (R:Hp),OV s t v=z->W.Fin 0 K (iS .i64 z) R:=fun z R h=>by
  rw [h] at hK; exact .sel [] (by simp) (by simp) rfl (.done (by simpa [go_sem] using hK))
 clear hK
 unfold OV at fin
 have hlf:=hv.lf
 have kS:=U6 hs t.n
 have kE:=aBC hv
 simp (maxSteps:=1000000) -dsimp only [go_sem,aG,aO t,aX v,aIC,aEJ]
 refine lS (s:=s) hs ?_
 generalize (fS s.ss t.n).getD default=u at *
 obtain ⟨huo,hus⟩:u.ok/\∀ f ∈ u.fs,TySm f.ty:=by
  obtain ⟨w,hw,h1,h2⟩:=kS
  obtain rfl:=vT hw
  exact ⟨h1,h2⟩
 have kd:=aEW u
 have kv:=aGQ v.f
 rw [aP] at kS kd
 simp (maxSteps:=1000000) -dsimp only [go_sem,aP]
 refine aF rfl (.done ?_)
 cases h0:(v.n != 0 || !(bl v.s == []) || decide (0 < (v.l.length:Int)) || !(dR u.fs v.f)) with
 | true=>
  rw [h0] at fin
  cases h1:v.n != 0<;>cases h2:bl v.s == []<;>cases h3:decide (0 < (v.l.length:Int))<;>cases h4:dR u.fs v.f <;>
  first
   | (exfalso; rw [h1,h2,h3,h4] at h0; exact absurd h0 (by decide))
   | (simp (maxSteps:=1000000) -dsimp only [go_sem,z8,h1,h2,h3,h4,kS,kE,kd]
      exact fin _ _ rfl)
 | false=>
 rw [h0] at fin
 simp only [aD] at fin
 obtain ⟨h1,h2,h3,h4⟩:(v.n != 0)=false/\(bl v.s == [])=true/\decide (0 < (v.l.length:Int))=false/\dR u.fs v.f=true:=by
  simp only [Bool.or_eq_false_iff,Bool.not_eq_false'] at h0; exact ⟨h0.1.1.1,h0.1.1.2,h0.1.2,h0.2⟩
 simp (maxSteps:=1000000) -dsimp only [go_sem,z8,h1,h2,h3,h4,kS,kE,kd]
 refine aL (α:=Nat) (fun i=>[(3,.va (.c1 (.pt 0 0))),(4,.va (.c1 (.pt 1 0))),(5,.va (.c1 (.pt 2 0))),(7,.va (.c1 (.pt 3 0))),(44,.va (.c1 (.fz (v.f.map cJ)))),(45,iS .i64 v.f.length),(46,iS .i64 i)]) (fun _=>[.cells (aG s) 105,.cells [.vl (.int .i64 t.k),.vl (.int .i64 t.s),.vl (.string t.n),.fz (t.e.map aN)] 28,.cells (bO v) 32,.cells (aP u) 95])
  (fun i=>i<=v.f.length/\kC s u.fs (v.f.drop i)=kC s u.fs v.f) (fun i=>v.f.length - i) 0 4 ⟨Nat.zero_le _,rfl⟩ ?_ ?_ ?_
 · simp -dsimp only [go_sem]<;>simp
 · simp -dsimp only [go_sem,bO,aG,aP]<;>simp
 rintro i ⟨hi,ho⟩
 rcases bF i v.f.length with hlt | hge
 · have hg:decide ((i:Int) < (v.f.length:Int))=true:=by simp; omega
   obtain ⟨x,hx⟩:∃ t,v.f[i]? = some t:=⟨_,aW hlt⟩
   have q1:=AU hx
   have hxm:=bJ hx
   have k1:=f6 (hv.f x hxm)
   have k2:=lK x.2
   have k3:x.2.h<=N:=by have:=Vl.h_f hxm; omega
   have hdr:v.f.drop i=x :: v.f.drop (i + 1):=by
    obtain ⟨h,rfl⟩:=a6.1 hx
    exact List.drop_eq_getElem_cons h
   have k6:=jL hs
   have k7:=oG s
   rw [hdr,xK] at ho
   have hgo:=aHR huo rfl x.1
   simp (maxSteps:=1000000) -dsimp only [go_sem,hg,↓q1,bO,aG,aP]
   refine ⟨by omega,aF rfl (.done ?_)⟩
   simp (maxSteps:=1000000) -dsimp only [go_sem,JK]
   refine MI (t:=u) huo hus ?_
   generalize (fF u.fs x.1).getD default=g at *
   have k4:=jG hgo
   have k5:=oN g.ty
   simp (maxSteps:=1000000) -dsimp only [go_sem,aZ]
   refine aF rfl (.done ?_)
   simp (maxSteps:=1000000) -dsimp only [go_sem,HE,k1,k2,k3,k4,k5,k6,k7]
   refine aF rfl (.done ?_)
   cases h5:eL s g.ty x.2 != 0 with
   | true=>
    rw [h5,aI] at ho
    simp (maxSteps:=1000000) -dsimp only [go_sem,BO,h5]
    exact fin _ _ ho.symm
   | false=>
    rw [h5,aD] at ho
    simp (maxSteps:=1000000) -dsimp only [go_sem,BO,h5]
    refine ⟨by omega,aC (i + 1) 4 ⟨by omega,ho⟩ (by omega) ?_ ?_⟩
    · simp -dsimp only [go_sem]<;>simp
    · simp -dsimp only [go_sem,bO,aG,aP]<;>simp [bO,aG,aP]
 · have hg:decide ((i:Int) < (v.f.length:Int))=false:=by simp; omega
   obtain rfl:i=v.f.length:=by omega
   rw [List.drop_length,kC] at ho
   simp (maxSteps:=1000000) -dsimp only [go_sem,hg,bO,aG,aP]
   exact fin _ _ ho.symm
theorem DS:∀ N,Meets Tryz.prog 53 (i7 (ckH N) Z1).sp
 | 0=>⟨by kernel_rfl,by rintro xs vs E ro w K _ _ _ h; obtain ⟨_,_,v,_,_,_,_,_,h,_⟩:=jX h; have:=v.h_pos; have h:v.h<=0:=h; omega⟩
 | N + 1=>by
  refine aE Tryz.func53 aOK 3 (by rw [Tryz.ntmps53]; decide) (aH xF (aH VX (aH aIH (aH (aG1 N (DS N)) (aH (R4 N (DS N)) (aA _)))))) lV ?_
  intro av H K h
  obtain ⟨s,t,v,rfl,rfl,hs,ht,hv,hh,hK⟩:=jX h
  clear h
  have hh:v.h<=N + 1:=hh
  have fin:∀ (z:Int) (R:Hp),eL s t v=z->W.Fin 0 K (iS .i64 z) R:=fun z R h=>by
   have hK:K (iS .i64 (eL s t v)) []:=hK
   rw [h] at hK; exact .sel [] (by simp) (by simp) rfl (.done (by simpa [go_sem] using hK))
  clear hK
  rw [s5] at fin
  have k1:=f6 hv
  have k2:=lK v
  have k4:=jG ht
  have k5:=oN t
  have k6:=jL hs
  have k7:=oG s
  cases h1:valF s.ss s.es t with
  | false=>
   rw [h1] at fin
   simp (maxSteps:=1000000) -dsimp only [go_sem,aG,aO t,aX v,yC,yH,k4,k5,k6,k7,h1]
   exact fin _ _ rfl
  | true=>
  cases h2:v.k != t.k with
  | true=>
   rw [h1,h2] at fin
   simp (maxSteps:=1000000) -dsimp only [go_sem,aG,aO t,aX v,yC,yH,k4,k5,k6,k7,h1,h2]
   exact fin _ _ rfl
  | false=>
  rw [h1,h2] at fin
  simp only [Bool.not_true,Bool.or_self,aD] at fin
  cases h4:t.k == 4 with
  | true=>
   rw [h4,aI] at fin
   simp (maxSteps:=1000000) -dsimp only [go_sem,aG,aO t,aX v,yC,yH,k1,k2,k4,k5,k6,k7,h1,h2,h4,List.all_cons,List.all_nil]
   exact fin _ _ rfl
  | false=>
  rw [h4,aD] at fin
  cases h5:t.k == 5 with
  | true=>
   rw [h5,aI] at fin
   simp (maxSteps:=1000000) -dsimp only [go_sem,aG,aO t,aX v,yC,yH,k1,k2,k4,k5,k6,k7,h1,h2,h4,h5,hh,List.all_cons,List.all_nil]
   exact fin _ _ rfl
  | false=>
  rw [h5,aD] at fin
  cases h6:t.k == 6 with
  | true=>
   rw [h6,aI] at fin
   simp (maxSteps:=1000000) -dsimp only [go_sem,aG,aO t,aX v,yC,yH,k1,k2,k4,k5,k6,k7,h1,h2,h4,h5,h6,hh,List.all_cons,List.all_nil]
   exact fin _ _ rfl
  | false=>
  rw [h6,aD] at fin
  simp (maxSteps:=1000000) -dsimp only [go_sem,aG,aO t,aX v,yC,yH,k1,k2,k4,k5,k6,k7,h1,h2,h4,h5,h6,List.all_cons,List.all_nil]
  exact fin _ _ rfl
def fG (s:Sc) (t:Ty) (v:Vl):Int:=bif decide (6 < s4 7 v) then 9 else eL s t v
theorem aBU:Meets Tryz.prog 53 (i7 (fun _ _ _=>True) Z1).sp:=eU 0 DS fun av H K h=>by
 obtain ⟨s,t,v,rfl,rfl,hs,ht,hv,_,hK⟩:=jX h
 refine ⟨v.h,⟨⟨gA hs,eH ht,CF hv,?_⟩,rfl⟩,?_⟩
 · show (C.vv (bK v)).h<=v.h; rw [uD]; exact Nat.le_refl _
 · simpa -dsimp only [go_sem] using hK
theorem CJ:Meets Tryz.prog 23 (i7 (fun _ _ _=>True) fun s t v=>.int .i64 (fG s t v)).sp:=by
 refine aE Tryz.func23 aRS 3 (by rw [Tryz.ntmps23]; decide) (aH (NP 8) (aH aBU (aA _))) lV ?_
 intro av H K h
 obtain ⟨s,t,v,rfl,rfl,hs,ht,hv,_,hK⟩:=jX h
 clear h
 have fin:∀ (z:Int) (R:Hp),fG s t v=z->W.Fin 0 K (iS .i64 z) R:=fun z R h=>by
  rw [h] at hK; exact .sel [] (by simp) (by simp) rfl (.done (by simpa [go_sem] using hK))
 clear hK
 unfold fG at fin
 have k1:=f6 hv
 have k2:=lK v
 have k4:=jG ht
 have k5:=oN t
 have k6:=jL hs
 have k7:=oG s
 have e8:((6:Int)=((8:Nat):Int) - 2)=True:=by decide
 have e9:jK 8 v=s4 7 v:=rfl
 cases h1:decide (6 < s4 7 v) with
 | true=>
  rw [h1] at fin
  simp (maxSteps:=1000000) -dsimp only [go_sem,aG,aO t,aX v,VM,VP,k1,k2,e8,e9,h1]
  exact fin _ _ rfl
 | false=>
  rw [h1] at fin
  simp (maxSteps:=1000000) -dsimp only [go_sem,aG,aO t,aX v,VM,VP,k1,k2,k4,k5,k6,k7,e8,e9,h1]
  exact fin _ _ rfl
theorem aA2:∀ (m:Nat) (r:List UInt8) (i:Nat) (out:List UInt8),r.length=m->(quoL i r out).1<=i + r.length:=by
 intro m
 induction m using Nat.strongRecOn with
 | ind m ih=>
  intro r i out hm
  cases r with
  | nil=>rw [lN]; exact Nat.le_add_right _ _
  | cons c r=>
   rw [eS]
   simp only [List.length_cons] at hm ⊢
   cases (decide (c < 32) || decide (126 < c)) with
   | true=>simp
   | false=>
    cases (c == 34) with
    | true=>simp
    | false=>
     cases (c == 92) with
     | true=>
      simp only [aD,aI]
      cases r with
      | nil=>simp
      | cons d r'=>
       simp only [List.length_cons] at hm ⊢
       cases (d == 34 || d == 92) with
       | true=>simp only [aI]; have:=ih r'.length (by omega) r' (i + 2) (out ++ [d]) rfl; omega
       | false=>simp
     | false=>
      simp only [aD]
      have:=ih r.length (by omega) r (i + 1) (out ++ [c]) rfl; omega
structure Told (l:List UInt8) (p:Nat) (k:Int) (x:List UInt8) (n:Int) (z:Nat):Prop where
 zero:k=0->p=l.length/\x=[]/\n=0
 one:k ≠ 0->∃ c,l[p]? = some c/\p < z/\z<=l.length/\0 < k/\k<=4/\32 < c.toNat/\c.toNat ≠ 35/\(c == 34)=(k == 3)/\(k == 1)=bD c.toNat
theorem A2 {l:List UInt8} {a:Nat} (ha:a<=l.length):(∀ {e t},fJ l a=.bad e t->0<=t/\t<=l.length)/\∀ {k x n z},fJ l a=.ok k x n z->k=1:=by
 have:=nZ (p:=aU) ha
 unfold fJ
 simp only
 cases decide (16 < bC aU l a - a)<;>cases (l[bC aU l a]? == some 45)<;>simp [R.bad.injEq,R.ok.injEq]
 all_goals (intros; omega)
theorem tE {l:List UInt8} {a:Nat} {c:UInt8} (hc:l[a]? = some c):(∀ {e t},fM l a=.bad e t->0<=t/\t<=l.length)/\∀ {k x n z},fM l a=.ok k x n z->k=2:=by
 have hlt:a < l.length:=(a6.1 hc).1
 have hge:(bif l[a]? == some 45 then a + 1 else a)<=l.length:=by cases (l[a]? == some 45)<;>simp<;>omega
 have hz2:=nZ (p:=a7) hge
 unfold fM
 simp only
 generalize (List.drop (bif l[a]? == some 45 then a + 1 else a) (List.take (bC a7 l (bif l[a]? == some 45 then a + 1 else a)) l))=q
 cases (q == [] || (q[0]? == some 48 && (decide (1 < q.length) || l[a]? == some 45))) with
 | true=>simp only [aI,R.bad.injEq,reduceCtorEq,false_implies,implies_true,and_true]; rintro e t ⟨rfl,rfl⟩; omega
 | false=>
  simp only [aD]
  split
  · simp only [R.bad.injEq,reduceCtorEq,false_implies,implies_true,and_true]; rintro e t ⟨rfl,rfl⟩; omega
  · cases kY l (bC a7 l (bif l[a]? == some 45 then a + 1 else a))<;>simp only [aI,aD,R.bad.injEq,R.ok.injEq,reduceCtorEq,false_implies,implies_true,and_true,true_and]
    · rintro k x n z ⟨rfl,_⟩; rfl
    · rintro e t ⟨rfl,rfl⟩; omega
theorem rE {l:List UInt8} {a:Nat} (ha:a < l.length):(∀ {e t},e7 l a=.bad e t->0<=t/\t<=l.length)/\∀ {k x n z},e7 l a=.ok k x n z->k=3:=by
 have:=aA2 _ (l.drop (a + 1)) (a + 1) [] rfl
 simp only [List.length_drop] at this
 unfold e7
 split
 · rename_i i hq
   rw [hq] at this
   simp only at this
   constructor
   · intro e t h; simp only [R.bad.injEq] at h; omega
   · intro k x n z h; cases h
 · rename_i z o hq
   cases decide (200 < o.length)<;>simp [R.bad.injEq,R.ok.injEq]
   all_goals (intros; omega)
def N0 (c:UInt8):Bool:=
 (!(bD c.toNat || a7 c || c == 45 || c == 34 || dB c.toNat) || (decide (32 < c.toNat) && c.toNat != 35)) && (!bD c.toNat || !(c == 34)) && (!(a7 c || c == 45) || !(c == 34)) && (!dB c.toNat || !(c == 34))
theorem SX (c:UInt8):N0 c=true:=cN (by decide +kernel) c
theorem mN {l:List UInt8} {p:Nat} (hp:p<=l.length):(∀ {e t},cF l p=.bad e t->e ≠ 0/\0<=t/\t<=l.length)/\∀ {k x n z},cF l p=.ok k x n z->Told l p k x n z:=by
 obtain ⟨hb,ho⟩:=zL hp
 refine ⟨fun {e t} h=>⟨hb h,?_⟩,fun {k x n z} h=>?_⟩
 · unfold cF at h
   split at h
   · cases h
   · rename_i c hc
     have hlt:p < l.length:=(a6.1 hc).1
     revert h
     cases bD c.toNat with
     | true=>exact fun h=>(A2 hp).1 h
     | false=>
      cases (a7 c || c == 45) with
      | true=>exact fun h=>(tE hc).1 h
      | false=>
       cases (c == 34) with
       | true=>exact fun h=>(rE hlt).1 h
       | false=>
        cases dB c.toNat with
        | true=>intro h; cases h
        | false=>intro h; simp only [aD,R.bad.injEq] at h; omega
 · obtain ⟨o1,o2⟩:=ho h
   unfold cF at h
   split at h
   · simp only [R.ok.injEq] at h
     exact ⟨fun h0=>⟨o1 h0,h.2.1.symm,h.2.2.1.symm⟩,fun h0=>absurd h.1.symm h0⟩
   · rename_i c hc
     have hlt:p < l.length:=(a6.1 hc).1
     have hs:=SX c
     unfold N0 at hs
     have key:∀ {q:Int},k=q->0 < q->q<=4->(32 < c.toNat/\c.toNat ≠ 35)->(c == 34)=(q == 3)->(q == 1)=bD c.toNat->Told l p k x n z:=by
      rintro q rfl h1 h2 h3 h4 h5
      obtain ⟨h6,h7⟩:=o2 (by omega)
      exact ⟨fun h=>by omega,fun _=>⟨c,hc,h6,h7,h1,h2,h3.1,h3.2,h4,h5⟩⟩
     revert h hs
     cases hL:bD c.toNat with
     | true=>
      intro h hs
      simp at hs
      exact key ((A2 hp).2 h) (by omega) (by omega) hs.1.1.1 (by simpa using hs.1.1.2) (by rw [hL]; rfl)
     | false=>
      cases hd:(a7 c || c == 45) with
      | true=>
       intro h hs
       have hd':a7 c=true\/c=45:=by simpa using hd
       simp only [Bool.false_or,hd,Bool.true_or,Bool.not_true,Bool.not_false,Bool.and_true,Bool.true_and,Bool.and_eq_true] at hs
       simp at hs
       exact key ((tE hc).2 h) (by omega) (by omega) hs.1.1 (by simpa using hs.1.2) (by rw [hL]; rfl)
      | false=>
       cases h4:(c == 34) with
       | true=>
        intro h hs
        have:c=34:=by simpa using h4
        subst this
        exact key ((rE hlt).2 h) (by omega) (by omega) (by decide) (by rfl) (by rw [hL]; rfl)
       | false=>
        cases hm:dB c.toNat with
        | true=>
         intro h hs
         simp only [Bool.false_or,hd,Bool.or_true,Bool.not_true,Bool.not_false,Bool.and_true,Bool.true_and,Bool.and_eq_true] at hs
         simp at hs
         simp only [aD,aI,R.ok.injEq] at h
         exact key h.1.symm (by omega) (by omega) hs (by rw [h4]; rfl) (by rw [hL]; rfl)
        | false=>intro h hs; cases h
def tO (l:List UInt8):Nat->List Tk->Prop
 | _,[]=>False
 | a,t :: ts=>a<=t.a/\t.a<=l.length/\∃ z,Told l t.a t.k t.x t.n z/\(t.k=0->ts=[])/\(t.k ≠ 0->tO l z ts)
theorem E8 {l:List UInt8}:∀ (f a:Nat) (ts:List Tk),a<=l.length->l.length < f + a->c8 f l a=.ok ts->tO l a ts
 | 0,a,ts,ha,hf,h=>by omega
 | f + 1,a,ts,ha,hf,h=>by
  have hpl:bI l a<=l.length:=lP ha
  have hpa:a<=bI l a:=rO
  rw [c8] at h
  split at h
  · cases h
  · rename_i k x n z hR
    have ht:=(mN hpl).2 hR
    cases hk:k == 0 with
    | true=>
     rw [hk] at h
     simp only [aI,SR.ok.injEq] at h
     subst h
     exact ⟨hpa,hpl,z,ht,fun _=>rfl,fun h=>absurd (by simpa using hk) h⟩
    | false=>
     rw [hk] at h
     have hk':k ≠ 0:=by simpa using hk
     obtain ⟨c,_,h1,h2,_⟩:=ht.one hk'
     cases hr:c8 f l z with
     | bad e t=>rw [hr] at h; cases h
     | ok us=>
      rw [hr] at h
      simp only [aD,SR.cons,SR.ok.injEq] at h
      subst h
      exact ⟨hpa,hpl,z,ht,fun h=>absurd h hk',fun _=>E8 f z us h2 (by omega) hr⟩
theorem HT {l:List UInt8}:∀ (f a:Nat) (e t:Int),a<=l.length->c8 f l a=.bad e t->e ≠ 0/\0<=t/\t<=l.length
 | 0,a,e,t,ha,h=>by cases h
 | f + 1,a,e,t,ha,h=>by
  have hpl:bI l a<=l.length:=lP ha
  rw [c8] at h
  split at h
  · rename_i e' t' hR
    have:=(mN hpl).1 hR
    simp only [SR.bad.injEq] at h
    obtain ⟨rfl,rfl⟩:=h; exact this
  · rename_i k x n z hR
    have ht:=(mN hpl).2 hR
    cases hk:k == 0 with
    | true=>rw [hk] at h; cases h
    | false=>
     rw [hk] at h
     have hk':k ≠ 0:=by simpa using hk
     obtain ⟨c,_,h1,h2,_⟩:=ht.one hk'
     cases hr:c8 f l z with
     | bad e' t'=>rw [hr] at h; simp only [aD,SR.cons,SR.bad.injEq] at h; obtain ⟨rfl,rfl⟩:=h; exact HT f z _ _ h2 hr
     | ok us=>rw [hr] at h; cases h
theorem OQ (l:List UInt8):(aQ l).err ≠ 0/\(aQ l).toks=[]/\0<=(aQ l).off/\(aQ l).off<=l.length\/(aQ l).err=0/\(aQ l).off=0/\l.length<=4000/\tO l 0 (aQ l).toks:=by
 unfold aQ
 cases h:decide (4000 < l.length) with
 | true=>left; exact ⟨by simp [SR.err],rfl,by simp [SR.off],by simp [SR.off]⟩
 | false=>
  have h4:l.length<=4000:=by simpa using h
  simp only [aD]
  cases hr:c8 (l.length + 1) l 0 with
  | bad e t=>left; obtain ⟨h1,h2,h3⟩:=HT _ _ _ _ (by omega) hr; exact ⟨h1,rfl,h2,h3⟩
  | ok ts=>right; exact ⟨rfl,rfl,h4,E8 _ _ _ (by omega) (by omega) hr⟩
theorem NR {l:List UInt8} {a:Nat} {ts:List Tk} (h:tO l a ts):0 < ts.length:=by
 cases ts with
 | nil=>exact h.elim
 | cons t ts=>simp
theorem I1 {l:List UInt8}:∀ {a:Nat} {ts:List Tk},tO l a ts->ts.length + a<=l.length + 1
 | a,[],h=>h.elim
 | a,t :: ts,⟨h1,h2,z,h3,h4,h5⟩=>by
  rcases Decidable.em (t.k=0) with h0 | h0
  · rw [h4 h0]; simp only [List.length_cons,List.length_nil]; omega
  · obtain ⟨c,_,g1,_⟩:=h3.one h0
    have:=I1 (h5 h0)
    simp only [List.length_cons]; omega
theorem ND {l:List UInt8}:∀ {a:Nat} {ts:List Tk} {i:Nat} {t:Tk},tO l a ts->ts[i]? = some t->
 a<=t.a/\t.a<=l.length/\(∃ z,Told l t.a t.k t.x t.n z)/\(t.k=0 ↔ i + 1=ts.length)/\∀ u,0 < i->ts[i - 1]? = some u->u.a < t.a
 | a,[],i,t,h,_=>h.elim
 | a,s :: ts,0,t,⟨h1,h2,z,h3,h4,h5⟩,hi=>by
  simp at hi; subst hi
  refine ⟨h1,h2,⟨z,h3⟩,⟨fun h=>by rw [h4 h]; rfl,fun h=>?_⟩,fun u h=>by omega⟩
  rcases Decidable.em (s.k=0) with h0 | h0
  · exact h0
  · have:=NR (h5 h0); simp only [List.length_cons] at h; omega
 | a,s :: ts,i + 1,t,⟨h1,h2,z,h3,h4,h5⟩,hi=>by
  simp at hi
  have h0:s.k ≠ 0:=fun h=>by rw [h4 h] at hi; simp at hi
  obtain ⟨c,_,g1,g2,_⟩:=h3.one h0
  obtain ⟨q1,q2,q3,q4,q5⟩:=ND (h5 h0) hi
  refine ⟨by omega,q2,q3,by rw [q4]; simp,fun u _ hu=>?_⟩
  simp only [Nat.add_sub_cancel] at hu
  cases i with
  | zero=>simp at hu; subst hu; omega
  | succ i=>simp at hu; exact q5 u (by omega) (by simpa using hu)
def GB:List S->Prop:=fun xs=>match xs with
 | [.va (.c1 (.vl (.string s))),.va (.c1 (.vl (.int .i64 a)))]=>0<=a/\a<=(bl s).length/\(bl s).length<=4000
 | _=>False
theorem rA {xs:List S} (h:GB xs):∃ s a,xs=[tS s,iS .i64 a]/\0<=a/\a<=(bl s).length/\(bl s).length<=4000:=by
 unfold GB at h
 split at h
 · exact ⟨_,_,rfl,h⟩
 · exact h.elim
def XW (f:List UInt8->Nat->Value):List S->A:=fun xs=>match xs with
 | [.va (.c1 (.vl (.string s))),.va (.c1 (.vl (.int .i64 a)))]=>.c1 (.vl (f (bl s) a.toNat))
 | _=>.gs []
def U3 (f:List UInt8->Nat->Value):Fun:=⟨GB,XW f,fun xs h=>by obtain ⟨s,a,rfl,_⟩:=rA h; trivial⟩
theorem WD {f:List UInt8->Nat->Value}:∀ xs H K,(U3 f).sp xs H K->xs.length=2:=fun xs H K h=>by obtain ⟨s,a,rfl,_⟩:=rA h.1.1; rfl
attribute [go_sem] U3 GB XW
theorem aC2:Meets Tryz.prog 35 (U3 fun l a=>.int .i64 (bI l a)).sp:=by
 refine aE Tryz.func35 aNO 2 (by rw [Tryz.ntmps35]; decide) (aA _) WD ?_
 rintro xs H K ⟨⟨h,rfl⟩,hK⟩
 obtain ⟨s,a,rfl,h0,h1,h2⟩:=rA h
 simp -dsimp only [go_sem,aIX,aDN] at hK ⊢
 have h10:∀ c:UInt8,((c.toNat:Int) == 10)=(c == 10):=fun c=>eD 10
 have h35:∀ c:UInt8,((c.toNat:Int) == 35)=(c == 35):=fun c=>eD 35
 have h32:∀ c:UInt8,((c.toNat:Int) == 32)=(c == 32):=fun c=>eD 32
 have h9:∀ c:UInt8,((c.toNat:Int) == 9)=(c == 9):=fun c=>eD 9
 refine aL (α:=Bool × Nat) (fun z=>[(0,tS s),(1,iS .i64 z.2),(5,bS z.1)]) (fun z=>[]) (fun z=>z.2<=(bl s).length/\z.2 + dE z.1 ((bl s).drop z.2)=bI (bl s) a.toNat) (fun z=>(bl s).length - z.2) (false,a.toNat) 0 ⟨by simp only; omega,rfl⟩ ?_ ?_ ?_
 · simp -dsimp only [go_sem]; simp [Int.toNat_of_nonneg h0]
 · simp [go_sem]
 rintro ⟨r,i⟩ ⟨hi,hr⟩
 simp only at hi hr
 simp -dsimp only [go_sem,bne,h10,h35,h32,h9]
 refine ⟨fun hlt=>⟨⟨by omega,by simpa using hlt⟩,fun c hc=>?_⟩,fun hge=>bW hK ?_⟩
 · have hlt:i < (bl s).length:=(a6.1 hc).1
   rw [cA hc] at hr
   simp only [dE] at hr
   have hstep:∀ r':Bool,(bif c == 35 then true else bif c == 10 then false else r)=r'->(!r' && !(c == 32 || c == 9 || c == 10))=false->i + 1 + dE r' ((bl s).drop (i + 1))=bI (bl s) a.toNat:=by
    rintro r' rfl h
    rw [h,aD] at hr
    omega
   have hend:∀ r':Bool,(bif c == 35 then true else bif c == 10 then false else r)=r'->(!r' && !(c == 32 || c == 9 || c == 10))=true->i=bI (bl s) a.toNat:=by
    rintro r' rfl h
    rw [h,aI] at hr
    omega
   refine ⟨fun q1=>⟨fun q2=>?_,fun q2=>⟨fun q3=>?_,fun q3=>⟨by omega,aC (false,i + 1) 0 ⟨by simp only; omega,hstep _ (by simp [q1,q2]) (by simp [q1])⟩ (by simp only; omega) ?_ ?_⟩⟩⟩,
    fun q1=>⟨fun q2=>⟨by omega,aC (true,i + 1) 0 ⟨by simp only; omega,hstep _ (by simp [q2]) (by simp)⟩ (by simp only; omega) ?_ ?_⟩,
     fun q2=>⟨fun q3=>?_,fun q3=>⟨by omega,aC (r,i + 1) 0 ⟨by simp only; omega,hstep _ (by simp [q1,q2]) (by simpa [Bool.and_assoc] using q3)⟩ (by simp only; omega) ?_ ?_⟩⟩⟩⟩
   · exfalso
     have e1:c=10:=by simpa using q1
     subst e1; cases q2
   · simp [q1] at q3
   · simp -dsimp only [go_sem]; simp
   · simp [go_sem]
   · simp -dsimp only [go_sem]; simp
   · simp [go_sem]
   · refine bW hK ?_
     rw [<-hend r (by simp [q1,q2]) (by simpa [Bool.and_assoc] using q3)]
   · simp -dsimp only [go_sem]; simp
   · simp [go_sem]
 · have:i=(bl s).length:=by simp at hge; omega
   subst this
   simp [dE] at hr
   rw [<-hr]
def yR (pre:List UInt8->Nat->Prop) (post:ByteArray->Int->(S->Hp->Prop)->Prop):W.Spec:=fun xs H K=>
 match xs,H with
 | [.va (.c1 (.vl (.string s))),.va (.c1 (.vl (.int .i64 a)))],[]=>(0<=a/\a<=(bl s).length/\(bl s).length<=4000/\pre (bl s) a.toNat)/\post s a K
 | _,_=>False
theorem oY {pre:List UInt8->Nat->Prop} {post:ByteArray->Int->(S->Hp->Prop)->Prop} {xs:List S} {H:Hp} {K:S->Hp->Prop} (h:yR pre post xs H K) :
 ∃ s a,xs=[tS s,iS .i64 a]/\H=[]/\0<=a/\a<=(bl s).length/\(bl s).length<=4000/\pre (bl s) a.toNat/\post s a K:=by
 unfold yR at h
 split at h
 · exact ⟨_,_,rfl,rfl,h.1.1,h.1.2.1,h.1.2.2.1,h.1.2.2.2,h.2⟩
 · exact h.elim
theorem yT {pre:List UInt8->Nat->Prop} {post:ByteArray->Int->(S->Hp->Prop)->Prop}:∀ xs H K,yR pre post xs H K->xs.length=2:=fun xs H K h=>by
 obtain ⟨s,a,rfl,_⟩:=oY h; rfl
attribute [go_sem ↓] yR
def Got:R->ByteArray->Int->Int->Int->Int->Prop
 | .ok _ x n z,x',n',z',e',t'=>x'=mk x/\n'=n/\z'=z/\e'=0/\t'=0
 | .bad e t,_,_,_,e',t'=>e'=e/\t'=t
def QG:W.Spec:=yR (fun _ _=>True) fun s a K=>∀ x n z e t,Got (fJ (bl s) a.toNat) x n z e t->z=bC aU (bl s) a.toNat->K (.tu [iA .i64 z,iA .i64 e,iA .i64 t]) []
attribute [go_sem ↓] QG
theorem aEA:Meets Tryz.prog 37 QG:=by
 refine aE Tryz.func37 aPP 2 (by rw [Tryz.ntmps37]; decide) (aH IJ (aA _)) yT ?_
 intro xs H K h
 obtain ⟨s,a,rfl,rfl,h0,h1,h2,-,hK⟩:=oY h
 simp -dsimp only [go_sem,aDJ,aIG] at hK ⊢
 have h45:∀ c:UInt8,((c.toNat:Int) == 45)=(c == 45):=fun c=>eD 45
 refine aL (α:=Nat) (fun z=>[(0,tS s),(1,iS .i64 a),(7,iS .i64 z)]) (fun z=>[]) (fun z=>a.toNat<=z/\z<=(bl s).length/\bC aU (bl s) z=bC aU (bl s) a.toNat) (fun z=>(bl s).length - z) a.toNat 0 ⟨by omega,by omega,rfl⟩ ?_ ?_ ?_
 · simp -dsimp only [go_sem]; simp [Int.toNat_of_nonneg h0]
 · simp [go_sem]
 rintro i ⟨hai,hi,hr⟩
 simp -dsimp only [go_sem,bne,h45]
 refine ⟨fun hlt=>⟨by omega,by simpa using hlt⟩,fun c hc=>⟨fun _=>by have:=c.toNat_lt; omega,fun h3=>?_,fun h3=>?_⟩⟩
 · simp only [Bool.and_eq_true,decide_eq_true_eq] at h3
   have hc:=hc (by simpa using h3.1)
   have hlt:i < (bl s).length:=(a6.1 hc).1
   refine ⟨by omega,aC (i + 1) 0 ⟨by omega,hlt,by rw [iJ hc h3.2,hr]⟩ (by omega) ?_ ?_⟩
   · simp -dsimp only [go_sem]; simp
   · simp [go_sem]
 · have hz:bC aU (bl s) a.toNat=i:=by
    rw [<-hr]
    refine mJ fun d hd=>?_
    have hlt:i < (bl s).length:=(a6.1 hd).1
    have hd2:=hc (by simp; omega)
    rw [hd] at hd2; obtain rfl:=bG hd2
    have hlt2:decide ((i:Int) < (bl s).length)=true:=by simp; omega
    rw [hlt2,Bool.true_and] at h3
    exact h3
   simp only [fJ,hz] at hK
   refine ⟨by omega,fun h4=>.done (hK (mk []) 0 _ _ _ ?_ rfl),fun h4=>⟨fun hlt=>⟨by omega,by simpa using hlt⟩,fun d hd=>⟨fun h5=>.done (hK (mk []) 0 _ _ _ ?_ rfl),fun h5=>.done (hK (mk (List.drop a.toNat (List.take i (bl s)))) 0 _ _ _ ?_ rfl)⟩⟩⟩
   · have:decide (16 < i - a.toNat)=true:=by simp at h4 ⊢; omega
     rw [this]; exact ⟨rfl,by simp; omega⟩
   all_goals
    have:decide (16 < i - a.toNat)=false:=by simp at h4 ⊢; omega
    rw [this]
   · simp only [Bool.and_eq_true] at h5
     have:=hd h5.1
     simp only [aD,this]
     rw [show (some d == some 45)=(d == 45) from rfl,h5.2]
     exact ⟨rfl,rfl⟩
   · have:((bl s)[i]? == some 45)=false:=by
      cases he:(bl s)[i]? with
      | none=>rfl
      | some e=>
       have hlt:i < (bl s).length:=(a6.1 he).1
       have hd2:=hd (by simp; omega)
       rw [he] at hd2; obtain rfl:=bG hd2
       have hlt2:decide ((i:Int) < (bl s).length)=true:=by simp; omega
       rw [hlt2,Bool.true_and] at h5
       exact h5
     rw [this]
     exact ⟨rfl,rfl,rfl,rfl,rfl⟩
def decV:Nat->List UInt8->Nat
 | n,[]=>n
 | n,c :: l=>decV (10 * n + (c.toNat - 48)) l
theorem kI (n:Nat):decV n []=n:=by rw [decV.eq_def]
theorem fQ (n:Nat) (c:UInt8) (l:List UInt8):decV n (c :: l)=decV (10 * n + (c.toNat - 48)) l:=by rw [decV.eq_def]
theorem vN:∀ (l:List UInt8) (n:Nat),n<=decV n l
 | [],n=>by rw [kI]; exact Nat.le_refl n
 | c :: l,n=>by have:=vN l (10 * n + (c.toNat - 48)); rw [fQ]; omega
theorem QY (lim n:Nat) (c:UInt8) (l:List UInt8):valL lim n (c :: l)=if (lim - (c.toNat - 48)) / 10 < n then none else valL lim (10 * n + (c.toNat - 48)) l:=by rw [valL.eq_def]
theorem rU {lim:Nat} (h9:9<=lim):∀ (l:List UInt8) (n:Nat),n<=lim->(∀ c ∈ l,a7 c=true)->valL lim n l=bif decide (decV n l<=lim) then some (decV n l) else none
 | [],n,hn,_=>by rw [kI,valL.eq_def]; simp [hn]
 | c :: l,n,hn,hd=>by
  have hc:=iU.1 (hd c (by simp))
  rw [QY,fQ]
  generalize c.toNat=d at hc ⊢
  by_cases h:(lim - (d - 48)) / 10 < n
  · have:=vN l (10 * n + (d - 48))
    have h2:decide (decV (10 * n + (d - 48)) l<=lim)=false:=by simp only [decide_eq_false_iff_not]; omega
    rw [if_pos h,h2]; rfl
  · rw [if_neg h]
    exact rU h9 l _ (by omega) (fun x hx=>hd x (by simp [hx]))
def oC (l:List UInt8):Int × Int:=
 let neg:=l[0]? == some 45
 let s:=l.drop (bif neg then 1 else 0)
 bif s == [] || (s[0]? == some 48 && (decide (1 < s.length) || neg)) then (0,2)
 else match valL (b6 neg) 0 s with
  | none=>(0,1)
  | some n=>(signed neg n,0)
def tG:W.Spec:=fun xs H K=>
 match xs,H with
 | [.va (.c1 (.vl (.string s)))],[]=>((bl s).length<=4000/\∀ c ∈ (bl s).drop (bif (bl s)[0]? == some 45 then 1 else 0),a7 c=true)/\K (.tu [iA .i64 (oC (bl s)).1,iA .i64 (oC (bl s)).2]) []
 | _,_=>False
theorem wR {xs:List S} {H:Hp} {K:S->Hp->Prop} (h:tG xs H K):∃ s,xs=[tS s]/\H=[]/\(bl s).length<=4000/\(∀ c ∈ (bl s).drop (bif (bl s)[0]? == some 45 then 1 else 0),a7 c=true)/\K (.tu [iA .i64 (oC (bl s)).1,iA .i64 (oC (bl s)).2]) []:=by
 unfold tG at h
 split at h
 · exact ⟨_,rfl,rfl,h.1.1,h.1.2,h.2⟩
 · exact h.elim
attribute [go_sem ↓] tG
theorem aLE:Meets Tryz.prog 83 tG:=by
 refine aE Tryz.func83 aQ5 1 (by rw [Tryz.ntmps83]; decide) (aH AN (aA _)) (fun xs H K h=>by obtain ⟨s,rfl,_⟩:=wR h; rfl) ?_
 intro xs H K h
 obtain ⟨s,rfl,rfl,h0,hd,hK⟩:=wR h
 have h45:∀ c:UInt8,((c.toNat:Int) == 45)=(c == 45):=fun c=>eD 45
 have h48:∀ c:UInt8,((c.toNat:Int) == 48)=(c == 48):=fun c=>eD 48
 generalize hneg:((bl s)[0]? == some 45)=neg at hd
 generalize hf:(bif neg then 1 else 0:Nat)=f at hd
 have rest:vc [(38,.f (kA fun c=>.bool (gC c)))] 0 pc83_4.ungh (gH [(0,tS s),(4,iS .i64 f)]) [] (oB 0 PZ K):=by
  simp -dsimp only [go_sem,pc83_4,PZ,h48]
  have hfn:((f:Int) == 1)=neg:=by subst hf; cases neg<;>rfl
  simp only [oC,hneg,hf] at hK
  generalize hq:List.drop f (bl s)=q at hK hd
  have hql:q.length=(bl s).length - f:=by rw [<-hq]; simp
  have hqg:∀ d r,q=d :: r->(bl s)[f]? = some d:=fun d r e=>by
   have:(List.drop f (bl s))[0]? = some d:=by rw [hq,e]; rfl
   simpa using this
  rw [hfn]
  have key:∀ c e:UInt8,((!decide (((bl s).length:Int)<=f) && decide (1 < ((bl s).length:Int) - f))=true->(bl s)[f]? = some c)->
   ((!(decide (((bl s).length:Int)<=f) || decide (1 < ((bl s).length:Int) - f) && c == 48) && neg)=true->(bl s)[f]? = some e)->
   ((decide (((bl s).length:Int)<=f) || decide (1 < ((bl s).length:Int) - f) && c == 48) || neg && e == 48)=(q == [] || (q[0]? == some 48 && (decide (1 < q.length) || neg))):=by
   intro c e hc he
   cases q with
   | nil=>
    have:decide (((bl s).length:Int)<=f)=true:=by simp at hql ⊢; omega
    rw [this]; rfl
   | cons d r=>
    have hd0:=hqg d r rfl
    have hA:decide (((bl s).length:Int)<=f)=false:=by simp only [List.length_cons] at hql; simp; omega
    have hB:decide (1 < ((bl s).length:Int) - f)=decide (1 < (d :: r).length):=by rw [decide_eq_decide]; simp only [List.length_cons] at hql ⊢; omega
    rw [hB] at hc he ⊢
    rw [hA,hd0] at hc he
    rw [hA]
    simp only [Bool.not_false,Bool.true_and,Bool.false_or,aJ] at hc he
    simp only [Bool.false_or,List.getElem?_cons_zero]
    rw [show (some d == some 48)=(d == 48) from rfl,show ((d :: r) == [])=false from rfl,Bool.false_or]
    generalize decide (1 < (d :: r).length)=b at hc he
    cases b with
    | true=>
     obtain rfl:=hc rfl
     simp only [Bool.true_and] at he ⊢
     cases hd48:d == 48 with
     | true=>rfl
     | false=>
      rw [hd48] at he
      cases neg with
      | true=>obtain rfl:=he rfl; rw [hd48]; rfl
      | false=>rfl
    | false=>
     simp only [Bool.false_and,Bool.false_or] at he ⊢
     cases neg with
     | true=>obtain rfl:=he rfl; simp
     | false=>simp
  have hf1:f<=1:=by subst hf; cases neg<;>decide
  refine ⟨fun _=>by omega,fun h=>⟨by omega,by simp at h; omega⟩,fun c hc=>⟨fun h1 h2=>by rw [h1,h2]; rfl,fun h=>⟨by omega,by simp at h; omega⟩,fun e he=>⟨fun h1 h2=>by rw [h1,h2]; rfl,?_⟩⟩⟩
  rw [key c e hc he]
  generalize hG:(q == [] || (q[0]? == some 48 && (decide (1 < q.length) || neg)))=G at hK
  refine ⟨fun h=>?_,fun h=>?_⟩
  · rw [h] at hK; exact .done hK
  rw [h] at hK hG
  simp only [aD] at hK
  have hlim:9<=b6 neg:=by cases neg<;>decide
  rw [rU hlim q 0 (Nat.zero_le _) hd] at hK
  have hfl:f < (bl s).length:=by
   cases q with
   | nil=>cases hG
   | cons d r=>simp only [List.length_cons] at hql; omega
  have hpos:neg=true->0 < decV 0 q:=fun hn=>by
   cases q with
   | nil=>cases hG
   | cons d r=>
    subst hn
    have hdd:=iU.1 (hd d (by simp))
    have h1:¬ d=48:=fun e=>by subst e; simp at hG
    have h2:d.toNat ≠ 48:=fun e=>h1 (UInt8.toNat.inj e)
    have:=vN r (10 * 0 + (d.toNat - 48))
    rw [fQ]; omega
  refine aL (α:=Nat × Nat) (fun z=>[(0,tS s),(4,iS .i64 f),(5,iS .u64 z.1),(6,iS .i64 z.2)]) (fun z=>[]) (fun z=>f<=z.2/\z.2<=(bl s).length/\z.1<=10000000000000000009/\decV z.1 ((bl s).drop z.2)=decV 0 q) (fun z=>(bl s).length - z.2) (0,f) 0 ⟨by simp only; omega,by simp only; omega,by simp,by simp only; rw [hq]⟩ ?_ ?_ ?_
  · simp -dsimp only [go_sem]; simp
  · simp [go_sem]
  rintro ⟨n,i⟩ ⟨hi1,hi2,hn,hv⟩
  simp only at hi1 hi2 hn hv
  simp -dsimp only [go_sem,hfn]
  have hnone:¬ decV 0 q<=b6 neg->K (.tu [iA .i64 0,iA .i64 1]) []:=fun h=>by
   have:decide (decV 0 q<=b6 neg)=false:=by simpa using h
   rw [this] at hK; exact hK
  have hlim2:b6 neg<=9223372036854775808:=by cases neg<;>decide
  refine ⟨fun hlt=>⟨⟨by omega,by simpa using hlt⟩,fun c hc=>⟨by have:=c.toNat_lt; omega,fun h3=>?_,fun h3=>⟨fun h4=>.done (hnone ?_),fun h4=>⟨by simp at h4; omega,⟨by omega,by simpa using hlt⟩,fun e he=>?_⟩⟩⟩⟩,fun hge=>?_⟩
  · exfalso
    have:c ∈ q:=by rw [<-hq]; exact bJ (i:=i - f) (by rw [List.getElem?_drop,show f + (i - f)=i by omega]; exact hc)
    have:=hd c this
    rw [a7,h3] at this; cases this
  · rw [cA hc,fQ] at hv
    have:=vN ((bl s).drop (i + 1)) (10 * n + (c.toNat - 48))
    simp at h4; omega
  · rw [hc] at he; obtain rfl:=bG he
    have hc9:=iU.1 (show a7 c=true by simpa [a7] using h3)
    have hw:IntKind.u64.wrap ((c.toNat:Int) - 48)=((c.toNat - 48:Nat):Int):=by
     simp [IntKind.wrap,IntKind.signed,IntKind.bits]; omega
    have hlt:i < (bl s).length:=(a6.1 hc).1
    simp at h4
    refine ⟨by omega,by rw [hw]; omega,by omega,aC (10 * n + (c.toNat - 48),i + 1) 0 ⟨by simp only; omega,by simp only; omega,by simp only; omega,by simp only; rw [<-hv,cA hc,fQ]⟩ (by simp only; omega) ?_ ?_⟩
    · simp -dsimp only [go_sem,hw]; simp
    · simp [go_sem]
  · have hN:n=decV 0 q:=by
     have:i=(bl s).length:=by simp at hge; omega
     rw [<-hv,this,List.drop_length,kI]
    rw [<-hN] at hK hpos hnone
    refine ⟨fun hn1=>⟨fun h4=>.done (hnone ?_),fun h4=>?_⟩,fun hn1=>⟨fun h4=>.done (hnone ?_),fun h4=>?_⟩⟩
    · subst hn1; simp at h4; simp [b6]; omega
    · have hp:=hpos hn1
      simp at h4
      have w1:IntKind.i64.wrap ((n:Int) - 1)=(n:Int) - 1:=lM (by simp [inr,IntKind.min,IntKind.max,IntKind.signed,IntKind.bits]; omega)
      rw [w1]
      refine ⟨by omega,by omega,by omega,bW hK ?_⟩
      subst hn1
      have:decide (n<=b6 true)=true:=decide_eq_true (show n<=9223372036854775808 by omega)
      rw [this]
      simp [signed]; omega
    · subst hn1; simp at h4; simp [b6]; omega
    · simp at h4
      have w1:IntKind.i64.wrap (n:Int)=(n:Int):=lM (by simp [inr,IntKind.min,IntKind.max,IntKind.signed,IntKind.bits]; omega)
      rw [w1]
      refine bW hK ?_
      subst hn1
      have:decide (n<=b6 false)=true:=decide_eq_true (show n<=9223372036854775807 by omega)
      rw [this]
      simp [signed]
 simp -dsimp only [go_sem,aEB,PZ,h45]
 refine ⟨fun h=>⟨by omega,by simpa using h⟩,fun c hc=>⟨fun h=>?_,fun h=>?_⟩⟩
 · simp only [Bool.and_eq_true] at h
   have hc:=hc h.1
   have:neg=true:=by rw [<-hneg,hc]; exact h.2
   subst this
   obtain rfl:1=f:=hf
   refine gL 0 rest ?_ ?_
   · simp -dsimp only [go_sem]; simp
   · simp [go_sem]
 · have:neg=false:=by
    rw [<-hneg]
    cases h0:(bl s)[0]? with
    | none=>rfl
    | some d=>
     have hlt:0 < (bl s).length:=(a6.1 h0).1
     have hd2:=hc (by simp; omega)
     rw [h0] at hd2; obtain rfl:=bG hd2
     have:decide ((0:Int) < (bl s).length)=true:=by simp; omega
     rw [this,Bool.true_and] at h
     exact h
   subst this
   obtain rfl:0=f:=hf
   refine gL 0 rest ?_ ?_
   · simp -dsimp only [go_sem]; simp
   · simp [go_sem]
def SN:W.Spec:=yR (fun l a=>∃ c,l[a]? = some c) fun s a K=>∀ x n z e t,Got (fM (bl s) a.toNat) x n z e t->K (.tu [iA .i64 z,iA .i64 n,iA .i64 e,iA .i64 t]) []
def Z6:W.Spec:=yR (fun l a=>l[a]? = some 34) fun s a K=>∀ x n z e t,Got (e7 (bl s) a.toNat) x n z e t->K (.tu [iA .i64 z,tA x,iA .i64 e,iA .i64 t]) []
attribute [go_sem ↓] SN Z6
theorem Got.bad {r:R} {e t:Int} (h:r=.bad e t) {x:ByteArray} {n z:Int}:Got r x n z e t:=by subst h; exact ⟨rfl,rfl⟩
theorem Got.ok {r:R} {k:Int} {x:List UInt8} {n:Int} {z:Nat} (h:r=.ok k x n z):Got r (mk x) n z 0 0:=by subst h; exact ⟨rfl,rfl,rfl,rfl,rfl⟩
theorem AW (p:UInt8->Bool):∀ (l:List UInt8) (c:UInt8),l[(l.takeWhile p).length]? = some c->p c=false
 | [],c,h=>by simp at h
 | d :: l,c,h=>by
  cases hp:p d with
  | true=>rw [List.takeWhile_cons,if_pos hp] at h; simp at h; exact AW p l c h
  | false=>rw [List.takeWhile_cons,hp] at h; simp at h; subst h; exact hp
theorem aCK {p:UInt8->Bool} {l:List UInt8} {a:Nat} {c:UInt8} (h:l[bC p l a]? = some c):p c=false:=by
 refine AW p (l.drop a) c ?_
 rw [List.getElem?_drop]; exact h
theorem aJF:Meets Tryz.prog 40 Z6:=by
 refine aE Tryz.func40 aM7 2 (by rw [Tryz.ntmps40]; decide) (aA _) yT ?_
 intro xs H K h
 obtain ⟨s,a,rfl,rfl,h0,h1,h2,hc0,hK⟩:=oY h
 have h34:∀ c:UInt8,((c.toNat:Int) == 34)=(c == 34):=fun c=>eD 34
 have h92:∀ c:UInt8,((c.toNat:Int) == 92)=(c == 92):=fun c=>eD 92
 have hlt:a.toNat < (bl s).length:=(a6.1 hc0).1
 simp -dsimp only [go_sem,aH4,aIM]
 refine ⟨by omega,?_⟩
 refine aL (α:=List UInt8 × Nat) (fun z=>[(0,tS s),(1,iS .i64 a),(8,tS (mk z.1)),(9,iS .i64 z.2)]) (fun z=>[]) (fun z=>z.2<=(bl s).length/\z.1.length<=z.2/\quoL z.2 ((bl s).drop z.2) z.1=quoL (a.toNat + 1) ((bl s).drop (a.toNat + 1)) []) (fun z=>(bl s).length - z.2) ([],a.toNat + 1) 0 ⟨by simp only; omega,by simp,rfl⟩ ?_ ?_ ?_
 · simp -dsimp only [go_sem]; simp [Int.toNat_of_nonneg h0]
 · simp [go_sem]
 rintro ⟨out,i⟩ ⟨hi,ho,hr⟩
 simp only at hi ho hr
 simp -dsimp only [go_sem,bne,h34,h92,jF]
 have ha:((a.toNat:Nat):Int)=a:=Int.toNat_of_nonneg h0
 have hT:e7 (bl s) a.toNat=match quoL i (List.drop i (bl s)) out with
  | (i,none)=>.bad 2 i
  | (z,some out)=>bif decide (200 < out.length) then .bad 3 a.toNat else .ok 3 out 0 z:=by rw [hr]; rfl
 refine ⟨fun hge=>?_,fun hlt=>⟨⟨by omega,by simpa using hlt⟩,fun c hc=>⟨fun h3=>?_,fun h3=>⟨fun _=>by omega,fun _=>by omega,fun h4=>⟨by omega,by simp at h4; omega⟩,fun d hd=>⟨fun _=>by omega,fun h=>⟨by omega,by simp at h; omega⟩,fun e he=>⟨fun h1 h2=>by rw [h1,h2]; rfl,fun h1 h2=>by rw [h1,h2]; rfl,fun h1 h2=>by rw [h1,h2]; rfl,?_⟩⟩⟩⟩⟩⟩
 · have:i=(bl s).length:=by simp at hge; omega
   subst this
   rw [List.drop_length,lN] at hT
   exact .done (hK (mk []) 0 _ _ _ (Got.bad hT))
 · have:c=34:=by simpa using h3
   subst this
   rw [cA hc,eS] at hT
   simp at hT
   refine ⟨fun h4=>.done (hK (mk []) 0 _ _ _ (Got.bad (t:=a) (e:=3) ?_)),fun h4=>⟨by omega,.done (hK (mk out) 0 _ _ _ ?_)⟩⟩
   · have:decide (200 < out.length)=true:=by simp at h4 ⊢; omega
     rw [hT,this,aI,Int.max_eq_left h0]
   · have:decide (200 < out.length)=false:=by simp at h4 ⊢; omega
     rw [this] at hT
     exact Got.ok hT
 have hlt2:i < (bl s).length:=(a6.1 hc).1
 have hw:(decide ((c.toNat:Int) < 32) || decide (126 < (c.toNat:Int)))=(decide (c < 32) || decide (126 < c)):=by
  have e1:decide ((c.toNat:Int) < 32)=decide (c < 32):=by rw [decide_eq_decide,UInt8.lt_iff_toNat_lt]; show _ ↔ c.toNat < 32; omega
  have e2:decide (126 < (c.toNat:Int))=decide (126 < c):=by rw [decide_eq_decide,UInt8.lt_iff_toNat_lt]; show _ ↔ 126 < c.toNat; omega
  rw [e1,e2]
 rw [hw] at hd he ⊢
 rw [cA hc,eS] at hT hr
 generalize (decide (c < 32) || decide (126 < c))=w at hd he hT hr ⊢
 rw [h3] at hT hr
 cases w with
 | true=>
  simp only [aI] at hT
  exact ⟨fun _=>.done (hK (mk []) 0 _ _ _ (Got.bad hT)),fun h=>by simp at h⟩
 | false=>
  simp only [aD] at hT hr
  cases h9:c == 92 with
  | false=>
   rw [h9] at hr
   simp only [aD] at hr
   have hsub:List.drop i (List.take (i + 1) (bl s))=[c]:=by rw [List.drop_take,cA hc]; simp
   refine ⟨fun h=>by simp at h,fun _=>⟨fun h=>by simp at h,fun _=>?_⟩⟩
   and_intros
   all_goals first
    | omega
    | (simp; omega)
    | skip
   refine aC (out ++ [c],i + 1) 0 ⟨by simp only; omega,by simp; omega,hr⟩ (by simp only; omega) ?_ ?_
   · simp -dsimp only [go_sem]; simp [show ((i:Int) + 1).toNat=i + 1 by omega,hsub]
   · simp [go_sem]
  | true=>
   rw [h9] at hr hT hd he
   simp only [aI,Bool.not_false,Bool.true_and] at hr hT hd he
   cases hrest:List.drop (i + 1) (bl s) with
   | nil=>
    have:(bl s).length<=i + 1:=List.drop_eq_nil_iff.1 hrest
    have h8:decide (((bl s).length:Int)<=i + 1)=true:=by simp; omega
    rw [hrest] at hT
    rw [h8]
    exact ⟨fun _=>.done (hK (mk []) 0 _ _ _ (Got.bad hT)),fun h=>by simp at h⟩
   | cons x r=>
    have hx:(bl s)[i + 1]? = some x:=by
     have:(List.drop (i + 1) (bl s))[0]? = some x:=by rw [hrest]; rfl
     simpa using this
    have hltx:i + 1 < (bl s).length:=(a6.1 hx).1
    have hrx:r=List.drop (i + 2) (bl s):=by
     have:=cA hx
     rw [hrest] at this; simpa using this
    have h8:decide (((bl s).length:Int)<=i + 1)=false:=by simp; omega
    rw [hrest] at hT hr
    have hi1:((i:Int) + 1).toNat=i + 1:=by omega
    have hi2:((i:Int) + 1 + 1).toNat=i + 2:=by omega
    rw [h8,hi1,hx] at hd he
    simp only [Bool.not_false,Bool.true_and,true_implies,aJ] at hd he
    obtain rfl:=hd
    have hE:(x == 34 || x == 92)=!(!x == 34 && !e == 92):=by
     cases h7:x == 34 with
     | true=>rfl
     | false=>rw [h7] at he; obtain rfl:=he rfl; simp
    rw [h8]
    simp only [hE] at hT hr
    generalize (!x == 34 && !e == 92)=b at hT hr ⊢
    cases b with
    | true=>exact ⟨fun _=>.done (hK (mk []) 0 _ _ _ (Got.bad hT)),fun h=>by simp at h⟩
    | false=>
     simp only [Bool.not_false,aI] at hr
     have hsub:List.drop (i + 1) (List.take (i + 2) (bl s))=[x]:=by rw [List.drop_take,cA hx]; simp
     refine ⟨fun h=>by simp at h,fun _=>⟨fun _=>?_,fun h=>by simp at h⟩⟩
     and_intros
     all_goals first
      | omega
      | (simp; omega)
      | skip
     refine aC (out ++ [x],i + 2) 0 ⟨by simp only; omega,by simp; omega,by rw [<-hr,hrx]⟩ (by simp only; omega) ?_ ?_
     · simp -dsimp only [go_sem]; simp [hi1,hi2,hsub]; omega
     · simp [go_sem]
theorem aJ9:Meets Tryz.prog 39 SN:=by
 refine aE Tryz.func39 aQA 2 (by rw [Tryz.ntmps39]; decide) (aH AN (aB aLE (aH IJ (aA _)))) yT ?_
 intro xs H K h
 obtain ⟨s,a,rfl,rfl,h0,h1,h2,⟨c0,hc0⟩,hK⟩:=oY h
 have h45:∀ c:UInt8,((c.toNat:Int) == 45)=(c == 45):=fun c=>eD 45
 have hlt:a.toNat < (bl s).length:=(a6.1 hc0).1
 generalize hneg:((bl s)[a.toNat]? == some 45)=neg at hK
 generalize hfe:(bif neg then a.toNat + 1 else a.toNat)=f
 have hf1:a.toNat<=f/\f<=(bl s).length:=by subst hfe; cases neg<;>simp<;>omega
 generalize hz:bC a7 (bl s) f=z
 have rest:vc [(38,.f (kA fun c=>.bool (gC c))),(83,.s tG),(82,.f (kA fun c=>.bool (eQ c)))] 0 pc39_6.ungh (gH [(0,tS s),(1,iS .i64 a),(8,iS .i64 z)]) [] (oB 0 PN K):=by
  simp -dsimp only [go_sem,pc39_6,PN,h45,jF]
  have hz1:f<=z:=by rw [<-hz]; exact lY
  have hz2:z<=(bl s).length:=by rw [<-hz]; exact nZ hf1.2
  generalize hq:List.drop a.toNat (List.take z (bl s))=q
  have hq0:(q[0]? == some 45)=neg:=by
   have e:q[0]? = (List.take z (bl s))[a.toNat]?:=by rw [<-hq,List.getElem?_drop]; rfl
   rw [e,List.getElem?_take]
   split
   · exact hneg
   · cases neg with
     | false=>rfl
     | true=>simp at hfe; omega
  have hqs:List.drop (bif neg then 1 else 0) q=List.drop f (List.take z (bl s)):=by
   rw [<-hq,List.drop_drop,<-hfe]; cases neg<;>rfl
  have hdig:∀ c ∈ List.drop f (List.take z (bl s)),a7 c=true:=fun c hc=>by rw [<-hz] at hc; exact oR c hc
  have hV:((oC q).2=2->fM (bl s) a.toNat=.bad 2 a.toNat)/\((oC q).2=1->fM (bl s) a.toNat=.bad 4 a.toNat)/\
   ((oC q).2 ≠ 2->(oC q).2 ≠ 1->fM (bl s) a.toNat=bif kY (bl s) z then .bad 2 z else .ok 2 [] (oC q).1 z):=by
   simp only [oC,hq0,hqs,fM,hneg,hfe,hz]
   generalize List.drop f (List.take z (bl s))=r
   cases (r == [] || (r[0]? == some 48 && (decide (1 < r.length) || neg))) with
   | true=>simp
   | false=>
    simp only [aD]
    cases valL (b6 neg) 0 r with
    | none=>simp
    | some n=>simp
  have hwm:∀ c e:UInt8,(decide ((z:Int) < (bl s).length)=true->(bl s)[z]? = some c)->((decide ((z:Int) < (bl s).length) && !eQ c.toNat)=true->(bl s)[z]? = some e)->
   (decide ((z:Int) < (bl s).length) && (eQ c.toNat || e == 45))=kY (bl s) z:=by
   intro c e hc he
   unfold kY
   cases hd:(bl s)[z]? with
   | none=>
    have:decide ((z:Int) < (bl s).length)=false:=by have:=List.getElem?_eq_none_iff.1 hd; simp; omega
    rw [this]; rfl
   | some d=>
    have hlt:z < (bl s).length:=(a6.1 hd).1
    have:decide ((z:Int) < (bl s).length)=true:=by simp; omega
    rw [this,hd] at hc he
    rw [this]
    obtain rfl:=bG (hc rfl)
    have hnd:a7 d=false:=by rw [<-hz] at hd; exact aCK hd
    simp only [Bool.true_and,hnd,Bool.not_false,Bool.and_true,aU] at he ⊢
    cases hw:eQ d.toNat with
    | true=>rfl
    | false=>rw [hw] at he; obtain rfl:=bG (he rfl); rfl
  obtain ⟨v1,v2,v3⟩:=hV
  have ha:((a.toNat:Nat):Int)=a:=Int.toNat_of_nonneg h0
  refine ⟨by omega,⟨by rw [<-hq]; simp; omega,by rw [hq0,hqs]; exact hdig⟩,fun h=>.done (hK (mk []) _ _ _ _ (by rw [v1 (by simpa using h),ha]; exact ⟨rfl,rfl⟩)),fun h=>⟨fun h5=>.done (hK (mk []) _ _ _ _ (by rw [v2 (by simpa using h5),ha]; exact ⟨rfl,rfl⟩)),fun h5=>⟨fun h6=>⟨by omega,by simpa using h6⟩,fun c hc=>⟨fun _=>by have:=c.toNat_lt; omega,fun h6=>⟨by omega,by simp at h6; omega⟩,fun e he=>⟨fun h6 h7=>by rw [h6,h7]; rfl,?_⟩⟩⟩⟩⟩
  rw [hwm c e hc he]
  have v3:=v3 (by simpa using h) (by simpa using h5)
  refine ⟨fun h6=>.done (hK (mk []) _ _ _ _ ?_),fun h6=>.done (hK (mk []) _ _ _ _ ?_)⟩
  · rw [v3,h6]; exact ⟨rfl,rfl⟩
  · rw [v3,h6]; exact ⟨rfl,rfl,rfl,rfl,rfl⟩
 simp -dsimp only [go_sem,aIA,PN,h45]
 refine ⟨⟨by omega,by omega⟩,fun c hc=>?_⟩
 have hcn:(c == 45)=neg:=by rw [<-hneg,hc]; rfl
 rw [hcn]
 refine ⟨fun h=>⟨by omega,?_⟩,fun h=>?_⟩
 · have hfi:(f:Int)=a + 1:=by subst h; simp at hfe; omega
   refine aL (α:=Nat) (fun i=>[(0,tS s),(1,iS .i64 a),(8,iS .i64 i)]) (fun i=>[]) (fun i=>f<=i/\i<=(bl s).length/\bC a7 (bl s) i=z) (fun i=>(bl s).length - i) f 0 ⟨by omega,by omega,hz⟩ ?_ ?_ ?_
   · simp -dsimp only [go_sem]; simp [hfi]
   · simp [go_sem]
   rintro i ⟨hai,hi,hr⟩
   simp -dsimp only [go_sem]
   refine ⟨fun hlt=>⟨by omega,by simpa using hlt⟩,fun d hd=>⟨fun _=>by have:=d.toNat_lt; omega,fun h3=>?_,fun h3=>?_⟩⟩
   · simp only [Bool.and_eq_true,decide_eq_true_eq] at h3
     have hd:=hd (by simpa using h3.1)
     have hlt:i < (bl s).length:=(a6.1 hd).1
     refine ⟨by omega,aC (i + 1) 0 ⟨by omega,hlt,by rw [iJ hd h3.2,hr]⟩ (by omega) ?_ ?_⟩
     · simp -dsimp only [go_sem]; simp
     · simp [go_sem]
   · have hiz:i=z:=by
      rw [<-hr]
      refine (mJ fun e he=>?_).symm
      have hlt:i < (bl s).length:=(a6.1 he).1
      have hd2:=hd (by simp; omega)
      rw [he] at hd2; obtain rfl:=bG hd2
      have hlt2:decide ((i:Int) < (bl s).length)=true:=by simp; omega
      rw [hlt2,Bool.true_and] at h3
      exact h3
     subst hiz
     refine gL 0 rest ?_ ?_
     · simp -dsimp only [go_sem]
     · simp [go_sem]
 · have hfi:(f:Int)=a:=by subst h; simp at hfe; omega
   refine aL (α:=Nat) (fun i=>[(0,tS s),(1,iS .i64 a),(8,iS .i64 i)]) (fun i=>[]) (fun i=>f<=i/\i<=(bl s).length/\bC a7 (bl s) i=z) (fun i=>(bl s).length - i) f 0 ⟨by omega,by omega,hz⟩ ?_ ?_ ?_
   · simp -dsimp only [go_sem]; simp [hfi]
   · simp [go_sem]
   rintro i ⟨hai,hi,hr⟩
   simp -dsimp only [go_sem]
   refine ⟨fun hlt=>⟨by omega,by simpa using hlt⟩,fun d hd=>⟨fun _=>by have:=d.toNat_lt; omega,fun h3=>?_,fun h3=>?_⟩⟩
   · simp only [Bool.and_eq_true,decide_eq_true_eq] at h3
     have hd:=hd (by simpa using h3.1)
     have hlt:i < (bl s).length:=(a6.1 hd).1
     refine ⟨by omega,aC (i + 1) 0 ⟨by omega,hlt,by rw [iJ hd h3.2,hr]⟩ (by omega) ?_ ?_⟩
     · simp -dsimp only [go_sem]; simp
     · simp [go_sem]
   · have hiz:i=z:=by
      rw [<-hr]
      refine (mJ fun e he=>?_).symm
      have hlt:i < (bl s).length:=(a6.1 he).1
      have hd2:=hd (by simp; omega)
      rw [he] at hd2; obtain rfl:=bG hd2
      have hlt2:decide ((i:Int) < (bl s).length)=true:=by simp; omega
      rw [hlt2,Bool.true_and] at h3
      exact h3
     subst hiz
     refine gL 0 rest ?_ ?_
     · simp -dsimp only [go_sem]
     · simp [go_sem]
theorem TX {l:List UInt8} {a:Nat} {k:Int} {x:List UInt8} {n:Int} {z:Nat} (h:fJ l a=.ok k x n z):k=1/\n=0/\z=bC aU l a/\z - a<=16/\x=(l.take z).drop a/\l[z]? ≠ some 45:=by
 unfold fJ at h
 simp only at h
 revert h
 cases h1:decide (16 < bC aU l a - a)<;>cases h2:(l[bC aU l a]? == some 45)<;>simp [R.ok.injEq]
 rintro rfl rfl rfl rfl
 simp at h1 h2
 exact ⟨rfl,rfl,rfl,by omega,rfl,h2⟩
theorem JG (l:List UInt8):cC l=true ↔ ∃ c,l[0]? = some c/\l.length<=16/\bD c.toNat=true/\∀ x ∈ l,aU x=true:=by
 cases l with
 | nil=>simp [cC]
 | cons c l=>simp [cC,and_assoc]
theorem aHV {l:List UInt8} {a:Nat} {k:Int} {x:List UInt8} {n:Int} {z:Nat} (h:fM l a=.ok k x n z):x=[]:=by
 unfold fM at h
 simp only at h
 revert h
 generalize (List.drop (bif l[a]? == some 45 then a + 1 else a) (List.take (bC a7 l (bif l[a]? == some 45 then a + 1 else a)) l))=q
 cases (q == [] || (q[0]? == some 48 && (decide (1 < q.length) || l[a]? == some 45))) with
 | true=>intro h; cases h
 | false=>
  simp only [aD]
  split
  · intro h; cases h
  · cases kY l (bC a7 l (bif l[a]? == some 45 then a + 1 else a))<;>intro h<;>cases h
    rfl
theorem aBQ {l:List UInt8} {a:Nat} {k:Int} {x:List UInt8} {n:Int} {z:Nat} (h:e7 l a=.ok k x n z):n=0:=by
 unfold e7 at h
 split at h
 · cases h
 · revert h
   rename_i o _
   cases decide (200 < o.length)<;>intro h<;>cases h
   rfl
theorem aDO:Meets Tryz.prog 16 mK:=by
 refine aE Tryz.func16 aRW 1 (by rw [Tryz.ntmps16]; decide)
  (aH aC2 (aH BX (aB aEA (aH AN (aB aJ9 (aB aJF (aH Y1 (aA _)))))))) (fun xs H K h=>by obtain ⟨s,rfl,_⟩:=l8 h; rfl) ?_
 intro xs H K h
 obtain ⟨s,rfl,rfl,hK⟩:=l8 h
 have h34:∀ c:UInt8,((c.toNat:Int) == 34)=(c == 34):=fun c=>eD 34
 have h45:∀ c:UInt8,((c.toNat:Int) == 45)=(c == 45):=fun c=>eD 45
 simp -dsimp only [go_sem,aID,aDQ,h34,h45]
 refine ⟨fun h1=>?_,fun h1=>?_⟩
 · have h2:decide (4000 < (bl s).length)=true:=by simp at h1 ⊢; omega
   simp only [aQ,h2,aI,SR.toks,SR.err,SR.off] at hK
   exact .done hK
 have h2:decide (4000 < (bl s).length)=false:=by simp at h1 ⊢; omega
 have hlen:(bl s).length<=4000:=by simpa using h2
 refine ⟨⟨by omega,by omega,hlen⟩,dX (α:=Nat × Nat × List Tk) (fun z=>[(0,tS s),(5,.va (.c1 (.sl 0 z.2.2.length))),(6,iS .i64 (bI (bl s) z.2.1))]) (fun z=>[.row (z.2.2.map dI) 71 4])
  (fun z=>(bl s).length < z.1 + z.2.1/\z.2.1<=(bl s).length/\z.2.2.length<=z.2.1/\SR.app z.2.2 (c8 z.1 (bl s) z.2.1)=aQ (bl s)) (fun z=>z.1)
  (.nil 5 71 4 ?_ (l9 ((bl s).length + 1,0,[]) 1 ⟨by simp only; omega,by simp,by simp,?_⟩ ?_ ?_)) ?_⟩
 · simp -dsimp only [go_sem]; rfl
 · simp only [aQ,h2,aD]
   cases c8 ((bl s).length + 1) (bl s) 0<;>rfl
 · simp -dsimp only [go_sem]
 · simp -dsimp only [go_sem]
 rintro ⟨f,a,acc⟩ ⟨hf,ha,hac,hr⟩
 simp only at hf ha hac hr
 have hpl:bI (bl s) a<=(bl s).length:=lP ha
 have hpa:a<=bI (bl s) a:=rO
 obtain ⟨hb,ho⟩:=mN hpl
 obtain ⟨f,rfl⟩:∃ g,f=g + 1:=⟨f - 1,by omega⟩
 rw [c8] at hr
 simp -dsimp only [go_sem,h34,h45]
 generalize hp:bI (bl s) a=p at hb ho hr hpl hpa ⊢
 have hbad:∀ {e t:Int} {H2:Hp},cF (bl s) p=.bad e t->W.Fin 0 K (.tu [.c1 (.fz []),iA .i64 e,iA .i64 t]) H2:=by
  intro e t H2 h
  rw [h] at hr; simp only [SR.app] at hr; rw [<-hr] at hK; simp only [SR.toks,SR.err,SR.off] at hK
  exact .sel [] (by simp) (by simp) rfl (.done (by simpa [go_sem] using hK))
 have hinv:∀ {k:Int} {x:List UInt8} {n:Int} {z:Nat},cF (bl s) p=.ok k x n z->k ≠ 0->(bl s).length < f + z/\z<=(bl s).length/\(acc ++ [Tk.mk k x n p]).length<=z/\SR.app (acc ++ [Tk.mk k x n p]) (c8 f (bl s) z)=aQ (bl s):=by
  intro k x n z h hk
  obtain ⟨c,_,g1,g2,_⟩:=(ho h).one hk
  rw [h] at hr
  have hk2:(k == 0)=false:=by simpa using hk
  simp only [hk2,aD,SR.app_cons] at hr
  exact ⟨by omega,g2,by simp; omega,hr⟩
 refine ⟨fun hlt=>⟨by omega,⟨by omega,by simpa using hlt⟩,fun c hc=>⟨by have:=c.toNat_lt; omega,fun q1=>?_,fun q1=>?_⟩⟩,fun hge=>?_⟩
 · have htok:cF (bl s) p=fJ (bl s) p:=by rw [cF,hc]; simp only [q1,aI]
   refine ⟨by omega,fun x n z e t ht hz=>⟨by rw [hz]; have:=lY (p:=aU) (l:=bl s) (a:=p); have:=nZ (p:=aU) hpl; omega,?_⟩⟩
   cases hR:fJ (bl s) p with
   | bad e' t'=>
    rw [hR] at ht
    obtain ⟨rfl,rfl⟩:=ht
    exact ⟨fun _=>hbad (htok.trans hR),fun h=>absurd h (by simpa using (hb (htok.trans hR)).1)⟩
   | ok k x' n' z'=>
    rw [hR] at ht
    obtain ⟨rfl,rfl,rfl,rfl,rfl⟩:=ht
    obtain ⟨rfl,rfl,-,-,hx,-⟩:=TX hR
    have hi:=hinv (htok.trans hR) (by decide)
    refine ⟨fun h=>absurd h (by simp),fun _=>⟨by omega,by omega,aC (f,z',acc ++ [⟨1,x',0,p⟩]) 1 hi (by simp only; omega) ?_ ?_⟩⟩
    · simp -dsimp only [go_sem]<;>simp
    · simp -dsimp only [go_sem]<;>simp [go_sem,hx]
 refine ⟨by have:=c.toNat_lt; omega,fun q2=>?_,fun q2=>⟨fun q3=>?_,fun q3=>⟨by have:=c.toNat_lt; omega,fun q4=>?_,fun q4=>?_⟩⟩⟩
 · have htok:cF (bl s) p=fM (bl s) p:=by rw [cF,hc]; simp only [q1,aD]; rw [show (a7 c || c == 45)=true from q2]; rfl
   refine ⟨⟨by omega,by omega,hlen,c,hc⟩,fun x n z e t ht=>?_⟩
   cases hR:fM (bl s) p with
   | bad e' t'=>
    rw [hR] at ht
    obtain ⟨rfl,rfl⟩:=ht
    exact ⟨fun _=>hbad (htok.trans hR),fun h=>absurd h (by simpa using (hb (htok.trans hR)).1)⟩
   | ok k x' n' z'=>
    rw [hR] at ht
    obtain ⟨rfl,rfl,rfl,rfl,rfl⟩:=ht
    obtain rfl:=(tE hc).2 hR
    obtain rfl:=aHV hR
    have hi:=hinv (htok.trans hR) (by decide)
    refine ⟨fun h=>absurd h (by simp),fun _=>⟨by omega,by omega,aC (f,z',acc ++ [⟨2,[],n,p⟩]) 1 hi (by simp only; omega) ?_ ?_⟩⟩
    · simp -dsimp only [go_sem]<;>simp
    · simp -dsimp only [go_sem]<;>simp [go_sem]
 · have hc3:c=34:=by simpa using q3
   have hlt2:p < (bl s).length:=(a6.1 hc).1
   have htok:cF (bl s) p=e7 (bl s) p:=by rw [cF,hc]; simp only [q1,aD]; rw [show (a7 c || c == 45)=false from q2]; simp only [q3,aD,aI]
   refine ⟨⟨by omega,by omega,hlen,by rw [hc,hc3]⟩,fun x n z e t ht=>?_⟩
   cases hR:e7 (bl s) p with
   | bad e' t'=>
    rw [hR] at ht
    obtain ⟨rfl,rfl⟩:=ht
    exact ⟨fun _=>hbad (htok.trans hR),fun h=>absurd h (by simpa using (hb (htok.trans hR)).1)⟩
   | ok k x' n' z'=>
    rw [hR] at ht
    obtain ⟨rfl,rfl,rfl,rfl,rfl⟩:=ht
    obtain rfl:=(rE hlt2).2 hR
    obtain rfl:=aBQ hR
    have hi:=hinv (htok.trans hR) (by decide)
    refine ⟨fun h=>absurd h (by simp),fun _=>⟨by omega,by omega,aC (f,z',acc ++ [⟨3,x',0,p⟩]) 1 hi (by simp only; omega) ?_ ?_⟩⟩
    · simp -dsimp only [go_sem]<;>simp
    · simp -dsimp only [go_sem]<;>simp [go_sem]
 · have hlt2:p < (bl s).length:=(a6.1 hc).1
   have hR:cF (bl s) p=.ok 4 [c] 0 (p + 1):=by rw [cF,hc]; simp only [q1,aD]; rw [show (a7 c || c == 45)=false from q2]; simp only [q3,q4,aD,aI]
   have hi:=hinv hR (by decide)
   have hi1:((p:Int) + 1).toNat=p + 1:=by omega
   have hsub:List.drop p (List.take (p + 1) (bl s))=[c]:=by rw [List.drop_take,cA hc]; simp
   refine ⟨by omega,fun h=>absurd h (by decide),fun _=>⟨by omega,by omega,?_⟩⟩
   refine aC (f,p + 1,acc ++ [⟨4,[c],0,p⟩]) 1 hi (by simp only; omega) ?_ ?_
   · simp -dsimp only [go_sem]<;>simp [hi1]
   · simp -dsimp only [go_sem]<;>simp [go_sem,hi1,hsub]
 · have hR:cF (bl s) p=.bad 2 p:=by rw [cF,hc]; simp only [q1,aD]; rw [show (a7 c || c == 45)=false from q2]; simp only [q3,q4,aD]
   exact hbad hR
 · have hpe:p=(bl s).length:=by simp at hge; omega
   have hR:cF (bl s) p=.ok 0 [] 0 p:=by rw [cF,List.getElem?_eq_none (by omega)]
   rw [hR] at hr
   simp only [beq_self_eq_true,aI,SR.app] at hr
   rw [<-hr] at hK
   simp only [SR.toks,SR.err,SR.off,List.map_append,List.map_cons,List.map_nil] at hK
   refine ⟨by omega,.pub 0 _ _ _ rfl (.sel [] (by simp) (by simp [cW]) rfl (.done ?_))⟩
   rw [hpe] at hK
   simpa [go_sem] using hK
structure Ends (ts:List Tk):Prop where
 pos:0 < ts.length
 le:ts.length<=4001
 last:∀ (i:Nat) (t:Tk),ts[i]? = some t->(t.k=0 ↔ i + 1=ts.length)
abbrev jA (T:TypeId) (ts:List Tk) (n:Nat):B:=.cells [.fz (ts.map dI),.vl (.int .i64 n)] T
theorem T3 (T:TypeId) (ts:List Tk) (n:Nat):jA T ts (n + 1)=.cells [.fz (ts.map dI),.vl (.int .i64 ((n:Int) + 1))] T:=rfl
def fB (T:TypeId) (post:List Tk->Nat->(S->Hp->Prop)->Prop):W.Spec:=fun xs H K=>
 match xs,H with
 | [.va (.c1 (.pt 0 0))],[.cells [.fz r,.vl (.int .i64 a)] T']=>T'=T/\∃ (ts:List Tk) (n:Nat),r=ts.map dI/\a=n/\Ends ts/\n < ts.length/\post ts n K
 | _,_=>False
theorem tZ {T:TypeId} {post:List Tk->Nat->(S->Hp->Prop)->Prop} {xs:List S} {H:Hp} {K:S->Hp->Prop} (h:fB T post xs H K) :
 ∃ ts n,xs=[.va (.c1 (.pt 0 0))]/\H=[jA T ts n]/\Ends ts/\n < ts.length/\post ts n K:=by
 unfold fB at h
 split at h
 · obtain ⟨rfl,ts,n,rfl,rfl,h1,h2,h3⟩:=h; exact ⟨ts,n,rfl,rfl,h1,h2,h3⟩
 · exact h.elim
theorem HY {T:TypeId} {post:List Tk->Nat->(S->Hp->Prop)->Prop}:∀ xs H K,fB T post xs H K->xs.length=1:=fun xs H K h=>by obtain ⟨ts,n,rfl,_⟩:=tZ h; rfl
attribute [go_sem ↓] fB
def bN (ts:List Tk) (n:Nat):Nat:=if n + 1 < ts.length then n + 1 else n
def cL (T:TypeId):W.Spec:=fB T fun ts n K=>∀ t,ts[n]? = some t->K (.va (.gs (dI t))) [jA T ts n]
def cR (T:TypeId):W.Spec:=fB T fun ts n K=>∀ t,ts[n]? = some t->K (.va (.gs (dI t))) [jA T ts (bN ts n)]
attribute [go_sem ↓] cL cR
theorem sN:Meets Tryz.prog 30 (cL 114):=by
 refine aE Tryz.func30 aNE 1 (by rw [Tryz.ntmps30]; decide) (aA _) HY ?_
 intro xs H K h
 obtain ⟨ts,n,rfl,rfl,hE,hn,hK⟩:=tZ h
 simp -dsimp only [go_sem,aGP,aDP]
 refine ⟨fun h=>?_,fun _=>⟨by omega,fun t ht=>.sel [0] (by simp) (by simp) rfl (.done (hK t ht))⟩⟩
 have:=hE.pos; simp at h; simp [h] at this
theorem FU:Meets Tryz.prog 100 (cR 114):=by
 refine aE Tryz.func100 aJO 1 (by rw [Tryz.ntmps100]; decide) (aB sN (aA _)) HY ?_
 intro xs H K h
 obtain ⟨ts,n,rfl,rfl,hE,hn,hK⟩:=tZ h
 simp -dsimp only [go_sem,aAT,X1]
 refine ⟨ts,n,rfl,rfl,hE,hn,fun t ht=>?_⟩
 have hK:=hK t ht
 have hle:=hE.le
 refine ⟨by omega,fun h=>⟨by omega,?_⟩,fun h=>?_⟩
 · have e:bN ts n=n + 1:=if_pos (by simp at h; omega)
   rw [e,T3] at hK
   exact .sel [0] (by simp) (by simp) rfl (.done hK)
 · have e:bN ts n=n:=if_neg (by simp at h; omega)
   rw [e] at hK
   exact .sel [0] (by simp) (by simp) rfl (.done hK)
def cX (k:Int) (w:List UInt8) (t:Tk):Bool:=t.k == k && t.x == w
def s7 (k:Int) (w:List UInt8) (ts:List Tk) (n:Nat) (t:Tk):Nat:=bif cX k w t then bN ts n else n
def cM (k:Int) (T:TypeId):W.Spec:=fun xs H K=>
 match xs,H with
 | [.va (.c1 (.pt 0 0)),.va (.c1 (.vl (.string w)))],[.cells [.fz r,.vl (.int .i64 a)] T']=>T'=T/\∃ (ts:List Tk) (n:Nat),r=ts.map dI/\a=n/\Ends ts/\n < ts.length/\
  ∀ t,ts[n]? = some t->K (bS (cX k (bl w) t)) [jA T ts (s7 k (bl w) ts n t)]
 | _,_=>False
theorem pO {k:Int} {T:TypeId} {xs:List S} {H:Hp} {K:S->Hp->Prop} (h:cM k T xs H K) :
 ∃ w ts n,xs=[.va (.c1 (.pt 0 0)),tS w]/\H=[jA T ts n]/\Ends ts/\n < ts.length/\∀ t,ts[n]? = some t->K (bS (cX k (bl w) t)) [jA T ts (s7 k (bl w) ts n t)]:=by
 unfold cM at h
 split at h
 · obtain ⟨rfl,ts,n,rfl,rfl,h1,h2,h3⟩:=h; exact ⟨_,ts,n,rfl,rfl,h1,h2,h3⟩
 · exact h.elim
theorem zK {k:Int} {T:TypeId}:∀ xs H K,cM k T xs H K->xs.length=2:=fun xs H K h=>by obtain ⟨w,ts,n,rfl,_⟩:=pO h; rfl
def cY (T:TypeId):W.Spec:=fun xs H K=>
 match xs,H with
 | [.va (.c1 (.pt 0 0)),.va (.c1 (.vl (.int .i64 k))),.va (.c1 (.vl (.string w)))],[.cells [.fz r,.vl (.int .i64 a)] T']=>T'=T/\∃ (ts:List Tk) (n:Nat),r=ts.map dI/\a=n/\Ends ts/\n < ts.length/\
  ∀ t,ts[n]? = some t->K (bS (cX k (bl w) t)) [jA T ts (s7 k (bl w) ts n t)]
 | _,_=>False
theorem w8 {T:TypeId} {xs:List S} {H:Hp} {K:S->Hp->Prop} (h:cY T xs H K) :
 ∃ k w ts n,xs=[.va (.c1 (.pt 0 0)),iS .i64 k,tS w]/\H=[jA T ts n]/\Ends ts/\n < ts.length/\∀ t,ts[n]? = some t->K (bS (cX k (bl w) t)) [jA T ts (s7 k (bl w) ts n t)]:=by
 unfold cY at h
 split at h
 · obtain ⟨rfl,ts,n,rfl,rfl,h1,h2,h3⟩:=h; exact ⟨_,_,ts,n,rfl,rfl,h1,h2,h3⟩
 · exact h.elim
theorem OM {T:TypeId}:∀ xs H K,cY T xs H K->xs.length=3:=fun xs H K h=>by obtain ⟨k,w,ts,n,rfl,_⟩:=w8 h; rfl
attribute [go_sem ↓] cM cY
theorem aAN:Meets Tryz.prog 120 (cY 114):=by
 refine aE Tryz.func120 aLL 3 (by rw [Tryz.ntmps120]; decide) (aB sN (aB FU (aA _))) OM ?_
 intro xs H K h
 obtain ⟨k,w,ts,n,rfl,rfl,hE,hn,hK⟩:=w8 h
 simp -dsimp only [go_sem,aAR,YA]
 refine ⟨ts,n,rfl,rfl,hE,hn,fun t ht=>?_⟩
 have hK:=hK t ht
 have hg:(t.k != k || !t.x == bl w)=!(cX k (bl w) t):=by simp [cX,bne,Bool.not_and]
 rw [hg]
 refine ⟨fun h=>?_,fun h=>⟨ts,n,rfl,rfl,hE,hn,fun u hu=>?_⟩⟩
 · have h:cX k (bl w) t=false:=by simpa using h
   simp only [s7,h,aD] at hK
   exact .sel [0] (by simp) (by simp) rfl (.done hK)
 · have h:cX k (bl w) t=true:=by simpa using h
   simp only [s7,h,aI] at hK
   exact .sel [0] (by simp) (by simp) rfl (.done hK)
theorem aDM:Meets Tryz.prog 148 (cM 4 114):=by
 refine aE Tryz.func148 aKY 2 (by rw [Tryz.ntmps148]; decide) (aB aAN (aA _)) zK ?_
 intro xs H K h
 obtain ⟨w,ts,n,rfl,rfl,hE,hn,hK⟩:=pO h
 simp -dsimp only [go_sem,aAB,XO]
 refine ⟨ts,n,rfl,rfl,hE,hn,fun t ht=>.done ?_⟩
 exact hK t ht
theorem aIN:Meets Tryz.prog 95 (cM 1 114):=by
 refine aE Tryz.func95 aNP 2 (by rw [Tryz.ntmps95]; decide) (aB aAN (aA _)) zK ?_
 intro xs H K h
 obtain ⟨w,ts,n,rfl,rfl,hE,hn,hK⟩:=pO h
 simp -dsimp only [go_sem,aDF,aHH]
 refine ⟨ts,n,rfl,rfl,hE,hn,fun t ht=>.done ?_⟩
 exact hK t ht
def iQ:W.Spec:=fun xs H K=>
 match xs,H with
 | [.va (.c1 (.vl (.string s)))],[]=>((aQ (bl s)).err=0->K (.tu [.c1 (.pt 0 0),iA .i64 0,iA .i64 0]) [jA 114 (aQ (bl s)).toks 0])/\
  ((aQ (bl s)).err ≠ 0->K (.tu [.c1 (.vl (.pointer none)),iA .i64 (aQ (bl s)).err,iA .i64 (aQ (bl s)).off]) [])
 | _,_=>False
theorem zQ {xs:List S} {H:Hp} {K:S->Hp->Prop} (h:iQ xs H K):∃ s,xs=[tS s]/\H=[]/\((aQ (bl s)).err=0->K (.tu [.c1 (.pt 0 0),iA .i64 0,iA .i64 0]) [jA 114 (aQ (bl s)).toks 0])/\
 ((aQ (bl s)).err ≠ 0->K (.tu [.c1 (.vl (.pointer none)),iA .i64 (aQ (bl s)).err,iA .i64 (aQ (bl s)).off]) []):=by
 unfold iQ at h
 split at h
 · exact ⟨_,rfl,rfl,h.1,h.2⟩
 · exact h.elim
attribute [go_sem ↓] iQ
theorem aOG:Meets Tryz.prog 29 iQ:=by
 refine aE Tryz.func29 aPA 1 (by rw [Tryz.ntmps29]; decide) (aB aLM (aA _)) (fun xs H K h=>by obtain ⟨s,rfl,_⟩:=zQ h; rfl) ?_
 intro xs H K h
 obtain ⟨s,rfl,rfl,hK1,hK2⟩:=zQ h
 simp -dsimp only [go_sem,aH5,aGG]
 refine ⟨fun h=>.done (hK2 (by simpa using h)),fun h=>?_⟩
 have hK:=hK1 (by simpa using h)
 exact .sel [0] (by simp) (by simp) rfl (.done hK)
end Go.Proofs.YtkpohmhenegkiaaGreatDoor
namespace Go.Proofs.YtkpohmhenegkiaaGreatDoor.Pr
open Go.W
def pc96:PC:=.seq (.reg [.q 2 (.mv (.k (.string (mk []))))]) (.seq (.reg [.e 3 (.al (.agg #[(.pointer none),(.slice none 0 0)]) 146)]) (.seq (.seq (.reg [.v 8 0,.q 9 (.lnL (.t 8)),.q 10 (.mv (.i 0))]) (.block 0 (.loop (.seq (.reg [.q 11 (.bin .lss true (.t 10) (.t 9))]) (.seq (.cond (.t 11) .skip (.exit 0)) (.seq (.block 1 (.seq (.reg [.l 12 (.ia 4 (.t 8) (.t 10)),.l 13 (.ldn 4 (.t 12)),.e 5 (.al (.agg #[(.int .i64 0),(.string (mk [])),(.int .i64 0),(.int .i64 0)]) 71),.s (.st 4 (.t 5) (.t 13))]) (.seq (.reg [.l 15 (.ldn 4 (.t 5)),.a 16 (.cl 121 [(.t 15)] []),.v 14 16,.q 17 (.ex (.t 14) 0),.q 18 (.ex (.t 14) 1),.v 6 17,.v 7 18]) (.seq (.seq (.reg [.v 19 7,.q 20 (.not (.t 19))]) (.cond (.t 20) (.exit 1) .skip)) (.seq (.seq (.reg [.a 21 (.cl 122 [(.t 3)] [0,1]),.q 22 (.bin .gtr true (.t 21) (.i 0))]) (.cond (.t 22) (.reg [.a 23 (.cl 123 [(.t 3),(.k (.int .u8 32))] [0,1])]) .skip)) (.reg [.v 24 6,.a 25 (.cl 124 [(.t 3),(.t 24)] [0,1])])))))) (.reg [.q 26 (.bin .add true (.t 10) (.i 1)),.v 10 26]))))))) (.seq (.reg [.a 27 (.cl 125 [(.t 3)] [0,1]),.v 2 27]) .ret)))
def rs96:List RV:=[.mv (.t 2)]
theorem ok96:aM Tryz.prog true ⟨fun r k=>if r=7/\k=0 then .own [0,1] else if r=8/\k=0 then .own [0,1] else if r=9/\k=1 then .own [0,1] else if r=11/\k=0 then .own [0,1] else .own [],fun _=>false⟩ Tryz.f96=some (pc96,rs96):=by kernel_rfl
def pc124:PC:=.seq (.reg [.q 4 (.mv (.i 0)),.q 5 (.mv (.k .nilIface))]) (.seq (.reg [.v 6 0,.a 7 (.cl 147 [(.t 6)] [0,1])]) (.seq (.reg [.v 8 0,.v 9 0,.q 10 (.nc (.t 9)),.q 11 (.fa 1 (.t 10)),.l 12 (.ld1 (.t 11)),.v 13 1,.e 14 (.aps 5 (.t 12) (.t 13)),.q 15 (.nc (.t 8)),.q 16 (.fa 1 (.t 15)),.s (.st 1 (.t 16) (.t 14))]) (.seq (.reg [.v 17 1,.q 18 (.lnS (.t 17)),.v 4 18,.q 5 (.mv (.k .nilIface))]) .ret)))
def rs124:List RV:=[.mv (.t 4),.mv (.t 5)]
theorem ok124:aM Tryz.prog true ⟨fun r k=>if r=1/\k=1 then .own [0,1] else .own [],fun _=>false⟩ Tryz.f124=some (pc124,rs124):=by kernel_rfl
def pc144_4:PC:=.seq (.gh (.reg [.q 4 (.mv (.k (.string (mk []))))])) (.seq (.seq (.reg [.q 5 (.mv (.k (.bool true)))]) (.block 0 (.loop (.seq (.seq (.reg [.v 12 5,.v 13 12,⟨some 14,(some (13,false)),.q (.mv (.t 3))⟩,⟨some 15,(some (13,false)),.q (.bin .gtr true (.t 14) (.k (.int .u64 0)))⟩,.a 16 (.pick (.t 13) (.k (.bool true)) (.t 15))]) (.cond (.t 16) .skip (.exit 0))) (.seq (.block 1 (.seq (.reg [.v 17 3,.q 18 (.bin .rem true (.t 17) (.k (.int .u64 10))),.q 19 (.bin .add true (.k (.int .u64 48)) (.t 18)),.q 20 (.cvt .u8 (.t 19)),.e 21 (.bsl 5 1 [(.t 20)]),.q 22 (.b2s (.t 21)),.v 23 4,.q 24 (.bin .add true (.t 22) (.t 23)),.v 4 24]) (.reg [.v 25 3,.q 26 (.bin .quo true (.t 25) (.k (.int .u64 10))),.v 3 26]))) (.reg [.q 5 (.mv (.k (.bool false)))])))))) (.seq (.seq (.reg [.v 27 0,.q 28 (.bin .lss true (.t 27) (.i 0))]) (.cond (.t 28) (.seq (.reg [.v 29 4,.q 30 (.bin .add true (.k (.string (mk [45]))) (.t 29)),.v 2 30]) .ret) .skip)) (.seq (.reg [.v 31 4,.v 2 31]) .ret)))
@[go_sem ↓] theorem S2:a8 pc144_4:=bB _
def pc144:PC:=.seq (.reg [.q 2 (.mv (.k (.string (mk []))))]) (.seq (.reg [.v 6 0,.q 7 (.cvt .u64 (.t 6)),.v 3 7]) (.seq (.seq (.reg [.v 8 0,.q 9 (.bin .lss true (.t 8) (.i 0))]) (.cond (.t 9) (.reg [.v 10 3,.q 11 (.neg false (.t 10)),.v 3 11]) .skip)) (pc144_4)))
def rs144:List RV:=[.mv (.t 2)]
theorem ok144:aM Tryz.prog true ⟨fun _ _=>.own [],fun r=>[4].contains r⟩ Tryz.f144=some (pc144,rs144):=by kernel_rfl
end Go.Proofs.YtkpohmhenegkiaaGreatDoor.Pr
namespace Go.Proofs.YtkpohmhenegkiaaGreatDoor
open Go.W
def digs (n:Nat):List UInt8:=(if h:n < 10 then [] else digs (n / 10)) ++ [(48 + n % 10).toUInt8]
 termination_by n
 decreasing_by omega
theorem kP {n:Nat} (h:n < 10):digs n=[(48 + n).toUInt8]:=by
 rw [digs.eq_1,dif_pos h,Nat.mod_eq_of_lt h]; rfl
theorem nO {n:Nat} (h:10<=n):digs n=digs (n / 10) ++ [(48 + n % 10).toUInt8]:=by
 rw [digs.eq_1,dif_neg (by omega)]
theorem oV:∀ (k n:Nat),n < 10 ^ (k + 1)->(digs n).length<=k + 1
 | 0,n,h=>by rw [kP (by omega)]; simp
 | k + 1,n,h=>by
  rcases bF n 10 with h1 | h1
  · rw [kP h1]; simp
  · rw [nO h1,List.length_append]
    have:=oV k (n / 10) (by rw [Nat.pow_succ] at h; omega)
    simp; omega
def dS (n:Int):List UInt8:=bif decide (n < 0) then 45 :: digs n.natAbs else digs n.natAbs
def r9 (f:Bool) (u:Nat):List UInt8:=bif f || decide (0 < u) then digs u else []
theorem PY {f:Bool} {u:Nat} (h:(f || decide (0 < u))=true):r9 f u=r9 false (u / 10) ++ [(48 + u % 10).toUInt8]:=by
 unfold r9
 rw [h,aI,Bool.false_or]
 rcases bF u 10 with h1 | h1
 · rw [kP h1,Nat.mod_eq_of_lt h1,show decide (0 < u / 10)=false by simp; omega]; rfl
 · rw [nO h1,show decide (0 < u / 10)=true by simp; omega]; rfl
def zN:List S->Prop:=fun xs=>match xs with
 | [.va (.c1 (.vl (.int .i64 n)))]=>-9223372036854775808<=n/\n<=9223372036854775807
 | _=>False
theorem mC {xs:List S} (h:zN xs):∃ n:Int,xs=[iS .i64 n]/\-9223372036854775808<=n/\n<=9223372036854775807:=by
 unfold zN at h
 split at h
 · exact ⟨_,rfl,h⟩
 · exact h.elim
def S7:List S->A:=fun xs=>match xs with
 | [.va (.c1 (.vl (.int .i64 n)))]=>tA (mk (dS n))
 | _=>.gs []
def decFn:Fun:=⟨zN,S7,fun xs h=>by obtain ⟨n,rfl,_⟩:=mC h; trivial⟩
theorem FH:∀ xs H K,decFn.sp xs H K->xs.length=1:=fun xs H K h=>by obtain ⟨n,rfl,_⟩:=mC h.1.1; rfl
attribute [go_sem ↓] zN S7 decFn
theorem UE:Meets Tryz.prog 144 decFn.sp:=by
 refine aE Tryz.func144 Pr.ok144 1 (by rw [Tryz.ntmps144]; decide) (aA _) FH ?_
 intro xs H K h
 obtain ⟨⟨hp,rfl⟩,hK⟩:=h
 obtain ⟨n,rfl,hn1,hn2⟩:=mC hp
 have hK':K (tS (mk (dS n))) []:=hK
 have rest:vc [] 0 Pr.pc144_4.ungh (gH [(0,iS .i64 n),(3,iS .u64 n.natAbs)]) [] (oB 0 Pr.rs144 K):=by
  simp -dsimp only [go_sem,Pr.pc144_4,Pr.rs144]
  refine aL (α:=Bool × Nat × List UInt8) (fun z=>[(0,iS .i64 n),(3,iS .u64 z.2.1),(4,tS (mk z.2.2)),(5,bS z.1)]) (fun _=>[]) (fun z=>z.2.1<=9223372036854775808/\r9 z.1 z.2.1 ++ z.2.2=digs n.natAbs) (fun z=>2 * z.2.1 + (bif z.1 then 1 else 0)) (true,n.natAbs,[]) 0 ⟨by simp only; omega,by simp [r9]⟩ ?_ rfl ?_
  · simp [go_sem]
  rintro ⟨f,u,acc⟩ ⟨hu,hr⟩
  simp only at hu hr
  have hl:=oV 19 n.natAbs (by omega)
  rw [<-hr,List.length_append] at hl
  simp -dsimp only [go_sem]
  have hu0:decide (0 < (u:Int))=decide (0 < u):=by rw [decide_eq_decide]; omega
  have ht:(u:Int).tmod 10=(u % 10:Nat):=by rw [Int.tmod_eq_emod_of_nonneg (by omega)]; omega
  have hd:(u:Int).tdiv 10=(u / 10:Nat):=by rw [Int.tdiv_eq_ediv_of_nonneg (by omega)]; omega
  have hm:=Nat.mod_lt u (show 0 < 10 by decide)
  have hw:IntKind.u8.wrap (48 + ((u % 10:Nat):Int))=48 + ((u % 10:Nat):Int):=lM (by simp [inr,IntKind.min,IntKind.max,IntKind.signed,IntKind.bits]; omega)
  rw [hu0,ht,hd,hw]
  have hb:kZ [[C.vl (Value.int IntKind.u8 (48 + ((u % 10:Nat):Int)))]]=[(48 + u % 10).toUInt8]:=by
   show [UInt8.ofNat (48 + ((u % 10:Nat):Int)).toNat]=_
   rw [show (48 + ((u % 10:Nat):Int)).toNat=48 + u % 10 by omega]
  rw [hb]
  refine ⟨fun hf=>⟨by decide,by omega,rfl,by simp; omega,⟨by decide,by omega⟩,?_⟩,fun hf=>⟨fun h0=>⟨by omega,?_⟩,fun h0=>?_⟩⟩
  · rw [PY hf,List.append_assoc] at hr
    refine aC (false,u / 10,[(48 + u % 10).toUInt8] ++ acc) 0 ⟨by simp only; omega,hr⟩ ?_ ?_ rfl
    · cases f with
      | true=>simp only [aI,aD]; omega
      | false=>simp at hf; simp only [aD]; omega
    · simp [go_sem]
  · have:acc=digs n.natAbs:=by rw [<-hr]; simp [r9,hf]
    refine .done ?_
    rw [this]
    simpa [dS,h0] using hK'
  · have:acc=digs n.natAbs:=by rw [<-hr]; simp [r9,hf]
    refine .done ?_
    rw [this]
    simpa [dS,h0] using hK'
 simp -dsimp only [go_sem,Pr.pc144,Pr.rs144]
 have w:∀ m:Int,IntKind.u64.wrap m=m % 18446744073709551616:=fun m=>by simp [IntKind.wrap,IntKind.signed,IntKind.bits]
 refine ⟨fun h0=>gL 0 rest ?_ rfl,fun h0=>gL 0 rest ?_ rfl⟩
 · simp at h0
   simp [go_sem,w]
   omega
 · simp at h0
   simp [go_sem,w]
   omega
theorem OS:∀ d,d < 10->(([48,49,50,51,52,53,54,55,56,57]:List UInt8).take (d + 1)).drop d=[(48 + d).toUInt8]:=by decide
theorem RZ:Meets Tryz.prog 43 decFn.sp:=by
 refine aE Tryz.func43 aRL 1 (by rw [Tryz.ntmps43]; decide) (aA _) FH ?_
 intro xs H K h
 obtain ⟨⟨hp,rfl⟩,hK⟩:=h
 obtain ⟨n,rfl,hn1,hn2⟩:=mC hp
 have hK':K (tS (mk (dS n))) []:=hK
 simp -dsimp only [go_sem,aFY,aF2]
 refine aL (α:=Int × List UInt8) (fun z=>[(0,iS .i64 z.1),(3,tS (mk z.2)),(4,bS (decide (n < 0)))]) (fun _=>[]) (fun z=>z.1.natAbs<=9223372036854775808/\digs z.1.natAbs ++ z.2=digs n.natAbs) (fun z=>z.1.natAbs) (n,[]) 0 ⟨by simp only; omega,by simp⟩ ?_ rfl ?_
 · simp [go_sem]
 rintro ⟨m,acc⟩ ⟨hu,hr⟩
 simp only at hu hr
 have hl:=oV 19 n.natAbs (by omega)
 rw [<-hr,List.length_append] at hl
 simp -dsimp only [go_sem]
 have ht:(m.tmod 10).natAbs=m.natAbs % 10:=Int.natAbs_tmod m 10
 have hq:(m.tdiv 10).natAbs=m.natAbs / 10:=Int.natAbs_tdiv m 10
 have hm:=Nat.mod_lt m.natAbs (show 0 < 10 by decide)
 have hn:decide (m.tmod 10 < 0)=true->0 - m.tmod 10=((m.natAbs % 10:Nat):Int):=fun h=>by simp at h; omega
 have hp:decide (m.tmod 10 < 0)=false->m.tmod 10=((m.natAbs % 10:Nat):Int):=fun h=>by simp at h; omega
 have hz:(m.tdiv 10 == 0)=decide (m.natAbs < 10):=by rw [Bool.eq_iff_iff]; simp; omega
 obtain ⟨d,hdd⟩:∃ d,d=m.natAbs % 10:=⟨_,rfl⟩
 rw [<-hdd] at ht hm hn hp
 have hd:∀ k:Int,k=(d:Int)->(([48,49,50,51,52,53,54,55,56,57]:List UInt8).take (k + 1).toNat).drop k.toNat=[(48 + d).toUInt8]:=fun k hk=>by
  subst hk
  rw [show ((d:Int) + 1).toNat=d + 1 by omega,show (d:Int).toNat=d by omega]
  exact OS d hm
 have hlast:decide (m.natAbs < 10)=true->[(48 + d).toUInt8] ++ acc=digs n.natAbs:=fun h=>by
  simp at h
  rw [kP h] at hr
  rw [<-hr,show m.natAbs=d by omega]
 have hnext:decide (m.natAbs < 10)=false->digs (m.tdiv 10).natAbs ++ ([(48 + d).toUInt8] ++ acc)=digs n.natAbs:=fun h=>by
  simp at h
  rw [nO h,List.append_assoc] at hr
  rw [hq,<-hr,show d=m.natAbs % 10 by omega]
 rw [hz]
 refine ⟨by decide,fun h=>?_,fun h=>?_⟩
 · have e:=hn h
   rw [hd _ e]
   refine ⟨by omega,by omega,by simp; omega,by simp; omega,⟨by decide,by omega⟩,fun h1=>⟨fun h0=>⟨by simp; omega,?_⟩,fun h0=>?_⟩,fun h1=>?_⟩
   · exact .done (by rw [hlast h1]; simpa [dS,h0] using hK')
   · exact .done (by rw [hlast h1]; simpa [dS,h0] using hK')
   · refine aC (m.tdiv 10,[(48 + d).toUInt8] ++ acc) 0 ⟨by simp only; omega,hnext h1⟩ (by simp at h1; simp only; omega) ?_ rfl
     simp [go_sem,<-e,hd _ e]
 · have e:=hp h
   rw [hd _ e]
   refine ⟨by omega,by simp; omega,by simp; omega,⟨by decide,by omega⟩,fun h1=>⟨fun h0=>⟨by simp; omega,?_⟩,fun h0=>?_⟩,fun h1=>?_⟩
   · exact .done (by rw [hlast h1]; simpa [dS,h0] using hK')
   · exact .done (by rw [hlast h1]; simpa [dS,h0] using hK')
   · refine aC (m.tdiv 10,[(48 + d).toUInt8] ++ acc) 0 ⟨by simp only; omega,hnext h1⟩ (by simp at h1; simp only; omega) ?_ rfl
     simp [go_sem,hd _ e]
def gI (c:UInt8):List UInt8:=bif c == 34 || c == 92 then [92,c] else [c]
def iP (l:List UInt8) (i:Nat):List UInt8:=34 :: (l.take i).flatMap gI
def iO (l:List UInt8):List UInt8:=34 :: l.flatMap gI ++ [34]
theorem FI {l:List UInt8} {i:Nat} {c:UInt8} (h:l[i]? = some c):iP l (i + 1)=iP l i ++ gI c:=by
 unfold iP
 rw [List.take_add_one,h]
 simp
theorem HN (c:UInt8):(gI c).length<=2:=by unfold gI; cases c == 34 || c == 92<;>simp
theorem DY (l:List UInt8):(l.flatMap gI).length<=2 * l.length:=by
 induction l with
 | nil=>simp
 | cons c l ih=>have:=HN c; simp only [List.flatMap_cons,List.length_append,List.length_cons]; omega
theorem KH (l:List UInt8) (i:Nat):(iP l i).length<=1 + 2 * l.length:=by
 have:=DY (l.take i)
 simp only [iP,List.length_cons]
 simp only [List.length_take] at this
 omega
theorem H8 (l:List UInt8):iP l l.length ++ [34]=iO l:=by unfold iP iO; rw [List.take_length]
def AR:List S->Prop:=fun xs=>match xs with
 | [.va (.c1 (.vl (.string s)))]=>(bl s).length<=10000000
 | _=>False
theorem lZ {xs:List S} (h:AR xs):∃ s,xs=[tS s]/\(bl s).length<=10000000:=by
 unfold AR at h
 split at h
 · exact ⟨_,rfl,h⟩
 · exact h.elim
def SZ:List S->A:=fun xs=>match xs with
 | [.va (.c1 (.vl (.string s)))]=>tA (mk (iO (bl s)))
 | _=>.gs []
def quoFn:Fun:=⟨AR,SZ,fun xs h=>by obtain ⟨s,rfl,_⟩:=lZ h; trivial⟩
theorem EC:∀ xs H K,quoFn.sp xs H K->xs.length=1:=fun xs H K h=>by obtain ⟨s,rfl,_⟩:=lZ h.1.1; rfl
attribute [go_sem ↓] AR SZ quoFn
theorem US:Meets Tryz.prog 44 quoFn.sp:=by
 refine aE Tryz.func44 aP9 1 (by rw [Tryz.ntmps44]; decide) (aA _) EC ?_
 intro xs H K h
 obtain ⟨⟨hp,rfl⟩,hK⟩:=h
 obtain ⟨s,rfl,hs⟩:=lZ hp
 have hK':K (tS (mk (iO (bl s)))) []:=hK
 have h34:∀ c:UInt8,((c.toNat:Int) == 34)=(c == 34):=fun c=>eD 34
 have h92:∀ c:UInt8,((c.toNat:Int) == 92)=(c == 92):=fun c=>eD 92
 simp -dsimp only [go_sem,aC6,aHQ]
 refine aL (α:=Nat) (fun i=>[(0,tS s),(3,tS (mk (iP (bl s) i))),(4,iS .i64 i)]) (fun _=>[]) (fun i=>i<=(bl s).length) (fun i=>(bl s).length - i) 0 0 (by omega) ?_ rfl ?_
 · simp [go_sem,iP]
 intro i hi
 have hl:=KH (bl s) i
 simp -dsimp only [go_sem,h34,h92]
 have hi1:((i:Int) + 1).toNat=i + 1:=by omega
 have hsub:∀ c,(bl s)[i]? = some c->List.drop i (List.take ((i:Int) + 1).toNat (bl s))=[c]:=fun c hc=>by rw [hi1,List.drop_take,cA hc]; simp
 refine ⟨fun h1=>?_,fun h1=>?_⟩
 · simp at h1
   refine ⟨by omega,fun c hc=>⟨fun _=>by omega,fun d hd=>?_⟩⟩
   have hE:(c == 34 || d == 92)=(c == 34 || c == 92):=by
    cases h7:c == 34 with
    | true=>rfl
    | false=>
     have:=hd h7
     rw [hc] at this
     obtain rfl:=bG this
     rfl
   have hst:=FI hc
   rw [hE,hsub c hc]
   unfold gI at hst
   refine ⟨fun h2=>⟨by omega,by omega,by omega,by simp; omega,by omega,?_⟩,fun h2=>⟨by omega,by omega,by simp; omega,by omega,?_⟩⟩
   · rw [h2,aI] at hst
     refine aC (i + 1) 0 (by omega) (by omega) ?_ rfl
     simp -dsimp only [go_sem,hsub c hc]
     simp [hst]
   · rw [h2,aD] at hst
     refine aC (i + 1) 0 (by omega) (by omega) ?_ rfl
     simp -dsimp only [go_sem,hsub c hc]
     simp [hst]
 · simp at h1
   obtain rfl:i=(bl s).length:=by omega
   refine ⟨by omega,.done ?_⟩
   rw [H8]
   exact hK'
theorem I3 (l:List UInt8):kZ (l.map iX)=l:=by
 simp only [kZ,List.map_map]
 conv=>rhs; rw [<-List.map_id l]
 apply List.map_congr_left
 intro c _
 simp [C.gi,iX]
theorem aB6:Meets Tryz.prog 145 quoFn.sp:=by
 refine aE Tryz.func145 aLF 1 (by rw [Tryz.ntmps145]; decide) (aA _) EC ?_
 intro xs H K h
 obtain ⟨⟨hp,rfl⟩,hK⟩:=h
 obtain ⟨s,rfl,hs⟩:=lZ hp
 have hK':K (tS (mk (iO (bl s)))) []:=hK
 have h34:∀ c:UInt8,((c.toNat:Int) == 34)=(c == 34):=fun c=>eD 34
 have h92:∀ c:UInt8,((c.toNat:Int) == 92)=(c == 92):=fun c=>eD 92
 simp -dsimp only [go_sem,X5,YI]
 refine aL (α:=Nat) (fun i=>[(0,tS s),(3,.va (.c1 (.sl 0 (iP (bl s) i).length))),(7,iS .i64 (bl s).length),(8,iS .i64 i)]) (fun i=>[.row ((iP (bl s) i).map iX) 5 1]) (fun i=>i<=(bl s).length) (fun i=>(bl s).length - i) 0 1 (by omega) ?_ (by simp [go_sem,iP]) ?_
 · simp [go_sem,iP]
 intro i hi
 have hl:=KH (bl s) i
 simp -dsimp only [go_sem,h34,h92]
 have hap:∀ (l:List UInt8) (c:UInt8),l.map iX ++ [[C.vl (.int .u8 c.toNat)]]=(l ++ [c]).map iX:=fun l c=>by rw [List.map_append]; rfl
 have hap34:(iP (bl s) i).map iX ++ [[C.vl (.int .u8 34)]]=(iP (bl s) i ++ [34]).map iX:=hap _ 34
 have hap92:(iP (bl s) i).map iX ++ [[C.vl (.int .u8 92)]]=(iP (bl s) i ++ [92]).map iX:=hap _ 92
 refine ⟨fun h1=>?_,fun h1=>?_⟩
 · simp at h1
   refine ⟨by omega,fun c hc=>⟨fun _=>by omega,fun d hd=>?_⟩⟩
   have hE:(c == 34 || d == 92)=(c == 34 || c == 92):=by
    cases h7:c == 34 with
    | true=>rfl
    | false=>
     have:=hd h7
     rw [hc] at this
     obtain rfl:=bG this
     rfl
   have hst:=FI hc
   rw [hE]
   unfold gI at hst
   refine ⟨fun h2=>⟨by omega,by omega,fun e he=>?_⟩,fun h2=>⟨by omega,fun e he=>?_⟩⟩
   · rw [hc] at he
     obtain rfl:=bG he
     rw [h2,aI] at hst
     have hst':iP (bl s) (i + 1)=iP (bl s) i ++ [92] ++ [c]:=by rw [hst,List.append_assoc]; rfl
     refine ⟨by omega,by omega,?_⟩
     refine aC (i + 1) 1 (by omega) (by omega) ?_ ?_
     · simp -dsimp only [go_sem,hst']
       simp
     · simp -dsimp only [go_sem,hst',List.map_cons,List.map_nil]
       rfl
   · rw [hc] at he
     obtain rfl:=bG he
     rw [h2,aD] at hst
     refine ⟨by omega,by omega,?_⟩
     refine aC (i + 1) 1 (by omega) (by omega) ?_ ?_
     · simp -dsimp only [go_sem,hst]
       simp
     · simp -dsimp only [go_sem,hst,List.map_cons,List.map_nil]
 · simp at h1
   obtain rfl:i=(bl s).length:=by omega
   rw [hap34,I3,H8]
   refine ⟨by omega,fun r hr=>?_,.sel [] (by simp) (by simp) rfl (.done hK')⟩
   obtain ⟨c,_,rfl⟩:=List.mem_map.1 hr
   rfl
def PQ:W.Spec:=fun av H K=>
 match av,H with
 | [.va (.c1 (.pt 0 0)),.va (.c1 (.vl (.string s)))],[.cells [p,.sl 1 n] 146,.row xs 5 1]=>(kD p n xs/\(bl s).length<=1000000000)/\
  K (.tu [iA .i64 (bl s).length,.c1 (.vl .nilIface)]) [.cells [.pt 0 0,.sl 1 (n + (bl s).length)] 146,.row (xs ++ (bl s).map iX) 5 1]
 | _,_=>False
theorem EP {av:List S} {H:Hp} {K:S->Hp->Prop} (h:PQ av H K):∃ p n xs s,av=[.va (.c1 (.pt 0 0)),tS s]/\H=[.cells [p,.sl 1 n] 146,.row xs 5 1]/\kD p n xs/\(bl s).length<=1000000000/\
 K (.tu [iA .i64 (bl s).length,.c1 (.vl .nilIface)]) [.cells [.pt 0 0,.sl 1 (n + (bl s).length)] 146,.row (xs ++ (bl s).map iX) 5 1]:=by
 unfold PQ at h
 split at h
 · exact ⟨_,_,_,_,rfl,rfl,h.1.1,h.1.2,h.2⟩
 · exact h.elim
attribute [go_sem ↓] PQ
theorem J1:Meets Tryz.prog 124 PQ:=by
 refine aE Tryz.func124 Pr.ok124 2 (by rw [Tryz.ntmps124]; decide) (aB zC (aA _)) (fun av H K h=>by obtain ⟨_,_,_,_,rfl,_⟩:=EP h; rfl) ?_
 intro av H K h
 obtain ⟨p,n,xs,s,rfl,rfl,hp,hs,hK⟩:=EP h
 obtain ⟨hp1,rfl,hp2,hp3⟩:=hp
 rcases hp1 with rfl | rfl
 all_goals
  simp -dsimp only [go_sem,Pr.pc124,Pr.rs124] at hK ⊢
  exact ⟨⟨by simp,rfl,hp2,hp3⟩,by omega,.done hK⟩
def fN (c:UInt8):Bool:=decide (32<=c) && decide (c<=126)
def dA (k:Int) (x:List UInt8) (n:Int):List UInt8:=bif k == 1 then x else bif k == 2 then dS n else bif k == 3 then iO x else bif k == 4 then x else []
def gE (k:Int) (x:List UInt8) (n:Int):Bool:=
 bif k == 1 then n == 0 && cC x else bif k == 2 then x == [] else bif k == 3 then n == 0 && (decide (x.length<=200) && x.all fN) else bif k == 4 then n == 0 && (match x with | [c]=>dB c.toNat | _=>false) else false
def BA:W.Spec:=fun xs H K=>
 match xs with
 | [.va (.gs [.vl (.int .i64 k),.vl (.string x),.vl (.int .i64 n),.vl (.int .i64 _)])]=>(H=[]/\(-9223372036854775808<=n/\n<=9223372036854775807)/\(bl x).length<=10000000)/\K (.tu [tA (mk (dA k (bl x) n)),bA (gE k (bl x) n)]) []
 | _=>False
theorem BM {xs:List S} {H:Hp} {K:S->Hp->Prop} (h:BA xs H K):∃ k x n a,xs=[.va (.gs (mL k x n a))]/\H=[]/\(-9223372036854775808<=n/\n<=9223372036854775807)/\(bl x).length<=10000000/\K (.tu [tA (mk (dA k (bl x) n)),bA (gE k (bl x) n)]) []:=by
 unfold BA at h
 split at h
 · exact ⟨_,_,_,_,rfl,h.1.1,h.1.2.1,h.1.2.2,h.2⟩
 · exact h.elim
theorem ST:∀ xs H K,BA xs H K->xs.length=1:=fun xs H K h=>by obtain ⟨_,_,_,_,rfl,_⟩:=BM h; rfl
attribute [go_sem ↓] BA
theorem UH:Meets Tryz.prog 121 BA:=by
 refine aE Tryz.func121 aJ4 1 (by rw [Tryz.ntmps121]; decide) (aH aBJ (aH UE (aH aB6 (aH JZ (aA _))))) ST ?_
 intro xs H K h
 obtain ⟨k,x,n,a,rfl,rfl,hn,hx,hK⟩:=BM h
 simp -dsimp only [go_sem,ZE,XX]
 have fin:∀ (H':Hp) (y:ByteArray) (b:Bool),y=mk (dA k (bl x) n)->b=gE k (bl x) n->W.Fin 0 K (.tu [tA y,bA b]) H':=fun H' y b h1 h2=>by
  subst h1; subst h2
  exact .sel [] (by simp) (by simp) rfl (.done hK)
 refine ⟨fun h1=>fin _ _ _ (by simp [dA,h1]) (by simp [gE,h1]),fun h1=>⟨fun h2=>⟨hn,fin _ _ _ (by simp [dA,h1,h2]) (by simp [gE,h1,h2])⟩,fun h2=>⟨fun h3=>?_,fun h3=>⟨fun h4=>?_,fun h4=>fin _ _ _ (by simp [dA,h1,h2,h3,h4]) (by simp [gE,h1,h2,h3,h4])⟩⟩⟩⟩
 · refine aL (α:=Nat) (fun i=>[(1,.va (.c1 (.pt 0 0))),(4,bS (n == 0 && (decide ((bl x).length<=200) && ((bl x).take i).all fN))),(41,iS .i64 (bl x).length),(42,iS .i64 i)]) (fun _=>[.cells (mL k x n a) 71]) (fun i=>i<=(bl x).length) (fun i=>(bl x).length - i) 0 1 (by omega) ?_ (by simp [go_sem]) ?_
   · simp [go_sem]
     congr 1
     rw [decide_eq_decide]; omega
   intro i hi
   simp -dsimp only [go_sem]
   refine ⟨fun h5=>⟨fun _=>by simp at h5; omega,fun c hc=>⟨fun _=>by simp at h5; omega,fun d hd=>⟨by omega,aC (i + 1) 1 (by simp at h5; omega) (by simp at h5; omega) ?_ (by simp [go_sem])⟩⟩⟩,fun h5=>?_⟩
   · have hE:(n == 0 && (decide ((bl x).length<=200) && (List.take i (bl x)).all fN) && decide (32<=(c.toNat:Int)) && decide ((d.toNat:Int)<=126))=(n == 0 && (decide ((bl x).length<=200) && (List.take (i + 1) (bl x)).all fN)):=by
      have hlt:i < (bl x).length:=by simp at h5; omega
      have hg:=aW hlt
      rw [List.take_add_one,hg,List.all_append]
      generalize (bl x)[i]=e at hg
      simp only [Option.toList_some,List.all_cons,List.all_nil,Bool.and_true]
      have hb:∀ p q r s:Bool,(p && (q && (r && s)))=(p && (q && r) && s):=by decide
      rw [hb]
      generalize (n == 0 && (decide ((bl x).length<=200) && (List.take i (bl x)).all fN))=g at hc hd ⊢
      cases g with
      | false=>rfl
      | true=>
       obtain rfl:e=c:=by have:=hc rfl; rw [hg] at this; exact bG this
       have e32:decide (32<=(e.toNat:Int))=decide (32<=e):=by rw [decide_eq_decide,UInt8.le_iff_toNat_le]; show _ ↔ 32<=e.toNat; omega
       have e126:∀ d:UInt8,decide ((d.toNat:Int)<=126)=decide (d<=126):=fun d=>by rw [decide_eq_decide,UInt8.le_iff_toNat_le]; show _ ↔ d.toNat<=126; omega
       rw [e32] at hd ⊢
       rw [e126]
       unfold fN
       cases h6:decide (32<=e) with
       | false=>rfl
       | true=>
        rw [h6] at hd
        obtain rfl:e=d:=by have:=hd rfl; rw [hg] at this; exact bG this
        rfl
     rw [<-hE]
     simp [go_sem]
   · obtain rfl:i=(bl x).length:=by simp at h5; omega
     rw [List.take_length]
     exact ⟨hx,fin _ _ _ (by simp [dA,h1,h2,h3]) (by simp [gE,h1,h2,h3])⟩
 · refine ⟨fun h5=>by simp at h5; omega,fun c hc=>⟨fun _=>by have:=c.toNat_lt; omega,fin _ _ _ (by simp [dA,h1,h2,h3,h4]) ?_⟩⟩
   rw [aEQ]
   simp only [gE,h1,h2,h3,h4,aI,aD]
   cases h6:n == 0 with
   | false=>rfl
   | true=>
    rw [h6] at hc
    cases hb:bl x with
    | nil=>rfl
    | cons d r=>
     rw [hb] at hc
     cases r with
     | nil=>
      obtain rfl:d=c:=by simpa using hc
      rfl
     | cons e r=>
      have:((((d :: e :: r).length:Nat):Int) == 1)=false:=by simp; omega
      rw [this]; rfl
def tL:List S->Prop:=fun xs=>match xs with
 | [.va (.gs [.vl (.int .i64 _),.vl (.string x),.vl (.int .i64 _),.vl (.int .i64 _)])]=>(bl x).length<=10000000
 | _=>False
theorem pR {xs:List S} (h:tL xs):∃ k x n a,xs=[.va (.gs (mL k x n a))]/\(bl x).length<=10000000:=by
 unfold tL at h
 split at h
 · exact ⟨_,_,_,_,rfl,h⟩
 · exact h.elim
def IR:List S->A:=fun xs=>match xs with
 | [.va (.gs [.vl (.int .i64 k),.vl (.string x),.vl (.int .i64 n),.vl (.int .i64 _)])]=>bA (gE k (bl x) n)
 | _=>.gs []
def vldFn:Fun:=⟨tL,IR,fun xs h=>by obtain ⟨_,_,_,_,rfl,_⟩:=pR h; trivial⟩
theorem SQ:∀ xs H K,vldFn.sp xs H K->xs.length=1:=fun xs H K h=>by obtain ⟨_,_,_,_,rfl,_⟩:=pR h.1.1; rfl
attribute [go_sem ↓] tL IR vldFn
structure Tx where
 k:Int
 x:List UInt8
 n:Int
 a:Int
abbrev y6 (t:Tx):List C:=mL t.k (mk t.x) t.n t.a
structure TkFit (t:Tx):Prop where
 lo:-9223372036854775808<=t.n
 hi:t.n<=9223372036854775807
 len:t.x.length<=100000
def kK (acc:List UInt8) (t:Tx):List UInt8:=bif gE t.k t.x t.n then acc ++ (bif (acc == []) then [] else [32]) ++ dA t.k t.x t.n else acc
def gP (ts:List Tx):List UInt8:=ts.foldl kK []
def cT (ts:List Tx) (i:Nat):List UInt8:=(ts.take i).foldl kK []
theorem l5 {ts:List Tx} {i:Nat} {t:Tx} (h:ts[i]? = some t):cT ts (i + 1)=kK (cT ts i) t:=by
 unfold cT
 rw [List.take_add_one,h,List.foldl_append]; rfl
theorem rM (ts:List Tx):cT ts ts.length=gP ts:=by unfold cT gP; rw [List.take_length]
theorem yS {n:Int} (h1:-9223372036854775808<=n) (h2:n<=9223372036854775807):(dS n).length<=21:=by
 have:=oV 19 n.natAbs (by omega)
 unfold dS
 cases decide (n < 0)<;>simp<;>omega
theorem xP {t:Tx} (h:TkFit t):(dA t.k t.x t.n).length<=200002:=by
 have h1:=yS h.lo h.hi
 have h2:=DY t.x
 have h3:=h.len
 unfold dA iO
 cases t.k == 1<;>cases t.k == 2<;>cases t.k == 3<;>cases t.k == 4<;>simp -dsimp only [aI,aD,List.length_append,List.length_cons,List.length_nil]<;>omega
theorem WW {acc:List UInt8} {t:Tx} (h:TkFit t):(kK acc t).length<=acc.length + 200003:=by
 have:=xP h
 unfold kK
 cases gE t.k t.x t.n<;>cases (acc == [])<;>simp<;>omega
theorem rZ {ts:List Tx} (h:∀ t ∈ ts,TkFit t):∀ i,i<=ts.length->(cT ts i).length<=i * 200003
 | 0,_=>by simp [cT]
 | i + 1,hi=>by
  have h1:=rZ h i (by omega)
  have hg:ts[i]? = some ts[i]:=aW (by omega)
  rw [l5 hg]
  have:=WW (acc:=cT ts i) (h _ (bJ hg))
  omega
def BC:List S->Prop:=fun xs=>match xs with
 | [.va (.c1 (.fz rs))]=>∃ ts:List Tx,rs=ts.map y6/\ts.length<=4001/\∀ t ∈ ts,TkFit t
 | _=>False
theorem l6 {xs:List S} (h:BC xs):∃ ts:List Tx,xs=[.va (.c1 (.fz (ts.map y6)))]/\ts.length<=4001/\∀ t ∈ ts,TkFit t:=by
 unfold BC at h
 split at h
 · obtain ⟨ts,rfl,h1,h2⟩:=h
   exact ⟨_,rfl,h1,h2⟩
 · exact h.elim
def C.tk (r:List C):Tx:=match r with
 | [.vl (.int .i64 k),.vl (.string x),.vl (.int .i64 n),.vl (.int .i64 a)]=>⟨k,bl x,n,a⟩
 | _=>⟨0,[],0,0⟩
theorem aE2 (t:Tx):C.tk (y6 t)=t:=rfl
def tV:List S->A:=fun xs=>match xs with
 | [.va (.c1 (.fz rs))]=>tA (mk (gP (rs.map C.tk)))
 | _=>.gs []
theorem mI (ts:List Tx):tV [.va (.c1 (.fz (ts.map y6)))]=tA (mk (gP ts)):=by
 show tA (mk (gP ((ts.map y6).map C.tk)))=_
 rw [List.map_map,show (C.tk ∘ y6)=id from funext aE2,List.map_id]
def prtFn:Fun:=⟨BC,tV,fun xs h=>by obtain ⟨ts,rfl,_⟩:=l6 h; rw [mI]; trivial⟩
theorem EG:∀ xs H K,prtFn.sp xs H K->xs.length=1:=fun xs H K h=>by obtain ⟨ts,rfl,_⟩:=l6 h.1.1; rfl
theorem aEL:Meets Tryz.prog 96 prtFn.sp:=by
 refine aE Tryz.func96 Pr.ok96 1 (by rw [Tryz.ntmps96]; decide) (aB UH (aB aDI (aB y8 (aB J1 (aB MS (aA _)))))) EG ?_
 intro xs H K h
 obtain ⟨⟨hp,rfl⟩,hK⟩:=h
 obtain ⟨ts,rfl,h60,hf⟩:=l6 hp
 have hK':K (tS (mk (gP ts))) []:=by have:=hK; rw [show prtFn.val=tV from rfl,mI] at this; exact this
 simp -dsimp only [go_sem,Pr.pc96,Pr.rs96]
 refine dX (α:=C × Nat) (fun z=>[(3,.va (.c1 (.pt 0 0))),(8,.va (.c1 (.fz (ts.map y6)))),(9,iS .i64 ts.length),(10,iS .i64 z.2)])
  (fun z=>[.cells [z.1,.sl 1 (cT ts z.2).length] 146,.row ((cT ts z.2).map iX) 5 1])
  (fun z=>(z.1=.vl (.pointer none)\/z.1=.pt 0 0)/\z.2<=ts.length) (fun z=>ts.length - z.2)
  (.nilc 0 1 5 1 _ _ rfl rfl (l9 (.vl (.pointer none),0) 2 ⟨.inl rfl,by simp only; omega⟩ ?_ ?_)) ?_
 · simp [go_sem]
 · simp -dsimp only [go_sem]; simp [cT]
 rintro ⟨p,i⟩ ⟨hp,hi⟩
 simp only at hp hi
 have hl:=rZ hf i hi
 have hby:∀ (l:List UInt8),∀ r ∈ l.map iX,∃ c:UInt8,r=iX c:=fun l r hr=>by obtain ⟨c,_,rfl⟩:=List.mem_map.1 hr; exact ⟨c,rfl⟩
 have hI:∀ (p:C) (l:List UInt8),(p=.vl (.pointer none)\/p=.pt 0 0)->l.length<=1000000000->kD p l.length (l.map iX):=fun p l h1 h2=>⟨h1,by simp,hby l,by simpa using h2⟩
 have hap:∀ (l:List UInt8),l.map iX ++ [[C.vl (.int .u8 32)]]=(l ++ [32]).map iX:=fun l=>by rw [List.map_append]; rfl
 rcases hp with rfl | rfl
 all_goals
  simp -dsimp only [go_sem,NK]
  refine ⟨fun h1=>⟨by simp at h1; omega,fun t ht=>?_⟩,fun h1=>?_⟩
  · have hft:=hf t (bJ ht)
    have hlx:=hft.len
    have hxl:=xP hft
    have hst:=l5 ht
    have hlt:i < ts.length:=by simp at h1; omega
    refine ⟨⟨⟨hft.lo,hft.hi⟩,by omega⟩,fun h2=>⟨by omega,?_⟩,fun h2=>?_⟩
    · simp only [kK,h2,aD] at hst
      first
       | (refine aC (C.vl (.pointer none),i + 1) 2 ⟨.inl rfl,hlt⟩ (by simp only; omega) (by simp [go_sem]) ?_; simp -dsimp only [go_sem,hst]; done)
       | (refine aC (C.pt 0 0,i + 1) 2 ⟨.inr rfl,hlt⟩ (by simp only; omega) (by simp [go_sem]) ?_; simp -dsimp only [go_sem,hst]; done)
    · have h2':gE t.k t.x t.n=true:=by simpa using h2
      simp only [kK,h2',aI] at hst
      refine ⟨hI _ _ (by simp) (by omega),fun h3=>?_,fun h3=>?_⟩
      · have hne:(cT ts i == [])=false:=by
         cases hq:cT ts i with
         | nil=>rw [hq] at h3; simp at h3
         | cons c l=>rfl
        rw [hne,aD] at hst
        have hB:kD (C.pt 0 0) ((cT ts i).length + 1) ((cT ts i).map iX ++ [[C.vl (.int .u8 32)]]):=by
         rw [hap]
         have:=hI (.pt 0 0) (cT ts i ++ [32]) (.inr rfl) (by simp; omega)
         simpa only [List.length_append,List.length_cons,List.length_nil] using this
        refine ⟨⟨hI _ _ (by simp) (by omega),by omega⟩,⟨hB,by omega⟩,by omega,aC (C.pt 0 0,i + 1) 2 ⟨.inr rfl,hlt⟩ (by simp only; omega) (by simp [go_sem]) ?_⟩
        simp -dsimp only [go_sem,hst,List.map_cons,List.map_nil]
        rfl
      · have hne:(cT ts i == [])=true:=by
         cases hq:cT ts i with
         | nil=>rfl
         | cons c l=>rw [hq] at h3; simp at h3
        rw [hne,aI,List.append_nil] at hst
        refine ⟨⟨hI _ _ (by simp) (by omega),by omega⟩,by omega,aC (C.pt 0 0,i + 1) 2 ⟨.inr rfl,hlt⟩ (by simp only; omega) (by simp [go_sem]) ?_⟩
        simp -dsimp only [go_sem,hst]
  · obtain rfl:i=ts.length:=by simp at h1; omega
    rw [I3,rM]
    exact ⟨hI _ _ (by simp) (by rw [rM] at hl; omega),.sel [] (by simp) (by simp) rfl (.done hK')⟩
theorem JA {l x rest:List UInt8} {a:Nat} (h:l.drop a=x ++ rest):(l.take (a + x.length)).drop a=x:=by
 rw [List.drop_take,h,Nat.add_sub_cancel_left,List.take_left]
theorem G9 {l x rest:List UInt8} {a:Nat} (h:l.drop a=x ++ rest) (j:Nat):l[a + x.length + j]? = rest[j]?:=by
 have:(l.drop a)[x.length + j]? = rest[j]?:=by rw [h,List.getElem?_append_right (by omega)]; congr 1; omega
 rw [<-this,List.getElem?_drop]; congr 1; omega
theorem uI {l x:List UInt8} {a:Nat} {c:UInt8} (h:l.drop a=c :: x):l[a]? = some c:=by
 have:(l.drop a)[0]? = some c:=by rw [h]; rfl
 rwa [List.getElem?_drop,Nat.add_zero] at this
theorem MU {l x:List UInt8} {a:Nat} {c:UInt8} (h:l.drop a=c :: x):l.drop (a + 1)=x:=by
 rw [<-List.drop_drop,h]; rfl
theorem EU {l rest:List UInt8} {a:Nat} {c:UInt8} (h:l.drop a=c :: rest) (hx:dB c.toNat=true):cF l a=.ok 4 [c] 0 (a + 1)/\∃ c,l[a]? = some c/\(c == 32 || c == 9 || c == 10)=false/\(c == 35)=false:=by
 have hc:=uI h
 have hsk:=cN (p:=fun c=>!(dB c.toNat) || ((!(c == 32 || c == 9 || c == 10) && !(c == 35)) && (!(bD c.toNat) && !(a7 c || c == 45) && !(c == 34)))) (by decide +kernel) c
 simp only [hx,Bool.not_true,Bool.false_or,Bool.and_eq_true,Bool.not_eq_true'] at hsk
 obtain ⟨h1,⟨h2,h3⟩,h4⟩:=hsk
 exact ⟨by simp only [cF,hc,h2,h3,h4,hx,aI,aD],c,hc,h1⟩
theorem L0:∀ (x rest out:List UInt8) (i:Nat),x.all fN=true->quoL i (x.flatMap gI ++ 34 :: rest) out=(i + (x.flatMap gI).length + 1,some (out ++ x))
 | [],rest,out,i,_=>by
  rw [List.flatMap_nil,List.nil_append,eS]
  simp
 | c :: x,rest,out,i,h=>by
  rw [List.all_cons,Bool.and_eq_true] at h
  obtain ⟨h1,h2⟩:=h
  have ih:=fun i out=>L0 x rest out i h2
  rw [List.flatMap_cons,List.append_assoc]
  unfold fN at h1
  have hlo:(decide (c < 32) || decide (126 < c))=false:=by
   simp only [Bool.and_eq_true,decide_eq_true_eq,UInt8.le_iff_toNat_le] at h1
   simp only [Bool.or_eq_false_iff,decide_eq_false_iff_not,UInt8.lt_iff_toNat_lt]
   exact ⟨by omega,by omega⟩
  rw [show gI c=bif c == 34 || c == 92 then [92,c] else [c] from rfl]
  cases hq:(c == 34 || c == 92) with
  | true=>
   rw [aI,List.cons_append,eS]
   have e1:(decide ((92:UInt8) < 32) || decide ((126:UInt8) < 92))=false:=by decide
   have e2:((92:UInt8) == 34)=false:=by decide
   have e3:((92:UInt8) == 92)=true:=by decide
   rw [e1,e2,e3]
   simp only [aI,aD,List.cons_append,List.nil_append,hq]
   rw [ih]
   simp; omega
  | false=>
   simp only [Bool.or_eq_false_iff] at hq
   rw [aD,List.cons_append,List.nil_append,eS,hlo,hq.1,hq.2]
   simp only [aD]
   rw [ih]
   simp; omega
theorem DV {l x rest:List UInt8} {a:Nat} (h:l.drop a=iO x ++ rest) (hl:x.length<=200) (hx:x.all fN=true):cF l a=.ok 3 x 0 (a + (iO x).length)/\∃ c,l[a]? = some c/\(c == 32 || c == 9 || c == 10)=false/\(c == 35)=false:=by
 have h':l.drop a=34 :: (x.flatMap gI ++ 34 :: rest):=by rw [h]; simp [iO]
 have hc:=uI h'
 refine ⟨?_,34,hc,by decide,by decide⟩
 have e1:bD ((34:UInt8).toNat:Int)=false:=by decide
 have e2:(a7 34 || (34:UInt8) == 45)=false:=by decide
 have h200:decide (200 < x.length)=false:=by simp; omega
 simp only [cF,hc,e1,e2,aD,e7,MU h',L0 x rest [] (a + 1) hx,List.nil_append,h200]
 simp [iO]
 omega
theorem xM:∀ (k m:Nat),m < 10 ^ (k + 1)->∀ c ∈ digs m,a7 c=true
 | 0,m,h=>fun c hc=>by
  rw [kP (by omega)] at hc
  simp only [List.mem_cons,List.not_mem_nil,or_false] at hc
  subst hc
  rw [iU,UInt8.toNat_ofNat']
  omega
 | k + 1,m,h=>fun c hc=>by
  rcases bF m 10 with h1 | h1
  · exact xM 0 m (by omega) c hc
  · rw [nO h1,List.mem_append] at hc
    rcases hc with hc | hc
    · exact xM k (m / 10) (by rw [Nat.pow_succ] at h; omega) c hc
    · simp only [List.mem_cons,List.not_mem_nil,or_false] at hc
      subst hc
      rw [iU,UInt8.toNat_ofNat']
      omega
theorem C7 (m:Nat):digs m ≠ []:=by rw [digs.eq_1]; simp
theorem uO:∀ (k m:Nat),m < 10 ^ (k + 1)->0 < m->(digs m)[0]? ≠ some 48
 | 0,m,h,h0=>by
  rw [kP (by omega)]
  simp only [List.getElem?_cons_zero,ne_eq,aJ]
  intro e
  have:=congrArg UInt8.toNat e
  rw [UInt8.toNat_ofNat'] at this
  have:(48 + m) % 256=48:=this
  omega
 | k + 1,m,h,h0=>by
  rcases bF m 10 with h1 | h1
  · exact uO 0 m (by omega) h0
  · rw [nO h1,List.getElem?_append_left (List.length_pos_iff.2 (C7 _))]
    exact uO k (m / 10) (by rw [Nat.pow_succ] at h; omega) (by omega)
theorem JX (c:UInt8):∀ (l:List UInt8) (n:Nat),decV n (l ++ [c])=10 * decV n l + (c.toNat - 48)
 | [],n=>by rw [List.nil_append,fQ,kI,kI]
 | d :: l,n=>by rw [List.cons_append,fQ,fQ,JX c l]
theorem tD:∀ (k m:Nat),m < 10 ^ (k + 1)->decV 0 (digs m)=m
 | 0,m,h=>by
  rw [kP (by omega),fQ,kI,UInt8.toNat_ofNat']
  omega
 | k + 1,m,h=>by
  rcases bF m 10 with h1 | h1
  · exact tD 0 m (by omega)
  · rw [nO h1,JX,tD k (m / 10) (by rw [Nat.pow_succ] at h; omega),UInt8.toNat_ofNat']
    omega
abbrev okT (t:Tx):Bool:=gE t.k t.x t.n
abbrev sZ (t:Tx):List UInt8:=dA t.k t.x t.n
abbrev wM (t:Tx):Int × List UInt8 × Int:=(t.k,t.x,t.n)
abbrev cQ (t:Tk):Int × List UInt8 × Int:=(t.k,t.x,t.n)
def uC:PC:=.seq (.seq (.gh (.reg [.v 25 7,.q 26 (.nc (.t 25)),.q 27 (.fa 4 (.t 26)),.l 28 (.ld1 (.t 27)),.v 29 28,⟨some 30,(some (29,false)),.q (.mv (.t 8))⟩,⟨some 31,(some (29,false)),.q (.lnS (.t 30))⟩,⟨some 32,(some (29,false)),.q (.bin .gtr true (.t 31) (.i 4000))⟩,.a 33 (.pick (.t 29) (.k (.bool true)) (.t 32))])) (.cond (.t 33) (.seq (.reg [.q 6 (.mv (.k (.string (mk []))))]) .ret) .skip)) (.seq (.reg [.v 34 8,.v 6 34]) .ret)
@[go_sem ↓] theorem aRT:a8 uC:=bB _
def KB:PC:=.seq (.gh (.ord  [.q (.q 17 (.fa 0 (.t 4))),.q (.l 18 (.ld1 (.t 17))),.q (.v 21 7),.q (.l 22 (.ldn 4 (.t 4))),.q (.l 23 (.ldn 5 (.t 5))),.m (.a 19 (.cl 24 [(.t 18)] [])),.rc (.v 21 7),.rc (.l 22 (.ldn 4 (.t 4))),.rc (.l 23 (.ldn 5 (.t 5))),.q (.q 20 (.fld1 0 (.t 19))),.m (.a 24 (.ca (.t 20) [(.t 21),(.t 22),(.t 23)] [3])),.m (.v 8 24)])) (uC)
@[go_sem ↓] theorem aPB:a8 KB:=bB _
def VJ:PC:=.seq (.reg [.e 3 (.bx 25 (.t 0)),.e 4 (.bx 28 (.t 1)),.e 5 (.bx 32 (.t 2)),.q 6 (.mv (.k (.string (mk []))))]) (.seq (.seq (.reg [.l 9 (.ldn 3 (.t 3)),.l 10 (.ldn 4 (.t 4)),.l 11 (.ldn 5 (.t 5)),.a 12 (.cq 23 [(.t 9),(.t 10),(.t 11)]),.q 13 (.bin .neq true (.t 12) (.i 0))]) (.cond (.t 13) (.seq (.reg [.q 6 (.mv (.k (.string (mk []))))]) .ret) .skip)) (.seq (.reg [.l 14 (.ldn 3 (.t 3)),.q 15 (.bd [(.int .i64 0),(.slice none 0 0),(.slice none 0 0),(.pointer none),(.bool false),(.int .i64 0)] [(0,3,(.t 14))]),.e 16 (.bx 62 (.t 15)),.v 7 16]) (KB)))
def TZ:List RV:=[.mv (.t 6)]
theorem aQT:aM Tryz.prog true ⟨fun r k=>if r=1/\k=3 then .q else if r=4/\k=7 then .own [3] else .own [],fun r=>[4,5].contains r⟩ Tryz.f11=some (VJ,TZ):=by kernel_rfl
def JV:PC:=.gh (.reg [.v 46 12,.a 47 (.cl 31 [(.t 46)] [4,3])])
@[go_sem ↓] theorem aN6:a8 JV:=bB _
def nV:PC:=.seq (.gh (.reg [.v 61 14,.q 62 (.bin .neq true (.t 61) (.i 0))])) (.cond (.t 62) (.seq (.reg [.q 63 (.bd [(.int .i64 0),(.int .i64 0),(.string (mk [])),(.slice none 0 0),(.slice none 0 0)] []),.v 64 14,.s (.st 5 (.t 6) (.t 63)),.v 7 64,.q 8 (.mv (.i 0))]) .ret) .skip)
@[go_sem ↓] theorem aMP:a8 nV:=bB _
def wC:PC:=.seq (.seq (.gh (.reg [.l 57 (.ldn 3 (.t 3)),.l 58 (.ldn 4 (.t 4)),.l 59 (.ldn 5 (.t 13)),.a 60 (.cq 23 [(.t 57),(.t 58),(.t 59)]),.v 14 60])) (nV)) (.seq (.reg [.l 65 (.ldn 5 (.t 13)),.s (.st 5 (.t 6) (.t 65)),.q 7 (.mv (.i 0)),.q 8 (.mv (.i 0))]) .ret)
@[go_sem ↓] theorem aMJ:a8 wC:=bB _
def nX:PC:=.seq (.seq (.gh (.reg [.v 48 12,.q 49 (.nc (.t 48)),.q 50 (.fa 4 (.t 49)),.l 51 (.ld1 (.t 50))])) (.cond (.t 51) (.seq (.ord  [.q (.q 52 (.bd [(.int .i64 0),(.int .i64 0),(.string (mk [])),(.slice none 0 0),(.slice none 0 0)] [])),.q (.v 53 12),.q (.q 54 (.nc (.t 53))),.q (.q 55 (.fa 5 (.t 54))),.q (.l 56 (.ld1 (.t 55))),.m (.s (.st 5 (.t 6) (.t 52))),.rc (.v 53 12),.rc (.q 54 (.nc (.t 53))),.rc (.q 55 (.fa 5 (.t 54))),.rc (.l 56 (.ld1 (.t 55))),.m (.q 7 (.mv (.i 2))),.rc (.v 53 12),.rc (.q 54 (.nc (.t 53))),.rc (.q 55 (.fa 5 (.t 54))),.rc (.l 56 (.ld1 (.t 55))),.m (.v 8 56)]) .ret) .skip)) (wC)
@[go_sem ↓] theorem aMI:a8 nX:=bB _
def KW:PC:=.seq (.seq (.gh (.reg [.v 42 9,.a 43 (.cl 30 [(.t 42)] [3]),.q 44 (.fld1 0 (.t 43)),.q 45 (.bin .neq true (.t 44) (.i 0))])) (.cond (.t 45) (JV) .skip)) (nX)
@[go_sem ↓] theorem aNS:a8 KW:=bB _
def KT:PC:=.seq (.gh (.ord  [.q (.q 35 (.fa 0 (.t 4))),.q (.l 36 (.ld1 (.t 35))),.q (.v 39 12),.q (.l 40 (.ldn 4 (.t 4))),.m (.a 37 (.cl 24 [(.t 36)] [])),.rc (.v 39 12),.rc (.l 40 (.ldn 4 (.t 4))),.q (.q 38 (.fld1 1 (.t 37))),.m (.a 41 (.ca (.t 38) [(.t 39),(.t 40)] [4,3])),.m (.e 13 (.al (.agg #[(.int .i64 0),(.int .i64 0),(.string (mk [])),(.slice none 0 0),(.slice none 0 0)]) 32)),.m (.s (.st 5 (.t 13) (.t 41)))])) (KW)
@[go_sem ↓] theorem aPG:a8 KT:=bB _
def JY:PC:=.seq (.gh (.reg [.l 31 (.ldn 3 (.t 3)),.v 32 9,.q 33 (.bd [(.int .i64 0),(.slice none 0 0),(.slice none 0 0),(.pointer none),(.bool false),(.int .i64 0)] [(0,3,(.t 31)),(3,1,(.t 32))]),.e 34 (.bx 62 (.t 33)),.v 12 34])) (KT)
@[go_sem ↓] theorem aP2:a8 JY:=bB _
def zI:PC:=.seq (.seq (.gh (.reg [.v 26 10,.q 27 (.bin .neq true (.t 26) (.i 0))])) (.cond (.t 27) (.seq (.reg [.q 28 (.bd [(.int .i64 0),(.int .i64 0),(.string (mk [])),(.slice none 0 0),(.slice none 0 0)] []),.v 29 10,.v 30 11,.s (.st 5 (.t 6) (.t 28)),.v 7 29,.v 8 30]) .ret) .skip)) (JY)
@[go_sem ↓] theorem aP0:a8 zI:=bB _
def IS:PC:=.seq (.gh (.reg [.v 21 2,.a 22 (.cl 29 [(.t 21)] []),.v 20 22,.q 23 (.ex (.t 20) 0),.q 24 (.ex (.t 20) 1),.q 25 (.ex (.t 20) 2),.v 9 23,.v 10 24,.v 11 25])) (zI)
@[go_sem ↓] theorem aO6:a8 IS:=bB _
def UF:PC:=.seq (.reg [.e 3 (.bx 25 (.t 0)),.e 4 (.bx 28 (.t 1)),.e 6 (.al (.agg #[(.int .i64 0),(.int .i64 0),(.string (mk [])),(.slice none 0 0),(.slice none 0 0)]) 32),.q 7 (.mv (.i 0)),.q 8 (.mv (.i 0))]) (.seq (.seq (.reg [.l 15 (.ldn 3 (.t 3)),.l 16 (.ldn 4 (.t 4)),.a 17 (.cq 28 [(.t 15),(.t 16)]),.q 18 (.not (.t 17))]) (.cond (.t 18) (.seq (.reg [.q 19 (.bd [(.int .i64 0),(.int .i64 0),(.string (mk [])),(.slice none 0 0),(.slice none 0 0)] []),.s (.st 5 (.t 6) (.t 19)),.q 7 (.mv (.i 13)),.q 8 (.mv (.i 0))]) .ret) .skip)) (IS))
def T0:List RV:=[.ld (.ldn 5 (.t 6)),.mv (.t 7),.mv (.t 8)]
theorem aO4:aM Tryz.prog true ⟨fun r k=>if r=1/\k=2 then .q else if r=7/\k=6 then .own [4,3] else if r=8/\k=1 then .own [3] else if r=9/\k=1 then .own [4,3] else if r=12/\k=3 then .q else .own [],fun r=>[3,4,6,7,8,10,12,13,9].contains r⟩ Tryz.f13=some (UF,T0):=by kernel_rfl
def yO:PC:=.seq (.reg [.e 2 (.al (.agg #[.nilFunc,.nilFunc]) 66)]) (.seq (.seq (.reg [.v 3 0]) (.block 0 (.seq (.reg [.q 5 (.bin .eql true (.t 3) (.i 1)),.v 4 5]) (.cond (.t 4) (.seq (.reg [.q 6 (.bd [.nilFunc,.nilFunc] [(0,1,(.f 54)),(1,1,(.f 55))]),.s (.st 2 (.t 2) (.t 6))]) .ret) (.seq (.reg [.q 8 (.bin .eql true (.t 3) (.i 4)),.v 7 8]) (.cond (.t 7) (.seq (.reg [.q 9 (.bd [.nilFunc,.nilFunc] [(0,1,(.f 56)),(1,1,(.f 57))]),.s (.st 2 (.t 2) (.t 9))]) .ret) (.seq (.reg [.q 11 (.bin .eql true (.t 3) (.i 7)),.v 10 11]) (.cond (.t 10) (.seq (.reg [.q 12 (.bd [.nilFunc,.nilFunc] [(0,1,(.f 58)),(1,1,(.f 59))]),.s (.st 2 (.t 2) (.t 12))]) .ret) (.seq (.reg [.q 14 (.bin .eql true (.t 3) (.i 5)),.v 13 14]) (.cond (.t 13) (.seq (.reg [.q 15 (.bd [.nilFunc,.nilFunc] [(0,1,(.f 60)),(1,1,(.f 61))]),.s (.st 2 (.t 2) (.t 15))]) .ret) (.seq (.reg [.q 17 (.bin .eql true (.t 3) (.i 6)),.v 16 17]) (.cond (.t 16) (.seq (.reg [.q 18 (.bd [.nilFunc,.nilFunc] [(0,1,(.f 62)),(1,1,(.f 63))]),.s (.st 2 (.t 2) (.t 18))]) .ret) .skip)))))))))))) (.seq (.reg [.q 19 (.bd [.nilFunc,.nilFunc] [(0,1,(.f 64)),(1,1,(.f 65))]),.s (.st 2 (.t 2) (.t 19))]) .ret))
def x8:List RV:=[.ld (.ldn 2 (.t 2))]
theorem aN9:aM Tryz.prog true ⟨fun _ _=>.own [],fun _=>false⟩ Tryz.f24=some (yO,x8):=by kernel_rfl
def aFG:PC:=.seq (.reg [.e 2 (.bx 25 (.t 0)),.e 3 (.bx 28 (.t 1)),.q 4 (.mv (.k (.bool false)))]) (.seq (.ord  [.q (.l 5 (.ldn 3 (.t 2))),.q (.l 6 (.ldn 4 (.t 3))),.q (.l 7 (.ldn 3 (.t 2))),.q (.l 8 (.ldn 4 (.t 3))),.m (.a 9 (.cl 71 [(.t 7),(.t 8)] [])),.rc (.l 5 (.ldn 3 (.t 2))),.rc (.l 6 (.ldn 4 (.t 3))),.m (.a 10 (.cq 23 [(.t 5),(.t 6),(.t 9)])),.q (.q 11 (.bin .eql true (.t 10) (.i 0))),.m (.v 4 11)]) .ret)
def aFM:List RV:=[.mv (.t 4)]
theorem aOF:aM Tryz.prog true ⟨fun r k=>if r=1/\k=5 then .q else .own [],fun _=>false⟩ Tryz.f28=some (aFG,aFM):=by kernel_rfl
def T7:PC:=.seq (.reg [.v 2 0,.q 3 (.nc (.t 2)),.q 4 (.fa 4 (.t 3)),.l 5 (.ld1 (.t 4)),.q 6 (.not (.t 5))]) (.cond (.t 6) (.reg [.v 7 0,.v 8 0,.v 9 0,.q 10 (.nc (.t 9)),.q 11 (.fa 3 (.t 10)),.l 12 (.ld1 (.t 11)),.a 13 (.cl 30 [(.t 12)] [1]),.q 14 (.fld1 3 (.t 13)),.q 15 (.nc (.t 7)),.q 16 (.fa 4 (.t 15)),.s (.st 1 (.t 16) (.k (.bool true))),.q 17 (.nc (.t 8)),.q 18 (.fa 5 (.t 17)),.s (.st 1 (.t 18) (.t 14))]) .skip)
def UK:List RV:=[]
theorem aNF:aM Tryz.prog true ⟨fun r k=>if r=1/\k=6 then .own [1] else .own [],fun _=>false⟩ Tryz.f31=some (T7,UK):=by kernel_rfl
def aIY:PC:=.seq (.reg [.e 4 (.bx 28 (.t 1)),.e 5 (.bx 32 (.t 2)),.q 6 (.mv (.k (.string (mk []))))]) (.seq (.seq (.reg [.q 7 (.fa 1 (.t 5)),.l 8 (.ld1 (.t 7)),.q 9 (.bin .eql true (.t 8) (.i 1))]) (.cond (.t 9) (.seq (.reg [.q 6 (.mv (.k (.string (mk [116,114,117,101]))))]) .ret) .skip)) (.seq (.reg [.q 6 (.mv (.k (.string (mk [102,97,108,115,101]))))]) .ret))
def aE8:List RV:=[.mv (.t 6)]
theorem aO0:aM Tryz.prog true ⟨fun _ _=>.own [],fun _=>false⟩ Tryz.f54=some (aIY,aE8):=by kernel_rfl
def IQ:PC:=.gh (.reg [.q 20 (.fa 1 (.t 5)),.s (.st 1 (.t 20) (.i 1))])
@[go_sem ↓] theorem aOY:a8 IQ:=bB _
def BW:PC:=.gh (.reg [.v 34 0,.a 35 (.cl 31 [(.t 34)] [0,1])])
@[go_sem ↓] theorem aNM:a8 BW:=bB _
def zG:PC:=.seq (.gh (.reg [.v 22 0,.q 23 (.nc (.t 22)),.q 24 (.fa 4 (.t 23)),.l 25 (.ld1 (.t 24)),.v 26 25,⟨some 27,(some (26,false)),.q (.mv (.t 0))⟩,⟨some 28,(some (26,false)),.q (.nc (.t 27))⟩,⟨some 29,(some (26,false)),.q (.fa 3 (.t 28))⟩,⟨some 30,(some (26,false)),.l (.ld1 (.t 29))⟩,⟨some 31,(some (26,false)),.cl 95 [(.t 30),(.k (.string (mk [102,97,108,115,101])))] [1]⟩,⟨some 32,(some (26,false)),.q (.not (.t 31))⟩,.a 33 (.pick (.t 26) (.k (.bool true)) (.t 32)),.v 21 33])) (.cond (.t 21) (BW) .skip)
@[go_sem ↓] theorem aQ8:a8 zG:=bB _
def p9:PC:=.seq (.gh (.reg [.l 36 (.ldn 5 (.t 5)),.s (.st 5 (.t 4) (.t 36))])) .ret
@[go_sem ↓] theorem aPL:a8 p9:=bB _
def WN:PC:=.seq (.reg [.e 3 (.bx 28 (.t 1)),.e 4 (.al (.agg #[(.int .i64 0),(.int .i64 0),(.string (mk [])),(.slice none 0 0),(.slice none 0 0)]) 32)]) (.seq (.reg [.q 6 (.bd [(.int .i64 0),(.int .i64 0),(.string (mk [])),(.slice none 0 0),(.slice none 0 0)] [(0,1,(.i 1))]),.e 5 (.al (.agg #[(.int .i64 0),(.int .i64 0),(.string (mk [])),(.slice none 0 0),(.slice none 0 0)]) 32),.s (.st 5 (.t 5) (.t 6))]) (.seq (.block 0 (.seq (.reg [.v 8 0,.q 9 (.nc (.t 8)),.q 10 (.fa 4 (.t 9)),.l 11 (.ld1 (.t 10)),.q 12 (.not (.t 11)),.v 13 12,⟨some 14,(some (13,true)),.q (.mv (.t 0))⟩,⟨some 15,(some (13,true)),.q (.nc (.t 14))⟩,⟨some 16,(some (13,true)),.q (.fa 3 (.t 15))⟩,⟨some 17,(some (13,true)),.l (.ld1 (.t 16))⟩,⟨some 18,(some (13,true)),.cl 95 [(.t 17),(.k (.string (mk [116,114,117,101])))] [1]⟩,.a 19 (.pick (.t 13) (.t 18) (.k (.bool false))),.v 7 19]) (.cond (.t 7) (IQ) (zG)))) (p9)))
def UA:List RV:=[.ld (.ldn 5 (.t 4))]
theorem aQ1:aM Tryz.prog true ⟨fun r k=>if r=2/\k=10 then .own [1] else if r=4/\k=9 then .own [1] else if r=5/\k=1 then .own [0,1] else .own [],fun r=>[4,6,3,5].contains r⟩ Tryz.f55=some (WN,UA):=by kernel_rfl
def aGW:PC:=.seq (.reg [.e 4 (.bx 28 (.t 1)),.e 5 (.bx 32 (.t 2)),.q 6 (.mv (.k (.string (mk []))))]) (.seq (.reg [.q 8 (.fa 2 (.t 5)),.l 9 (.ld1 (.t 8)),.q 10 (.bd [(.int .i64 0),(.string (mk [])),(.int .i64 0),(.int .i64 0)] [(0,1,(.i 3)),(1,1,(.t 9))]),.e 11 (.bsl 71 4 [(.t 10)]),.a 12 (.cq 96 [(.t 11)]),.v 7 12]) (.seq (.reg [.v 13 0,.v 14 0,.q 15 (.nc (.t 14)),.q 16 (.fa 4 (.t 15)),.l 17 (.ld1 (.t 16)),.v 18 17,⟨some 19,(some (18,false)),.q (.mv (.t 7))⟩,⟨some 20,(some (18,false)),.q (.bin .eql true (.t 19) (.k (.string (mk []))))⟩,.a 21 (.pick (.t 18) (.k (.bool true)) (.t 20)),.q 22 (.nc (.t 13)),.q 23 (.fa 4 (.t 22)),.s (.st 1 (.t 23) (.t 21))]) (.seq (.reg [.v 24 7,.v 6 24]) .ret)))
def aEF:List RV:=[.mv (.t 6)]
theorem aQS:aM Tryz.prog true ⟨fun r k=>if r=1/\k=4 then .q else .own [],fun _=>false⟩ Tryz.f56=some (aGW,aEF):=by kernel_rfl
def aH7:PC:=.seq (.reg [.e 3 (.bx 28 (.t 1)),.e 4 (.al (.agg #[(.int .i64 0),(.int .i64 0),(.string (mk [])),(.slice none 0 0),(.slice none 0 0)]) 32)]) (.seq (.reg [.v 5 0,.a 6 (.cl 97 [(.t 5),(.i 3)] [0,1]),.q 7 (.fld1 1 (.t 6)),.q 8 (.bd [(.int .i64 0),(.int .i64 0),(.string (mk [])),(.slice none 0 0),(.slice none 0 0)] [(0,1,(.i 4)),(2,1,(.t 7))]),.s (.st 5 (.t 4) (.t 8))]) .ret)
def aFL:List RV:=[.ld (.ldn 5 (.t 4))]
theorem aRJ:aM Tryz.prog true ⟨fun r k=>if r=1/\k=1 then .own [0,1] else .own [],fun _=>false⟩ Tryz.f57=some (aH7,aFL):=by kernel_rfl
def t7:PC:=.seq (.gh (.reg [.v 29 10,.q 30 (.fa 1 (.t 5)),.l 31 (.ld1 (.t 30)),.q 32 (.bin .eql true (.t 29) (.t 31)),.v 33 32,⟨some 34,(some (33,true)),.q (.mv (.t 9))⟩,⟨some 35,(some (33,true)),.q (.fa 1 (.t 7))⟩,⟨some 36,(some (33,true)),.l (.ld1 (.t 35))⟩,⟨some 37,(some (33,true)),.q (.lnL (.t 36))⟩,⟨some 38,(some (33,true)),.q (.bin .lss true (.t 34) (.t 37))⟩,.a 39 (.pick (.t 33) (.t 38) (.k (.bool false)))])) (.cond (.t 39) (.seq (.reg [.q 40 (.fa 1 (.t 7)),.l 41 (.ld1 (.t 40)),.v 42 9,.l 43 (.ia 1 (.t 41) (.t 42)),.l 44 (.ld1 (.t 43)),.v 6 44]) .ret) .skip)
@[go_sem ↓] theorem aOC:a8 t7:=bB _
def KU:PC:=.seq (.seq (.gh (.reg [.q 21 (.fa 2 (.t 7)),.l 22 (.ld1 (.t 21)),.q 23 (.lnL (.t 22)),.q 24 (.mv (.i 0))])) (.block 0 (.loop (.seq (.reg [.q 25 (.bin .lss true (.t 24) (.t 23))]) (.seq (.cond (.t 25) .skip (.exit 0)) (.seq (.block 1 (.seq (.reg [.v 26 24,.l 27 (.ia 1 (.t 22) (.t 24)),.l 28 (.ld1 (.t 27)),.v 9 26,.v 10 28]) (t7))) (.reg [.q 45 (.bin .add true (.t 24) (.i 1)),.v 24 45]))))))) (.seq (.reg [.q 6 (.mv (.k (.string (mk []))))]) .ret)
@[go_sem ↓] theorem aPQ:a8 KU:=bB _
def aFH:PC:=.seq (.reg [.e 4 (.bx 28 (.t 1)),.e 5 (.bx 32 (.t 2)),.q 6 (.mv (.k (.string (mk []))))]) (.seq (.ord  [.q (.v 12 0),.q (.q 13 (.nc (.t 12))),.q (.q 14 (.fa 0 (.t 13))),.q (.l 15 (.ldn 3 (.t 14))),.q (.q 16 (.fa 2 (.t 4))),.q (.l 17 (.ld1 (.t 16))),.m (.a 18 (.cl 98 [(.t 15),(.t 17)] [])),.q (.v 11 18),.q (.q 19 (.ex (.t 11) 0)),.q (.q 20 (.ex (.t 11) 1)),.m (.e 7 (.al (.agg #[(.string (mk [])),(.slice none 0 0),(.slice none 0 0)]) 92)),.rc (.v 11 18),.rc (.q 19 (.ex (.t 11) 0)),.rc (.q 20 (.ex (.t 11) 1)),.m (.s (.st 3 (.t 7) (.t 19))),.rc (.q 20 (.ex (.t 11) 1)),.m (.v 8 20)]) (KU))
def aET:List RV:=[.mv (.t 6)]
theorem aRG:aM Tryz.prog true ⟨fun _ _=>.own [],fun r=>[2,5].contains r⟩ Tryz.f58=some (aFH,aET):=by kernel_rfl
def ID:PC:=.gh (.ord  [.q (.q 34 (.fa 1 (.t 6))),.q (.l 35 (.ld1 (.t 34))),.q (.v 36 0),.q (.q 37 (.nc (.t 36))),.q (.q 38 (.fa 3 (.t 37))),.q (.l 39 (.ld1 (.t 38))),.m (.a 40 (.cl 30 [(.t 39)] [1])),.rc (.q 34 (.fa 1 (.t 6))),.rc (.l 35 (.ld1 (.t 34))),.q (.q 41 (.fld1 1 (.t 40))),.m (.a 42 (.cq 99 [(.t 35),(.t 41)])),.m (.v 8 42)])
@[go_sem ↓] theorem aOL:a8 ID:=bB _
def qB:PC:=.seq (.gh (.reg [.l 54 (.ldn 5 (.t 5)),.s (.st 5 (.t 4) (.t 54))])) .ret
@[go_sem ↓] theorem aOU:a8 qB:=bB _
def qJ:PC:=.seq (.gh (.reg [.v 52 0,.a 53 (.cl 31 [(.t 52)] [0,1])])) (qB)
@[go_sem ↓] theorem aQV:a8 qJ:=bB _
def DP:PC:=.seq (.gh (.reg [.l 66 (.ldn 5 (.t 5)),.s (.st 5 (.t 4) (.t 66))])) .ret
@[go_sem ↓] theorem aM4:a8 DP:=bB _
def CZ:PC:=.seq (.gh (.reg [.q 60 (.fa 2 (.t 6)),.l 61 (.ld1 (.t 60)),.v 62 8,.l 63 (.ia 1 (.t 61) (.t 62)),.l 64 (.ld1 (.t 63)),.q 65 (.fa 1 (.t 5)),.s (.st 1 (.t 65) (.t 64))])) (DP)
@[go_sem ↓] theorem aMN:a8 CZ:=bB _
def JT:PC:=.seq (.gh (.reg [.v 55 0,.q 56 (.nc (.t 55)),.q 57 (.fa 3 (.t 56)),.l 58 (.ld1 (.t 57)),.a 59 (.cl 100 [(.t 58)] [1])])) (CZ)
@[go_sem ↓] theorem aRI:a8 JT:=bB _
def oQ:PC:=.seq (.seq (.gh (.reg [.v 43 8,.q 44 (.bin .lss true (.t 43) (.i 0)),.v 45 44,⟨some 46,(some (45,false)),.q (.mv (.t 8))⟩,⟨some 47,(some (45,false)),.q (.fa 2 (.t 6))⟩,⟨some 48,(some (45,false)),.l (.ld1 (.t 47))⟩,⟨some 49,(some (45,false)),.q (.lnL (.t 48))⟩,⟨some 50,(some (45,false)),.q (.bin .geq true (.t 46) (.t 49))⟩,.a 51 (.pick (.t 45) (.k (.bool true)) (.t 50))])) (.cond (.t 51) (qJ) .skip)) (JT)
@[go_sem ↓] theorem aNT:a8 oQ:=bB _
def zV:PC:=.seq (.gh (.reg [.q 8 (.mv (.i (-1)))])) (.seq (.seq (.reg [.v 20 0,.q 21 (.nc (.t 20)),.q 22 (.fa 4 (.t 21)),.l 23 (.ld1 (.t 22)),.q 24 (.not (.t 23)),.v 25 24,⟨some 26,(some (25,true)),.q (.mv (.t 0))⟩,⟨some 27,(some (25,true)),.q (.nc (.t 26))⟩,⟨some 28,(some (25,true)),.q (.fa 3 (.t 27))⟩,⟨some 29,(some (25,true)),.l (.ld1 (.t 28))⟩,⟨some 30,(some (25,true)),.cl 30 [(.t 29)] [1]⟩,⟨some 31,(some (25,true)),.q (.fld1 0 (.t 30))⟩,⟨some 32,(some (25,true)),.q (.bin .eql true (.t 31) (.i 1))⟩,.a 33 (.pick (.t 25) (.t 32) (.k (.bool false)))]) (.cond (.t 33) (ID) .skip)) (oQ))
@[go_sem ↓] theorem aNR:a8 zV:=bB _
def aEG:PC:=.seq (.reg [.e 3 (.bx 28 (.t 1)),.e 4 (.al (.agg #[(.int .i64 0),(.int .i64 0),(.string (mk [])),(.slice none 0 0),(.slice none 0 0)]) 32)]) (.seq (.reg [.q 9 (.bd [(.int .i64 0),(.int .i64 0),(.string (mk [])),(.slice none 0 0),(.slice none 0 0)] [(0,1,(.i 7))]),.e 5 (.al (.agg #[(.int .i64 0),(.int .i64 0),(.string (mk [])),(.slice none 0 0),(.slice none 0 0)]) 32),.s (.st 5 (.t 5) (.t 9))]) (.seq (.ord  [.q (.v 11 0),.q (.q 12 (.nc (.t 11))),.q (.q 13 (.fa 0 (.t 12))),.q (.l 14 (.ldn 3 (.t 13))),.q (.q 15 (.fa 2 (.t 3))),.q (.l 16 (.ld1 (.t 15))),.m (.a 17 (.cl 98 [(.t 14),(.t 16)] [])),.q (.v 10 17),.q (.q 18 (.ex (.t 10) 0)),.q (.q 19 (.ex (.t 10) 1)),.m (.e 6 (.al (.agg #[(.string (mk [])),(.slice none 0 0),(.slice none 0 0)]) 92)),.rc (.v 10 17),.rc (.q 18 (.ex (.t 10) 0)),.rc (.q 19 (.ex (.t 10) 1)),.m (.s (.st 3 (.t 6) (.t 18))),.rc (.q 19 (.ex (.t 10) 1)),.m (.v 7 19)]) (zV)))
def aD7:List RV:=[.ld (.ldn 5 (.t 4))]
theorem aQM:aM Tryz.prog true ⟨fun r k=>if r=4/\k=10 then .own [1] else if r=5/\k=6 then .own [1] else if r=5/\k=8 then .q else if r=7/\k=1 then .own [0,1] else if r=9/\k=4 then .own [1] else .own [],fun r=>[3,6,7,8,9,10,11,5].contains r⟩ Tryz.f59=some (aEG,aD7):=by kernel_rfl
def zH:PC:=.gh (.ord  [.q (.v 22 7),.q (.q 23 (.fa 3 (.t 4))),.q (.l 24 (.ld1 (.t 23))),.q (.l 25 (.ia 4 (.t 24) (.i 0))),.q (.q 26 (.fa 0 (.t 25))),.q (.l 27 (.ld1 (.t 26))),.q (.v 30 0),.q (.q 31 (.fa 3 (.t 4))),.q (.l 32 (.ld1 (.t 31))),.q (.l 33 (.ia 4 (.t 32) (.i 0))),.q (.l 34 (.ldn 4 (.t 33))),.q (.l 35 (.ldn 5 (.t 9))),.m (.a 28 (.cl 24 [(.t 27)] [])),.rc (.v 22 7),.rc (.v 30 0),.rc (.q 31 (.fa 3 (.t 4))),.rc (.l 32 (.ld1 (.t 31))),.rc (.l 33 (.ia 4 (.t 32) (.i 0))),.rc (.l 34 (.ldn 4 (.t 33))),.rc (.l 35 (.ldn 5 (.t 9))),.q (.q 29 (.fld1 0 (.t 28))),.m (.a 36 (.ca (.t 29) [(.t 30),(.t 34),(.t 35)] [0])),.rc (.v 22 7),.q (.q 37 (.bin .add true (.t 22) (.t 36))),.m (.v 7 37)])
@[go_sem ↓] theorem aQ9:a8 zH:=bB _
def aGT:PC:=.seq (.reg [.e 4 (.bx 28 (.t 1)),.e 5 (.bx 32 (.t 2)),.q 6 (.mv (.k (.string (mk []))))]) (.seq (.reg [.q 7 (.mv (.k (.string (mk [91]))))]) (.seq (.seq (.reg [.q 10 (.fa 3 (.t 5)),.l 11 (.ld1 (.t 10)),.q 12 (.lnL (.t 11)),.q 13 (.mv (.i 0))]) (.block 0 (.loop (.seq (.reg [.q 14 (.bin .lss true (.t 13) (.t 12))]) (.seq (.cond (.t 14) .skip (.exit 0)) (.seq (.block 1 (.seq (.reg [.v 15 13,.l 16 (.ia 5 (.t 11) (.t 13)),.l 17 (.ldn 5 (.t 16)),.e 9 (.al (.agg #[(.int .i64 0),(.int .i64 0),(.string (mk [])),(.slice none 0 0),(.slice none 0 0)]) 32),.v 8 15,.s (.st 5 (.t 9) (.t 17))]) (.seq (.seq (.reg [.v 18 8,.q 19 (.bin .gtr true (.t 18) (.i 0))]) (.cond (.t 19) (.reg [.v 20 7,.q 21 (.bin .add true (.t 20) (.k (.string (mk [44,32])))),.v 7 21]) .skip)) (zH)))) (.reg [.q 38 (.bin .add true (.t 13) (.i 1)),.v 13 38]))))))) (.seq (.reg [.v 39 7,.q 40 (.bin .add true (.t 39) (.k (.string (mk [93])))),.v 6 40]) .ret)))
def aGL:List RV:=[.mv (.t 6)]
theorem aOO:aM Tryz.prog true ⟨fun r k=>if r=7/\k=14 then .own [0] else .own [],fun r=>[7].contains r⟩ Tryz.f60=some (aGT,aGL):=by kernel_rfl
def KF:PC:=.seq (.gh (.reg [.l 10 (.ldn 5 (.t 5)),.s (.st 5 (.t 4) (.t 10))])) .ret
@[go_sem ↓] theorem aPX:a8 KF:=bB _
def JP:PC:=.seq (.gh (.reg [.l 7 (.ld1 (.t 2)),.q 8 (.mf 102 [(.t 5),(.t 3),(.t 2)]),.a 9 (.cl 101 [(.t 7),(.k (.string (mk [91]))),(.k (.string (mk [93]))),(.t 8)] [0,1,2,3,5,6])])) (KF)
@[go_sem ↓] theorem aQY:a8 JP:=bB _
def aHW:PC:=.seq (.reg [.e 2 (.bx 59 (.t 0)),.e 3 (.bx 28 (.t 1)),.e 4 (.al (.agg #[(.int .i64 0),(.int .i64 0),(.string (mk [])),(.slice none 0 0),(.slice none 0 0)]) 32)]) (.seq (.reg [.q 6 (.bd [(.int .i64 0),(.int .i64 0),(.string (mk [])),(.slice none 0 0),(.slice none 0 0)] [(0,1,(.i 5))]),.e 5 (.al (.agg #[(.int .i64 0),(.int .i64 0),(.string (mk [])),(.slice none 0 0),(.slice none 0 0)]) 32),.s (.st 5 (.t 5) (.t 6))]) (JP))
def aC3:List RV:=[.ld (.ldn 5 (.t 4))]
theorem aQN:aM Tryz.prog true ⟨fun r k=>if r=2/\k=2 then .own [0,1,2,3,5,6] else .own [],fun r=>[2,3].contains r⟩ Tryz.f61=some (aHW,aC3):=by kernel_rfl
def zP:PC:=.gh (.ord  [.q (.v 43 9),.q (.q 44 (.fa 1 (.t 12))),.q (.l 45 (.ld1 (.t 44))),.q (.q 46 (.bin .add true (.t 45) (.k (.string (mk [32,61,32]))))),.q (.q 47 (.fa 2 (.t 12))),.q (.q 48 (.fa 0 (.t 47))),.q (.l 49 (.ld1 (.t 48))),.q (.v 52 0),.q (.q 53 (.fa 2 (.t 12))),.q (.l 54 (.ldn 4 (.t 53))),.q (.q 55 (.fa 1 (.t 11))),.q (.l 56 (.ldn 5 (.t 55))),.m (.a 50 (.cl 24 [(.t 49)] [])),.rc (.v 43 9),.rc (.q 44 (.fa 1 (.t 12))),.rc (.l 45 (.ld1 (.t 44))),.rc (.q 46 (.bin .add true (.t 45) (.k (.string (mk [32,61,32]))))),.rc (.v 52 0),.rc (.q 53 (.fa 2 (.t 12))),.rc (.l 54 (.ldn 4 (.t 53))),.rc (.q 55 (.fa 1 (.t 11))),.rc (.l 56 (.ldn 5 (.t 55))),.q (.q 51 (.fld1 0 (.t 50))),.m (.a 57 (.ca (.t 51) [(.t 52),(.t 54),(.t 56)] [0])),.rc (.v 43 9),.rc (.q 44 (.fa 1 (.t 12))),.rc (.l 45 (.ld1 (.t 44))),.rc (.q 46 (.bin .add true (.t 45) (.k (.string (mk [32,61,32]))))),.q (.q 58 (.bin .add true (.t 46) (.t 57))),.q (.q 59 (.bin .add true (.t 43) (.t 58))),.m (.v 9 59)])
@[go_sem ↓] theorem aQW:a8 zP:=bB _
def A5:PC:=.seq (.gh (.reg [.l 37 (.ldn 2 (.t 7)),.q 38 (.fa 0 (.t 11)),.l 39 (.ld1 (.t 38)),.a 40 (.cl 104 [(.t 37),(.t 39)] []),.v 36 40,.q 41 (.ex (.t 36) 0),.q 42 (.ex (.t 36) 1),.e 12 (.al (.agg #[(.int .i64 0),(.string (mk [])),(.int .i64 0),(.int .i64 0),(.string (mk [])),(.slice none 0 0),(.bool false)]) 97),.s (.st 7 (.t 12) (.t 41)),.v 13 42])) (zP)
@[go_sem ↓] theorem aQ0:a8 A5:=bB _
def BD:PC:=.seq (.seq (.gh (.reg [.v 32 10,.q 33 (.bin .gtr true (.t 32) (.i 0))])) (.cond (.t 33) (.reg [.v 34 9,.q 35 (.bin .add true (.t 34) (.k (.string (mk [44,32])))),.v 9 35]) .skip)) (A5)
@[go_sem ↓] theorem aPI:a8 BD:=bB _
def KJ:PC:=.seq (.gh (.reg [.q 9 (.mv (.k (.string (mk [123]))))])) (.seq (.seq (.reg [.q 24 (.fa 4 (.t 5)),.l 25 (.ld1 (.t 24)),.q 26 (.lnL (.t 25)),.q 27 (.mv (.i 0))]) (.block 0 (.loop (.seq (.reg [.q 28 (.bin .lss true (.t 27) (.t 26))]) (.seq (.cond (.t 28) .skip (.exit 0)) (.seq (.block 1 (.seq (.reg [.v 29 27,.l 30 (.ia 6 (.t 25) (.t 27)),.l 31 (.ldn 6 (.t 30)),.e 11 (.al (.agg #[(.int .i64 0),(.int .i64 0),(.int .i64 0),(.string (mk [])),(.slice none 0 0),(.slice none 0 0)]) 57),.v 10 29,.s (.st 6 (.t 11) (.t 31))]) (BD))) (.reg [.q 60 (.bin .add true (.t 27) (.i 1)),.v 27 60]))))))) (.seq (.reg [.v 61 9,.q 62 (.bin .add true (.t 61) (.k (.string (mk [125])))),.v 6 62]) .ret))
@[go_sem ↓] theorem aO2:a8 KJ:=bB _
def aIU:PC:=.seq (.reg [.e 4 (.bx 28 (.t 1)),.e 5 (.bx 32 (.t 2)),.q 6 (.mv (.k (.string (mk []))))]) (.seq (.ord  [.q (.v 15 0),.q (.q 16 (.nc (.t 15))),.q (.q 17 (.fa 0 (.t 16))),.q (.l 18 (.ldn 3 (.t 17))),.q (.q 19 (.fa 2 (.t 4))),.q (.l 20 (.ld1 (.t 19))),.m (.a 21 (.cl 103 [(.t 18),(.t 20)] [])),.q (.v 14 21),.q (.q 22 (.ex (.t 14) 0)),.q (.q 23 (.ex (.t 14) 1)),.m (.e 7 (.al (.agg #[(.string (mk [])),(.slice none 0 0)]) 95)),.rc (.v 14 21),.rc (.q 22 (.ex (.t 14) 0)),.rc (.q 23 (.ex (.t 14) 1)),.m (.s (.st 2 (.t 7) (.t 22))),.rc (.q 23 (.ex (.t 14) 1)),.m (.v 8 23)]) (KJ))
def aFV:List RV:=[.mv (.t 6)]
theorem aR0:aM Tryz.prog true ⟨fun r k=>if r=9/\k=14 then .own [0] else .own [],fun r=>[2,6,8,9].contains r⟩ Tryz.f62=some (aIU,aFV):=by kernel_rfl
def H6:PC:=.seq (.gh (.reg [.l 23 (.ldn 5 (.t 5)),.s (.st 5 (.t 4) (.t 23))])) .ret
@[go_sem ↓] theorem aPY:a8 H6:=bB _
def G2:PC:=.seq (.gh (.reg [.l 20 (.ld1 (.t 2)),.q 21 (.mf 105 [(.t 2),(.t 6),(.t 8),(.t 5)]),.a 22 (.cl 101 [(.t 20),(.k (.string (mk [123]))),(.k (.string (mk [125]))),(.t 21)] [0,1,2,5,6,7,8])])) (H6)
@[go_sem ↓] theorem aOE:a8 G2:=bB _
def J0:PC:=.seq (.gh (.reg [.e 8 (.al (.int .i64 0) 3),.s (.st 1 (.t 8) (.i 0))])) (G2)
@[go_sem ↓] theorem aQE:a8 J0:=bB _
def aF4:PC:=.seq (.reg [.e 2 (.bx 59 (.t 0)),.e 3 (.bx 28 (.t 1)),.e 4 (.al (.agg #[(.int .i64 0),(.int .i64 0),(.string (mk [])),(.slice none 0 0),(.slice none 0 0)]) 32)]) (.seq (.reg [.q 9 (.bd [(.int .i64 0),(.int .i64 0),(.string (mk [])),(.slice none 0 0),(.slice none 0 0)] [(0,1,(.i 6))]),.e 5 (.al (.agg #[(.int .i64 0),(.int .i64 0),(.string (mk [])),(.slice none 0 0),(.slice none 0 0)]) 32),.s (.st 5 (.t 5) (.t 9))]) (.seq (.ord  [.q (.l 11 (.ld1 (.t 2))),.q (.q 12 (.nc (.t 11))),.q (.q 13 (.fa 0 (.t 12))),.q (.l 14 (.ldn 3 (.t 13))),.q (.q 15 (.fa 2 (.t 3))),.q (.l 16 (.ld1 (.t 15))),.m (.a 17 (.cl 103 [(.t 14),(.t 16)] [])),.q (.v 10 17),.q (.q 18 (.ex (.t 10) 0)),.q (.q 19 (.ex (.t 10) 1)),.m (.e 6 (.al (.agg #[(.string (mk [])),(.slice none 0 0)]) 95)),.rc (.v 10 17),.rc (.q 18 (.ex (.t 10) 0)),.rc (.q 19 (.ex (.t 10) 1)),.m (.s (.st 2 (.t 6) (.t 18))),.rc (.q 19 (.ex (.t 10) 1)),.m (.v 7 19)]) (J0)))
def aG8:List RV:=[.ld (.ldn 5 (.t 4))]
theorem aPR:aM Tryz.prog true ⟨fun r k=>if r=4/\k=2 then .own [0,1,2,5,6,7,8] else .own [],fun r=>[3,4,5].contains r⟩ Tryz.f63=some (aF4,aG8):=by kernel_rfl
def aF3:PC:=.seq (.reg [.e 4 (.bx 28 (.t 1)),.e 5 (.bx 32 (.t 2)),.q 6 (.mv (.k (.string (mk []))))]) (.seq (.reg [.q 7 (.fa 1 (.t 5)),.l 8 (.ld1 (.t 7)),.a 9 (.cq 109 [(.t 8),(.i 10)]),.v 6 9]) .ret)
def aF8:List RV:=[.mv (.t 6)]
theorem aNX:aM Tryz.prog true ⟨fun r k=>if r=1/\k=2 then .q else .own [],fun _=>false⟩ Tryz.f64=some (aF3,aF8):=by kernel_rfl
def aD6:PC:=.seq (.reg [.e 3 (.bx 28 (.t 1)),.e 4 (.al (.agg #[(.int .i64 0),(.int .i64 0),(.string (mk [])),(.slice none 0 0),(.slice none 0 0)]) 32)]) (.seq (.ord  [.q (.q 5 (.fa 0 (.t 3))),.q (.l 6 (.ld1 (.t 5))),.q (.v 7 0),.m (.a 8 (.cl 97 [(.t 7),(.i 2)] [0,1])),.rc (.q 5 (.fa 0 (.t 3))),.rc (.l 6 (.ld1 (.t 5))),.q (.q 9 (.fld1 2 (.t 8))),.q (.q 10 (.bd [(.int .i64 0),(.int .i64 0),(.string (mk [])),(.slice none 0 0),(.slice none 0 0)] [(0,1,(.t 6)),(1,1,(.t 9))])),.m (.s (.st 5 (.t 4) (.t 10)))]) .ret)
def aDT:List RV:=[.ld (.ldn 5 (.t 4))]
theorem aO5:aM Tryz.prog true ⟨fun r k=>if r=1/\k=3 then .own [0,1] else .own [],fun _=>false⟩ Tryz.f65=some (aD6,aDT):=by kernel_rfl
def AT:PC:=.seq (.gh (.reg [.v 19 0,.a 20 (.cl 31 [(.t 19)] [0,1])])) (.seq (.reg [.q 21 (.bd [(.int .i64 0),(.string (mk [])),(.int .i64 0),(.int .i64 0)] []),.s (.st 4 (.t 4) (.t 21))]) .ret)
@[go_sem ↓] theorem aNG:a8 AT:=bB _
def K3:PC:=.seq (.gh (.reg [.v 22 0,.q 23 (.nc (.t 22)),.q 24 (.fa 3 (.t 23)),.l 25 (.ld1 (.t 24)),.a 26 (.cl 100 [(.t 25)] [1]),.s (.st 4 (.t 4) (.t 26))])) .ret
@[go_sem ↓] theorem aON:a8 K3:=bB _
def WC:PC:=.seq (.reg [.e 4 (.al (.agg #[(.int .i64 0),(.string (mk [])),(.int .i64 0),(.int .i64 0)]) 71)]) (.seq (.seq (.reg [.v 5 0,.q 6 (.nc (.t 5)),.q 7 (.fa 4 (.t 6)),.l 8 (.ld1 (.t 7)),.v 9 8,⟨some 10,(some (9,false)),.q (.mv (.t 0))⟩,⟨some 11,(some (9,false)),.q (.nc (.t 10))⟩,⟨some 12,(some (9,false)),.q (.fa 3 (.t 11))⟩,⟨some 13,(some (9,false)),.l (.ld1 (.t 12))⟩,⟨some 14,(some (9,false)),.cl 30 [(.t 13)] [1]⟩,⟨some 15,(some (9,false)),.q (.fld1 0 (.t 14))⟩,⟨some 16,(some (9,false)),.q (.mv (.t 1))⟩,⟨some 17,(some (9,false)),.q (.bin .neq true (.t 15) (.t 16))⟩,.a 18 (.pick (.t 9) (.k (.bool true)) (.t 17))]) (.cond (.t 18) (AT) .skip)) (K3))
def UO:List RV:=[.ld (.ldn 4 (.t 4))]
theorem aP4:aM Tryz.prog true ⟨fun r k=>if r=1/\k=9 then .own [1] else if r=2/\k=1 then .own [0,1] else if r=4/\k=4 then .own [1] else .own [],fun r=>[2,4].contains r⟩ Tryz.f97=some (WC,UO):=by kernel_rfl
def B1:PC:=.gh (.reg [.v 23 0,.a 24 (.cl 128 [(.t 23),(.k (.string (mk [44])))] [0,1]),.v 8 24])
@[go_sem ↓] theorem aL7:a8 B1:=bB _
def wD:PC:=.gh (.reg [.v 27 0,.v 28 2,.a 29 (.cl 108 [(.t 27),(.t 28)] [0,1])])
@[go_sem ↓] theorem aL9:a8 wD:=bB _
def CO:PC:=.seq (.seq (.gh (.reg [.q 8 (.mv (.k (.bool true)))])) (.block 0 (.loop (.seq (.seq (.reg [.v 15 8,.v 16 15,⟨some 17,(some (16,true)),.q (.mv (.t 0))⟩,⟨some 18,(some (16,true)),.q (.nc (.t 17))⟩,⟨some 19,(some (16,true)),.q (.fa 4 (.t 18))⟩,⟨some 20,(some (16,true)),.l (.ld1 (.t 19))⟩,⟨some 21,(some (16,true)),.q (.not (.t 20))⟩,.a 22 (.pick (.t 16) (.t 21) (.k (.bool false)))]) (.cond (.t 22) .skip (.exit 0))) (.seq (.block 1 (.reg [.v 25 3,.a 26 (.ca (.t 25) [] [0,1,2,3,4,5])])) (B1)))))) (wD)
@[go_sem ↓] theorem aM0:a8 CO:=bB _
def DH:PC:=.seq (.seq (.gh (.reg [.v 12 0,.v 13 2,.a 14 (.cl 128 [(.t 12),(.t 13)] [0,1])])) (.cond (.t 14) .ret .skip)) (CO)
@[go_sem ↓] theorem aMT:a8 DH:=bB _
def YQ:PC:=.seq (.reg [.v 9 0,.v 10 1,.a 11 (.cl 108 [(.t 9),(.t 10)] [0,1])]) (DH)
def W7:List RV:=[]
theorem aJL:aM Tryz.prog true ⟨fun r k=>if r=0/\k=2 then .own [0,1] else if r=1/\k=2 then .own [0,1] else if r=5/\k=1 then .own [0,1,2,3,4,5] else if r=4/\k=1 then .own [0,1] else if r=6/\k=2 then .own [0,1] else .own [],fun r=>[1,2,4,6].contains r⟩ Tryz.f101=some (YQ,W7):=by kernel_rfl
def X8:PC:=.ord  [.q (.q 3 (.fa 3 (.t 0))),.q (.l 4 (.ld1 (.t 3))),.q (.q 5 (.fa 3 (.t 1))),.q (.l 6 (.ld1 (.t 5))),.q (.l 7 (.ia 4 (.t 6) (.i 0))),.q (.q 8 (.fa 0 (.t 7))),.q (.l 9 (.ld1 (.t 8))),.q (.l 12 (.ld1 (.t 2))),.q (.q 13 (.fa 3 (.t 1))),.q (.l 14 (.ld1 (.t 13))),.q (.l 15 (.ia 4 (.t 14) (.i 0))),.q (.l 16 (.ldn 4 (.t 15))),.q (.q 18 (.lnL (.t 4))),.m (.a 10 (.cl 24 [(.t 9)] [])),.rc (.q 3 (.fa 3 (.t 0))),.rc (.l 4 (.ld1 (.t 3))),.rc (.l 12 (.ld1 (.t 2))),.rc (.q 13 (.fa 3 (.t 1))),.rc (.l 14 (.ld1 (.t 13))),.rc (.l 15 (.ia 4 (.t 14) (.i 0))),.rc (.l 16 (.ldn 4 (.t 15))),.rc (.q 18 (.lnL (.t 4))),.q (.q 11 (.fld1 1 (.t 10))),.m (.a 17 (.ca (.t 11) [(.t 12),(.t 16)] [0,1])),.rc (.q 3 (.fa 3 (.t 0))),.rc (.l 4 (.ld1 (.t 3))),.rc (.q 18 (.lnL (.t 4))),.m (.e 19 (.bsl 32 5 [(.k (.agg #[(.int .i64 0),(.int .i64 0),(.string (mk [])),(.slice none 0 0),(.slice none 0 0)]))])),.rc (.q 3 (.fa 3 (.t 0))),.rc (.l 4 (.ld1 (.t 3))),.rc (.q 18 (.lnL (.t 4))),.m (.e 20 (.ap 32 5 80 (.t 4) (.t 19))),.q (.l 21 (.ia 5 (.t 20) (.t 18))),.q (.q 22 (.fa 3 (.t 0))),.fk (.s (.st 5 (.t 21) (.t 17))) (.s (.st 1 (.t 22) (.t 20))) [.q 22 (.fa 3 (.t 0))] [.l 21 (.ia 5 (.t 20) (.t 18))]]
def ZT:List RV:=[]
theorem aK4:aM Tryz.prog true ⟨fun r k=>if r=0/\k=14 then .own [0,1] else .own [],fun _=>false⟩ Tryz.f102=some (X8,ZT):=by kernel_rfl
def qO:PC:=.seq (.gh (.reg [.l 33 (.ld1 (.t 0)),.a 34 (.cl 31 [(.t 33)] [0,1])])) .ret
@[go_sem ↓] theorem aMC:a8 qO:=bB _
def CW:PC:=.gh (.ord  [.q (.q 49 (.fa 4 (.t 3))),.q (.l 50 (.ld1 (.t 49))),.q (.q 51 (.fa 0 (.t 6))),.q (.l 52 (.ld1 (.t 51))),.q (.q 53 (.fa 2 (.t 6))),.q (.q 54 (.fa 0 (.t 53))),.q (.l 55 (.ld1 (.t 54))),.q (.l 58 (.ld1 (.t 0))),.q (.q 59 (.fa 2 (.t 6))),.q (.l 60 (.ldn 4 (.t 59))),.q (.q 63 (.lnL (.t 50))),.m (.a 56 (.cl 24 [(.t 55)] [])),.rc (.q 49 (.fa 4 (.t 3))),.rc (.l 50 (.ld1 (.t 49))),.rc (.q 51 (.fa 0 (.t 6))),.rc (.l 52 (.ld1 (.t 51))),.rc (.l 58 (.ld1 (.t 0))),.rc (.q 59 (.fa 2 (.t 6))),.rc (.l 60 (.ldn 4 (.t 59))),.rc (.q 63 (.lnL (.t 50))),.q (.q 57 (.fld1 1 (.t 56))),.m (.a 61 (.ca (.t 57) [(.t 58),(.t 60)] [0,1])),.rc (.q 49 (.fa 4 (.t 3))),.rc (.l 50 (.ld1 (.t 49))),.rc (.q 51 (.fa 0 (.t 6))),.rc (.l 52 (.ld1 (.t 51))),.rc (.q 63 (.lnL (.t 50))),.q (.q 62 (.bd [(.int .i64 0),(.int .i64 0),(.int .i64 0),(.string (mk [])),(.slice none 0 0),(.slice none 0 0)] [(0,1,(.t 52)),(1,5,(.t 61))])),.m (.e 64 (.bsl 57 6 [(.k (.agg #[(.int .i64 0),(.int .i64 0),(.int .i64 0),(.string (mk [])),(.slice none 0 0),(.slice none 0 0)]))])),.rc (.q 49 (.fa 4 (.t 3))),.rc (.l 50 (.ld1 (.t 49))),.rc (.q 51 (.fa 0 (.t 6))),.rc (.l 52 (.ld1 (.t 51))),.rc (.q 63 (.lnL (.t 50))),.rc (.q 62 (.bd [(.int .i64 0),(.int .i64 0),(.int .i64 0),(.string (mk [])),(.slice none 0 0),(.slice none 0 0)] [(0,1,(.t 52)),(1,5,(.t 61))])),.m (.e 65 (.ap 57 6 88 (.t 50) (.t 64))),.q (.l 66 (.ia 6 (.t 65) (.t 63))),.q (.q 67 (.fa 4 (.t 3))),.fk (.s (.st 6 (.t 66) (.t 62))) (.s (.st 1 (.t 67) (.t 65))) [.q 67 (.fa 4 (.t 3))] [.l 66 (.ia 6 (.t 65) (.t 63))]])
@[go_sem ↓] theorem aL2:a8 CW:=bB _
def CL:PC:=.seq (.gh (.reg [.q 47 (.fa 0 (.t 6)),.l 48 (.ld1 (.t 47)),.s (.st 1 (.t 2) (.t 48))])) (CW)
@[go_sem ↓] theorem aMM:a8 CL:=bB _
def CG:PC:=.seq (.gh (.reg [.q 42 (.fa 1 (.t 1)),.l 43 (.ld1 (.t 42)),.v 44 5,.l 45 (.ia 7 (.t 43) (.t 44)),.l 46 (.ldn 7 (.t 45)),.e 6 (.al (.agg #[(.int .i64 0),(.string (mk [])),(.int .i64 0),(.int .i64 0),(.string (mk [])),(.slice none 0 0),(.bool false)]) 97),.s (.st 7 (.t 6) (.t 46))])) (CL)
@[go_sem ↓] theorem aL1:a8 CG:=bB _
def B0:PC:=.seq (.gh (.reg [.l 40 (.ld1 (.t 0)),.a 41 (.cl 108 [(.t 40),(.k (.string (mk [61])))] [0,1])])) (CG)
@[go_sem ↓] theorem aMX:a8 B0:=bB _
def BY:PC:=.seq (.gh (.reg [.l 35 (.ld1 (.t 0)),.q 36 (.nc (.t 35)),.q 37 (.fa 3 (.t 36)),.l 38 (.ld1 (.t 37)),.a 39 (.cl 100 [(.t 38)] [1])])) (B0)
@[go_sem ↓] theorem aM1:a8 BY:=bB _
def nK:PC:=.seq (.seq (.gh (.reg [.q 16 (.fa 0 (.t 4)),.l 17 (.ld1 (.t 16)),.q 18 (.bin .neq true (.t 17) (.i 1)),.v 19 18,⟨some 20,(some (19,false)),.q (.mv (.t 5))⟩,⟨some 21,(some (19,false)),.q (.bin .lss true (.t 20) (.i 0))⟩,.a 22 (.pick (.t 19) (.k (.bool true)) (.t 21)),.v 23 22,⟨some 24,(some (23,false)),.q (.fa 1 (.t 1))⟩,⟨some 25,(some (23,false)),.l (.ld1 (.t 24))⟩,⟨some 26,(some (23,false)),.q (.mv (.t 5))⟩,⟨some 27,(some (23,false)),.l (.ia 7 (.t 25) (.t 26))⟩,⟨some 28,(some (23,false)),.q (.fa 0 (.t 27))⟩,⟨some 29,(some (23,false)),.l (.ld1 (.t 28))⟩,⟨some 30,(some (23,false)),.l (.ld1 (.t 2))⟩,⟨some 31,(some (23,false)),.q (.bin .leq true (.t 29) (.t 30))⟩,.a 32 (.pick (.t 23) (.k (.bool true)) (.t 31))])) (.cond (.t 32) (qO) .skip)) (BY)
@[go_sem ↓] theorem aMY:a8 nK:=bB _
def C5:PC:=.seq (.gh (.reg [.q 12 (.fa 1 (.t 1)),.l 13 (.ld1 (.t 12)),.q 14 (.mf 107 [(.t 4)]),.a 15 (.cl 106 [(.t 13),(.t 14)] [7]),.v 5 15])) (nK)
@[go_sem ↓] theorem aL6:a8 C5:=bB _
def aAC:PC:=.seq (.reg [.l 7 (.ld1 (.t 0)),.q 8 (.nc (.t 7)),.q 9 (.fa 3 (.t 8)),.l 10 (.ld1 (.t 9)),.a 11 (.cl 30 [(.t 10)] [1]),.e 4 (.al (.agg #[(.int .i64 0),(.string (mk [])),(.int .i64 0),(.int .i64 0)]) 71),.s (.st 4 (.t 4) (.t 11))]) (C5)
def W4:List RV:=[]
theorem aKJ:aM Tryz.prog true ⟨fun r k=>if r=0/\k=4 then .own [1] else if r=1/\k=3 then .own [7] else if r=3/\k=1 then .own [0,1] else if r=4/\k=4 then .own [1] else if r=5/\k=1 then .own [0,1] else if r=8/\k=12 then .own [0,1] else .own [],fun r=>[1,2,3,4,5,6,7,8].contains r⟩ Tryz.f105=some (aAC,W4):=by kernel_rfl
def aAD:PC:=.seq (.reg [.e 2 (.bx 97 (.t 0)),.q 3 (.mv (.k (.bool false)))]) (.seq (.reg [.q 4 (.fa 1 (.t 2)),.l 5 (.ld1 (.t 4)),.q 6 (.fa 1 (.t 1)),.l 7 (.ld1 (.t 6)),.q 8 (.bin .eql true (.t 5) (.t 7)),.v 3 8]) .ret)
def Y4:List RV:=[.mv (.t 3)]
theorem aI8:aM Tryz.prog true ⟨fun _ _=>.own [],fun _=>false⟩ Tryz.f107=some (aAD,Y4):=by kernel_rfl
def X7:PC:=.seq (.reg [.v 4 0,.v 5 1,.a 6 (.cl 128 [(.t 4),(.t 5)] [0,1]),.q 7 (.not (.t 6))]) (.cond (.t 7) (.reg [.v 8 0,.a 9 (.cl 31 [(.t 8)] [0,1])]) .skip)
def YE:List RV:=[]
theorem aKP:aM Tryz.prog true ⟨fun r k=>if r=0/\k=2 then .own [0,1] else if r=1/\k=1 then .own [0,1] else .own [],fun _=>false⟩ Tryz.f108=some (X7,YE):=by kernel_rfl
def OR:PC:=.seq (.reg [.q 4 (.mv (.k (.bool false)))]) (.seq (.reg [.v 5 0,.q 6 (.nc (.t 5)),.q 7 (.fa 4 (.t 6)),.l 8 (.ld1 (.t 7)),.q 9 (.not (.t 8)),.v 10 9,⟨some 11,(some (10,true)),.q (.mv (.t 0))⟩,⟨some 12,(some (10,true)),.q (.nc (.t 11))⟩,⟨some 13,(some (10,true)),.q (.fa 3 (.t 12))⟩,⟨some 14,(some (10,true)),.l (.ld1 (.t 13))⟩,⟨some 15,(some (10,true)),.q (.mv (.t 1))⟩,⟨some 16,(some (10,true)),.cl 148 [(.t 14),(.t 15)] [1]⟩,.a 17 (.pick (.t 10) (.t 16) (.k (.bool false))),.v 4 17]) .ret)
def P0:List RV:=[.mv (.t 4)]
theorem aKS:aM Tryz.prog true ⟨fun r k=>if r=1/\k=11 then .own [1] else .own [],fun _=>false⟩ Tryz.f128=some (OR,P0):=by kernel_rfl
end Go.Proofs.YtkpohmhenegkiaaGreatDoor
namespace Go.Proofs
open Go.Shelf
def Tryz.laysM173_ren:Go.Shelf.Ren:=⟨fun | 173=>109 | 246=>131 | 283=>150 | 284=>151 | 285=>152 | 286=>153 | 129=>160 | 317=>159 | 318=>161 | 319=>162 | 320=>163 | 337=>165 | 338=>166 | n=>n,fun | 2=>2 | 3=>3 | 9=>9 | 4=>4 | 171=>169 | 0=>0 | 53=>139 | 37=>43 | 5=>5 | 173=>172 | 212=>184 | 51=>185 | 20=>20 | 213=>186 | 46=>187 | 232=>190 | 233=>191 | n=>n,fun | 17=>0 | 18=>1 | 19=>2 | n=>n⟩
theorem Tryz.lays173:Go.Proofs.Lays.n173 Tryz.prog Tryz.laysM173_ren:={
 mixed:=by kernel_rfl
 f129:=Tryz.func160.trans (congrArg some (by kernel_rfl))
 f173:=Tryz.func109.trans (congrArg some (by kernel_rfl))
 f246:=Tryz.func131.trans (congrArg some (by kernel_rfl))
 f283:=Tryz.func150.trans (congrArg some (by kernel_rfl))
 f284:=Tryz.func151.trans (congrArg some (by kernel_rfl))
 f285:=Tryz.func152.trans (congrArg some (by kernel_rfl))
 f286:=Tryz.func153.trans (congrArg some (by kernel_rfl))
 f317:=Tryz.func159.trans (congrArg some (by kernel_rfl))
 f318:=Tryz.func161.trans (congrArg some (by kernel_rfl))
 f319:=Tryz.func162.trans (congrArg some (by kernel_rfl))
 f320:=Tryz.func163.trans (congrArg some (by kernel_rfl))
 f337:=Tryz.func165.trans (congrArg some (by kernel_rfl))
 f338:=Tryz.func166.trans (congrArg some (by kernel_rfl))
 t0:=Tryz.underlying0
 a0:=Tryz.isAgg0
 z0:=Tryz.sizeOf0
 v0:=Tryz.zeroValue0
 t2:=Tryz.underlying2
 a2:=Tryz.isAgg2
 z2:=Tryz.sizeOf2
 v2:=Tryz.zeroValue2
 t3:=Tryz.underlying3
 a3:=Tryz.isAgg3
 z3:=Tryz.sizeOf3
 v3:=Tryz.zeroValue3
 t4:=Tryz.underlying4
 a4:=Tryz.isAgg4
 z4:=Tryz.sizeOf4
 v4:=Tryz.zeroValue4
 t5:=Tryz.underlying5
 a5:=Tryz.isAgg5
 z5:=Tryz.sizeOf5
 v5:=Tryz.zeroValue5
 t9:=Tryz.underlying9
 a9:=Tryz.isAgg9
 z9:=Tryz.sizeOf9
 v9:=Tryz.zeroValue9
 t20:=Tryz.underlying20
 a20:=Tryz.isAgg20
 z20:=Tryz.sizeOf20
 v20:=Tryz.zeroValue20
 t37:=Tryz.underlying43
 a37:=Tryz.isAgg43
 z37:=Tryz.sizeOf43
 v37:=Tryz.zeroValue43
 t46:=Tryz.underlying187
 a46:=Tryz.isAgg187
 z46:=Tryz.sizeOf187
 v46:=Tryz.zeroValue187
 t51:=Tryz.underlying185
 a51:=Tryz.isAgg185
 z51:=Tryz.sizeOf185
 v51:=Tryz.zeroValue185
 t53:=Tryz.underlying139
 a53:=Tryz.isAgg139
 z53:=Tryz.sizeOf139
 v53:=Tryz.zeroValue139
 t171:=Tryz.underlying169
 a171:=Tryz.isAgg169
 z171:=Tryz.sizeOf169
 v171:=Tryz.zeroValue169
 t173:=Tryz.underlying172
 a173:=Tryz.isAgg172
 z173:=Tryz.sizeOf172
 v173:=Tryz.zeroValue172
 t212:=Tryz.underlying184
 a212:=Tryz.isAgg184
 z212:=Tryz.sizeOf184
 v212:=Tryz.zeroValue184
 t213:=Tryz.underlying186
 a213:=Tryz.isAgg186
 z213:=Tryz.sizeOf186
 t232:=Tryz.underlying190
 a232:=Tryz.isAgg190
 z232:=Tryz.sizeOf190
 v232:=Tryz.zeroValue190
 t233:=Tryz.underlying191
 a233:=Tryz.isAgg191
 z233:=Tryz.sizeOf191
 v233:=Tryz.zeroValue191
 g17:=by kernel_rfl
 g18:=by kernel_rfl
 g19:=by kernel_rfl }
theorem Tryz.laysM173:Go.Proofs.LaysM.n173 Tryz.prog Tryz.laysM173_ren:={ Tryz.lays173 with
 i0:=by kernel_rfl
 i2:=by kernel_rfl
 i3:=by kernel_rfl
 i4:=by kernel_rfl
 i5:=by kernel_rfl
 i9:=by kernel_rfl
 i20:=by kernel_rfl
 i37:=by kernel_rfl
 i46:=by kernel_rfl
 i51:=by kernel_rfl
 i53:=by kernel_rfl
 i171:=by kernel_rfl
 i173:=by kernel_rfl
 i212:=by kernel_rfl
 i232:=by kernel_rfl
 i233:=by kernel_rfl
 m17:=by kernel_rfl
 m18:=by kernel_rfl
 m19:=by kernel_rfl }
open Go.RowKit Go.Sort Go.Lib in
theorem Tryz.strconv_FormatInt_10 (n:Int) (h0:-9223372036854775808<=n) (h1:n<=9223372036854775807) (w:World) (htab:Lib.TabIs Tryz.prog w "internal/strconv.uint64pow10" .u64 Lib.pow10Tab) :
 Calls Tryz.prog 109 #[.int .i64 n,.int .i64 10] w fun e w'=>e=.returned (.string ⟨(Lib.itoa n).toArray⟩)/\∃ k os,w'=grow (w.drewN k) os:=Any.strconv_FormatInt_10 Tryz.laysM173 n h0 h1 w htab
end Go.Proofs
namespace Go.Proofs.YtkpohmhenegkiaaGreatDoor
open Go.W
theorem D8:∀ n:Nat,Lib.decDigits n=digs n:=fun n=>by
 induction n using Nat.strongRecOn with
 | _ n ih=>
  rw [Lib.decDigits,digs]
  by_cases h:n < 10
  · have e:n % 10=n:=Nat.mod_eq_of_lt h
    simp [h,e,Nat.toUInt8]
  · rw [dif_neg h,dif_neg h,ih (n / 10) (by omega)]
theorem RL (n:Int):Lib.itoa n=dS n:=by
 unfold Lib.itoa dS
 by_cases h:n < 0
 · rw [if_pos h,decide_eq_true h,D8]; rfl
 · rw [if_neg h,decide_eq_false h,D8,show n.toNat=n.natAbs by omega]; rfl
def GT:List S->Prop:=fun av=>match av with
 | [.va (.c1 (.vl (.int .i64 n))),.va (.c1 (.vl (.int .i64 b)))]=>b=10/\-9223372036854775808<=n/\n<=9223372036854775807
 | _=>False
theorem zW {av:List S} (h:GT av):∃ n:Int,av=[iS .i64 n,iS .i64 10]/\-9223372036854775808<=n/\n<=9223372036854775807:=by
 unfold GT at h
 split at h
 · obtain ⟨rfl,h⟩:=h; exact ⟨_,rfl,h⟩
 · exact h.elim
def ZU:List S->A:=fun av=>match av with
 | [.va (.c1 (.vl (.int .i64 n))),.va (.c1 (.vl (.int .i64 _)))]=>tA (mk (dS n))
 | _=>.gs []
def fiFn:Fun:=⟨GT,ZU,fun av h=>by obtain ⟨_,rfl,_⟩:=zW h; trivial⟩
attribute [go_sem ↓] GT ZU fiFn
theorem aI0 {ro:RO} {w:World} (h:GR Tryz.prog ro w):Lib.TabIs Tryz.prog w "internal/strconv.uint64pow10" .u64 Lib.pow10Tab:=by
 have:=(h _ (List.mem_singleton.2 rfl) _ Tryz.laysM173.m17).2
 unfold Lib.TabIs
 rw [this,Lib.pow10Tab,List.map_map]
 rfl
theorem OD:Meets Tryz.prog 109 fiFn.sp:=by
 refine ⟨by kernel_rfl,?_⟩
 rintro xs vs E ro w K hl hrel hr ⟨⟨h,hE⟩,hK⟩ hG
 obtain ⟨n,rfl,h0,h1⟩:=zW h
 obtain ⟨v0,v1,rfl⟩:∃ v0 v1,vs=[v0,v1]:=by
  match vs,hl with
  | [v0,v1],_=>exact ⟨v0,v1,rfl⟩
 have e0:v0=.int .i64 n:=hrel 0 _ _ rfl rfl
 have e1:v1=.int .i64 10:=hrel 1 _ _ rfl rfl
 subst e0 e1
 refine (Tryz.strconv_FormatInt_10 n h0 h1 w (aI0 hG)).mono ?_
 rintro e w' ⟨rfl,k,os,rfl⟩
 refine ⟨tS (mk (dS n)),_,E,ro,rfl,by rw [RL]; rfl,by rw [hE]; exact hK,?_⟩
 have hk:∀ j,j < w.heap.size->(Sort.grow (w.drewN k) os).heap[j]? = w.heap[j]?:=fun j hj=>by
  simp [Sort.grow,World.drewN,Array.getElem?_append_left hj]
 exact hr.grown hk (by simp [Sort.grow,World.drewN]) rfl rfl rfl
def iC (k:Int):FuncId:=bif k == 1 then 54 else bif k == 4 then 56 else bif k == 7 then 58 else bif k == 5 then 60 else bif k == 6 then 62 else 64
def iI (k:Int):FuncId:=bif k == 1 then 55 else bif k == 4 then 57 else bif k == 7 then 59 else bif k == 5 then 61 else bif k == 6 then 63 else 65
def mU:W.Spec:=fun av H K=>match av with
 | [.va (.c1 (.vl (.int .i64 k)))]=>H=[]/\K (.va (.gs [.fn (iC k) [],.fn (iI k) []])) []
 | _=>False
attribute [go_sem ↓] mU
theorem mOf:Meets Tryz.prog 24 mU:=by
 refine aE Tryz.func24 aN9 1 (by rw [Tryz.ntmps24]; decide) (aA _) (fun av H K h=>by
  unfold mU at h
  split at h
  · rfl
  · exact h.elim) ?_
 intro av H K h
 unfold mU at h
 split at h
 · rename_i k
   obtain ⟨rfl,hK⟩:=h
   unfold iC iI at hK
   have fin:∀ (f g:FuncId) (R:Hp),K (.va (.gs [.fn f [],.fn g []])) []->W.Fin 0 K (.va (.gs [.fn f [],.fn g []])) R:=fun f g R h=>.sel [] (by simp) (by simp) rfl (.done (by simpa [go_sem] using h))
   cases h1:k == 1 with
   | true=>rw [h1] at hK; simp -dsimp only [go_sem,yO,x8,h1]; exact fin _ _ _ hK
   | false=>
   cases h2:k == 4 with
   | true=>rw [h1,h2] at hK; simp -dsimp only [go_sem,yO,x8,h1,h2]; exact fin _ _ _ hK
   | false=>
   cases h3:k == 7 with
   | true=>rw [h1,h2,h3] at hK; simp -dsimp only [go_sem,yO,x8,h1,h2,h3]; exact fin _ _ _ hK
   | false=>
   cases h4:k == 5 with
   | true=>rw [h1,h2,h3,h4] at hK; simp -dsimp only [go_sem,yO,x8,h1,h2,h3,h4]; exact fin _ _ _ hK
   | false=>
   cases h5:k == 6 with
   | true=>rw [h1,h2,h3,h4,h5] at hK; simp -dsimp only [go_sem,yO,x8,h1,h2,h3,h4,h5]; exact fin _ _ _ hK
   | false=>rw [h1,h2,h3,h4,h5] at hK; simp -dsimp only [go_sem,yO,x8,h1,h2,h3,h4,h5]; exact fin _ _ _ hK
 · exact h.elim
structure Fs where
 bad:Bool
 off:Int
 n:Nat
instance:Inhabited Tk:=⟨⟨0,[],0,0⟩⟩
def aT (ts:List Tk) (n:Nat):Tk:=ts.getD n default
abbrev QZ (s:Sc) (b:Bool) (o:Int):B:=.cells [.vl (.int .i64 s.ver),.fz (s.es.map bL),.fz (s.ss.map aP),.pt 1 0,.vl (.bool b),.vl (.int .i64 o)] 62
abbrev jE (s:Sc) (ts:List Tk) (z:Fs):Hp:=[QZ s z.bad z.off,jA 114 ts z.n]
structure Tks (ts:List Tk):Prop where
 e:Ends ts
 n:∀ t ∈ ts,cH t.n
 x:∀ t ∈ ts,t.x.length<=4000
 a:∀ t ∈ ts,t.a<=4000
def dQ (ts:List Tk) (z:Fs):Fs:=bif z.bad then z else ⟨true,(aT ts z.n).a,z.n⟩
def cB (w:List UInt8) (ts:List Tk) (z:Fs):Bool:=!z.bad && cX 4 w (aT ts z.n)
def bR (w:List UInt8) (ts:List Tk) (z:Fs):Fs:=bif cB w ts z then ⟨false,z.off,bN ts z.n⟩ else z
def bM (w:List UInt8) (ts:List Tk) (z:Fs):Fs:=bif cB w ts z then ⟨false,z.off,bN ts z.n⟩ else dQ ts z
def gV (k:Int) (ts:List Tk) (z:Fs):Bool:=!z.bad && (aT ts z.n).k == k
def iN (k:Int) (ts:List Tk) (z:Fs):Tk:=bif gV k ts z then aT ts z.n else default
def gR (k:Int) (ts:List Tk) (z:Fs):Fs:=bif gV k ts z then ⟨false,z.off,bN ts z.n⟩ else dQ ts z
theorem gZ {ts:List Tk} {n:Nat} (h:n < ts.length):ts[n]? = some (aT ts n):=by simp [aT,List.getD_eq_getElem?_getD,aW h]
theorem lJ {T:TypeId} {ts:List Tk} {n:Nat} {K:S->Hp->Prop} (he:Ends ts) (h:n < ts.length) (hK:K (.va (.gs (dI (aT ts n)))) [jA T ts n]):cL T [.va (.c1 (.pt 0 0))] [jA T ts n] K:=
 ⟨rfl,ts,n,rfl,rfl,he,h,fun t ht=>by rw [gZ h] at ht; cases ht; exact hK⟩
theorem yN {T:TypeId} {ts:List Tk} {n:Nat} {K:S->Hp->Prop} (he:Ends ts) (h:n < ts.length) (hK:K (.va (.gs (dI (aT ts n)))) [jA T ts (bN ts n)]):cR T [.va (.c1 (.pt 0 0))] [jA T ts n] K:=
 ⟨rfl,ts,n,rfl,rfl,he,h,fun t ht=>by rw [gZ h] at ht; cases ht; exact hK⟩
theorem uJ {k:Int} {T:TypeId} {w:ByteArray} {ts:List Tk} {n:Nat} {K:S->Hp->Prop} (he:Ends ts) (h:n < ts.length) (hK:K (bS (cX k (bl w) (aT ts n))) [jA T ts (s7 k (bl w) ts n (aT ts n))]):cM k T [.va (.c1 (.pt 0 0)),tS w] [jA T ts n] K:=
 ⟨rfl,ts,n,rfl,rfl,he,h,fun t ht=>by rw [gZ h] at ht; cases ht; exact hK⟩
def nT:W.Spec:=fun av H K=>∃ s ts z,av=[.va (.c1 (.pt 0 0))]/\H=jE s ts z/\Ends ts/\z.n < ts.length/\K (.tu []) (jE s ts (dQ ts z))
theorem eN {s:Sc} {ts:List Tk} {z:Fs} {K:S->Hp->Prop} (h1:Ends ts) (h2:z.n < ts.length) (hK:K (.tu []) (jE s ts (dQ ts z))):nT [.va (.c1 (.pt 0 0))] (jE s ts z) K:=⟨s,ts,z,rfl,rfl,h1,h2,hK⟩
attribute [-go_sem] cL cR cM fB
theorem qQ:Meets Tryz.prog 31 nT:=by
 refine aE Tryz.func31 aNF 1 (by rw [Tryz.ntmps31]; decide) (aB sN (aA _)) (fun av H K h=>by obtain ⟨_,_,_,rfl,_⟩:=h; rfl) ?_
 rintro av H K ⟨s,ts,⟨b,o,n⟩,rfl,rfl,he,hn,hK⟩
 unfold dQ at hK
 cases b with
 | true=>
  simp (maxSteps:=1000000) -dsimp only [go_sem,T7,UK]
  exact .done hK
 | false=>
  simp (maxSteps:=1000000) -dsimp only [go_sem,T7,UK]
  refine lJ he hn ?_
  simp (maxSteps:=1000000) -dsimp only [go_sem]
  exact .done hK
end Go.Proofs.YtkpohmhenegkiaaGreatDoor
namespace Go.Proofs.YtkpohmhenegkiaaGreatDoor
open Go.W
attribute [-go_sem] cL cR cM fB cY
theorem CC (k:Int) (w:List UInt8) (ts:List Tk) (n:Nat) (t:Tk):s7 k w ts n t=bif cX k w t then bN ts n else n:=rfl
def SS:W.Spec:=fun av H K=>∃ s ts z w,av=[.va (.c1 (.pt 0 0)),tS w]/\H=jE s ts z/\Ends ts/\z.n < ts.length/\K (bS (cB (bl w) ts z)) (jE s ts (bR (bl w) ts z))
theorem qK {s:Sc} {ts:List Tk} {z:Fs} {w:ByteArray} {K:S->Hp->Prop} (h1:Ends ts) (h2:z.n < ts.length) (hK:K (bS (cB (bl w) ts z)) (jE s ts (bR (bl w) ts z))):SS [.va (.c1 (.pt 0 0)),tS w] (jE s ts z) K:=⟨s,ts,z,w,rfl,rfl,h1,h2,hK⟩
theorem P1:Meets Tryz.prog 128 SS:=by
 refine aE Tryz.func128 aKS 2 (by rw [Tryz.ntmps128]; decide) (aB aDM (aA _)) (fun av H K h=>by obtain ⟨_,_,_,_,rfl,_⟩:=h; rfl) ?_
 rintro av H K ⟨s,ts,⟨b,o,n⟩,w,rfl,rfl,he,hn,hK⟩
 unfold bR cB at hK
 cases b with
 | true=>
  simp (maxSteps:=1000000) -dsimp only [go_sem,OR,P0]
  exact .done hK
 | false=>
  simp (maxSteps:=1000000) -dsimp only [go_sem,OR,P0]
  refine uJ he hn ?_
  rw [CC]
  cases ht:cX 4 (bl w) (aT ts n)<;>rw [ht] at hK<;>(simp (maxSteps:=1000000) -dsimp only [go_sem]; exact .done hK)
def wH:W.Spec:=fun av H K=>∃ s ts z w,av=[.va (.c1 (.pt 0 0)),tS w]/\H=jE s ts z/\Ends ts/\z.n < ts.length/\K (.tu []) (jE s ts (bM (bl w) ts z))
theorem jM {s:Sc} {ts:List Tk} {z:Fs} {w:ByteArray} {K:S->Hp->Prop} (h1:Ends ts) (h2:z.n < ts.length) (hK:K (.tu []) (jE s ts (bM (bl w) ts z))):wH [.va (.c1 (.pt 0 0)),tS w] (jE s ts z) K:=⟨s,ts,z,w,rfl,rfl,h1,h2,hK⟩
theorem JF:Meets Tryz.prog 108 wH:=by
 refine aE Tryz.func108 aKP 2 (by rw [Tryz.ntmps108]; decide) (aB P1 (aB qQ (aA _))) (fun av H K h=>by obtain ⟨_,_,_,_,rfl,_⟩:=h; rfl) ?_
 rintro av H K ⟨s,ts,z,w,rfl,rfl,he,hn,hK⟩
 simp (maxSteps:=1000000) -dsimp only [go_sem,X7,YE]
 refine qK he hn ?_
 unfold bM at hK
 cases ht:cB (bl w) ts z with
 | true=>
  have e:bR (bl w) ts z=⟨false,z.off,bN ts z.n⟩:=by unfold bR; rw [ht]; rfl
  rw [ht] at hK
  rw [e]
  simp (maxSteps:=1000000) -dsimp only [go_sem]
  exact .done hK
 | false=>
  have e:bR (bl w) ts z=z:=by unfold bR; rw [ht]; rfl
  rw [ht] at hK
  rw [e]
  simp (maxSteps:=1000000) -dsimp only [go_sem]
  refine eN he hn ?_
  simp (maxSteps:=1000000) -dsimp only [go_sem]
  exact .done hK
def NQ:W.Spec:=fun av H K=>∃ s ts z k,av=[.va (.c1 (.pt 0 0)),iS .i64 k]/\H=jE s ts z/\Ends ts/\z.n < ts.length/\K (.va (.gs (dI (iN k ts z)))) (jE s ts (gR k ts z))
theorem FM {s:Sc} {ts:List Tk} {z:Fs} {k:Int} {K:S->Hp->Prop} (h1:Ends ts) (h2:z.n < ts.length) (hK:K (.va (.gs (dI (iN k ts z)))) (jE s ts (gR k ts z))):NQ [.va (.c1 (.pt 0 0)),iS .i64 k] (jE s ts z) K:=⟨s,ts,z,k,rfl,rfl,h1,h2,hK⟩
theorem P9:Meets Tryz.prog 97 NQ:=by
 refine aE Tryz.func97 aP4 2 (by rw [Tryz.ntmps97]; decide) (aB sN (aB FU (aB qQ (aA _)))) (fun av H K h=>by obtain ⟨_,_,_,_,rfl,_⟩:=h; rfl) ?_
 rintro av H K ⟨s,ts,⟨b,o,n⟩,k,rfl,rfl,he,hn,hK⟩
 unfold iN gR gV at hK
 cases b with
 | true=>
  simp (maxSteps:=1000000) -dsimp only [go_sem,WC,UO]
  refine aF rfl (.done ?_)
  simp (maxSteps:=1000000) -dsimp only [go_sem,AT]
  refine eN (z:=⟨true,o,n⟩) he hn ?_
  simp (maxSteps:=1000000) -dsimp only [go_sem]
  refine .sel [0,1] (by simp) (by simp) rfl (.done ?_)
  simp (maxSteps:=1000000) -dsimp only [go_sem]
  exact hK
 | false=>
  simp (maxSteps:=1000000) -dsimp only [go_sem,WC,UO]
  refine lJ he hn ?_
  cases ht:(aT ts n).k == k with
  | true=>
   have ht':((aT ts n).k != k)=false:=by rw [bne,ht]; rfl
   rw [ht] at hK
   simp (maxSteps:=1000000) -dsimp only [go_sem,dI,ht']
   refine aF rfl (.done ?_)
   simp (maxSteps:=1000000) -dsimp only [go_sem,K3]
   refine yN he hn ?_
   simp (maxSteps:=1000000) -dsimp only [go_sem]
   refine .sel [0,1] (by simp) (by simp) rfl (.done ?_)
   simp (maxSteps:=1000000) -dsimp only [go_sem]
   exact hK
  | false=>
   have ht':((aT ts n).k != k)=true:=by rw [bne,ht]; rfl
   rw [ht] at hK
   simp (maxSteps:=1000000) -dsimp only [go_sem,dI,ht']
   refine aF rfl (.done ?_)
   simp (maxSteps:=1000000) -dsimp only [go_sem,AT]
   refine eN (z:=⟨false,o,n⟩) he hn ?_
   simp (maxSteps:=1000000) -dsimp only [go_sem]
   refine .sel [0,1] (by simp) (by simp) rfl (.done ?_)
   simp (maxSteps:=1000000) -dsimp only [go_sem]
   exact hK
end Go.Proofs.YtkpohmhenegkiaaGreatDoor
namespace Go.Proofs.YtkpohmhenegkiaaGreatDoor
open Go.W
attribute [-go_sem] cL cR cM fB cY
def o8:List UInt8:=[116,114,117,101]
def mE:List UInt8:=[102,97,108,115,101]
def gS (ts:List Tk) (z:Fs):Vl × Fs:=
 bif !z.bad && cX 1 o8 (aT ts z.n) then (.mk 1 1 (mk []) [] [],⟨false,z.off,bN ts z.n⟩)
 else bif !z.bad && cX 1 mE (aT ts z.n) then (.mk 1 0 (mk []) [] [],⟨false,z.off,bN ts z.n⟩)
 else (.mk 1 0 (mk []) [] [],dQ ts z)
def CY (k:Int) (ts:List Tk) (z:Fs):Vl × Fs:=(.mk k (iN 2 ts z).n (mk []) [] [],gR 2 ts z)
def vB (ts:List Tk) (z:Fs):Vl × Fs:=(.mk 4 0 (mk (iN 3 ts z).x) [] [],gR 3 ts z)
def hJ (e:En) (ts:List Tk) (z:Fs):Int:=bif !z.bad && (aT ts z.n).k == 1 then gD e.ns (mk (aT ts z.n).x) 0 else -1
def dZ (e:En) (ts:List Tk) (z:Fs):Vl × Fs:=
 bif decide (hJ e ts z < 0) || decide ((e.vs.length:Int)<=hJ e ts z) then (.mk 7 0 (mk []) [] [],dQ ts z)
 else (.mk 7 (e.vs.getD (hJ e ts z).toNat 0) (mk []) [] [],⟨false,z.off,bN ts z.n⟩)
def pJ (D:Sc->Ty->Prop) (P:Sc->List Tk->Ty->Fs->Vl × Fs):W.Spec:=fun av H K=>∃ s ts t z,av=[.va (.c1 (.pt 0 0)),.va (.gs (aN t))]/\H=jE s ts z/\s.fit/\TyOk t/\Tks ts/\z.n < ts.length/\D s t/\K (.va (.gs (bK (P s ts t z).1))) (jE s ts (P s ts t z).2)
theorem q9 {D:Sc->Ty->Prop} {P:Sc->List Tk->Ty->Fs->Vl × Fs}:∀ av H K,pJ D P av H K->av.length=2:=fun av H K h=>by obtain ⟨_,_,_,_,rfl,_⟩:=h; rfl
theorem GV:Meets Tryz.prog 65 (pJ (fun _ _=>True) fun _ ts t z=>CY t.k ts z):=by
 refine aE Tryz.func65 aO5 2 (by rw [Tryz.ntmps65]; decide) (aB P9 (aA _)) q9 ?_
 rintro av H K ⟨s,ts,t,z,rfl,rfl,hs,ht,hts,hn,_,hK⟩
 simp (maxSteps:=1000000) -dsimp only [go_sem,aO t,aD6,aDT]
 refine FM hts.e hn ?_
 simp (maxSteps:=1000000) -dsimp only [go_sem,dI]
 refine .sel [0,1] (by simp) (by simp) rfl (.done ?_)
 simp (maxSteps:=1000000) -dsimp only [go_sem]
 exact hK
theorem OY:Meets Tryz.prog 57 (pJ (fun _ _=>True) fun _ ts _ z=>vB ts z):=by
 refine aE Tryz.func57 aRJ 2 (by rw [Tryz.ntmps57]; decide) (aB P9 (aA _)) q9 ?_
 rintro av H K ⟨s,ts,t,z,rfl,rfl,hs,ht,hts,hn,_,hK⟩
 simp (maxSteps:=1000000) -dsimp only [go_sem,aO t,aH7,aFL]
 refine FM hts.e hn ?_
 simp (maxSteps:=1000000) -dsimp only [go_sem,dI]
 refine .sel [0,1] (by simp) (by simp) rfl (.done ?_)
 simp (maxSteps:=1000000) -dsimp only [go_sem]
 exact hK
theorem OL:Meets Tryz.prog 55 (pJ (fun _ _=>True) fun _ ts _ z=>gS ts z):=by
 refine aE Tryz.func55 aQ1 2 (by rw [Tryz.ntmps55]; decide) (aB aIN (aB qQ (aA _))) q9 ?_
 rintro av H K ⟨s,ts,t,⟨b,o,n⟩,rfl,rfl,hs,ht,hts,hn,_,hK⟩
 have hK:K (.va (.gs (bK (gS ts ⟨b,o,n⟩).1))) (jE s ts (gS ts ⟨b,o,n⟩).2):=hK
 cases b with
 | true=>
  simp (maxSteps:=1000000) -dsimp only [go_sem,aO t,WN,UA]
  refine aF rfl (.done ?_)
  simp (maxSteps:=1000000) -dsimp only [go_sem,zG]
  refine aF rfl (.done ?_)
  simp (maxSteps:=1000000) -dsimp only [go_sem,BW]
  refine eN (z:=⟨true,o,n⟩) hts.e hn ?_
  simp (maxSteps:=1000000) -dsimp only [go_sem]
  refine aF rfl (.done ?_)
  simp (maxSteps:=1000000) -dsimp only [go_sem,p9]
  refine .sel [0,1] (by simp) (by simp) rfl (.done ?_)
  simp (maxSteps:=1000000) -dsimp only [go_sem]
  exact hK
 | false=>
  simp (maxSteps:=1000000) -dsimp only [go_sem,aO t,WN,UA]
  refine uJ hts.e hn ?_
  rw [CC]
  rw [show bl (mk [116,114,117,101])=o8 from rfl]
  cases h1:cX 1 o8 (aT ts n) with
  | true=>
   rw [show gS ts ⟨false,o,n⟩=(.mk 1 1 (mk []) [] [],⟨false,o,bN ts n⟩) by simp [gS,h1]] at hK
   simp (maxSteps:=1000000) -dsimp only [go_sem]
   refine aF rfl (.done ?_)
   simp (maxSteps:=1000000) -dsimp only [go_sem,IQ]
   refine aF rfl (.done ?_)
   simp (maxSteps:=1000000) -dsimp only [go_sem,p9]
   refine .sel [0,1] (by simp) (by simp) rfl (.done ?_)
   simp (maxSteps:=1000000) -dsimp only [go_sem]
   exact hK
  | false=>
   simp (maxSteps:=1000000) -dsimp only [go_sem]
   refine aF rfl (.done ?_)
   simp (maxSteps:=1000000) -dsimp only [go_sem,zG]
   refine uJ hts.e hn ?_
   rw [CC]
   rw [show bl (mk [102,97,108,115,101])=mE from rfl]
   cases h2:cX 1 mE (aT ts n) with
   | true=>
    rw [show gS ts ⟨false,o,n⟩=(.mk 1 0 (mk []) [] [],⟨false,o,bN ts n⟩) by simp [gS,h1,h2]] at hK
    simp (maxSteps:=1000000) -dsimp only [go_sem]
    refine aF rfl (.done ?_)
    simp (maxSteps:=1000000) -dsimp only [go_sem,p9]
    refine .sel [0,1] (by simp) (by simp) rfl (.done ?_)
    simp (maxSteps:=1000000) -dsimp only [go_sem]
    exact hK
   | false=>
    rw [show gS ts ⟨false,o,n⟩=(.mk 1 0 (mk []) [] [],dQ ts ⟨false,o,n⟩) by simp [gS,h1,h2]] at hK
    simp (maxSteps:=1000000) -dsimp only [go_sem]
    refine aF rfl (.done ?_)
    simp (maxSteps:=1000000) -dsimp only [go_sem,BW]
    refine eN (z:=⟨false,o,n⟩) hts.e hn ?_
    simp (maxSteps:=1000000) -dsimp only [go_sem]
    refine aF rfl (.done ?_)
    simp (maxSteps:=1000000) -dsimp only [go_sem,p9]
    refine .sel [0,1] (by simp) (by simp) rfl (.done ?_)
    simp (maxSteps:=1000000) -dsimp only [go_sem]
    exact hK
theorem S6:∀ (l:List ByteArray) (x:ByteArray) (i:Nat),-1<=gD l x i/\gD l x i < (l.length:Int) + i
 | [],_,_=>⟨by simp [gD],by simp only [gD,List.length_nil]; omega⟩
 | y :: l,x,i=>by
  have:=S6 l x (i + 1)
  rw [gD]
  cases decide (x=y) with
  | true=>exact ⟨by simp only [aI]; omega,by simp only [aI,List.length_cons]; omega⟩
  | false=>exact ⟨by simp only [aD]; omega,by simp only [aD,List.length_cons]; omega⟩
theorem OU:Meets Tryz.prog 59 (pJ (fun _ _=>True) fun s ts t z=>dZ ((fU s.es t.n).getD default) ts z):=by
 refine aE Tryz.func59 aQM 2 (by rw [Tryz.ntmps59]; decide) (aB A8 (aB sN (aB FU (aH aCV (aB qQ (aA _)))))) q9 ?_
 rintro av H K ⟨s,ts,t,⟨b,o,n⟩,rfl,rfl,hs,ht,hts,hn,_,hK0⟩
 obtain ⟨e,hE⟩:∃ e,(fU s.es t.n).getD default=e:=⟨_,rfl⟩
 have he:e.ok:=by
  rw [<-hE]
  cases h:fU s.es t.n with
  | none=>exact ⟨by decide,by decide,by decide,fun _ h=>(by cases h),fun _ h=>(by cases h)⟩
  | some e=>exact hs.ok.es e (List.mem_of_find?_eq_some h)
 have hK:K (.va (.gs (bK (dZ e ts ⟨b,o,n⟩).1))) (jE s ts (dZ e ts ⟨b,o,n⟩).2):=by
  have:=hK0; simp only [hE] at this; exact this
 clear hK0
 have hlv:=he.lv
 have hln:=he.ln
 have hvs:=he.vs
 simp (maxSteps:=1000000) -dsimp only [go_sem,aO t,aEG,aD7]
 refine nU hs ?_
 rw [hE]
 simp (maxSteps:=1000000) -dsimp only [go_sem,bL]
 refine aF rfl (.done ?_)
 have g0:decide ((-1:Int) < 0)=true:=rfl
 cases b with
 | true=>
  simp (maxSteps:=1000000) -dsimp only [go_sem,zV]
  refine aF rfl (.done ?_)
  simp (maxSteps:=1000000) -dsimp only [go_sem,oQ,g0]
  refine aF rfl (.done ?_)
  simp (maxSteps:=1000000) -dsimp only [go_sem,qJ]
  refine eN (z:=⟨true,o,n⟩) hts.e hn ?_
  simp (maxSteps:=1000000) -dsimp only [go_sem]
  refine aF rfl (.done ?_)
  simp (maxSteps:=1000000) -dsimp only [go_sem,qB]
  refine .sel [0,1] (by simp) (by simp) rfl (.done ?_)
  simp (maxSteps:=1000000) -dsimp only [go_sem]
  rw [show dZ e ts ⟨true,o,n⟩=(.mk 7 0 (mk []) [] [],dQ ts ⟨true,o,n⟩) by simp [dZ,hJ]] at hK
  exact hK
 | false=>
  simp (maxSteps:=1000000) -dsimp only [go_sem,zV]
  refine lJ hts.e hn ?_
  cases hk:(aT ts n).k == 1 with
  | false=>
   simp (maxSteps:=1000000) -dsimp only [go_sem,dI,hk]
   refine aF rfl (.done ?_)
   simp (maxSteps:=1000000) -dsimp only [go_sem,oQ,g0]
   refine aF rfl (.done ?_)
   simp (maxSteps:=1000000) -dsimp only [go_sem,qJ]
   refine eN (z:=⟨false,o,n⟩) hts.e hn ?_
   simp (maxSteps:=1000000) -dsimp only [go_sem]
   refine aF rfl (.done ?_)
   simp (maxSteps:=1000000) -dsimp only [go_sem,qB]
   refine .sel [0,1] (by simp) (by simp) rfl (.done ?_)
   simp (maxSteps:=1000000) -dsimp only [go_sem]
   rw [show dZ e ts ⟨false,o,n⟩=(.mk 7 0 (mk []) [] [],dQ ts ⟨false,o,n⟩) by simp [dZ,hJ,hk]] at hK
   exact hK
  | true=>
   simp (maxSteps:=1000000) -dsimp only [go_sem,dI,hk]
   refine aF rfl (.done ?_)
   simp (maxSteps:=1000000) -dsimp only [go_sem,ID]
   refine lJ hts.e hn ?_
   simp (maxSteps:=1000000) -dsimp only [go_sem,dI,vQ hln]
   have hi:hJ e ts ⟨false,o,n⟩=gD e.ns (mk (aT ts n).x) 0:=by simp [hJ,hk]
   have hlo:=(S6 e.ns (mk (aT ts n).x) 0).1
   have hpE:dZ e ts ⟨false,o,n⟩=bif decide (gD e.ns (mk (aT ts n).x) 0 < 0) || decide ((e.vs.length:Int)<=gD e.ns (mk (aT ts n).x) 0) then (.mk 7 0 (mk []) [] [],dQ ts ⟨false,o,n⟩)
    else (.mk 7 (e.vs.getD (gD e.ns (mk (aT ts n).x) 0).toNat 0) (mk []) [] [],⟨false,o,bN ts n⟩):=by unfold dZ; rw [hi]
   rw [hpE] at hK
   clear hpE hi
   obtain ⟨k,hkk⟩:∃ k,gD e.ns (mk (aT ts n).x) 0=k:=⟨_,rfl⟩
   rw [hkk] at hK hlo
   cases h1:decide (k < 0) with
   | true=>
    rw [h1] at hK
    refine aF rfl (.done ?_)
    simp (maxSteps:=1000000) -dsimp only [go_sem,oQ,hkk,h1]
    refine aF rfl (.done ?_)
    simp (maxSteps:=1000000) -dsimp only [go_sem,qJ]
    refine eN (z:=⟨false,o,n⟩) hts.e hn ?_
    simp (maxSteps:=1000000) -dsimp only [go_sem]
    refine aF rfl (.done ?_)
    simp (maxSteps:=1000000) -dsimp only [go_sem,qB]
    refine .sel [0,1] (by simp) (by simp) rfl (.done ?_)
    simp (maxSteps:=1000000) -dsimp only [go_sem]
    rw [Bool.true_or] at hK
    exact hK
   | false=>
   rw [h1] at hK
   cases h2:decide ((e.vs.length:Int)<=k) with
   | true=>
    rw [h2] at hK
    refine aF rfl (.done ?_)
    simp (maxSteps:=1000000) -dsimp only [go_sem,oQ,hkk,h1,h2]
    refine aF rfl (.done ?_)
    simp (maxSteps:=1000000) -dsimp only [go_sem,qJ]
    refine eN (z:=⟨false,o,n⟩) hts.e hn ?_
    simp (maxSteps:=1000000) -dsimp only [go_sem]
    refine aF rfl (.done ?_)
    simp (maxSteps:=1000000) -dsimp only [go_sem,qB]
    refine .sel [0,1] (by simp) (by simp) rfl (.done ?_)
    simp (maxSteps:=1000000) -dsimp only [go_sem]
    rw [Bool.or_true] at hK
    exact hK
   | false=>
   rw [h2] at hK
   have h1':0<=k:=by simpa using h1
   have h2':k < (e.vs.length:Int):=by simpa using h2
   obtain ⟨m,rfl⟩:∃ m:Nat,k=m:=⟨k.toNat,by omega⟩
   have hm:m < e.vs.length:=by omega
   have hx:e.vs[m]? = some e.vs[m]:=aW hm
   have q2:=aY (row:=cU) hx
   have hv:e.vs.getD ((m:Int)).toNat 0=e.vs[m]:=by simp [List.getD_eq_getElem?_getD,hx]
   rw [hv] at hK
   have hin:=hvs _ (List.getElem_mem hm)
   generalize e.vs[m]=y at *
   refine aF rfl (.done ?_)
   simp (maxSteps:=1000000) -dsimp only [go_sem,oQ,hkk,h1,h2]
   refine aF rfl (.done ?_)
   simp (maxSteps:=1000000) -dsimp only [go_sem,JT]
   refine yN hts.e hn ?_
   simp (maxSteps:=1000000) -dsimp only [go_sem]
   refine aF rfl (.done ?_)
   simp (maxSteps:=1000000) -dsimp only [go_sem,CZ,↓q2]
   refine ⟨⟨by omega,by omega⟩,aF rfl (.done ?_)⟩
   simp (maxSteps:=1000000) -dsimp only [go_sem,DP]
   refine .sel [0,1] (by simp) (by simp) rfl (.done ?_)
   simp (maxSteps:=1000000) -dsimp only [go_sem]
   exact hK
end Go.Proofs.YtkpohmhenegkiaaGreatDoor
namespace Go.Proofs.YtkpohmhenegkiaaGreatDoor
open Go.W
attribute [-go_sem] cL cR cM fB cY
abbrev Prs:Type:=Sc->List Tk->Ty->Fs->Vl × Fs
def jJ (D:Sc->Ty->Prop) (P:Prs) (f:FuncId):W.Spec:=pJ (fun s t=>D s t/\iI t.k=f) P
def A7 (D:Sc->Ty->Prop) (P:Prs):cS:=[(24,.s mU),(55,.s (jJ D P 55)),(57,.s (jJ D P 57)),(59,.s (jJ D P 59)),
 (61,.s (jJ D P 61)),(63,.s (jJ D P 63)),(65,.s (jJ D P 65))]
structure ParsM (D:Sc->Ty->Prop) (P:Prs):Prop where
 b:Meets Tryz.prog 55 (jJ D P 55)
 t:Meets Tryz.prog 57 (jJ D P 57)
 e:Meets Tryz.prog 59 (jJ D P 59)
 l:Meets Tryz.prog 61 (jJ D P 61)
 s:Meets Tryz.prog 63 (jJ D P 63)
 n:Meets Tryz.prog 65 (jJ D P 65)
theorem pY {D:Sc->Ty->Prop} {P:Prs} (h:ParsM D P):dW Tryz.prog (A7 D P):=
 aB mOf (aB h.b (aB h.t (aB h.e (aB h.l (aB h.s (aB h.n (aA _)))))))
theorem VQ (D:Sc->Ty->Prop) (P:Prs):sp (A7 D P) 24=mU:=rfl
theorem QM (D:Sc->Ty->Prop) (P:Prs) (k:Int):sp (A7 D P) (iI k)=jJ D P (iI k):=by
 unfold iI
 cases k == 1<;>cases k == 4<;>cases k == 7<;>cases k == 5<;>cases k == 6<;>rfl
theorem HL {D:Sc->Ty->Prop} {P:Prs} {s:Sc} {ts:List Tk} {t:Ty} {z:Fs} {K:S->Hp->Prop} (h1:s.fit) (h2:TyOk t) (h3:Tks ts) (h4:z.n < ts.length) (h5:D s t) (hK:K (.va (.gs (bK (P s ts t z).1))) (jE s ts (P s ts t z).2)):jJ D P (iI t.k) [.va (.c1 (.pt 0 0)),.va (.gs [.vl (.int .i64 t.k),.vl (.int .i64 t.s),.vl (.string t.n),.fz (t.e.map aN)])] (jE s ts z) K:=⟨s,ts,t,z,by rw [aO],rfl,h1,h2,h3,h4,⟨h5,rfl⟩,hK⟩
abbrev wJ (s:Sc) (ts:List Tk) (t:Ty) (l:List Vl) (z:Fs):Hp:=[QZ s z.bad z.off,jA 114 ts z.n,.cells [.pt 0 0] 59,.cells [.vl (.int .i64 t.k),.vl (.int .i64 t.s),.vl (.string t.n),.fz (t.e.map aN)] 28,
 .cells [.vl (.int .i64 5),.vl (.int .i64 0),.vl (.string (mk [])),.sl 5 l.length,.vl (.slice none 0 0)] 32,.row (l.map bK) 32 5]
def aAV (D:Sc->Ty->Prop) (P:Prs):W.Spec:=fun av H K=>∃ s ts t u l z,av=[.va (.c1 (.pt 4 0)),.va (.c1 (.pt 3 0)),.va (.c1 (.pt 2 0))]/\H=wJ s ts t l z/\s.fit/\TyOk u/\Tks ts/\z.n < ts.length/\t.e=[u]/\D s u/\(l.length + 1) * 80<=140737488355328/\
 K (.tu []) (wJ s ts t (l ++ [(P s ts u z).1]) (P s ts u z).2)
theorem aCL {D:Sc->Ty->Prop} {P:Prs} {s:Sc} {ts:List Tk} {t u:Ty} {l:List Vl} {z:Fs} {K:S->Hp->Prop} (h1:s.fit) (h2:TyOk u) (h3:Tks ts) (h4:z.n < ts.length) (h5:t.e=[u]) (h6:D s u) (h7:(l.length + 1) * 80<=140737488355328)
 (hK:K (.tu []) (wJ s ts t (l ++ [(P s ts u z).1]) (P s ts u z).2)):aAV D P [.va (.c1 (.pt 4 0)),.va (.c1 (.pt 3 0)),.va (.c1 (.pt 2 0))] (wJ s ts t l z) K:=⟨s,ts,t,u,l,z,rfl,rfl,h1,h2,h3,h4,h5,h6,h7,hK⟩
theorem aJA {D:Sc->Ty->Prop} {P:Prs} (hP:ParsM D P):Meets Tryz.prog 102 (aAV D P):=by
 refine aE Tryz.func102 aK4 3 (by rw [Tryz.ntmps102]; decide) (pY hP) (fun av H K h=>by obtain ⟨_,_,_,_,_,_,rfl,_⟩:=h; rfl) ?_
 rintro av H K ⟨s,ts,t,u,l,z,rfl,rfl,hs,hu,hts,hn,he,hD,hl,hK⟩
 have z0:(0:Int) < ((1:Nat):Int):=by decide
 have z1:(0:Int)<=0:=by decide
 simp (maxSteps:=1000000) -dsimp only [go_sem,he,aO u,X8,ZT,VQ,QM,forall_eq',z0,z1,List.length_cons,List.length_nil,List.take_succ_cons,List.take_zero]
 refine HL hs hu hts hn hD ?_
 generalize P s ts u z=r at *
 obtain ⟨v,z'⟩:=r
 have ha:∀ {x r:List C},(l.map bK ++ [x])[l.length]? = some r->r=x:=fun {x r} h=>by
  have h0:l.length=(l.map bK).length:=by simp
  rw [h0,List.getElem?_concat_length] at h
  exact (bG h).symm
 have hb:∀ x:List C,(l.map bK ++ [x]).set l.length (bK v)=(l ++ [v]).map bK:=fun x=>by
  rw [List.set_append_right _ _ (by simp)]
  simp
 rw [aX] at hb
 simp (maxSteps:=1000000) -dsimp only [go_sem,aX v]
 have fin:∀ {r x:List C} (y:B),r=[.vl (.int .i64 0),.vl (.int .i64 0),.vl (.string (mk [])),.vl (.slice none 0 0),.vl (.slice none 0 0)]->W.Fin 6 K (.tu []) [QZ s z'.bad z'.off,jA 114 ts z'.n,.cells [.pt 0 0] 59,.cells [.vl (.int .i64 t.k),.vl (.int .i64 t.s),.vl (.string t.n),.fz [[.vl (.int .i64 u.k),.vl (.int .i64 u.s),.vl (.string u.n),.fz (u.e.map aN)]]] 28,
  .cells [.vl (.int .i64 5),.vl (.int .i64 0),.vl (.string (mk [])),.sl 5 (l.length + 1),.vl (.slice none 0 0)] 32,.row ((l.map bK ++ [x]).set l.length (.vl (.int .i64 v.k) :: .vl (.int .i64 v.n) :: .vl (.string v.s) :: .fz (v.l.map bK) :: .fz (v.f.map cJ) :: List.drop 5 r)) 32 5,y]:=fun {r x} y hr=>by
  subst hr
  refine .sel [0,1,2,3,4,5] (by simp) (by simp) rfl (.done ?_)
  rw [show List.drop 5 [C.vl (.int .i64 0),C.vl (.int .i64 0),C.vl (.string (mk [])),C.vl (.slice none 0 0),C.vl (.slice none 0 0)]=[] from rfl,hb x]
  simp (maxSteps:=1000000) -dsimp only [go_sem]
  have e:(l ++ [v]).length=l.length + 1:=by simp
  rw [<-e]
  have:=hK
  unfold wJ at this
  rw [he] at this
  simp only [aO u,List.map_cons,List.map_nil,List.map_append] at this
  exact this
 exact ⟨hl,⟨by omega,by omega⟩,⟨by omega,fun r hr=>fin _ (ha hr)⟩,⟨by omega,by omega⟩,by omega,fun r hr=>fin _ (ha hr)⟩
end Go.Proofs.YtkpohmhenegkiaaGreatDoor
namespace Go.Proofs.YtkpohmhenegkiaaGreatDoor
open Go.W
attribute [-go_sem] cL cR cM fB cY
def hY {α:Type} (one:α->Fs->α × Fs) (ts:List Tk):Nat->α->Fs->α × Fs
 | 0,a,z=>(a,z)
 | f + 1,a,z=>bif z.bad then (a,z) else bif cB [44] ts (one a z).2 then hY one ts f (one a z).1 (bR [44] ts (one a z).2) else one a z
theorem iL {α:Type} (one:α->Fs->α × Fs) (ts:List Tk) (f:Nat) (a:α) (z:Fs):hY one ts (f + 1) a z=bif z.bad then (a,z) else bif cB [44] ts (one a z).2 then hY one ts f (one a z).1 (bR [44] ts (one a z).2) else one a z:=rfl
def cI {α:Type} (one:α->Fs->α × Fs) (op sh:List UInt8) (ts:List Tk) (a:α) (z:Fs):α × Fs:=
 bif cB sh ts (bM op ts z) then (a,bR sh ts (bM op ts z))
 else ((hY one ts (ts.length + 1) a (bM op ts z)).1,bM sh ts (hY one ts (ts.length + 1) a (bM op ts z)).2)
theorem MZ {w:List UInt8} {ts:List Tk} {z:Fs} (he:Ends ts) (hn:z.n < ts.length) (h:cB w ts z=true):bN ts z.n=z.n + 1/\z.n + 1 < ts.length/\z.bad=false:=by
 unfold cB at h
 rw [Bool.and_eq_true] at h
 obtain ⟨h1,h2⟩:=h
 have hb:z.bad=false:=by cases hb:z.bad with
  | false=>rfl
  | true=>rw [hb] at h1; cases h1
 have hk:(aT ts z.n).k=4:=by
  unfold cX at h2
  rw [Bool.and_eq_true] at h2
  exact eq_of_beq h2.1
 have hne:¬ (z.n + 1=ts.length):=fun e=>by
  have:=(he.last _ _ (gZ hn)).2 e
  rw [hk] at this; cases this
 have hlt:z.n + 1 < ts.length:=by omega
 exact ⟨if_pos hlt,hlt,hb⟩
theorem mP {ts:List Tk} {n:Nat} (h:n < ts.length):n<=bN ts n/\bN ts n < ts.length:=by
 unfold bN; split<;>omega
theorem v7 (ts:List Tk) (z:Fs):(dQ ts z).n=z.n:=by unfold dQ; cases z.bad<;>rfl
theorem hZ {w:List UInt8} {ts:List Tk} {z:Fs} (h:z.n < ts.length):z.n<=(bM w ts z).n/\(bM w ts z).n < ts.length:=by
 unfold bM
 cases cB w ts z
 · rw [aD,v7]; exact ⟨Nat.le_refl _,h⟩
 · exact mP h
theorem DL {w:List UInt8} {ts:List Tk} {z:Fs} (h:z.n < ts.length):z.n<=(bR w ts z).n/\(bR w ts z).n < ts.length:=by
 unfold bR
 cases cB w ts z
 · exact ⟨Nat.le_refl _,h⟩
 · exact mP h
def EJ {α:Type} (one:α->Fs->α × Fs) (ts:List Tk):Prop:=∀ a z,z.n < ts.length->z.n<=(one a z).2.n/\(one a z).2.n < ts.length
theorem QL {α:Type} {one:α->Fs->α × Fs} {ts:List Tk} (ho:EJ one ts):∀ (f:Nat) (a:α) (z:Fs),z.n < ts.length->z.n<=(hY one ts f a z).2.n/\(hY one ts f a z).2.n < ts.length
 | 0,a,z,h=>⟨Nat.le_refl _,h⟩
 | f + 1,a,z,h=>by
  rw [iL]
  cases z.bad
  · have h1:=ho a z h
    cases cB [44] ts (one a z).2
    · exact h1
    · have h2:=DL (w:=[44]) h1.2
      have h3:=QL ho f (one a z).1 _ h2.2
      exact ⟨Nat.le_trans h1.1 (Nat.le_trans h2.1 h3.1),h3.2⟩
  · exact ⟨Nat.le_refl _,h⟩
theorem P5 {α:Type} {one:α->Fs->α × Fs} {ts:List Tk} (ho:EJ one ts) (op sh:List UInt8) (a:α) (z:Fs) (h:z.n < ts.length):z.n<=(cI one op sh ts a z).2.n/\(cI one op sh ts a z).2.n < ts.length:=by
 unfold cI
 have h1:=hZ (w:=op) h
 cases cB sh ts (bM op ts z)
 · have h2:=QL ho (ts.length + 1) a _ h1.2
   have h3:=hZ (w:=sh) h2.2
   exact ⟨Nat.le_trans h1.1 (Nat.le_trans h2.1 h3.1),h3.2⟩
 · have h2:=DL (w:=sh) h1.2
   exact ⟨Nat.le_trans h1.1 h2.1,h2.2⟩
def hM (P:Prs) (s:Sc) (ts:List Tk) (u:Ty):List Vl->Fs->List Vl × Fs:=fun l z=>(l ++ [(P s ts u z).1],(P s ts u z).2)
abbrev V7:S:=.va (.c1 (.fn 102 [(false,[.pt 4 0]),(false,[.pt 3 0]),(false,[.pt 2 0])]))
def ZV (D:Sc->Ty->Prop) (P:Prs):W.Spec:=fun av H K=>∃ s ts t u z op sh,av=[.va (.c1 (.pt 0 0)),tS op,tS sh,V7]/\H=wJ s ts t [] z/\s.fit/\TyOk u/\Tks ts/\z.n < ts.length/\t.e=[u]/\D s u/\
 K (.tu []) (wJ s ts t (cI (hM P s ts u) (bl op) (bl sh) ts [] z).1 (cI (hM P s ts u) (bl op) (bl sh) ts [] z).2)
theorem aCJ {D:Sc->Ty->Prop} {P:Prs} {s:Sc} {ts:List Tk} {t u:Ty} {z:Fs} {op sh:ByteArray} {K:S->Hp->Prop} (h1:s.fit) (h2:TyOk u) (h3:Tks ts) (h4:z.n < ts.length) (h5:t.e=[u]) (h6:D s u)
 (hK:K (.tu []) (wJ s ts t (cI (hM P s ts u) (bl op) (bl sh) ts [] z).1 (cI (hM P s ts u) (bl op) (bl sh) ts [] z).2)):ZV D P [.va (.c1 (.pt 0 0)),tS op,tS sh,V7] (wJ s ts t [] z) K:=⟨s,ts,t,u,z,op,sh,rfl,rfl,h1,h2,h3,h4,h5,h6,hK⟩
def Prs.onw (P:Prs):Prop:=∀ s ts t z,z.n < ts.length->z.n<=(P s ts t z).2.n/\(P s ts t z).2.n < ts.length
theorem aBS {D:Sc->Ty->Prop} {P:Prs} (hP:ParsM D P) (hO:P.onw):Meets Tryz.prog 101 (ZV D P):=by
 refine aE Tryz.func101 aJL 4 (by rw [Tryz.ntmps101]; decide) (aB JF (aB P1 (aB (aJA hP) (aA _)))) (fun av H K h=>by obtain ⟨_,_,_,_,_,_,_,rfl,_⟩:=h; rfl) ?_
 rintro av H K ⟨s,ts,t,u,z,op,sh,rfl,rfl,hs,hu,hts,hn,he,hD,hK⟩
 have onw:EJ (hM P s ts u) ts:=fun a z h=>hO s ts u z h
 have hl0:=hts.e.le
 unfold cI at hK
 simp (maxSteps:=1000000) -dsimp only [go_sem,YQ,W7]
 refine jM hts.e hn ?_
 have hn1:=(hZ (w:=bl op) hn).2
 generalize bM (bl op) ts z=z1 at *
 simp (maxSteps:=1000000) -dsimp only [go_sem]
 refine aF rfl (.done ?_)
 simp (maxSteps:=1000000) -dsimp only [go_sem,DH]
 refine qK hts.e hn1 ?_
 cases hh:cB (bl sh) ts z1 with
 | true=>
  rw [hh] at hK
  simp (maxSteps:=1000000) -dsimp only [go_sem]
  refine .sel [0,1,2,3,4,5] (by simp) (by simp) rfl (.done ?_)
  simp (maxSteps:=1000000) -dsimp only [go_sem]
  exact hK
 | false=>
 rw [hh] at hK
 rw [show bR (bl sh) ts z1=z1 by unfold bR; rw [hh]; rfl]
 simp (maxSteps:=1000000) -dsimp only [go_sem]
 refine aF rfl (.done ?_)
 simp (maxSteps:=1000000) -dsimp only [go_sem,CO]
 refine aL (α:=Nat × Bool × List Vl × Fs) (fun x=>[(0,.va (.c1 (.pt 0 0))),(2,tS sh),(3,V7),(8,bS x.2.1)]) (fun x=>wJ s ts t x.2.2.1 x.2.2.2)
  (fun x=>x.2.2.2.n < ts.length/\x.2.2.1.length + x.1<=ts.length + 1/\(x.2.1=true->ts.length < x.2.2.2.n + x.1)/\(bif x.2.1 then hY (hM P s ts u) ts x.1 x.2.2.1 x.2.2.2 else (x.2.2.1,x.2.2.2))=hY (hM P s ts u) ts (ts.length + 1) [] z1)
  (fun x=>x.1) (ts.length + 1,true,[],z1) 6 ⟨hn1,by simp,fun _=>by omega,rfl⟩ ?_ ?_ ?_
 · simp -dsimp only [go_sem]<;>simp
 · simp -dsimp only [go_sem]<;>simp
 rintro ⟨f,m,l,z⟩ ⟨h1,h2,h3,h4⟩
 simp only at h1 h2 h3 h4
 cases m with
 | false=>
  rw [aD] at h4
  rw [<-h4] at hK
  simp (maxSteps:=1000000) -dsimp only [go_sem]
  refine aF rfl (.done ?_)
  simp (maxSteps:=1000000) -dsimp only [go_sem,wD]
  refine jM (z:=z) hts.e h1 ?_
  simp (maxSteps:=1000000) -dsimp only [go_sem]
  refine .sel [0,1,2,3,4,5] (by simp) (by simp) rfl (.done ?_)
  simp (maxSteps:=1000000) -dsimp only [go_sem]
  exact hK
 | true=>
  rw [aI] at h4
  have h3:=h3 rfl
  obtain ⟨f,rfl⟩:∃ g,f=g + 1:=⟨f - 1,by omega⟩
  rw [iL] at h4
  obtain ⟨b,o,n⟩:=z
  cases b with
  | true=>
   rw [aI] at h4
   rw [<-h4] at hK
   simp (maxSteps:=1000000) -dsimp only [go_sem]
   refine aF rfl (.done ?_)
   simp (maxSteps:=1000000) -dsimp only [go_sem,wD]
   refine jM (z:=⟨true,o,n⟩) hts.e h1 ?_
   simp (maxSteps:=1000000) -dsimp only [go_sem]
   refine .sel [0,1,2,3,4,5] (by simp) (by simp) rfl (.done ?_)
   simp (maxSteps:=1000000) -dsimp only [go_sem]
   exact hK
  | false=>
   rw [aD] at h4
   simp (maxSteps:=1000000) -dsimp only [go_sem]
   refine aCL (z:=⟨false,o,n⟩) hs hu hts h1 he hD (by omega) ?_
   have h5:=onw l ⟨false,o,n⟩ h1
   have e1:hM P s ts u l ⟨false,o,n⟩=(l ++ [(P s ts u ⟨false,o,n⟩).1],(P s ts u ⟨false,o,n⟩).2):=rfl
   rw [e1] at h4 h5
   generalize P s ts u ⟨false,o,n⟩=r at *
   obtain ⟨v,z'⟩:=r
   simp only at h4 h5
   simp (maxSteps:=1000000) -dsimp only [go_sem]
   refine aF rfl (.done ?_)
   simp (maxSteps:=1000000) -dsimp only [go_sem,B1]
   refine qK (z:=z') hts.e h5.2 ?_
   cases hc:cB (bl (mk [44])) ts z' with
   | true=>
    obtain ⟨g1,g2,g3⟩:=MZ hts.e h5.2 hc
    have hc':cB [44] ts z'=true:=hc
    rw [hc',aI] at h4
    have e2:bR (bl (mk [44])) ts z'=⟨false,z'.off,bN ts z'.n⟩:=by unfold bR; rw [hc]; rfl
    have e3:bR [44] ts z'=⟨false,z'.off,bN ts z'.n⟩:=e2
    rw [e3] at h4
    rw [e2]
    simp (maxSteps:=1000000) -dsimp only [go_sem]
    refine aC (f,true,l ++ [v],⟨false,z'.off,bN ts z'.n⟩) 6 ⟨?_,?_,?_,h4⟩ (by simp) ?_ ?_
    · simp only [g1]; exact g2
    · simp only [List.length_append,List.length_singleton]; omega
    · intro _
      have h6:=h5.1
      simp only at h6 h3 ⊢
      omega
    · simp -dsimp only [go_sem]<;>simp
    · simp -dsimp only [go_sem]<;>simp
   | false=>
    have hc':cB [44] ts z'=false:=hc
    rw [hc',aD] at h4
    rw [show bR (bl (mk [44])) ts z'=z' by unfold bR; rw [hc]; rfl]
    simp (maxSteps:=1000000) -dsimp only [go_sem]
    refine aC (f,false,l ++ [v],z') 6 ⟨h5.2,?_,fun h=>(by cases h),h4⟩ (by simp) ?_ ?_
    · simp only [List.length_append,List.length_singleton]; omega
    · simp -dsimp only [go_sem]<;>simp
    · simp -dsimp only [go_sem]<;>simp
end Go.Proofs.YtkpohmhenegkiaaGreatDoor
namespace Go.Proofs.YtkpohmhenegkiaaGreatDoor
open Go.W
attribute [-go_sem] cL cR cM fB cY
def kF (P:Prs) (s:Sc) (ts:List Tk) (u:Ty) (z:Fs):Vl × Fs:=(.mk 5 0 (mk []) (cI (hM P s ts u) [91] [93] ts [] z).1 [],(cI (hM P s ts u) [91] [93] ts [] z).2)
theorem PV {D:Sc->Ty->Prop} {P:Prs} (hP:ParsM D P) (hO:P.onw):Meets Tryz.prog 61 (pJ (fun s t=>∃ u,t.e=[u]/\TyOk u/\D s u) fun s ts t z=>kF P s ts (t.e.headD default) z):=by
 refine aE Tryz.func61 aQN 2 (by rw [Tryz.ntmps61]; decide) (aB (aBS hP hO) (aA _)) q9 ?_
 rintro av H K ⟨s,ts,t,z,rfl,rfl,hs,ht,hts,hn,⟨u,he,hu,hD⟩,hK⟩
 have hK:K (.va (.gs (bK (kF P s ts u z).1))) (jE s ts (kF P s ts u z).2):=by
  have:=hK; simp only [he,List.headD_cons] at this; exact this
 unfold kF at hK
 simp (maxSteps:=1000000) -dsimp only [go_sem,aO t,aHW,aC3]
 refine aF rfl (.nilc 5 3 32 5 _ _ rfl rfl (.done ?_))
 simp (maxSteps:=1000000) -dsimp only [go_sem,JP]
 refine aCJ (t:=t) hs hu hts hn he hD ?_
 rw [show bl (mk [91])=[91] from rfl,show bl (mk [93])=[93] from rfl]
 generalize cI (hM P s ts u) [91] [93] ts [] z=r at *
 obtain ⟨l,z'⟩:=r
 simp (maxSteps:=1000000) -dsimp only [go_sem]
 refine aF rfl (.done ?_)
 simp (maxSteps:=1000000) -dsimp only [go_sem,KF]
 refine .pub 6 _ _ _ rfl (.sel [0,1] (by simp) (by simp [cW]) rfl (.done ?_))
 simp (maxSteps:=1000000) -dsimp only [go_sem,cW]
 rw [aX] at hK
 exact hK
end Go.Proofs.YtkpohmhenegkiaaGreatDoor
namespace Go.Proofs.YtkpohmhenegkiaaGreatDoor
open Go.W
attribute [-go_sem] cL cR cM fB cY
abbrev nmV:S:=.va (.c1 (.fn 107 [(false,[.pt 0 0])]))
def aGS:W.Spec:=fun av H K=>∃ (f:Fl) (t:Tk),av=[.va (.gs (aZ f)),.va (.c1 (.pt 0 0))]/\H=[.cells (dI t) 71]/\K (bS (bl f.nm == t.x)) [.cells (dI t) 71]
theorem aD9 {f:Fl} {t:Tk} {K:S->Hp->Prop} (hK:K (bS (bl f.nm == t.x)) [.cells (dI t) 71]):aGS [.va (.gs (aZ f)),.va (.c1 (.pt 0 0))] [.cells (dI t) 71] K:=⟨f,t,rfl,rfl,hK⟩
theorem aFJ:Meets Tryz.prog 107 aGS:=by
 refine aE Tryz.func107 aI8 2 (by rw [Tryz.ntmps107]; decide) (aA _) (fun av H K h=>by obtain ⟨_,_,rfl,_⟩:=h; rfl) ?_
 rintro av H K ⟨f,t,rfl,rfl,hK⟩
 simp -dsimp only [go_sem,aZ,dI,aAD,Y4]
 exact .sel [0] (by simp) (by simp) rfl (.done (by simpa [go_sem,dI] using hK))
def eV (n:List UInt8):List Fl->Nat->Int
 | [],_=>-1
 | x :: l,i=>bif bl x.nm == n then (i:Int) else eV n l (i + 1)
def OZ:W.Spec:=fun av H K=>∃ (l:List Fl) (t:Tk),av=[.va (.c1 (.fz (l.map aZ))),nmV]/\H=[.cells (dI t) 71]/\l.length<=9223372036854775807/\K (iS .i64 (eV t.x l 0)) [.cells (dI t) 71]
theorem aG7 {l:List Fl} {t:Tk} {K:S->Hp->Prop} (h:l.length<=9223372036854775807) (hK:K (iS .i64 (eV t.x l 0)) [.cells (dI t) 71]):OZ [.va (.c1 (.fz (l.map aZ))),nmV] [.cells (dI t) 71] K:=⟨l,t,rfl,rfl,h,hK⟩
theorem VF:Meets Tryz.prog 106 OZ:=by
 refine aE Tryz.func106 aKO 2 (by rw [Tryz.ntmps106]; decide) (aB aFJ (aA _)) (fun av H K h=>by obtain ⟨_,_,rfl,_⟩:=h; rfl) ?_
 rintro av H K ⟨l,t,rfl,rfl,hl,hK⟩
 simp -dsimp only [go_sem,ZP,W5]
 refine aL (α:=Nat) (fun i=>[(0,.va (.c1 (.fz (l.map aZ)))),(1,nmV),(7,iS .i64 l.length),(8,iS .i64 i)]) (fun _=>[.cells (dI t) 71])
  (fun i=>i<=l.length/\eV t.x (l.drop i) i=eV t.x l 0) (fun i=>l.length - i) 0 1 ⟨Nat.zero_le _,rfl⟩ ?_ ?_ ?_
 · simp -dsimp only [go_sem]<;>simp
 · simp -dsimp only [go_sem,dI]<;>simp
 rintro i ⟨hi,ho⟩
 rcases bF i l.length with hlt | hge
 · have hg:decide ((i:Int) < (l.length:Int))=true:=by simp; omega
   have hx:l[i]? = some l[i]:=aW hlt
   have q2:=aY (row:=aZ) hx
   rw [List.drop_eq_getElem_cons hlt,eV] at ho
   generalize l[i]=y at *
   simp -dsimp only [go_sem,hg,↓q2,aZ,List.take_succ_cons,List.take_zero,List.length_cons]
   refine ⟨by omega,aD9 ?_⟩
   cases hc:bl y.nm == t.x with
   | true=>
    rw [hc,aI] at ho
    simp -dsimp only [go_sem]
    exact .sel [0] (by simp) (by simp) rfl (.done (by simpa [go_sem,dI,ho] using hK))
   | false=>
    rw [hc,aD] at ho
    simp -dsimp only [go_sem]
    refine ⟨by omega,aC (i + 1) 1 ⟨by omega,ho⟩ (by omega) ?_ ?_⟩
    · simp -dsimp only [go_sem]<;>simp
    · simp -dsimp only [go_sem,dI]<;>simp [dI]
 · have hg:decide ((i:Int) < (l.length:Int))=false:=by simp; omega
   have:l.drop i=[]:=List.drop_eq_nil_iff.2 (by omega)
   rw [this] at ho
   simp -dsimp only [go_sem,hg]
   exact .sel [0] (by simp) (by simp) rfl (.done (by rw [show eV t.x l 0=-1 from ho.symm] at hK; simpa [go_sem,dI] using hK))
theorem BZ (n:List UInt8):∀ (l:List Fl) (i:Nat),-1<=eV n l i/\eV n l i < (l.length:Int) + i
 | [],_=>⟨by simp [eV],by simp only [eV,List.length_nil]; omega⟩
 | y :: l,i=>by
  have:=BZ n l (i + 1)
  rw [eV]
  cases bl y.nm == n with
  | true=>exact ⟨by simp only [aI]; omega,by simp only [aI,List.length_cons]; omega⟩
  | false=>exact ⟨by simp only [aD]; omega,by simp only [aD,List.length_cons]; omega⟩
end Go.Proofs.YtkpohmhenegkiaaGreatDoor
namespace Go.Proofs.YtkpohmhenegkiaaGreatDoor
open Go.W
attribute [-go_sem] cL cR cM fB cY
def oX (D:Sc->Ty->Prop) (P:Prs):cS:=(30,.s (cL 114)) :: (100,.s (cR 114)) :: (31,.s nT) :: (108,.s wH) :: (106,.s OZ) :: A7 D P
theorem LB {D:Sc->Ty->Prop} {P:Prs} (h:ParsM D P):dW Tryz.prog (oX D P):=aB sN (aB FU (aB qQ (aB JF (aB VF (pY h)))))
theorem UU (D:Sc->Ty->Prop) (P:Prs):sp (oX D P) 24=mU:=rfl
theorem WY (D:Sc->Ty->Prop) (P:Prs):sp (oX D P) 30=cL 114:=rfl
theorem V8 (D:Sc->Ty->Prop) (P:Prs):sp (oX D P) 100=cR 114:=rfl
theorem yK (D:Sc->Ty->Prop) (P:Prs):sp (oX D P) 31=nT:=rfl
theorem UW (D:Sc->Ty->Prop) (P:Prs):sp (oX D P) 108=wH:=rfl
theorem WI (D:Sc->Ty->Prop) (P:Prs):sp (oX D P) 106=OZ:=rfl
theorem R3 (D:Sc->Ty->Prop) (P:Prs) (k:Int):sp (oX D P) (iI k)=jJ D P (iI k):=by
 unfold iI
 cases k == 1<;>cases k == 4<;>cases k == 7<;>cases k == 5<;>cases k == 6<;>rfl
abbrev zD:Type:=Int × List (Int × Vl)
abbrev wP (s:Sc) (ts:List Tk) (u:St) (a:zD) (z:Fs):Hp:=[QZ s z.bad z.off,jA 114 ts z.n,.cells [.pt 0 0] 59,
 .cells [.vl (.int .i64 6),.vl (.int .i64 0),.vl (.string (mk [])),.vl (.slice none 0 0),.sl 6 a.2.length] 32,.cells [.vl (.string u.nm),.fz (u.fs.map aZ)] 95,.cells [.vl (.int .i64 a.1)] 3,.row (a.2.map cJ) 57 6]
def dL (ts:List Tk) (u:St) (z:Fs):Int:=eV (aT ts z.n).x u.fs 0
def j7 (ts:List Tk) (u:St) (last:Int) (z:Fs):Bool:=(aT ts z.n).k != 1 || decide (dL ts u z < 0) || decide ((u.fs.getD (dL ts u z).toNat default).num<=last)
def iH (ts:List Tk) (z:Fs):Fs:=bM [61] ts ⟨z.bad,z.off,bN ts z.n⟩
def dH (P:Prs) (s:Sc) (ts:List Tk) (u:St):zD->Fs->zD × Fs:=fun a z=>
 bif j7 ts u a.1 z then (a,dQ ts z)
 else (((u.fs.getD (dL ts u z).toNat default).num,a.2 ++ [((u.fs.getD (dL ts u z).toNat default).num,(P s ts (u.fs.getD (dL ts u z).toNat default).ty (iH ts z)).1)]),(P s ts (u.fs.getD (dL ts u z).toNat default).ty (iH ts z)).2)
def RC (D:Sc->Ty->Prop) (P:Prs):W.Spec:=fun av H K=>∃ s ts u a z,av=[.va (.c1 (.pt 2 0)),.va (.c1 (.pt 4 0)),.va (.c1 (.pt 5 0)),.va (.c1 (.pt 3 0))]/\H=wP s ts u a z/\s.fit/\Tks ts/\z.n < ts.length/\u.fs.length<=9223372036854775807/\(∀ f ∈ u.fs,TyOk f.ty/\D s f.ty)/\(a.2.length + 1) * 88<=140737488355328/\
 K (.tu []) (wP s ts u (dH P s ts u a z).1 (dH P s ts u a z).2)
theorem UP {D:Sc->Ty->Prop} {P:Prs} {s:Sc} {ts:List Tk} {u:St} {a:zD} {z:Fs} {K:S->Hp->Prop} (h1:s.fit) (h3:Tks ts) (h4:z.n < ts.length) (h5:u.fs.length<=9223372036854775807) (h6:∀ f ∈ u.fs,TyOk f.ty/\D s f.ty) (h7:(a.2.length + 1) * 88<=140737488355328)
 (hK:K (.tu []) (wP s ts u (dH P s ts u a z).1 (dH P s ts u a z).2)):RC D P [.va (.c1 (.pt 2 0)),.va (.c1 (.pt 4 0)),.va (.c1 (.pt 5 0)),.va (.c1 (.pt 3 0))] (wP s ts u a z) K:=⟨s,ts,u,a,z,rfl,rfl,h1,h3,h4,h5,h6,h7,hK⟩
theorem aKW {D:Sc->Ty->Prop} {P:Prs} (hP:ParsM D P):Meets Tryz.prog 105 (RC D P):=by
 refine aE Tryz.func105 aKJ 4 (by rw [Tryz.ntmps105]; decide) (LB hP) (fun av H K h=>by obtain ⟨_,_,_,_,_,rfl,_⟩:=h; rfl) ?_
 rintro av H K ⟨s,ts,u,⟨last,F⟩,z,rfl,rfl,hs,hts,hn,hul,hD,hl,hK⟩
 unfold dH at hK
 simp only at hK hl
 simp (maxSteps:=1000000) -dsimp only [go_sem,aAC,W4,WY]
 refine lJ hts.e hn ?_
 simp (maxSteps:=1000000) -dsimp only [go_sem,dI]
 refine aF rfl (.done ?_)
 simp (maxSteps:=1000000) -dsimp only [go_sem,C5,WI]
 refine aG7 (t:=aT ts z.n) hul ?_
 simp (maxSteps:=1000000) -dsimp only [go_sem]
 refine aF rfl (.done ?_)
 rw [show eV (aT ts z.n).x u.fs 0=dL ts u z from rfl]
 have hlo:-1<=dL ts u z/\dL ts u z < (u.fs.length:Int) + (0:Nat):=BZ _ _ _
 have hbad:j7 ts u last z=((aT ts z.n).k != 1 || decide (dL ts u z < 0) || decide ((u.fs.getD (dL ts u z).toNat default).num<=last)):=rfl
 obtain ⟨k,hk⟩:∃ k,dL ts u z=k:=⟨_,rfl⟩
 rw [hk] at hK hlo hbad
 have hlt:=hlo.2
 cases h1:(aT ts z.n).k != 1 with
 | true=>
  rw [h1,Bool.true_or,Bool.true_or] at hbad
  rw [hbad,aI] at hK
  simp (maxSteps:=1000000) -dsimp only [go_sem,nK,h1]
  refine aF rfl (.done ?_)
  simp (maxSteps:=1000000) -dsimp only [go_sem,qO,yK]
  refine eN hts.e hn ?_
  simp (maxSteps:=1000000) -dsimp only [go_sem]
  refine .sel [0,1,2,3,4,5,6] (by simp) (by simp) rfl (.done ?_)
  simp (maxSteps:=1000000) -dsimp only [go_sem]
  exact hK
 | false=>
  cases h2:decide (k < 0) with
  | true=>
   rw [h1,h2,Bool.or_true,Bool.true_or] at hbad
   rw [hbad,aI] at hK
   simp (maxSteps:=1000000) -dsimp only [go_sem,nK,h1,hk,h2]
   refine aF rfl (.done ?_)
   simp (maxSteps:=1000000) -dsimp only [go_sem,qO,yK]
   refine eN hts.e hn ?_
   simp (maxSteps:=1000000) -dsimp only [go_sem]
   refine .sel [0,1,2,3,4,5,6] (by simp) (by simp) rfl (.done ?_)
   simp (maxSteps:=1000000) -dsimp only [go_sem]
   exact hK
  | false=>
  have h2':0<=k:=by simpa using h2
  obtain ⟨m,rfl⟩:∃ m:Nat,k=m:=⟨k.toNat,by omega⟩
  have hm:m < u.fs.length:=by omega
  have hx:u.fs[m]? = some u.fs[m]:=aW hm
  have q1:=qH (row:=aZ) hx
  have q2:=aY (row:=aZ) hx
  have hv:u.fs.getD ((m:Int)).toNat default=u.fs[m]:=by simp [List.getD_eq_getElem?_getD,hx]
  rw [hv] at hK hbad
  obtain ⟨hto,hDf⟩:=hD _ (List.getElem_mem hm)
  generalize u.fs[m]=d at *
  rw [h1,h2,Bool.false_or,Bool.false_or] at hbad
  cases h3:decide (d.num<=last) with
  | true=>
   rw [h3] at hbad
   rw [hbad,aI] at hK
   simp (maxSteps:=1000000) -dsimp only [go_sem,nK,h1,hk,h2,↓q2,aZ,h3]
   refine ⟨⟨by omega,by omega⟩,aF rfl (.done ?_)⟩
   simp (maxSteps:=1000000) -dsimp only [go_sem,qO,yK]
   refine eN hts.e hn ?_
   simp (maxSteps:=1000000) -dsimp only [go_sem]
   refine .sel [0,1,2,3,4,5,6] (by simp) (by simp) rfl (.done ?_)
   simp (maxSteps:=1000000) -dsimp only [go_sem]
   exact hK
  | false=>
   rw [h3] at hbad
   rw [hbad,aD] at hK
   simp (maxSteps:=1000000) -dsimp only [go_sem,nK,h1,hk,h2,↓q2,aZ,h3]
   refine ⟨⟨by omega,by omega⟩,aF rfl (.done ?_)⟩
   simp (maxSteps:=1000000) -dsimp only [go_sem,BY,V8]
   refine yN hts.e hn ?_
   simp (maxSteps:=1000000) -dsimp only [go_sem]
   refine aF rfl (.done ?_)
   simp (maxSteps:=1000000) -dsimp only [go_sem,B0,UW]
   refine jM (z:=⟨z.bad,z.off,bN ts z.n⟩) hts.e (mP hn).2 ?_
   rw [show bM (bl (mk [61])) ts ⟨z.bad,z.off,bN ts z.n⟩=iH ts z from rfl]
   have hn2:(iH ts z).n < ts.length:=(hZ (w:=[61]) (z:=⟨z.bad,z.off,bN ts z.n⟩) (mP hn).2).2
   generalize iH ts z=z1 at *
   simp (maxSteps:=1000000) -dsimp only [go_sem]
   refine aF rfl (.done ?_)
   simp (maxSteps:=1000000) -dsimp only [go_sem,CG,↓q2,aZ,List.take_succ_cons,List.take_zero,List.length_cons]
   refine ⟨⟨by omega,by omega⟩,?_⟩
   refine aF rfl (.done ?_)
   simp (maxSteps:=1000000) -dsimp only [go_sem,CL]
   refine aF rfl (.done ?_)
   simp (maxSteps:=1000000) -dsimp only [go_sem,CW,UU,R3]
   refine HL hs hto hts hn2 hDf ?_
   generalize P s ts d.ty z1=r at *
   obtain ⟨v,z'⟩:=r
   have ha:∀ {x r:List C},(F.map cJ ++ [x])[F.length]? = some r->r=x:=fun {x r} h=>by
    have h0:F.length=(F.map cJ).length:=by simp
    rw [h0,List.getElem?_concat_length] at h
    exact (bG h).symm
   have hb:∀ x:List C,(F.map cJ ++ [x]).set F.length (cJ (d.num,v))=(F ++ [(d.num,v)]).map cJ:=fun x=>by
    rw [List.set_append_right _ _ (by simp)]
    simp
   unfold cJ at hb
   rw [aX] at hb
   simp (maxSteps:=1000000) -dsimp only [go_sem,aX v]
   have fin:∀ {r x:List C} (y1 y2 y3:B),r=[.vl (.int .i64 0),.vl (.int .i64 0),.vl (.int .i64 0),.vl (.string (mk [])),.vl (.slice none 0 0),.vl (.slice none 0 0)]->W.Fin 7 K (.tu []) [QZ s z'.bad z'.off,jA 114 ts z'.n,.cells [.pt 0 0] 59,
    .cells [.vl (.int .i64 6),.vl (.int .i64 0),.vl (.string (mk [])),.vl (.slice none 0 0),.sl 6 (F.length + 1)] 32,.cells [.vl (.string u.nm),.fz (u.fs.map aZ)] 95,.cells [.vl (.int .i64 d.num)] 3,
    .row ((F.map cJ ++ [x]).set F.length (.vl (.int .i64 d.num) :: .vl (.int .i64 v.k) :: .vl (.int .i64 v.n) :: .vl (.string v.s) :: .fz (v.l.map bK) :: .fz (v.f.map cJ) :: List.drop 6 r)) 57 6,y1,y2,y3]:=fun {r x} y1 y2 y3 hr=>by
    subst hr
    refine .sel [0,1,2,3,4,5,6] (by simp) (by simp) rfl (.done ?_)
    rw [show List.drop 6 [C.vl (.int .i64 0),C.vl (.int .i64 0),C.vl (.int .i64 0),C.vl (.string (mk [])),C.vl (.slice none 0 0),C.vl (.slice none 0 0)]=[] from rfl]
    have hb:=hb x
    simp (maxSteps:=1000000) -dsimp only [go_sem]
    have e:(F ++ [(d.num,v)]).length=F.length + 1:=by simp
    have:=hK
    unfold wP at this
    simp only [e] at this
    unfold cJ at hb this ⊢
    rw [<-hb] at this
    exact this
   exact ⟨hl,⟨by omega,by omega⟩,⟨by omega,fun r hr=>fin _ _ _ (ha hr)⟩,⟨by omega,by omega⟩,by omega,fun r hr=>fin _ _ _ (ha hr)⟩
end Go.Proofs.YtkpohmhenegkiaaGreatDoor
namespace Go.Proofs.YtkpohmhenegkiaaGreatDoor
open Go.W
def yU:PC:=.gh (.reg [.v 23 0,.a 24 (.cl 128 [(.t 23),(.k (.string (mk [44])))] [0,1]),.v 8 24])
@[go_sem ↓] theorem aK0:a8 yU:=bB _
def rT:PC:=.gh (.reg [.v 27 0,.v 28 2,.a 29 (.cl 108 [(.t 27),(.t 28)] [0,1])])
@[go_sem ↓] theorem aJZ:a8 rT:=bB _
def yV:PC:=.seq (.seq (.gh (.reg [.q 8 (.mv (.k (.bool true)))])) (.block 0 (.loop (.seq (.seq (.reg [.v 15 8,.v 16 15,⟨some 17,(some (16,true)),.q (.mv (.t 0))⟩,⟨some 18,(some (16,true)),.q (.nc (.t 17))⟩,⟨some 19,(some (16,true)),.q (.fa 4 (.t 18))⟩,⟨some 20,(some (16,true)),.l (.ld1 (.t 19))⟩,⟨some 21,(some (16,true)),.q (.not (.t 20))⟩,.a 22 (.pick (.t 16) (.t 21) (.k (.bool false)))]) (.cond (.t 22) .skip (.exit 0))) (.seq (.block 1 (.reg [.v 25 3,.a 26 (.ca (.t 25) [] [0,1,2,3,4,5,6])])) (yU)))))) (rT)
@[go_sem ↓] theorem aJ8:a8 yV:=bB _
def xN:PC:=.seq (.seq (.gh (.reg [.v 12 0,.v 13 2,.a 14 (.cl 128 [(.t 12),(.t 13)] [0,1])])) (.cond (.t 14) .ret .skip)) (yV)
@[go_sem ↓] theorem aK6:a8 xN:=bB _
def TD:PC:=.seq (.reg [.v 9 0,.v 10 1,.a 11 (.cl 108 [(.t 9),(.t 10)] [0,1])]) (xN)
def QU:List RV:=[]
theorem aGV:aM Tryz.prog true ⟨fun r k=>if r=0/\k=2 then .own [0,1] else if r=1/\k=2 then .own [0,1] else if r=5/\k=1 then .own [0,1,2,3,4,5,6] else if r=4/\k=1 then .own [0,1] else if r=6/\k=2 then .own [0,1] else .own [],fun r=>[1,2,4,6].contains r⟩ Tryz.f101=some (TD,QU):=by kernel_rfl
attribute [-go_sem] cL cR cM fB cY
abbrev OP:S:=.va (.c1 (.fn 105 [(false,[.pt 2 0]),(false,[.pt 4 0]),(false,[.pt 5 0]),(false,[.pt 3 0])]))
theorem J3 {P:Prs} (hO:P.onw) {s:Sc} {ts:List Tk} {u:St}:EJ (dH P s ts u) ts:=fun a z h=>by
 unfold dH
 cases j7 ts u a.1 z
 · have h1:z.n<=(iH ts z).n/\(iH ts z).n < ts.length:=by
    have h2:=mP h
    have h3:=hZ (w:=[61]) (ts:=ts) (z:=⟨z.bad,z.off,bN ts z.n⟩) h2.2
    exact ⟨Nat.le_trans h2.1 h3.1,h3.2⟩
   have h2:=hO s ts (u.fs.getD (dL ts u z).toNat default).ty (iH ts z) h1.2
   exact ⟨Nat.le_trans h1.1 h2.1,h2.2⟩
 · rw [aI,v7]; exact ⟨Nat.le_refl _,h⟩
theorem aH8 (P:Prs) (s:Sc) (ts:List Tk) (u:St) (a:zD) (z:Fs):(dH P s ts u a z).1.2.length<=a.2.length + 1:=by
 unfold dH
 cases j7 ts u a.1 z
 · rw [aD]; simp
 · rw [aI]; exact Nat.le_succ _
def S5 (D:Sc->Ty->Prop) (P:Prs):W.Spec:=fun av H K=>∃ s ts u z op sh,av=[.va (.c1 (.pt 0 0)),tS op,tS sh,OP]/\H=wP s ts u (0,[]) z/\s.fit/\Tks ts/\z.n < ts.length/\u.fs.length<=9223372036854775807/\(∀ f ∈ u.fs,TyOk f.ty/\D s f.ty)/\
 K (.tu []) (wP s ts u (cI (dH P s ts u) (bl op) (bl sh) ts (0,[]) z).1 (cI (dH P s ts u) (bl op) (bl sh) ts (0,[]) z).2)
theorem U5 {D:Sc->Ty->Prop} {P:Prs} {s:Sc} {ts:List Tk} {u:St} {z:Fs} {op sh:ByteArray} {K:S->Hp->Prop} (h1:s.fit) (h3:Tks ts) (h4:z.n < ts.length) (h5:u.fs.length<=9223372036854775807) (h6:∀ f ∈ u.fs,TyOk f.ty/\D s f.ty)
 (hK:K (.tu []) (wP s ts u (cI (dH P s ts u) (bl op) (bl sh) ts (0,[]) z).1 (cI (dH P s ts u) (bl op) (bl sh) ts (0,[]) z).2)):S5 D P [.va (.c1 (.pt 0 0)),tS op,tS sh,OP] (wP s ts u (0,[]) z) K:=⟨s,ts,u,z,op,sh,rfl,rfl,h1,h3,h4,h5,h6,hK⟩
theorem VN {D:Sc->Ty->Prop} {P:Prs} (hP:ParsM D P) (hO:P.onw):Meets Tryz.prog 101 (S5 D P):=by
 refine aE Tryz.func101 aGV 4 (by rw [Tryz.ntmps101]; decide) (aB JF (aB P1 (aB (aKW hP) (aA _)))) (fun av H K h=>by obtain ⟨_,_,_,_,_,_,rfl,_⟩:=h; rfl) ?_
 rintro av H K ⟨s,ts,u,z,op,sh,rfl,rfl,hs,hts,hn,hul,hD,hK⟩
 have onw:EJ (dH P s ts u) ts:=J3 hO
 have hl0:=hts.e.le
 unfold cI at hK
 simp (maxSteps:=1000000) -dsimp only [go_sem,TD,QU]
 refine jM hts.e hn ?_
 have hn1:=(hZ (w:=bl op) hn).2
 generalize bM (bl op) ts z=z1 at *
 simp (maxSteps:=1000000) -dsimp only [go_sem]
 refine aF rfl (.done ?_)
 simp (maxSteps:=1000000) -dsimp only [go_sem,xN]
 refine qK hts.e hn1 ?_
 cases hh:cB (bl sh) ts z1 with
 | true=>
  rw [hh] at hK
  simp (maxSteps:=1000000) -dsimp only [go_sem]
  refine .sel [0,1,2,3,4,5,6] (by simp) (by simp) rfl (.done ?_)
  simp (maxSteps:=1000000) -dsimp only [go_sem]
  exact hK
 | false=>
 rw [hh] at hK
 rw [show bR (bl sh) ts z1=z1 by unfold bR; rw [hh]; rfl]
 simp (maxSteps:=1000000) -dsimp only [go_sem]
 refine aF rfl (.done ?_)
 simp (maxSteps:=1000000) -dsimp only [go_sem,yV]
 refine aL (α:=Nat × Bool × zD × Fs) (fun x=>[(0,.va (.c1 (.pt 0 0))),(2,tS sh),(3,OP),(8,bS x.2.1)]) (fun x=>wP s ts u x.2.2.1 x.2.2.2)
  (fun x=>x.2.2.2.n < ts.length/\x.2.2.1.2.length + x.1<=ts.length + 1/\(x.2.1=true->ts.length < x.2.2.2.n + x.1)/\(bif x.2.1 then hY (dH P s ts u) ts x.1 x.2.2.1 x.2.2.2 else (x.2.2.1,x.2.2.2))=hY (dH P s ts u) ts (ts.length + 1) (0,[]) z1)
  (fun x=>x.1) (ts.length + 1,true,(0,[]),z1) 7 ⟨hn1,by simp,fun _=>by omega,rfl⟩ ?_ ?_ ?_
 · simp -dsimp only [go_sem]<;>simp
 · simp -dsimp only [go_sem]<;>simp
 rintro ⟨f,m,l,z⟩ ⟨h1,h2,h3,h4⟩
 simp only at h1 h2 h3 h4
 cases m with
 | false=>
  rw [aD] at h4
  rw [<-h4] at hK
  simp (maxSteps:=1000000) -dsimp only [go_sem]
  refine aF rfl (.done ?_)
  simp (maxSteps:=1000000) -dsimp only [go_sem,rT]
  refine jM (z:=z) hts.e h1 ?_
  simp (maxSteps:=1000000) -dsimp only [go_sem]
  refine .sel [0,1,2,3,4,5,6] (by simp) (by simp) rfl (.done ?_)
  simp (maxSteps:=1000000) -dsimp only [go_sem]
  exact hK
 | true=>
  rw [aI] at h4
  have h3:=h3 rfl
  obtain ⟨f,rfl⟩:∃ g,f=g + 1:=⟨f - 1,by omega⟩
  rw [iL] at h4
  obtain ⟨b,o,n⟩:=z
  cases b with
  | true=>
   rw [aI] at h4
   rw [<-h4] at hK
   simp (maxSteps:=1000000) -dsimp only [go_sem]
   refine aF rfl (.done ?_)
   simp (maxSteps:=1000000) -dsimp only [go_sem,rT]
   refine jM (z:=⟨true,o,n⟩) hts.e h1 ?_
   simp (maxSteps:=1000000) -dsimp only [go_sem]
   refine .sel [0,1,2,3,4,5,6] (by simp) (by simp) rfl (.done ?_)
   simp (maxSteps:=1000000) -dsimp only [go_sem]
   exact hK
  | false=>
   rw [aD] at h4
   simp (maxSteps:=1000000) -dsimp only [go_sem]
   refine UP (z:=⟨false,o,n⟩) hs hts h1 hul hD (by omega) ?_
   have h5:=onw l ⟨false,o,n⟩ h1
   have h7:=aH8 P s ts u l ⟨false,o,n⟩
   generalize dH P s ts u l ⟨false,o,n⟩=r at *
   obtain ⟨l',z'⟩:=r
   simp only at h7
   simp only at h4 h5
   simp (maxSteps:=1000000) -dsimp only [go_sem]
   refine aF rfl (.done ?_)
   simp (maxSteps:=1000000) -dsimp only [go_sem,yU]
   refine qK (z:=z') hts.e h5.2 ?_
   cases hc:cB (bl (mk [44])) ts z' with
   | true=>
    obtain ⟨g1,g2,g3⟩:=MZ hts.e h5.2 hc
    have hc':cB [44] ts z'=true:=hc
    rw [hc',aI] at h4
    have e2:bR (bl (mk [44])) ts z'=⟨false,z'.off,bN ts z'.n⟩:=by unfold bR; rw [hc]; rfl
    have e3:bR [44] ts z'=⟨false,z'.off,bN ts z'.n⟩:=e2
    rw [e3] at h4
    rw [e2]
    simp (maxSteps:=1000000) -dsimp only [go_sem]
    refine aC (f,true,l',⟨false,z'.off,bN ts z'.n⟩) 7 ⟨?_,?_,?_,h4⟩ (by simp) ?_ ?_
    · simp only [g1]; exact g2
    · simp only; omega
    · intro _
      have h6:=h5.1
      simp only at h6 h3 ⊢
      omega
    · simp -dsimp only [go_sem]<;>simp
    · simp -dsimp only [go_sem]<;>simp
   | false=>
    have hc':cB [44] ts z'=false:=hc
    rw [hc',aD] at h4
    rw [show bR (bl (mk [44])) ts z'=z' by unfold bR; rw [hc]; rfl]
    simp (maxSteps:=1000000) -dsimp only [go_sem]
    refine aC (f,false,l',z') 7 ⟨h5.2,?_,fun h=>(by cases h),h4⟩ (by simp) ?_ ?_
    · simp only; omega
    · simp -dsimp only [go_sem]<;>simp
    · simp -dsimp only [go_sem]<;>simp
end Go.Proofs.YtkpohmhenegkiaaGreatDoor
namespace Go.Proofs.YtkpohmhenegkiaaGreatDoor
open Go.W
attribute [-go_sem] cL cR cM fB cY
def stOf (s:Sc) (t:Ty):St:=(fS s.ss t.n).getD default
def gM (P:Prs) (s:Sc) (ts:List Tk) (u:St) (z:Fs):Vl × Fs:=(.mk 6 0 (mk []) [] (cI (dH P s ts u) [123] [125] ts (0,[]) z).1.2,(cI (dH P s ts u) [123] [125] ts (0,[]) z).2)
theorem lQ {s:Sc} (hs:s.fit) (t:Ty):(stOf s t).ok:=by
 unfold stOf
 cases h:fS s.ss t.n with
 | none=>exact ⟨by decide,by decide,fun _ h=>(by cases h)⟩
 | some u=>exact hs.ok.ss u (List.mem_of_find?_eq_some h)
theorem JD {D:Sc->Ty->Prop} {P:Prs} (hP:ParsM D P) (hO:P.onw):Meets Tryz.prog 63 (pJ (fun s t=>∀ f ∈ (stOf s t).fs,D s f.ty) fun s ts t z=>gM P s ts (stOf s t) z):=by
 refine aE Tryz.func63 aPR 2 (by rw [Tryz.ntmps63]; decide) (aB oI (aB (VN hP hO) (aA _))) q9 ?_
 rintro av H K ⟨s,ts,t,z,rfl,rfl,hs,ht,hts,hn,hD,hK⟩
 have hok:=lQ hs t
 have hK:K (.va (.gs (bK (gM P s ts (stOf s t) z).1))) (jE s ts (gM P s ts (stOf s t) z).2):=hK
 simp (maxSteps:=1000000) -dsimp only [go_sem,aO t,aF4,aG8]
 refine lS hs ?_
 rw [show (fS s.ss t.n).getD default=stOf s t from rfl]
 generalize stOf s t=u at *
 unfold gM at hK
 simp (maxSteps:=1000000) -dsimp only [go_sem,aP]
 refine aF rfl (.done ?_)
 simp (maxSteps:=1000000) -dsimp only [go_sem,J0]
 refine aF rfl (.nilc 5 4 57 6 _ _ rfl rfl (.done ?_))
 simp (maxSteps:=1000000) -dsimp only [go_sem,G2]
 refine U5 (u:=u) hs hts hn hok.len (fun f hf=>⟨(hok.fs f hf).ty,hD f hf⟩) ?_
 rw [show bl (mk [123])=[123] from rfl,show bl (mk [125])=[125] from rfl]
 generalize cI (dH P s ts u) [123] [125] ts (0,[]) z=r at *
 obtain ⟨⟨last,F⟩,z'⟩:=r
 simp (maxSteps:=1000000) -dsimp only [go_sem]
 refine aF rfl (.done ?_)
 simp (maxSteps:=1000000) -dsimp only [go_sem,H6]
 refine .pub 8 _ _ _ rfl (.sel [0,1] (by simp) (by simp [cW]) rfl (.done ?_))
 simp (maxSteps:=1000000) -dsimp only [go_sem,cW]
 rw [aX] at hK
 exact hK
end Go.Proofs.YtkpohmhenegkiaaGreatDoor
namespace Go.Proofs.YtkpohmhenegkiaaGreatDoor
open Go.W
def dP:Nat->Sc->Ty->Prop
 | 0,_,_=>False
 | N + 1,s,t=>((t.k == 5)=true->∃ u,t.e=[u]/\TyOk u/\dP N s u)/\((t.k == 6)=true->∀ f ∈ (stOf s t).fs,dP N s f.ty)
def pP:Nat->Prs
 | 0=>fun _ _ _ z=>(default,z)
 | N + 1=>fun s ts t z=>bif t.k == 1 then gS ts z else bif t.k == 4 then vB ts z else bif t.k == 7 then dZ ((fU s.es t.n).getD default) ts z
  else bif t.k == 5 then kF (pP N) s ts (t.e.headD default) z else bif t.k == 6 then gM (pP N) s ts (stOf s t) z else CY t.k ts z
theorem iD (N:Nat) (s:Sc) (ts:List Tk) (t:Ty) (z:Fs):pP (N + 1) s ts t z=bif t.k == 1 then gS ts z else bif t.k == 4 then vB ts z else bif t.k == 7 then dZ ((fU s.es t.n).getD default) ts z
 else bif t.k == 5 then kF (pP N) s ts (t.e.headD default) z else bif t.k == 6 then gM (pP N) s ts (stOf s t) z else CY t.k ts z:=rfl
theorem NX {k:Int} {ts:List Tk} {z:Fs} (h:z.n < ts.length):z.n<=(gR k ts z).n/\(gR k ts z).n < ts.length:=by
 unfold gR
 cases gV k ts z
 · rw [aD,v7]; exact ⟨Nat.le_refl _,h⟩
 · exact mP h
theorem tF:∀ N,(pP N).onw
 | 0=>fun s ts t z h=>⟨Nat.le_refl _,h⟩
 | N + 1=>fun s ts t z h=>by
  have hf:z.n<=(dQ ts z).n/\(dQ ts z).n < ts.length:=by rw [v7]; exact ⟨Nat.le_refl _,h⟩
  have hx:=mP h
  rw [iD]
  cases t.k == 1 with
  | true=>
   rw [aI]; unfold gS
   cases (!z.bad && cX 1 o8 (aT ts z.n))<;>cases (!z.bad && cX 1 mE (aT ts z.n))<;>first | exact hx | exact hf
  | false=>
  cases t.k == 4 with
  | true=>exact NX h
  | false=>
  cases t.k == 7 with
  | true=>
   rw [aD,aD,aI]; unfold dZ
   cases (decide (hJ ((fU s.es t.n).getD default) ts z < 0) || decide ((((fU s.es t.n).getD default).vs.length:Int)<=hJ ((fU s.es t.n).getD default) ts z))<;>first | exact hx | exact hf
  | false=>
  cases t.k == 5 with
  | true=>exact P5 (one:=hM (pP N) s ts (t.e.headD default)) (fun a z h=>tF N s ts _ z h) [91] [93] [] z h
  | false=>
  cases t.k == 6 with
  | true=>exact P5 (one:=dH (pP N) s ts (stOf s t)) (J3 (tF N)) [123] [125] (0,[]) z h
  | false=>exact NX h
theorem nP {f:FuncId} {D D':Sc->Ty->Prop} {P P':Prs} (h:Meets Tryz.prog f (pJ D P)) (hd:∀ s t,D' s t->D s t/\∀ ts z,P s ts t z=P' s ts t z):Meets Tryz.prog f (pJ D' P'):=
 eU (0:Nat) (fun (_:Nat)=>h) fun av H K ⟨s,ts,t,z,h1,h2,h3,h4,h5,h6,h7,h8⟩=>⟨0,s,ts,t,z,h1,h2,h3,h4,h5,h6,(hd s t h7).1,by rw [(hd s t h7).2]; exact h8⟩
theorem nR (k:Int):(iI k=55->(k == 1)=true)/\(iI k=57->(k == 1)=false/\(k == 4)=true)/\(iI k=59->(k == 1)=false/\(k == 4)=false/\(k == 7)=true)/\
 (iI k=61->(k == 1)=false/\(k == 4)=false/\(k == 7)=false/\(k == 5)=true)/\(iI k=63->(k == 1)=false/\(k == 4)=false/\(k == 7)=false/\(k == 5)=false/\(k == 6)=true)/\
 (iI k=65->(k == 1)=false/\(k == 4)=false/\(k == 7)=false/\(k == 5)=false/\(k == 6)=false):=by
 unfold iI
 cases k == 1<;>cases k == 4<;>cases k == 7<;>cases k == 5<;>cases k == 6<;>refine ⟨?_,?_,?_,?_,?_,?_⟩<;>intro h<;>first | (exact absurd h (by decide)) | simp
theorem n0 {f:FuncId} {P:Prs} {g:FuncId} (h:oO Tryz.prog f=true):Meets Tryz.prog f (jJ (dP 0) P g):=⟨h,by rintro xs vs E ro w K _ _ _ ⟨_,_,_,_,_,_,_,_,_,_,⟨h,_⟩,_⟩; exact h.elim⟩
theorem YR:∀ N,ParsM (dP N) (pP N)
 | 0=>⟨n0 (by kernel_rfl),n0 (by kernel_rfl),n0 (by kernel_rfl),n0 (by kernel_rfl),n0 (by kernel_rfl),n0 (by kernel_rfl)⟩
 | N + 1=>by
  have ih:=YR N
  have hN:=tF N
  refine ⟨nP OL ?_,nP OY ?_,nP OU ?_,nP (PV ih hN) ?_,nP (JD ih hN) ?_,nP GV ?_⟩
  · rintro s t ⟨hD,hk⟩
    have h1:=(nR t.k).1 hk
    exact ⟨trivial,fun ts z=>by rw [iD,h1,aI]⟩
  · rintro s t ⟨hD,hk⟩
    obtain ⟨h1,h2⟩:=(nR t.k).2.1 hk
    exact ⟨trivial,fun ts z=>by rw [iD,h1,h2]; rfl⟩
  · rintro s t ⟨hD,hk⟩
    obtain ⟨h1,h2,h3⟩:=(nR t.k).2.2.1 hk
    exact ⟨trivial,fun ts z=>by rw [iD,h1,h2,h3]; rfl⟩
  · rintro s t ⟨hD,hk⟩
    obtain ⟨h1,h2,h3,h4⟩:=(nR t.k).2.2.2.1 hk
    exact ⟨hD.1 h4,fun ts z=>by rw [iD,h1,h2,h3,h4]; rfl⟩
  · rintro s t ⟨hD,hk⟩
    obtain ⟨h1,h2,h3,h4,h5⟩:=(nR t.k).2.2.2.2.1 hk
    exact ⟨hD.2 h5,fun ts z=>by rw [iD,h1,h2,h3,h4,h5]; rfl⟩
  · rintro s t ⟨hD,hk⟩
    obtain ⟨h1,h2,h3,h4,h5⟩:=(nR t.k).2.2.2.2.2 hk
    exact ⟨trivial,fun ts z=>by rw [iD,h1,h2,h3,h4,h5]; rfl⟩
attribute [-go_sem] cL cR cM fB cY
def zF (s:Sc):Nat->Ty->Vl
 | 0,_=>.mk 0 0 (mk []) [] []
 | n + 1,t=>bif valF s.ss s.es t then (bif t.k == 6 then .mk 6 0 (mk []) [] (((stOf s t).fs.filter fun f=>!f.opt).map fun f=>(f.num,zF s n f.ty)) else .mk t.k 0 (mk []) [] []) else .mk 0 0 (mk []) [] []
def zE (s:Sc) (n:Nat) (l:List Fl):List (Int × Vl):=(l.filter fun f=>!f.opt).map fun f=>(f.num,zF s n f.ty)
theorem nQ (s:Sc) (n:Nat) (t:Ty):zF s (n + 1) t=bif valF s.ss s.es t then (bif t.k == 6 then .mk 6 0 (mk []) [] (zE s n (stOf s t).fs) else .mk t.k 0 (mk []) [] []) else .mk 0 0 (mk []) [] []:=rfl
theorem aCI {s:Sc} {n i:Nat} {l:List Fl} {f:Fl} (h:l[i]? = some f):zE s n (l.take (i + 1))=bif f.opt then zE s n (l.take i) else zE s n (l.take i) ++ [(f.num,zF s n f.ty)]:=by
 unfold zE
 rw [List.take_add_one,h,List.filter_append,List.map_append]
 cases hf:f.opt<;>simp [hf]
theorem SV (s:Sc) (n:Nat) (l:List Fl):(zE s n l).length<=l.length:=by
 unfold zE; rw [List.length_map]; exact List.length_filter_le _ _
theorem MB {s:Sc} (hs:s.fit) (t:Ty):(stOf s t).fs.length<=1000000000:=by
 unfold stOf
 cases h:fS s.ss t.n with
 | none=>exact Nat.zero_le _
 | some u=>exact (hs.sm u (List.mem_of_find?_eq_some h)).1
def aHF (N:Nat):W.Spec:=fun av H K=>∃ (s:Sc) (t:Ty) (n:Nat),av=[.va (.gs (aG s)),.va (.gs (aN t)),iS .i64 ((n:Int) - 1)]/\H=[]/\s.fit/\TyOk t/\n < N/\N<=100/\K (.va (.gs (bK (zF s n t)))) []
theorem RI {N:Nat} {s:Sc} {t:Ty} {n:Nat} {K:S->Hp->Prop} (h1:s.fit) (h2:TyOk t) (h3:n < N) (h4:N<=100) (hK:K (.va (.gs (bK (zF s n t)))) []):aHF N [.va (.gs [.vl (.int .i64 s.ver),.fz (s.es.map bL),.fz (s.ss.map aP)]),.va (.gs [.vl (.int .i64 t.k),.vl (.int .i64 t.s),.vl (.string t.n),.fz (t.e.map aN)]),iS .i64 ((n:Int) - 1)] [] K:=⟨s,t,n,by rw [aO]; rfl,rfl,h1,h2,h3,h4,hK⟩
theorem Q8:∀ N,Meets Tryz.prog 114 (aHF N)
 | 0=>⟨by kernel_rfl,by rintro xs vs E ro w K _ _ _ ⟨_,_,n,_,_,_,_,h,_⟩; exact absurd h (Nat.not_lt_zero n)⟩
 | N + 1=>by
  refine aE Tryz.func114 aLH 3 (by rw [Tryz.ntmps114]; decide) (aH xF (aB oI (aB (Q8 N) (aA _)))) (fun av H K h=>by obtain ⟨_,_,_,rfl,_⟩:=h; rfl) ?_
  rintro av H K ⟨s,t,n,rfl,rfl,hs,ht,hn,hN,hK⟩
  have k4:=jG ht
  have k5:=oN t
  have k6:=jL hs
  have k7:=oG s
  have fin:∀ {v:Vl} (R:Hp),zF s n t=v->W.Fin 0 K (.va (.gs (bK v))) R:=fun {v} R h=>by
   rw [h] at hK; refine .sel [] (by simp) (by simp) rfl (.done ?_)
   rw [aX] at hK ⊢
   simpa [go_sem] using hK
  cases n with
  | zero=>
   have g:decide (((0:Nat):Int) - 1 < 0)=true:=rfl
   simp (maxSteps:=1000000) -dsimp only [go_sem,aG,aO t,zR,AG,g,k4,k5,k6,k7]
   exact fin (v:=.mk 0 0 (mk []) [] []) _ rfl
  | succ n=>
   have g:decide (((n + 1:Nat):Int) - 1 < 0)=false:=by rw [decide_eq_false_iff_not]; omega
   have g':((n + 1:Nat):Int) - 1=n:=by omega
   rw [g'] at g ⊢
   rw [nQ] at fin
   cases h1:valF s.ss s.es t with
   | false=>
    rw [h1,aD] at fin
    simp (maxSteps:=1000000) -dsimp only [go_sem,aG,aO t,zR,AG,g,k4,k5,k6,k7,h1]
    exact fin _ rfl
   | true=>
   rw [h1,aI] at fin
   cases h2:t.k == 6 with
   | false=>
    have h2':(t.k != 6)=true:=by rw [bne,h2]; rfl
    rw [h2,aD] at fin
    simp (maxSteps:=1000000) -dsimp only [go_sem,aG,aO t,zR,AG,g,k4,k5,k6,k7,h1,h2']
    exact fin _ rfl
   | true=>
   have h2':(t.k != 6)=false:=by rw [bne,h2]; rfl
   rw [h2,aI] at fin
   simp (maxSteps:=1000000) -dsimp only [go_sem,aG,aO t,zR,AG,g,k4,k5,k6,k7,h1,h2']
   refine lS hs ?_
   rw [show (fS s.ss t.n).getD default=stOf s t from rfl]
   have hok:=lQ hs t
   have hsm:=MB hs t
   have hz6:zF s (n + 1) t=.mk 6 0 (mk []) [] (zE s n (stOf s t).fs):=by rw [nQ,h1,h2]; rfl
   rw [hz6,aX] at hK
   clear hz6 fin
   generalize stOf s t=u at *
   simp (maxSteps:=1000000) -dsimp only [go_sem,aP]
   have hlen:=fun i=>Nat.le_trans (SV s n (u.fs.take i)) (Nat.le_trans (List.length_take_le' i u.fs) hsm)
   refine dX (α:=Nat) (fun i=>[(2,iS .i64 n),(3,.va (.c1 (.pt 0 0))),(4,.va (.c1 (.pt 1 0))),(6,.va (.c1 (.pt 2 0))),(7,.va (.c1 (.pt 3 0))),(37,.va (.c1 (.fz (u.fs.map aZ)))),(38,iS .i64 u.fs.length),(39,iS .i64 i)])
    (fun i=>[.cells [.vl (.int .i64 s.ver),.fz (s.es.map bL),.fz (s.ss.map aP)] 105,.cells [.vl (.int .i64 t.k),.vl (.int .i64 t.s),.vl (.string t.n),.fz (t.e.map aN)] 28,.cells [.vl (.int .i64 0),.vl (.int .i64 0),.vl (.string (mk [])),.vl (.slice none 0 0),.vl (.slice none 0 0)] 32,
      .cells [.vl (.int .i64 t.k),.vl (.int .i64 0),.vl (.string (mk [])),.vl (.slice none 0 0),.sl 5 (zE s n (u.fs.take i)).length] 32,.cells [.vl (.string u.nm),.fz (u.fs.map aZ)] 95,.row ((zE s n (u.fs.take i)).map cJ) 57 6])
    (fun i=>i<=u.fs.length) (fun i=>u.fs.length - i) (.nilc 3 4 57 6 _ _ rfl rfl (l9 0 6 (Nat.zero_le _) ?_ ?_)) ?_
   · simp -dsimp only [go_sem]<;>simp
   · simp -dsimp only [go_sem]<;>simp [zE]
   intro i hi
   have hli:=hlen i
   rcases bF i u.fs.length with hlt | hge
   · have hg:decide ((i:Int) < (u.fs.length:Int))=true:=by simp; omega
     have hx:u.fs[i]? = some u.fs[i]:=aW hlt
     have q2:=aY (row:=aZ) hx
     have hfo:=(hok.fs _ (List.getElem_mem hlt)).ty
     generalize u.fs[i]=f at *
     have hz:=aCI (s:=s) (n:=n) hx
     cases ho:f.opt with
     | true=>
      rw [ho,aI] at hz
      simp (maxSteps:=1000000) -dsimp only [go_sem,hg,↓q2,aZ,ho,List.take_succ_cons,List.take_zero,List.length_cons]
      refine ⟨by omega,by omega,aC (i + 1) 6 (by omega) (by omega) ?_ ?_⟩
      · simp -dsimp only [go_sem]<;>simp
      · simp -dsimp only [go_sem,hz]<;>simp
     | false=>
      rw [ho,aD] at hz
      simp (maxSteps:=1000000) -dsimp only [go_sem,hg,↓q2,aZ,ho,List.take_succ_cons,List.take_zero,List.length_cons]
      refine ⟨⟨by omega,by omega⟩,⟨by omega,by omega⟩,RI hs hfo (by omega) (by omega) ?_⟩
      generalize zF s n f.ty=v at *
      simp (maxSteps:=1000000) -dsimp only [go_sem,aX v]
      refine ⟨by omega,by omega,aC (i + 1) 6 (by omega) (by omega) ?_ ?_⟩
      · simp -dsimp only [go_sem]<;>simp
      · simp -dsimp only [go_sem,hz]<;>simp [cJ,aX v]
   · have hg:decide ((i:Int) < (u.fs.length:Int))=false:=by simp; omega
     rw [List.take_of_length_le hge] at *
     have h6:t.k=6:=eq_of_beq h2
     simp (maxSteps:=1000000) -dsimp only [go_sem,hg,h6]
     refine .pub 5 _ _ _ rfl (.sel [] (by simp) (by simp [cW]) rfl (.done ?_))
     simp -dsimp only [go_sem,cW]
     exact hK
def aG3:W.Spec:=fun av H K=>∃ (s:Sc) (t:Ty),av=[.va (.gs (aG s)),.va (.gs (aN t))]/\H=[]/\s.fit/\TyOk t/\K (.va (.gs (bK (zF s 23 t)))) []
theorem aBE {s:Sc} {t:Ty} {K:S->Hp->Prop} (h1:s.fit) (h2:TyOk t) (hK:K (.va (.gs (bK (zF s 23 t)))) []):aG3 [.va (.gs [.vl (.int .i64 s.ver),.fz (s.es.map bL),.fz (s.ss.map aP)]),.va (.gs [.vl (.int .i64 t.k),.vl (.int .i64 t.s),.vl (.string t.n),.fz (t.e.map aN)])] [] K:=⟨s,t,by rw [aO]; rfl,rfl,h1,h2,hK⟩
theorem aKM:Meets Tryz.prog 71 aG3:=by
 refine aE Tryz.func71 aRN 2 (by rw [Tryz.ntmps71]; decide) (aB (Q8 24) (aA _)) (fun av H K h=>by obtain ⟨_,_,rfl,_⟩:=h; rfl) ?_
 rintro av H K ⟨s,t,rfl,rfl,hs,ht,hK⟩
 simp (maxSteps:=1000000) -dsimp only [go_sem,aG,aO t,aHS,aG4]
 refine RI (n:=23) hs ht (by decide) (by decide) ?_
 rw [aX] at hK ⊢
 simp (maxSteps:=1000000) -dsimp only [go_sem]
 refine .sel [] (by simp) (by simp) rfl (.done ?_)
 simp -dsimp only [go_sem]
 exact hK
end Go.Proofs.YtkpohmhenegkiaaGreatDoor
namespace Go.Proofs.YtkpohmhenegkiaaGreatDoor
open Go.W
attribute [-go_sem] cL cR cM fB cY
theorem X3 {s:Sc} (hs:s.fit):∀ (n:Nat) (t:Ty),TyOk t->VlOk (zF s n t)
 | 0,t,ht=>.mk ⟨by decide,by decide⟩ ⟨by decide,by decide⟩ (by decide) (by simp) (by simp) (by simp) (by simp) (by simp)
 | n + 1,t,ht=>by
  have hok:=lQ hs t
  have hsm:=MB hs t
  rw [nQ]
  cases valF s.ss s.es t with
  | false=>exact .mk ⟨by decide,by decide⟩ ⟨by decide,by decide⟩ (by decide) (by simp) (by simp) (by simp) (by simp) (by simp)
  | true=>
   cases t.k == 6 with
   | false=>exact .mk ht.k ⟨by decide,by decide⟩ (by decide) (by simp) (by simp) (by simp) (by simp) (by simp)
   | true=>
    have hl:=SV s n (stOf s t).fs
    have hm:∀ x ∈ zE s n (stOf s t).fs,∃ f ∈ (stOf s t).fs,x=(f.num,zF s n f.ty):=fun x hx=>by
     unfold zE at hx
     obtain ⟨f,hf,rfl⟩:=List.mem_map.1 hx
     exact ⟨f,(List.mem_filter.1 hf).1,rfl⟩
    refine .mk ⟨by decide,by decide⟩ ⟨by decide,by decide⟩ (by decide) (by simp) (by omega) (by simp) (fun x hx=>?_) (fun x hx=>?_)
    · obtain ⟨f,hf,rfl⟩:=hm x hx; exact (hok.fs f hf).num
    · obtain ⟨f,hf,rfl⟩:=hm x hx; exact X3 hs n f.ty (hok.fs f hf).ty
def GO:List S->Prop:=fun av=>match av with
 | [.va (.gs r),.va (.gs q)]=>lE r/\fL q
 | _=>False
theorem rJ {av:List S} (h:GO av):∃ s t,av=[.va (.gs (aG s)),.va (.gs (aN t))]/\s.fit/\TyOk t:=by
 unfold GO at h
 split at h
 · obtain ⟨⟨s,rfl,hs⟩,⟨t,rfl,ht⟩⟩:=h
   exact ⟨s,t,rfl,hs,ht⟩
 · exact h.elim
noncomputable def aAQ (f:Sc->Ty->Value):List S->A:=fun av=>match av with
 | [.va (.gs r),.va (.gs q)]=>.c1 (.vl (f (C.sc r) (C.ty q)))
 | _=>.gs []
noncomputable def xH (f:Sc->Ty->Value):Fun:=⟨GO,aAQ f,fun av h=>by obtain ⟨_,_,rfl,_⟩:=rJ h; trivial⟩
theorem U9 {f:Sc->Ty->Value}:∀ av H K,(xH f).sp av H K->av.length=2:=fun av H K h=>by obtain ⟨_,_,rfl,_⟩:=rJ h.1.1; rfl
attribute [go_sem] xH GO aAQ
theorem aCX {f:Sc->Ty->Value} {av:List S} {H:Hp} {K:S->Hp->Prop} (h:(xH f).sp av H K):∃ s t,av=[.va (.gs (aG s)),.va (.gs (aN t))]/\H=[]/\s.fit/\TyOk t/\K (.va (.c1 (.vl (f s t)))) []:=by
 obtain ⟨⟨h,rfl⟩,hK⟩:=h
 obtain ⟨s,t,rfl,hs,ht⟩:=rJ h
 have:(xH f).val [.va (.gs (aG s)),.va (.gs (aN t))]=.c1 (.vl (f s t)):=by
  show A.c1 (.vl (f (C.sc (aG s)) (C.ty (aN t))))=_
  rw [gT,fX]
 rw [this] at hK
 exact ⟨s,t,rfl,rfl,hs,ht,hK⟩
def mZ (s:Sc) (t:Ty):Bool:=fG s t (zF s 23 t) == 0
theorem LA:Meets Tryz.prog 28 (xH fun s t=>.bool (mZ s t)).sp:=by
 refine aE Tryz.func28 aOF 2 (by rw [Tryz.ntmps28]; decide) (aB aKM (aH CJ (aA _))) U9 ?_
 intro av H K h
 obtain ⟨s,t,rfl,rfl,hs,ht,hK⟩:=aCX h
 clear h
 have k4:=jG ht
 have k5:=oN t
 have k6:=jL hs
 have k7:=oG s
 have hv:=X3 hs 23 t ht
 have hK:K (bS (fG s t (zF s 23 t) == 0)) []:=hK
 simp (maxSteps:=1000000) -dsimp only [go_sem,aG,aO t,aFG,aFM]
 refine aBE hs ht ?_
 generalize zF s 23 t=v at *
 have k1:=f6 hv
 have k2:=lK v
 simp (maxSteps:=1000000) -dsimp only [go_sem,aX v,k1,k2,k4,k5,k6,k7]
 exact .sel [] (by simp) (by simp) rfl (.done (by simpa [go_sem] using hK))
end Go.Proofs.YtkpohmhenegkiaaGreatDoor
namespace Go.Proofs.YtkpohmhenegkiaaGreatDoor
open Go.W
theorem HC {α:Type} {one:α->Fs->α × Fs} {ts:List Tk} (ho:EJ one ts) (I:Nat->α->Prop) (hs:∀ k a z,z.n < ts.length->I k a->I (k + 1) (one a z).1):∀ (f k:Nat) (a:α) (z:Fs),z.n < ts.length->I k a->∃ k',k'<=k + f/\I k' (hY one ts f a z).1
 | 0,k,a,z,_,h=>⟨k,Nat.le_refl _,h⟩
 | f + 1,k,a,z,hn,h=>by
  rw [iL]
  cases z.bad
  · have h1:=hs k a z hn h
    have h2:=ho a z hn
    cases cB [44] ts (one a z).2
    · exact ⟨k + 1,by omega,h1⟩
    · obtain ⟨k',h3,h4⟩:=HC ho I hs f (k + 1) (one a z).1 (bR [44] ts (one a z).2) (DL h2.2).2 h1
      exact ⟨k',by omega,h4⟩
  · exact ⟨k,by omega,h⟩
theorem JR {α:Type} {one:α->Fs->α × Fs} {ts:List Tk} (ho:EJ one ts) (I:Nat->α->Prop) (hs:∀ k a z,z.n < ts.length->I k a->I (k + 1) (one a z).1) (op sh:List UInt8) (a:α) (z:Fs) (hn:z.n < ts.length) (h:I 0 a):∃ k',k'<=ts.length + 1/\I k' (cI one op sh ts a z).1:=by
 unfold cI
 have h1:=hZ (w:=op) hn
 cases cB sh ts (bM op ts z)
 · obtain ⟨k,h2,h3⟩:=HC ho I hs (ts.length + 1) 0 a _ h1.2 h
   exact ⟨k,by omega,h3⟩
 · exact ⟨0,Nat.zero_le _,h⟩
theorem tP {k n:Int} {s:ByteArray} (hk:cH k) (hn:cH n) (hs:s.size<=9223372036854775807):VlOk (.mk k n s [] []):=.mk hk hn hs (by simp) (by simp) (by simp) (by simp) (by simp)
theorem RM {ts:List Tk} (h:Tks ts) (k:Int) (z:Fs) (hn:z.n < ts.length):cH (iN k ts z).n/\(iN k ts z).x.length<=4000:=by
 have hm:aT ts z.n ∈ ts:=bJ (gZ hn)
 unfold iN
 cases gV k ts z
 · rw [aD]; exact ⟨⟨by decide,by decide⟩,by decide⟩
 · exact ⟨h.n _ hm,h.x _ hm⟩
theorem F5 {s:Sc} (hs:s.fit) {ts:List Tk} (hts:Tks ts):∀ (N:Nat) (t:Ty) (z:Fs),TyOk t->dP N s t->z.n < ts.length->VlOk (pP N s ts t z).1
 | 0,t,z,_,h,_=>h.elim
 | N + 1,t,z,ht,hd,hn=>by
  have hle:=hts.e.le
  have c0:cH 0:=⟨by decide,by decide⟩
  have c1:cH 1:=⟨by decide,by decide⟩
  have c4:cH 4:=⟨by decide,by decide⟩
  have c5:cH 5:=⟨by decide,by decide⟩
  have c6:cH 6:=⟨by decide,by decide⟩
  have c7:cH 7:=⟨by decide,by decide⟩
  rw [iD]
  cases t.k == 1 with
  | true=>
   rw [aI]; unfold gS
   cases (!z.bad && cX 1 o8 (aT ts z.n))<;>cases (!z.bad && cX 1 mE (aT ts z.n))<;>first | exact tP c1 c1 (by decide) | exact tP c1 c0 (by decide)
  | false=>
  cases t.k == 4 with
  | true=>
   refine tP c4 c0 ?_
   have:=(RM hts 3 z hn).2
   show (mk (iN 3 ts z).x).size<=_
   have e:(mk (iN 3 ts z).x).size=(iN 3 ts z).x.length:=by simp [mk,ByteArray.size]
   omega
  | false=>
  cases t.k == 7 with
  | true=>
   have he:((fU s.es t.n).getD default).ok:=by
    cases h:fU s.es t.n with
    | none=>exact ⟨by decide,by decide,by decide,fun _ h=>(by cases h),fun _ h=>(by cases h)⟩
    | some e=>exact hs.ok.es e (List.mem_of_find?_eq_some h)
   generalize (fU s.es t.n).getD default=e at he ⊢
   rw [aD,aD,aI]; unfold dZ
   cases hc:(decide (hJ e ts z < 0) || decide ((e.vs.length:Int)<=hJ e ts z)) with
   | true=>exact tP c7 c0 (by decide)
   | false=>
    refine tP c7 ?_ (by decide)
    rw [List.getD_eq_getElem?_getD]
    cases hx:e.vs[(hJ e ts z).toNat]? with
    | none=>exact c0
    | some y=>exact he.vs _ (bJ hx)
  | false=>
  cases h5:t.k == 5 with
  | true=>
   obtain ⟨u,he,hu,hD⟩:=hd.1 h5
   rw [he,List.headD_cons]
   obtain ⟨k,hk,h1,h2⟩:=JR (one:=hM (pP N) s ts u) (fun a z h=>tF N s ts u z h) (fun k l=>l.length<=k/\∀ v ∈ l,VlOk v) (fun k l z hz ⟨h1,h2⟩=>⟨by simp [hM]; omega,fun v hv=>by
    rcases List.mem_append.1 hv with hv | hv
    · exact h2 v hv
    · rw [List.mem_singleton.1 hv]; exact F5 hs hts N u z hu hD hz⟩) [91] [93] [] z hn ⟨Nat.le_refl _,by simp⟩
   exact .mk c5 c0 (by decide) (by omega) (by simp) h2 (by simp) (by simp)
  | false=>
  cases h6:t.k == 6 with
  | true=>
   have hD:=hd.2 h6
   have hok:=lQ hs t
   obtain ⟨k,hk,h1,h2⟩:=JR (one:=dH (pP N) s ts (stOf s t)) (J3 (tF N)) (fun k a=>a.2.length<=k/\∀ x ∈ a.2,cH x.1/\VlOk x.2) (fun k a z hz ⟨h1,h2⟩=>by
    unfold dH
    cases hb:j7 ts (stOf s t) a.1 z with
    | true=>exact ⟨by rw [aI]; exact Nat.le_succ_of_le h1,h2⟩
    | false=>
     rw [aD]
     refine ⟨by simp; omega,fun x hx=>?_⟩
     rcases List.mem_append.1 hx with hx | hx
     · exact h2 x hx
     · rw [List.mem_singleton.1 hx]
       have hz1:(iH ts z).n < ts.length:=(hZ (w:=[61]) (z:=⟨z.bad,z.off,bN ts z.n⟩) (mP hz).2).2
       have hlt:dL ts (stOf s t) z < ((stOf s t).fs.length:Int):=by have:=(BZ (aT ts z.n).x (stOf s t).fs 0).2; unfold dL; omega
       have hge:¬ (dL ts (stOf s t) z < 0):=fun h=>by unfold j7 at hb; rw [decide_eq_true h] at hb; simp at hb
       have hm:(stOf s t).fs.getD (dL ts (stOf s t) z).toNat default ∈ (stOf s t).fs:=by
        have hl:(dL ts (stOf s t) z).toNat < (stOf s t).fs.length:=by omega
        rw [List.getD_eq_getElem?_getD,aW hl]
        exact List.getElem_mem hl
       exact ⟨(hok.fs _ hm).num,F5 hs hts N _ _ (hok.fs _ hm).ty (hD _ hm) hz1⟩) [123] [125] (0,[]) z hn ⟨Nat.le_refl _,by simp⟩
   exact .mk c6 c0 (by decide) (by simp) (by show List.length _ * 88<=_; omega) (by simp) (fun x hx=>(h2 x hx).1) (fun x hx=>(h2 x hx).2)
  | false=>exact tP ht.k (RM hts 2 z hn).1 (by decide)
attribute [-go_sem] cL cR cM fB cY iQ
noncomputable def oZ (D:Sc->Ty->Prop) (P:Prs):cS:=(28,.f (xH fun s t=>.bool (mZ s t))) :: (23,.f (i7 (fun _ _ _=>True) fun s t v=>.int .i64 (fG s t v))) :: (29,.s iQ) :: (30,.s (cL 114)) :: (31,.s nT) :: A7 D P
theorem LC {D:Sc->Ty->Prop} {P:Prs} (h:ParsM D P):dW Tryz.prog (oZ D P):=aH LA (aH CJ (aB aOG (aB sN (aB qQ (pY h)))))
theorem JO (D:Sc->Ty->Prop) (P:Prs):j5 (oZ D P) 28=some (xH fun s t=>.bool (mZ s t)):=rfl
theorem HX (D:Sc->Ty->Prop) (P:Prs):j5 (oZ D P) 23=some (i7 (fun _ _ _=>True) fun s t v=>.int .i64 (fG s t v)):=rfl
theorem WB (D:Sc->Ty->Prop) (P:Prs):sp (oZ D P) 29=iQ:=rfl
theorem WK (D:Sc->Ty->Prop) (P:Prs):sp (oZ D P) 30=cL 114:=rfl
theorem TW (D:Sc->Ty->Prop) (P:Prs):sp (oZ D P) 31=nT:=rfl
theorem WT (D:Sc->Ty->Prop) (P:Prs):sp (oZ D P) 24=mU:=rfl
theorem RU (D:Sc->Ty->Prop) (P:Prs) (k:Int):sp (oZ D P) (iI k)=jJ D P (iI k):=by
 unfold iI
 cases k == 1<;>cases k == 4<;>cases k == 7<;>cases k == 5<;>cases k == 6<;>rfl
theorem aHZ {x:ByteArray} {K:S->Hp->Prop} (h:(aQ (bl x)).err=0) (hK:K (.tu [.c1 (.pt 0 0),iA .i64 0,iA .i64 0]) [jA 114 (aQ (bl x)).toks 0]):iQ [tS x] [] K:=⟨fun _=>hK,fun h'=>absurd h h'⟩
theorem aCE {x:ByteArray} {K:S->Hp->Prop} (h:(aQ (bl x)).err ≠ 0) (hK:K (.tu [.c1 (.vl (.pointer none)),iA .i64 (aQ (bl x)).err,iA .i64 (aQ (bl x)).off]) []):iQ [tS x] [] K:=⟨fun h'=>absurd h' h,fun _=>hK⟩
def v0:Vl:=.mk 0 0 (mk []) [] []
def rN (ts:List Tk) (z:Fs):Fs:=bif (aT ts z.n).k != 0 then dQ ts z else z
def CV (s:Sc) (t:Ty) (ts:List Tk) (r:Vl × Fs):Vl × Int × Int:=
 bif (rN ts r.2).bad then (v0,2,(rN ts r.2).off) else bif fG s t r.1 != 0 then (v0,fG s t r.1,0) else (r.1,0,0)
def fK (P:Prs) (s:Sc) (t:Ty) (x:List UInt8):Vl × Int × Int:=
 bif !mZ s t then (v0,13,0) else bif (aQ x).err != 0 then (v0,(aQ x).err,(aQ x).off) else CV s t (aQ x).toks (P s (aQ x).toks t ⟨false,0,0⟩)
def tN (D:Sc->Ty->Prop) (P:Prs):W.Spec:=fun av H K=>∃ s t x,av=[.va (.gs (aG s)),.va (.gs (aN t)),tS x]/\H=[]/\s.fit/\TyOk t/\(mZ s t=true->D s t)/\((aQ (bl x)).err=0->Tks (aQ (bl x)).toks)/\
 K (.tu [.gs (bK (fK P s t (bl x)).1),iA .i64 (fK P s t (bl x)).2.1,iA .i64 (fK P s t (bl x)).2.2]) []
theorem aHX {D:Sc->Ty->Prop} {P:Prs} (hP:ParsM D P) (hO:P.onw) (hv:∀ s ts t z,s.fit->Tks ts->TyOk t->D s t->z.n < ts.length->VlOk (P s ts t z).1):Meets Tryz.prog 13 (tN D P):=by
 refine aE Tryz.func13 aO4 3 (by rw [Tryz.ntmps13]; decide) (LC hP) (fun av H K h=>by obtain ⟨_,_,_,rfl,_⟩:=h; rfl) ?_
 rintro av H K ⟨s,t,x,rfl,rfl,hs,ht,hD,hT,hK⟩
 have k4:=jG ht
 have k5:=oN t
 have k6:=jL hs
 have k7:=oG s
 have fin:∀ (v:Vl) (e a:Int) (R:Hp),fK P s t (bl x)=(v,e,a)->W.Fin 0 K (.tu [.gs (bK v),iA .i64 e,iA .i64 a]) R:=fun v e a R h=>by
  rw [h] at hK
  refine .sel [] (by simp) (by simp) rfl (.done ?_)
  rw [aX] at hK ⊢
  simpa [go_sem] using hK
 clear hK
 unfold fK at fin
 cases h1:mZ s t with
 | false=>
  rw [h1] at fin
  simp (maxSteps:=1000000) -dsimp only [go_sem,aG,aO t,UF,T0,JO,k4,k5,k6,k7,h1]
  exact fin v0 13 0 _ rfl
 | true=>
 rw [h1] at fin
 simp (maxSteps:=1000000) -dsimp only [go_sem,aG,aO t,UF,T0,JO,k4,k5,k6,k7,h1]
 refine aF rfl (.done ?_)
 simp (maxSteps:=1000000) -dsimp only [go_sem,IS,WB]
 cases h2:(aQ (bl x)).err != 0 with
 | true=>
  rw [h2] at fin
  refine aCE (by simpa using h2) ?_
  simp (maxSteps:=1000000) -dsimp only [go_sem]
  refine aF rfl (.done ?_)
  simp (maxSteps:=1000000) -dsimp only [go_sem,zI,h2]
  exact fin v0 _ _ _ rfl
 | false=>
 rw [h2] at fin
 have h2':(aQ (bl x)).err=0:=by simpa using h2
 have hts:=hT h2'
 refine aHZ h2' ?_
 have hn0:(⟨false,0,0⟩:Fs).n < (aQ (bl x)).toks.length:=hts.e.pos
 generalize (aQ (bl x)).toks=ts at *
 simp (maxSteps:=1000000) -dsimp only [go_sem]
 refine aF rfl (.done ?_)
 have g0:((0:Int) != 0)=false:=rfl
 simp (maxSteps:=1000000) -dsimp only [go_sem,zI,g0]
 refine aF rfl (.done ?_)
 simp (maxSteps:=1000000) -dsimp only [go_sem,JY]
 refine aF rfl (.done ?_)
 simp (maxSteps:=1000000) -dsimp only [go_sem,KT,WT,RU]
 refine HL (z:=⟨false,0,0⟩) hs ht hts hn0 (hD h1) ?_
 have hvk:=hv s ts t ⟨false,0,0⟩ hs hts ht (hD h1) hn0
 have hn1:=(hO s ts t ⟨false,0,0⟩ hn0).2
 generalize P s ts t ⟨false,0,0⟩=r at *
 obtain ⟨v,z⟩:=r
 simp only at hvk hn1
 have k1:=f6 hvk
 have k2:=lK v
 simp (maxSteps:=1000000) -dsimp only [go_sem,aX v]
 refine aF rfl (.done ?_)
 simp (maxSteps:=1000000) -dsimp only [go_sem,KW,WK]
 refine lJ hts.e hn1 ?_
 simp only [Bool.not_true,aD,CV,rN] at fin
 cases hk:(aT ts z.n).k != 0 with
 | true=>
  rw [hk,aI] at fin
  simp (maxSteps:=1000000) -dsimp only [go_sem,dI,hk]
  refine aF rfl (.done ?_)
  simp (maxSteps:=1000000) -dsimp only [go_sem,JV,TW]
  refine eN (z:=z) hts.e hn1 ?_
  generalize dQ ts z=z2 at *
  simp (maxSteps:=1000000) -dsimp only [go_sem]
  refine aF rfl (.done ?_)
  cases hb:z2.bad with
  | true=>
   rw [hb] at fin
   simp (maxSteps:=1000000) -dsimp only [go_sem,nX]
   exact fin v0 2 z2.off _ rfl
  | false=>
   rw [hb] at fin
   simp (maxSteps:=1000000) -dsimp only [go_sem,nX]
   refine aF rfl (.done ?_)
   simp (maxSteps:=1000000) -dsimp only [go_sem,wC,HX,k1,k2,k4,k5,k6,k7]
   refine aF rfl (.done ?_)
   cases hc:fG s t v != 0 with
   | true=>
    rw [hc] at fin
    simp (maxSteps:=1000000) -dsimp only [go_sem,nV,hc]
    exact fin v0 (fG s t v) 0 _ rfl
   | false=>
    rw [hc] at fin
    simp (maxSteps:=1000000) -dsimp only [go_sem,nV,hc]
    have:=fin v 0 0
    rw [aX] at this
    exact this _ rfl
 | false=>
  rw [hk,aD] at fin
  simp (maxSteps:=1000000) -dsimp only [go_sem,dI,hk]
  have z2:=z
  clear z2
  generalize hz2:z=z2 at *
  refine aF rfl (.done ?_)
  cases hb:z2.bad with
  | true=>
   rw [hb] at fin
   simp (maxSteps:=1000000) -dsimp only [go_sem,nX]
   exact fin v0 2 z2.off _ rfl
  | false=>
   rw [hb] at fin
   simp (maxSteps:=1000000) -dsimp only [go_sem,nX]
   refine aF rfl (.done ?_)
   simp (maxSteps:=1000000) -dsimp only [go_sem,wC,HX,k1,k2,k4,k5,k6,k7]
   refine aF rfl (.done ?_)
   cases hc:fG s t v != 0 with
   | true=>
    rw [hc] at fin
    simp (maxSteps:=1000000) -dsimp only [go_sem,nV,hc]
    exact fin v0 (fG s t v) 0 _ rfl
   | false=>
    rw [hc] at fin
    simp (maxSteps:=1000000) -dsimp only [go_sem,nV,hc]
    have:=fin v 0 0
    rw [aX] at this
    exact this _ rfl
end Go.Proofs.YtkpohmhenegkiaaGreatDoor
namespace Go.Proofs.YtkpohmhenegkiaaGreatDoor
open Go.W
attribute [-go_sem] cL cR cM fB cY iQ
abbrev tQ (s:Sc) (b:Bool):B:=.cells [.vl (.int .i64 s.ver),.fz (s.es.map bL),.fz (s.ss.map aP),.vl (.pointer none),.vl (.bool b),.vl (.int .i64 0)] 62
abbrev gB:Type:=Sc->Ty->Vl->List UInt8 × Bool
def pN (D:Sc->Ty->Vl->Prop) (F:gB):W.Spec:=fun av H K=>∃ s t v b,av=[.va (.c1 (.pt 0 0)),.va (.gs (aN t)),.va (.gs (bK v))]/\H=[tQ s b]/\s.fit/\TyOk t/\VlOk v/\D s t v/\K (tS (mk (F s t v).1)) [tQ s (b || (F s t v).2)]
theorem qL {D:Sc->Ty->Vl->Prop} {F:gB}:∀ av H K,pN D F av H K->av.length=3:=fun av H K h=>by obtain ⟨_,_,_,_,rfl,_⟩:=h; rfl
def uF (n:Int):List UInt8:=bif n == 1 then o8 else mE
theorem K7:Meets Tryz.prog 54 (pN (fun _ _ _=>True) fun _ _ v=>(uF v.n,false)):=by
 refine aE Tryz.func54 aO0 3 (by rw [Tryz.ntmps54]; decide) (aA _) qL ?_
 rintro av H K ⟨s,t,v,b,rfl,rfl,hs,ht,hv,_,hK⟩
 unfold uF at hK
 rw [Bool.or_false] at hK
 cases h:v.n == 1<;>simp only [h,aI,aD] at hK <;>
 · simp (maxSteps:=1000000) -dsimp only [go_sem,aO t,aX v,aIY,aE8,h]
   refine .sel [0] (by simp) (by simp) rfl (.done ?_)
   simp (maxSteps:=1000000) -dsimp only [go_sem]
   exact hK
theorem FR:Meets Tryz.prog 64 (pN (fun _ _ _=>True) fun _ _ v=>(dS v.n,false)):=by
 refine aE Tryz.func64 aNX 3 (by rw [Tryz.ntmps64]; decide) (aH OD (aA _)) qL ?_
 rintro av H K ⟨s,t,v,b,rfl,rfl,hs,ht,hv,_,hK⟩
 rw [Bool.or_false] at hK
 have hn:=hv.n
 have hn1:=hn.1
 have hn2:=hn.2
 simp (maxSteps:=1000000) -dsimp only [go_sem,aO t,aX v,aF3,aF8]
 refine ⟨⟨hn1,hn2⟩,.sel [0] (by simp) (by simp) rfl (.done ?_)⟩
 simp (maxSteps:=1000000) -dsimp only [go_sem]
 exact hK
def oA (x:List UInt8):List UInt8:=bif decide (x.length<=200) && x.all fN then iO x else []
theorem aHL (x:List UInt8):gP [⟨3,x,0,0⟩]=oA x:=by
 unfold gP oA kK gE dA
 cases h:(decide (x.length<=200) && x.all fN)<;>simp [h]
theorem K6:Meets Tryz.prog 56 (pN (fun _ _ v=>(bl v.s).length<=100000) fun _ _ v=>(oA (bl v.s),oA (bl v.s) == [])):=by
 refine aE Tryz.func56 aQS 3 (by rw [Tryz.ntmps56]; decide) (aH aEL (aA _)) qL ?_
 rintro av H K ⟨s,t,v,b,rfl,rfl,hs,ht,hv,hD,hK⟩
 have hK:K (tS (mk (oA (bl v.s)))) [tQ s (b || (oA (bl v.s) == []))]:=hK
 have e:[C.vl (.int .i64 3),.vl (.string v.s),.vl (.int .i64 0),.vl (.int .i64 0)]=y6 ⟨3,bl v.s,0,0⟩:=by show _=[_,C.vl (.string (mk (bl v.s))),_,_]; rw [lC]
 have p1:prtFn.val [.va (.c1 (.fz [[.vl (.int .i64 3),.vl (.string v.s),.vl (.int .i64 0),.vl (.int .i64 0)]]))]=tA (mk (oA (bl v.s))):=by
  rw [e,<-aHL]; exact mI [⟨3,bl v.s,0,0⟩]
 have p2:prtFn.pre [.va (.c1 (.fz [[.vl (.int .i64 3),.vl (.string v.s),.vl (.int .i64 0),.vl (.int .i64 0)]]))]:=by
  rw [e]
  exact ⟨[⟨3,bl v.s,0,0⟩],rfl,by simp,fun t ht=>by rw [List.mem_singleton.1 ht]; exact ⟨show (-9223372036854775808:Int)<=0 by decide,show (0:Int)<=9223372036854775807 by decide,hD⟩⟩
 cases b <;>
 · simp (maxSteps:=1000000) -dsimp only [go_sem,aO t,aX v,aGW,aEF,p1,p2]
   refine .sel [0] (by simp) (by simp) rfl (.done ?_)
   simp (maxSteps:=1000000) -dsimp only [go_sem]
   exact hK
end Go.Proofs.YtkpohmhenegkiaaGreatDoor
namespace Go.Proofs.YtkpohmhenegkiaaGreatDoor
open Go.W
attribute [-go_sem] cL cR cM fB cY iQ
def jI (ns:List ByteArray) (n:Int):List Int->Nat->ByteArray
 | [],_=>mk []
 | m :: l,i=>bif m == n && decide ((i:Int) < (ns.length:Int)) then ns.getD i (mk []) else jI ns n l (i + 1)
def enOf (s:Sc) (t:Ty):En:=(fU s.es t.n).getD default
theorem aB1 {s:Sc} (hs:s.fit) (t:Ty):(enOf s t).ok:=by
 unfold enOf
 cases h:fU s.es t.n with
 | none=>exact ⟨by decide,by decide,by decide,fun _ h=>(by cases h),fun _ h=>(by cases h)⟩
 | some e=>exact hs.ok.es e (List.mem_of_find?_eq_some h)
theorem LD:Meets Tryz.prog 58 (pN (fun _ _ _=>True) fun s t v=>(bl (jI (enOf s t).ns v.n (enOf s t).vs 0),false)):=by
 refine aE Tryz.func58 aRG 3 (by rw [Tryz.ntmps58]; decide) (aB A8 (aA _)) qL ?_
 rintro av H K ⟨s,t,v,b,rfl,rfl,hs,ht,hv,_,hK⟩
 have he:=aB1 hs t
 rw [Bool.or_false] at hK
 have hK:K (tS (jI (enOf s t).ns v.n (enOf s t).vs 0)) [tQ s b]:=by have:=hK; rw [lC] at this; exact this
 simp (maxSteps:=1000000) -dsimp only [go_sem,aO t,aX v,aFH,aET]
 refine nU hs ?_
 rw [show (fU s.es t.n).getD default=enOf s t from rfl]
 generalize enOf s t=e at *
 have hlv:=he.lv
 have hln:=he.ln
 simp (maxSteps:=1000000) -dsimp only [go_sem,bL]
 refine aF rfl (.done ?_)
 simp (maxSteps:=1000000) -dsimp only [go_sem,KU]
 refine aL (α:=Nat) (fun i=>[(5,.va (.c1 (.pt 2 0))),(7,.va (.c1 (.pt 3 0))),(22,.va (.c1 (.fz (e.vs.map cU)))),(23,iS .i64 e.vs.length),(24,iS .i64 i)])
  (fun _=>[tQ s b,.cells [.vl (.int .i64 t.k),.vl (.int .i64 t.s),.vl (.string t.n),.fz (t.e.map aN)] 28,.cells [.vl (.int .i64 v.k),.vl (.int .i64 v.n),.vl (.string v.s),.fz (v.l.map bK),.fz (v.f.map cJ)] 32,.cells [.vl (.string e.nm),.fz (e.ns.map bQ),.fz (e.vs.map cU)] 92])
  (fun i=>i<=e.vs.length/\jI e.ns v.n (e.vs.drop i) i=jI e.ns v.n e.vs 0) (fun i=>e.vs.length - i) 0 4 ⟨Nat.zero_le _,rfl⟩ ?_ ?_ ?_
 · simp -dsimp only [go_sem]<;>simp
 · simp -dsimp only [go_sem]<;>simp
 rintro i ⟨hi,ho⟩
 rcases bF i e.vs.length with hlt | hge
 · have hg:decide ((i:Int) < (e.vs.length:Int))=true:=by simp; omega
   have hx:e.vs[i]? = some e.vs[i]:=aW hlt
   have q2:=aY (row:=cU) hx
   rw [List.drop_eq_getElem_cons hlt,jI] at ho
   generalize e.vs[i]=m at *
   simp (maxSteps:=1000000) -dsimp only [go_sem,hg,↓q2]
   refine ⟨⟨by omega,by omega⟩,aF rfl (.done ?_)⟩
   cases hc1:m == v.n with
   | false=>
    rw [hc1,Bool.false_and,aD] at ho
    simp (maxSteps:=1000000) -dsimp only [go_sem,t7,hc1]
    refine ⟨by omega,aC (i + 1) 4 ⟨by omega,ho⟩ (by omega) ?_ ?_⟩
    · simp -dsimp only [go_sem]<;>simp
    · simp -dsimp only [go_sem]<;>simp
   | true=>
    cases hc2:decide ((i:Int) < (e.ns.length:Int)) with
    | false=>
     rw [hc1,hc2,Bool.true_and,aD] at ho
     simp (maxSteps:=1000000) -dsimp only [go_sem,t7,hc1,hc2]
     refine ⟨by omega,aC (i + 1) 4 ⟨by omega,ho⟩ (by omega) ?_ ?_⟩
     · simp -dsimp only [go_sem]<;>simp
     · simp -dsimp only [go_sem]<;>simp
    | true=>
     rw [hc1,hc2,Bool.true_and,aI] at ho
     have hlt2:i < e.ns.length:=by simpa using hc2
     have hx2:e.ns[i]? = some e.ns[i]:=aW hlt2
     have q3:=aY (row:=bQ) hx2
     rw [List.getD_eq_getElem?_getD,hx2,Option.getD_some] at ho
     rw [<-ho] at hK
     generalize e.ns[i]=w at *
     simp (maxSteps:=1000000) -dsimp only [go_sem,t7,hc1,hc2,↓q3]
     refine ⟨⟨by omega,by omega⟩,.sel [0] (by simp) (by simp) rfl (.done ?_)⟩
     simp (maxSteps:=1000000) -dsimp only [go_sem]
     exact hK
 · have hg:decide ((i:Int) < (e.vs.length:Int))=false:=by simp; omega
   have:e.vs.drop i=[]:=List.drop_eq_nil_iff.2 (by omega)
   rw [this,jI] at ho
   rw [<-ho] at hK
   simp (maxSteps:=1000000) -dsimp only [go_sem,hg]
   refine .sel [0] (by simp) (by simp) rfl (.done ?_)
   simp (maxSteps:=1000000) -dsimp only [go_sem]
   exact hK
end Go.Proofs.YtkpohmhenegkiaaGreatDoor
namespace Go.Proofs.YtkpohmhenegkiaaGreatDoor
open Go.W
attribute [-go_sem] cL cR cM fB cY iQ
def jH (D:Sc->Ty->Vl->Prop) (F:gB) (f:FuncId):W.Spec:=pN (fun s t v=>D s t v/\iC t.k=f) F
def I5 (D:Sc->Ty->Vl->Prop) (F:gB):cS:=[(24,.s mU),(54,.s (jH D F 54)),(56,.s (jH D F 56)),(58,.s (jH D F 58)),
 (60,.s (jH D F 60)),(62,.s (jH D F 62)),(64,.s (jH D F 64))]
structure FmtM (D:Sc->Ty->Vl->Prop) (F:gB):Prop where
 b:Meets Tryz.prog 54 (jH D F 54)
 t:Meets Tryz.prog 56 (jH D F 56)
 e:Meets Tryz.prog 58 (jH D F 58)
 l:Meets Tryz.prog 60 (jH D F 60)
 s:Meets Tryz.prog 62 (jH D F 62)
 n:Meets Tryz.prog 64 (jH D F 64)
theorem sJ {D:Sc->Ty->Vl->Prop} {F:gB} (h:FmtM D F):dW Tryz.prog (I5 D F):=
 aB mOf (aB h.b (aB h.t (aB h.e (aB h.l (aB h.s (aB h.n (aA _)))))))
theorem NH (D:Sc->Ty->Vl->Prop) (F:gB):sp (I5 D F) 24=mU:=rfl
theorem HM (D:Sc->Ty->Vl->Prop) (F:gB) (k:Int):sp (I5 D F) (iC k)=jH D F (iC k):=by
 unfold iC
 cases k == 1<;>cases k == 4<;>cases k == 7<;>cases k == 5<;>cases k == 6<;>rfl
theorem tT {D:Sc->Ty->Vl->Prop} {F:gB} {s:Sc} {t:Ty} {v:Vl} {b:Bool} {K:S->Hp->Prop} (h1:s.fit) (h2:TyOk t) (h3:VlOk v) (h4:D s t v) (hK:K (tS (mk (F s t v).1)) [tQ s (b || (F s t v).2)]) :
 jH D F (iC t.k) [.va (.c1 (.pt 0 0)),.va (.gs [.vl (.int .i64 t.k),.vl (.int .i64 t.s),.vl (.string t.n),.fz (t.e.map aN)]),.va (.gs [.vl (.int .i64 v.k),.vl (.int .i64 v.n),.vl (.string v.s),.fz (v.l.map bK),.fz (v.f.map cJ)])] [tQ s b] K:=
 ⟨s,t,v,b,by rw [aO,aX],rfl,h1,h2,h3,⟨h4,rfl⟩,hK⟩
def d8:Bool->List (List UInt8)->List UInt8
 | _,[]=>[]
 | c,x :: r=>(bif c then [44,32] else []) ++ x ++ d8 true r
theorem xW:∀ (c:Bool) (xs ys:List (List UInt8)),d8 c (xs ++ ys)=d8 c xs ++ d8 (c || !xs.isEmpty) ys
 | c,[],ys=>by simp [d8]
 | c,x :: r,ys=>by
  rw [List.cons_append,d8,d8,xW true r ys]
  simp [List.append_assoc]
theorem pE {α:Type} (f:α->List UInt8) (l:List α) (i:Nat):(d8 false ((l.take i).map f)).length<=(d8 false (l.map f)).length:=by
 have h:l.map f=(l.take i).map f ++ (l.drop i).map f:=by rw [<-List.map_append,List.take_append_drop]
 rw [h,xW,List.length_append]; omega
theorem E4 {α:Type} (f:α->List UInt8) {l:List α} {i:Nat} {x:α} (h:l[i]? = some x):d8 false ((l.take (i + 1)).map f)=d8 false ((l.take i).map f) ++ (bif decide (0 < (i:Int)) then [44,32] else []) ++ f x:=by
 have hl:=(a6.1 h).1
 rw [List.take_add_one,h,List.map_append,xW]
 have e:(false || !((l.take i).map f).isEmpty)=decide (0 < (i:Int)):=by
  cases i with
  | zero=>simp
  | succ i=>
   have:decide (0 < ((i + 1:Nat):Int))=true:=decide_eq_true (by omega)
   rw [this]
   cases l with
   | nil=>simp at hl
   | cons y l=>simp
 rw [e]
 simp [d8,List.append_assoc]
def nG (F:gB) (s:Sc) (u:Ty) (l:List Vl):List UInt8 × Bool:=([91] ++ d8 false (l.map fun x=>(F s u x).1) ++ [93],l.any fun x=>(F s u x).2)
theorem K4 {D:Sc->Ty->Vl->Prop} {F:gB} (hF:FmtM D F):Meets Tryz.prog 60 (pN (fun s t v=>∃ u,t.e=[u]/\TyOk u/\(∀ x ∈ v.l,D s u x)/\(nG F s u v.l).1.length<=100000000000000) fun s t v=>nG F s (t.e.headD default) v.l):=by
 refine aE Tryz.func60 aOO 3 (by rw [Tryz.ntmps60]; decide) (sJ hF) qL ?_
 rintro av H K ⟨s,t,v,b,rfl,rfl,hs,ht,hv,⟨u,he,hu,hD,hlen⟩,hK⟩
 have hK:K (tS (mk (nG F s u v.l).1)) [tQ s (b || (nG F s u v.l).2)]:=by have:=hK; simp only [he,List.headD_cons] at this; exact this
 have hll:=hv.ll
 have hvl:=hv.l
 unfold nG at hK hlen
 simp only [List.length_append,List.length_singleton] at hlen
 simp (maxSteps:=1000000) -dsimp only [go_sem,aO t,aX v,aGT,aGL]
 refine aL (α:=Nat) (fun i=>[(0,.va (.c1 (.pt 0 0))),(4,.va (.c1 (.pt 1 0))),(7,tS (mk ([91] ++ d8 false ((v.l.take i).map fun x=>(F s u x).1)))),(11,.va (.c1 (.fz (v.l.map bK)))),(12,iS .i64 v.l.length),(13,iS .i64 i)])
  (fun i=>[tQ s (b || (v.l.take i).any fun x=>(F s u x).2),.cells [.vl (.int .i64 t.k),.vl (.int .i64 t.s),.vl (.string t.n),.fz (t.e.map aN)] 28,.cells [.vl (.int .i64 v.k),.vl (.int .i64 v.n),.vl (.string v.s),.fz (v.l.map bK),.fz (v.f.map cJ)] 32])
  (fun i=>i<=v.l.length) (fun i=>v.l.length - i) 0 3 (Nat.zero_le _) ?_ ?_ ?_
 · simp -dsimp only [go_sem]<;>simp [d8]
 · simp -dsimp only [go_sem]<;>simp
 intro i hi
 have hci:=pE (fun x=>(F s u x).1) v.l i
 rcases bF i v.l.length with hlt | hge
 · have hg:decide ((i:Int) < (v.l.length:Int))=true:=by simp; omega
   have hx:v.l[i]? = some v.l[i]:=aW hlt
   have q2:=aY (row:=bK) hx
   have hxo:=hvl _ (List.getElem_mem hlt)
   have hxD:=hD _ (List.getElem_mem hlt)
   have hcn:=E4 (fun x=>(F s u x).1) hx
   have han:(v.l.take (i + 1)).any (fun x=>(F s u x).2)=((v.l.take i).any (fun x=>(F s u x).2) || (F s u v.l[i]).2):=by rw [List.take_add_one,hx,List.any_append]; simp
   have hc1:=pE (fun x=>(F s u x).1) v.l (i + 1)
   generalize v.l[i]=x at *
   have z0:(0:Int) < ((1:Nat):Int):=by decide
   have z1:(0:Int)<=0:=by decide
   cases hc:decide (0 < (i:Int)) with
   | true=>
    rw [hc,aI] at hcn
    rw [hcn] at hc1
    simp only [List.length_append] at hc1
    simp (maxSteps:=1000000) -dsimp only [go_sem,hg,↓q2,aX x,hc,List.take_succ_cons,List.take_zero,List.length_cons]
    refine ⟨⟨by omega,by omega⟩,by omega,aF rfl (.done ?_)⟩
    simp (maxSteps:=1000000) -dsimp only [go_sem,zH,he,aO u,NH,HM,forall_eq',z0,z1,List.length_cons,List.length_nil,List.take_succ_cons,List.take_zero]
    refine tT hs hu hxo hxD ?_
    simp (maxSteps:=1000000) -dsimp only [go_sem]
    refine ⟨by simp only [List.length_cons,List.length_nil] at hc1; omega,⟨by omega,by omega⟩,aC (i + 1) 3 (by omega) (by omega) ?_ ?_⟩
    · simp -dsimp only [go_sem,hcn]<;>simp
    · simp -dsimp only [go_sem,han]<;>simp [he,aO u,Bool.or_assoc]
   | false=>
    rw [hc,aD] at hcn
    rw [hcn] at hc1
    simp only [List.length_append] at hc1
    simp (maxSteps:=1000000) -dsimp only [go_sem,hg,↓q2,aX x,hc,List.take_succ_cons,List.take_zero,List.length_cons]
    refine ⟨⟨by omega,by omega⟩,aF rfl (.done ?_)⟩
    simp (maxSteps:=1000000) -dsimp only [go_sem,zH,he,aO u,NH,HM,forall_eq',z0,z1,List.length_cons,List.length_nil,List.take_succ_cons,List.take_zero]
    refine tT hs hu hxo hxD ?_
    simp (maxSteps:=1000000) -dsimp only [go_sem]
    refine ⟨by simp only [List.length_nil] at hc1; omega,⟨by omega,by omega⟩,aC (i + 1) 3 (by omega) (by omega) ?_ ?_⟩
    · simp -dsimp only [go_sem,hcn]<;>simp
    · simp -dsimp only [go_sem,han]<;>simp [he,aO u,Bool.or_assoc]
 · have hg:decide ((i:Int) < (v.l.length:Int))=false:=by simp; omega
   rw [List.take_of_length_le hge] at hci ⊢
   simp (maxSteps:=1000000) -dsimp only [go_sem,hg]
   refine ⟨by omega,.sel [0] (by simp) (by simp) rfl (.done ?_)⟩
   simp (maxSteps:=1000000) -dsimp only [go_sem]
   simpa using hK
end Go.Proofs.YtkpohmhenegkiaaGreatDoor
namespace Go.Proofs.YtkpohmhenegkiaaGreatDoor
open Go.W
attribute [-go_sem] cL cR cM fB cY iQ
def HQ (D:Sc->Ty->Vl->Prop) (F:gB):cS:=(103,.s zB) :: (104,.s BS) :: I5 D F
theorem PB {D:Sc->Ty->Vl->Prop} {F:gB} (h:FmtM D F):dW Tryz.prog (HQ D F):=aB oI (aB s9 (sJ h))
theorem M5 (D:Sc->Ty->Vl->Prop) (F:gB):sp (HQ D F) 24=mU:=rfl
theorem aCC (D:Sc->Ty->Vl->Prop) (F:gB):sp (HQ D F) 103=zB:=rfl
theorem M6 (D:Sc->Ty->Vl->Prop) (F:gB):sp (HQ D F) 104=BS:=rfl
theorem KN (D:Sc->Ty->Vl->Prop) (F:gB) (k:Int):sp (HQ D F) (iC k)=jH D F (iC k):=by
 unfold iC
 cases k == 1<;>cases k == 4<;>cases k == 7<;>cases k == 5<;>cases k == 6<;>rfl
def bH (u:St) (n:Int):Fl:=(fF u.fs n).getD default
def w4 (F:gB) (s:Sc) (u:St) (x:Int × Vl):List UInt8:=bl (bH u x.1).nm ++ [32,61,32] ++ (F s (bH u x.1).ty x.2).1
def jS (F:gB) (s:Sc) (u:St) (l:List (Int × Vl)):List UInt8 × Bool:=([123] ++ d8 false (l.map (w4 F s u)) ++ [125],l.any fun x=>(F s (bH u x.1).ty x.2).2)
theorem LX {u:St} (hu:u.ok) (n:Int):(bH u n).ok:=by
 unfold bH
 cases h:fF u.fs n with
 | none=>exact ⟨⟨by decide,by decide⟩,by decide,.mk ⟨by decide,by decide⟩ ⟨by decide,by decide⟩ (by decide) (by decide) (fun _ h=>by cases h)⟩
 | some d=>exact hu.fs d (List.mem_of_find?_eq_some h)
theorem UD {s:Sc} (hs:s.fit) (t:Ty):∀ f ∈ (stOf s t).fs,TySm f.ty:=by
 unfold stOf
 cases h:fS s.ss t.n with
 | none=>exact fun _ h=>(by cases h)
 | some u=>exact (hs.sm u (List.mem_of_find?_eq_some h)).2
theorem IA {t:St} {k:Int} {K:S->Hp->Prop} (h:t.ok) (h2:∀ f ∈ t.fs,TySm f.ty) (hK:K (.tu [.gs (aZ (bH t k)),bA (fF t.fs k).isSome]) []):BS [.va (.gs [.vl (.string t.nm),.fz (t.fs.map aZ)]),iS .i64 k] [] K:=⟨t,k,rfl,rfl,h,h2,hK⟩
theorem FP {D:Sc->Ty->Vl->Prop} {F:gB} (hF:FmtM D F):Meets Tryz.prog 62 (pN (fun s t v=>(∀ x ∈ v.f,D s (bH (stOf s t) x.1).ty x.2)/\(jS F s (stOf s t) v.f).1.length<=100000000000000) fun s t v=>jS F s (stOf s t) v.f):=by
 refine aE Tryz.func62 aR0 3 (by rw [Tryz.ntmps62]; decide) (PB hF) qL ?_
 rintro av H K ⟨s,t,v,b,rfl,rfl,hs,ht,hv,⟨hD,hlen⟩,hK⟩
 have hK:K (tS (mk (jS F s (stOf s t) v.f).1)) [tQ s (b || (jS F s (stOf s t) v.f).2)]:=hK
 have hok:=lQ hs t
 have hll:=hv.lf
 have hvl:=hv.f
 have hvn:=hv.fn
 simp (maxSteps:=1000000) -dsimp only [go_sem,aO t,aX v,aIU,aFV,aCC]
 refine lS hs ?_
 rw [show (fS s.ss t.n).getD default=stOf s t from rfl]
 have hsu:=UD hs t
 generalize stOf s t=u at *
 unfold jS at hK hlen
 simp only [List.length_append,List.length_singleton] at hlen
 simp (maxSteps:=1000000) -dsimp only [go_sem,aP]
 refine aF rfl (.done ?_)
 simp (maxSteps:=1000000) -dsimp only [go_sem,KJ]
 refine aL (α:=Nat) (fun i=>[(0,.va (.c1 (.pt 0 0))),(7,.va (.c1 (.pt 3 0))),(9,tS (mk ([123] ++ d8 false ((v.f.take i).map (w4 F s u))))),(25,.va (.c1 (.fz (v.f.map cJ)))),(26,iS .i64 v.f.length),(27,iS .i64 i)])
  (fun i=>[tQ s (b || (v.f.take i).any fun x=>(F s (bH u x.1).ty x.2).2),.cells [.vl (.int .i64 t.k),.vl (.int .i64 t.s),.vl (.string t.n),.fz (t.e.map aN)] 28,.cells [.vl (.int .i64 v.k),.vl (.int .i64 v.n),.vl (.string v.s),.fz (v.l.map bK),.fz (v.f.map cJ)] 32,.cells [.vl (.string u.nm),.fz (u.fs.map aZ)] 95])
  (fun i=>i<=v.f.length) (fun i=>v.f.length - i) 0 4 (Nat.zero_le _) ?_ ?_ ?_
 · simp -dsimp only [go_sem]<;>simp [d8]
 · simp -dsimp only [go_sem]<;>simp
 intro i hi
 have hci:=pE (w4 F s u) v.f i
 rcases bF i v.f.length with hlt | hge
 · have hg:decide ((i:Int) < (v.f.length:Int))=true:=by simp; omega
   have hx:v.f[i]? = some v.f[i]:=aW hlt
   have q2:=aY (row:=cJ) hx
   have hxo:=hvl _ (List.getElem_mem hlt)
   have hxD:=hD _ (List.getElem_mem hlt)
   have hcn:=E4 (w4 F s u) hx
   have han:(v.f.take (i + 1)).any (fun x=>(F s (bH u x.1).ty x.2).2)=((v.f.take i).any (fun x=>(F s (bH u x.1).ty x.2).2) || (F s (bH u v.f[i].1).ty v.f[i].2).2):=by rw [List.take_add_one,hx,List.any_append]; simp
   have hc1:=pE (w4 F s u) v.f (i + 1)
   generalize v.f[i]=x at *
   obtain ⟨n,x⟩:=x
   have hdo:=LX hok n
   have hit:w4 F s u (n,x)=bl (bH u n).nm ++ [32,61,32] ++ (F s (bH u n).ty x).1:=rfl
   simp only at hxo hxD han
   simp (maxSteps:=1000000) -dsimp only [go_sem,hg,↓q2,cJ,aX x,List.take_succ_cons,List.take_zero,List.length_cons]
   refine ⟨⟨by omega,by omega⟩,aF rfl (.done ?_)⟩
   cases hc:decide (0 < (i:Int)) with
   | true=>
    rw [hc,aI] at hcn
    rw [hcn,hit] at hc1
    rw [hit] at hcn
    simp only [List.length_append,List.length_cons,List.length_nil] at hc1
    simp (maxSteps:=1000000) -dsimp only [go_sem,BD,hc]
    refine ⟨by omega,aF rfl (.done ?_)⟩
    simp (maxSteps:=1000000) -dsimp only [go_sem,A5,M6]
    refine IA hok hsu ?_
    generalize bH u n=d at *
    simp (maxSteps:=1000000) -dsimp only [go_sem,aZ]
    refine aF rfl (.done ?_)
    simp (maxSteps:=1000000) -dsimp only [go_sem,zP,M5,KN,List.length_cons,List.length_nil,List.take_succ_cons,List.take_zero]
    have hnm:(bl d.nm).length<=9223372036854775804:=by omega
    refine ⟨hnm,hnm,tT hs hdo.ty hxo hxD ?_⟩
    simp (maxSteps:=1000000) -dsimp only [go_sem]
    refine ⟨hnm,by omega,by omega,⟨by omega,by omega⟩,aC (i + 1) 4 (by omega) (by omega) ?_ ?_⟩
    · simp -dsimp only [go_sem,hcn]<;>simp
    · simp -dsimp only [go_sem,han]<;>simp [Bool.or_assoc]
   | false=>
    rw [hc,aD] at hcn
    rw [hcn,hit] at hc1
    rw [hit] at hcn
    simp only [List.length_append,List.length_cons,List.length_nil] at hc1
    simp (maxSteps:=1000000) -dsimp only [go_sem,BD,hc]
    refine aF rfl (.done ?_)
    simp (maxSteps:=1000000) -dsimp only [go_sem,A5,M6]
    refine IA hok hsu ?_
    generalize bH u n=d at *
    simp (maxSteps:=1000000) -dsimp only [go_sem,aZ]
    refine aF rfl (.done ?_)
    simp (maxSteps:=1000000) -dsimp only [go_sem,zP,M5,KN,List.length_cons,List.length_nil,List.take_succ_cons,List.take_zero]
    have hnm:(bl d.nm).length<=9223372036854775804:=by omega
    refine ⟨hnm,hnm,tT hs hdo.ty hxo hxD ?_⟩
    simp (maxSteps:=1000000) -dsimp only [go_sem]
    refine ⟨hnm,by omega,by omega,⟨by omega,by omega⟩,aC (i + 1) 4 (by omega) (by omega) ?_ ?_⟩
    · simp -dsimp only [go_sem,hcn]<;>simp
    · simp -dsimp only [go_sem,han]<;>simp [Bool.or_assoc]
 · have hg:decide ((i:Int) < (v.f.length:Int))=false:=by simp; omega
   rw [List.take_of_length_le hge] at hci ⊢
   simp (maxSteps:=1000000) -dsimp only [go_sem,hg]
   refine ⟨by omega,.sel [0] (by simp) (by simp) rfl (.done ?_)⟩
   simp (maxSteps:=1000000) -dsimp only [go_sem]
   simpa using hK
end Go.Proofs.YtkpohmhenegkiaaGreatDoor
namespace Go.Proofs.YtkpohmhenegkiaaGreatDoor
open Go.W
attribute [-go_sem] cL cR cM fB cY iQ
def fP:Nat->gB
 | 0=>fun _ _ _=>([],false)
 | N + 1=>fun s t v=>bif t.k == 1 then (uF v.n,false) else bif t.k == 4 then (oA (bl v.s),oA (bl v.s) == []) else bif t.k == 7 then (bl (jI (enOf s t).ns v.n (enOf s t).vs 0),false)
  else bif t.k == 5 then nG (fP N) s (t.e.headD default) v.l else bif t.k == 6 then jS (fP N) s (stOf s t) v.f else (dS v.n,false)
theorem jV (N:Nat) (s:Sc) (t:Ty) (v:Vl):fP (N + 1) s t v=bif t.k == 1 then (uF v.n,false) else bif t.k == 4 then (oA (bl v.s),oA (bl v.s) == []) else bif t.k == 7 then (bl (jI (enOf s t).ns v.n (enOf s t).vs 0),false)
 else bif t.k == 5 then nG (fP N) s (t.e.headD default) v.l else bif t.k == 6 then jS (fP N) s (stOf s t) v.f else (dS v.n,false):=rfl
def dF:Nat->Sc->Ty->Vl->Prop
 | 0,_,_,_=>False
 | N + 1,s,t,v=>((t.k == 4)=true->(bl v.s).length<=100000)/\((t.k == 5)=true->∃ u,t.e=[u]/\TyOk u/\∀ x ∈ v.l,dF N s u x)/\((t.k == 6)=true->∀ x ∈ v.f,dF N s (bH (stOf s t) x.1).ty x.2)/\(fP (N + 1) s t v).1.length<=100000000000000
theorem nL {f:FuncId} {D D':Sc->Ty->Vl->Prop} {F F':gB} (h:Meets Tryz.prog f (pN D F)) (hd:∀ s t v,D' s t v->D s t v/\F s t v=F' s t v):Meets Tryz.prog f (pN D' F'):=
 eU (0:Nat) (fun (_:Nat)=>h) fun av H K ⟨s,t,v,b,h1,h2,h3,h4,h5,h6,h7⟩=>⟨0,s,t,v,b,h1,h2,h3,h4,h5,(hd s t v h6).1,by rw [(hd s t v h6).2]; exact h7⟩
theorem n7 (k:Int):(iC k=54->(k == 1)=true)/\(iC k=56->(k == 1)=false/\(k == 4)=true)/\(iC k=58->(k == 1)=false/\(k == 4)=false/\(k == 7)=true)/\
 (iC k=60->(k == 1)=false/\(k == 4)=false/\(k == 7)=false/\(k == 5)=true)/\(iC k=62->(k == 1)=false/\(k == 4)=false/\(k == 7)=false/\(k == 5)=false/\(k == 6)=true)/\
 (iC k=64->(k == 1)=false/\(k == 4)=false/\(k == 7)=false/\(k == 5)=false/\(k == 6)=false):=by
 unfold iC
 cases k == 1<;>cases k == 4<;>cases k == 7<;>cases k == 5<;>cases k == 6<;>refine ⟨?_,?_,?_,?_,?_,?_⟩<;>intro h<;>first | (exact absurd h (by decide)) | simp
theorem nI {f:FuncId} {F:gB} {g:FuncId} (h:oO Tryz.prog f=true):Meets Tryz.prog f (jH (dF 0) F g):=⟨h,by rintro xs vs E ro w K _ _ _ ⟨_,_,_,_,_,_,_,_,_,⟨h,_⟩,_⟩; exact h.elim⟩
theorem aGJ:∀ N,FmtM (dF N) (fP N)
 | 0=>⟨nI (by kernel_rfl),nI (by kernel_rfl),nI (by kernel_rfl),nI (by kernel_rfl),nI (by kernel_rfl),nI (by kernel_rfl)⟩
 | N + 1=>by
  have ih:=aGJ N
  refine ⟨nL K7 ?_,nL K6 ?_,nL LD ?_,nL (K4 ih) ?_,nL (FP ih) ?_,nL FR ?_⟩
  · rintro s t v ⟨hD,hk⟩
    have h1:=(n7 t.k).1 hk
    exact ⟨trivial,by rw [jV,h1,aI]⟩
  · rintro s t v ⟨hD,hk⟩
    obtain ⟨h1,h2⟩:=(n7 t.k).2.1 hk
    exact ⟨hD.1 h2,by rw [jV,h1,h2]; rfl⟩
  · rintro s t v ⟨hD,hk⟩
    obtain ⟨h1,h2,h3⟩:=(n7 t.k).2.2.1 hk
    exact ⟨trivial,by rw [jV,h1,h2,h3]; rfl⟩
  · rintro s t v ⟨hD,hk⟩
    obtain ⟨h1,h2,h3,h4⟩:=(n7 t.k).2.2.2.1 hk
    have e:fP (N + 1) s t v=nG (fP N) s (t.e.headD default) v.l:=by rw [jV,h1,h2,h3,h4]; rfl
    obtain ⟨u,he,hu,hD1⟩:=hD.2.1 h4
    have hl:=hD.2.2.2
    rw [e,he,List.headD_cons] at hl
    exact ⟨⟨u,he,hu,hD1,hl⟩,e.symm⟩
  · rintro s t v ⟨hD,hk⟩
    obtain ⟨h1,h2,h3,h4,h5⟩:=(n7 t.k).2.2.2.2.1 hk
    have e:fP (N + 1) s t v=jS (fP N) s (stOf s t) v.f:=by rw [jV,h1,h2,h3,h4,h5]; rfl
    have hl:=hD.2.2.2
    rw [e] at hl
    exact ⟨⟨hD.2.2.1 h5,hl⟩,e.symm⟩
  · rintro s t v ⟨hD,hk⟩
    obtain ⟨h1,h2,h3,h4,h5⟩:=(n7 t.k).2.2.2.2.2 hk
    exact ⟨trivial,by rw [jV,h1,h2,h3,h4,h5]; rfl⟩
end Go.Proofs.YtkpohmhenegkiaaGreatDoor
