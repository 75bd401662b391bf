/- Lemmas and walks for the proof. -/
import Derived.Test.YtkpohmhenegkiaaGreatDoorSd
import Derived.Test.YtkpohmhenegkiaaGreatDoorProg
import Derived.Shelf.Strconv.Itoa4
set_option maxRecDepth 100000
set_option maxHeartbeats 8000000
namespace Go.Proofs.YtkpohmhenegkiaaGreatDoor
open Go.W
theorem FP:TyOk default:=.mk (by unfold b6; decide) (by unfold b6; decide) (by decide) (by decide) (fun _ h=>by cases h)
theorem aE6 {fs:List Fl} {u:St} (hu:u.ok) (e:fs=u.fs) (k:Int):TyOk ((fF fs k).getD default).ty:=by
 subst e
 cases hf:fF u.fs k with
 | none=>exact FP
 | some g=>exact (hu.fs g (List.mem_of_find?_eq_some hf)).ty
theorem PH (N:Nat) (hc:Meets Tryz.prog 53 (gX (ckH N) XG).sp):Meets Tryz.prog 94 (gX (fun _ _ v=>v.h<=N + 1) fun s t v=>.int .i64 (MI s t v)).sp:=by
 refine aE Tryz.func94 aLN 3 (by rw [Tryz.ntmps94]; decide) (aG hc (aB m7 (aG aC9 (aB rH (aA _))))) kK ?_
 intro av H K h
 obtain ⟨s,t,v,rfl,rfl,hs,ht,hv,hh,hK⟩:=iQ h
 clear h
 have fin:∀ (z:Int) (R:Hp),MI s t v=z->W.Fin 0 K (iS .i64 z) R:=fun z R h=>by
  rw [h] at hK; exact .sel [] (by simp) (by simp) rfl (.done (by simpa [go_sem] using hK))
 clear hK
 unfold MI at fin
 have hlf:=hv.lf
 have kS:=SK hs t.n
 have kE:=YT hv
 simp (maxSteps:=1000000) -dsimp only [go_sem,aF,aO t,aV v,aFS,aB1]
 refine kH (s:=s) hs ?_
 generalize (fS s.ss t.n).getD default=u at *
 obtain ⟨huo,hus⟩:u.ok/\∀ f ∈ u.fs,TySm f.ty:=by
  obtain ⟨w,hw,h1,h2⟩:=kS
  obtain rfl:=tO hw
  exact ⟨h1,h2⟩
 have kd:=aCE u
 have kv:=aD6 v.f
 rw [aP] at kS kd
 simp (maxSteps:=1000000) -dsimp only [go_sem,aP]
 refine aD rfl (.done ?_)
 cases h0:(v.n != 0 || !(bl v.s == []) || decide (0 < (v.l.length:Int)) || !(fI u.fs v.f)) with
 | true=>
  rw [h0] at fin
  cases h1:v.n != 0<;>cases h2:bl v.s == []<;>cases h3:decide (0 < (v.l.length:Int))<;>cases h4:fI u.fs v.f <;>
  first
   | (exfalso; rw [h1,h2,h3,h4] at h0; exact absurd h0 (by decide))
   | (simp (maxSteps:=1000000) -dsimp only [go_sem,xY,h1,h2,h3,h4,kS,kE,kd]
      exact fin _ _ rfl)
 | false=>
 rw [h0] at fin
 simp only [aI] at fin
 obtain ⟨h1,h2,h3,h4⟩:(v.n != 0)=false/\(bl v.s == [])=true/\decide (0 < (v.l.length:Int))=false/\fI u.fs v.f=true:=by
  simp only [Bool.or_eq_false_iff,Bool.not_eq_false'] at h0; exact ⟨h0.1.1.1,h0.1.1.2,h0.1.2,h0.2⟩
 simp (maxSteps:=1000000) -dsimp only [go_sem,xY,h1,h2,h3,h4,kS,kE,kd]
 refine aK (α:=Nat) (fun i=>[(3,.va (.c1 (.pt 0 0))),(4,.va (.c1 (.pt 1 0))),(5,.va (.c1 (.pt 2 0))),(7,.va (.c1 (.pt 3 0))),(44,.va (.c1 (.fz (v.f.map b8)))),(45,iS .i64 v.f.length),(46,iS .i64 i)]) (fun _=>[.cells (aF s) 105,.cells [.vl (.int .i64 t.k),.vl (.int .i64 t.s),.vl (.string t.n),.fz (t.e.map aN)] 28,.cells (bL v) 32,.cells (aP u) 95])
  (fun i=>i<=v.f.length/\jQ s u.fs (v.f.drop i)=jQ s u.fs v.f) (fun i=>v.f.length - i) 0 4 ⟨Nat.zero_le _,rfl⟩ ?_ ?_ ?_
 · simp -dsimp only [go_sem]<;>simp
 · simp -dsimp only [go_sem,bL,aF,aP]<;>simp
 rintro i ⟨hi,ho⟩
 rcases bE i v.f.length with hlt | hge
 · have hg:decide ((i:Int) < (v.f.length:Int))=true:=by simp; omega
   obtain ⟨x,hx⟩:∃ t,v.f[i]? = some t:=⟨_,aY hlt⟩
   have q1:=yM hx
   have hxm:=bK hx
   have k1:=fV (hv.f x hxm)
   have k2:=lO x.2
   have k3:x.2.h<=N:=by have:=Vl.h_f hxm; omega
   have hdr:v.f.drop i=x :: v.f.drop (i + 1):=by
    obtain ⟨h,rfl⟩:=aZ.1 hx
    exact List.drop_eq_getElem_cons h
   have k6:=i7 hs
   have k7:=m5 s
   rw [hdr,FB] at ho
   have hgo:=aE6 huo rfl x.1
   simp (maxSteps:=1000000) -dsimp only [go_sem,hg,↓q1,bL,aF,aP]
   refine ⟨by omega,aD rfl (.done ?_)⟩
   simp (maxSteps:=1000000) -dsimp only [go_sem,HF]
   refine KA (t:=u) huo hus ?_
   generalize (fF u.fs x.1).getD default=g at *
   have k4:=iB hgo
   have k5:=nC g.ty
   simp (maxSteps:=1000000) -dsimp only [go_sem,aX]
   refine aD rfl (.done ?_)
   simp (maxSteps:=1000000) -dsimp only [go_sem,FG,k1,k2,k3,k4,k5,k6,k7]
   refine aD rfl (.done ?_)
   cases h5:iX s g.ty x.2 != 0 with
   | true=>
    rw [h5,aL] at ho
    simp (maxSteps:=1000000) -dsimp only [go_sem,zM,h5]
    exact fin _ _ ho.symm
   | false=>
    rw [h5,aI] at ho
    simp (maxSteps:=1000000) -dsimp only [go_sem,zM,h5]
    refine ⟨by omega,aC (i + 1) 4 ⟨by omega,ho⟩ (by omega) ?_ ?_⟩
    · simp -dsimp only [go_sem]<;>simp
    · simp -dsimp only [go_sem,bL,aF,aP]<;>simp [bL,aF,aP]
 · have hg:decide ((i:Int) < (v.f.length:Int))=false:=by simp; omega
   obtain rfl:i=v.f.length:=by omega
   rw [List.drop_length,jQ] at ho
   simp (maxSteps:=1000000) -dsimp only [go_sem,hg,bL,aF,aP]
   exact fin _ _ ho.symm
theorem BW:∀ N,Meets Tryz.prog 53 (gX (ckH N) XG).sp
 | 0=>⟨by kernel_rfl,by rintro xs vs E ro w K _ _ _ h; obtain ⟨_,_,v,_,_,_,_,_,h,_⟩:=iQ h; have:=v.h_pos; have h:v.h<=0:=h; omega⟩
 | N + 1=>by
  refine aE Tryz.func53 aL8 3 (by rw [Tryz.ntmps53]; decide) (aG u6 (aG TA (aG aFX (aG (aEG N (BW N)) (aG (PH N (BW N)) (aA _)))))) kK ?_
  intro av H K h
  obtain ⟨s,t,v,rfl,rfl,hs,ht,hv,hh,hK⟩:=iQ h
  clear h
  have hh:v.h<=N + 1:=hh
  have fin:∀ (z:Int) (R:Hp),iX s t v=z->W.Fin 0 K (iS .i64 z) R:=fun z R h=>by
   have hK:K (iS .i64 (iX s t v)) []:=hK
   rw [h] at hK; exact .sel [] (by simp) (by simp) rfl (.done (by simpa [go_sem] using hK))
  clear hK
  rw [wU] at fin
  have k1:=fV hv
  have k2:=lO v
  have k4:=iB ht
  have k5:=nC t
  have k6:=i7 hs
  have k7:=m5 s
  cases h1:valF s.ss s.es t with
  | false=>
   rw [h1] at fin
   simp (maxSteps:=1000000) -dsimp only [go_sem,aF,aO t,aV v,wA,wF,k4,k5,k6,k7,h1]
   exact fin _ _ rfl
  | true=>
  cases h2:v.k != t.k with
  | true=>
   rw [h1,h2] at fin
   simp (maxSteps:=1000000) -dsimp only [go_sem,aF,aO t,aV v,wA,wF,k4,k5,k6,k7,h1,h2]
   exact fin _ _ rfl
  | false=>
  rw [h1,h2] at fin
  simp only [Bool.not_true,Bool.or_self,aI] at fin
  cases h4:t.k == 4 with
  | true=>
   rw [h4,aL] at fin
   simp (maxSteps:=1000000) -dsimp only [go_sem,aF,aO t,aV v,wA,wF,k1,k2,k4,k5,k6,k7,h1,h2,h4,List.all_cons,List.all_nil]
   exact fin _ _ rfl
  | false=>
  rw [h4,aI] at fin
  cases h5:t.k == 5 with
  | true=>
   rw [h5,aL] at fin
   simp (maxSteps:=1000000) -dsimp only [go_sem,aF,aO t,aV v,wA,wF,k1,k2,k4,k5,k6,k7,h1,h2,h4,h5,hh,List.all_cons,List.all_nil]
   exact fin _ _ rfl
  | false=>
  rw [h5,aI] at fin
  cases h6:t.k == 6 with
  | true=>
   rw [h6,aL] at fin
   simp (maxSteps:=1000000) -dsimp only [go_sem,aF,aO t,aV v,wA,wF,k1,k2,k4,k5,k6,k7,h1,h2,h4,h5,h6,hh,List.all_cons,List.all_nil]
   exact fin _ _ rfl
  | false=>
  rw [h6,aI] at fin
  simp (maxSteps:=1000000) -dsimp only [go_sem,aF,aO t,aV v,wA,wF,k1,k2,k4,k5,k6,k7,h1,h2,h4,h5,h6,List.all_cons,List.all_nil]
  exact fin _ _ rfl
def hY (s:Sc) (t:Ty) (v:Vl):Int:=bif decide (6 < rD 7 v) then 9 else iX s t v
theorem ZD:Meets Tryz.prog 53 (gX (fun _ _ _=>True) XG).sp:=eC 0 BW fun av H K h=>by
 obtain ⟨s,t,v,rfl,rfl,hs,ht,hv,_,hK⟩:=iQ h
 refine ⟨v.h,⟨⟨fC hs,dQ ht,AM hv,?_⟩,rfl⟩,?_⟩
 · show (C.vv (bJ v)).h<=v.h; rw [sJ]; exact Nat.le_refl _
 · simpa -dsimp only [go_sem] using hK
theorem AP:Meets Tryz.prog 23 (gX (fun _ _ _=>True) fun s t v=>.int .i64 (hY s t v)).sp:=by
 refine aE Tryz.func23 aPF 3 (by rw [Tryz.ntmps23]; decide) (aG (LG 8) (aG ZD (aA _))) kK ?_
 intro av H K h
 obtain ⟨s,t,v,rfl,rfl,hs,ht,hv,_,hK⟩:=iQ h
 clear h
 have fin:∀ (z:Int) (R:Hp),hY s t v=z->W.Fin 0 K (iS .i64 z) R:=fun z R h=>by
  rw [h] at hK; exact .sel [] (by simp) (by simp) rfl (.done (by simpa [go_sem] using hK))
 clear hK
 unfold hY at fin
 have k1:=fV hv
 have k2:=lO v
 have k4:=iB ht
 have k5:=nC t
 have k6:=i7 hs
 have k7:=m5 s
 have e8:((6:Int)=((8:Nat):Int) - 2)=True:=by decide
 have e9:iF 8 v=rD 7 v:=rfl
 cases h1:decide (6 < rD 7 v) with
 | true=>
  rw [h1] at fin
  simp (maxSteps:=1000000) -dsimp only [go_sem,aF,aO t,aV v,SY,S2,k1,k2,e8,e9,h1]
  exact fin _ _ rfl
 | false=>
  rw [h1] at fin
  simp (maxSteps:=1000000) -dsimp only [go_sem,aF,aO t,aV v,SY,S2,k1,k2,k4,k5,k6,k7,e8,e9,h1]
  exact fin _ _ rfl
theorem YJ:∀ (m:Nat) (r:List UInt8) (i:Nat) (out:List UInt8),r.length=m->(quoL i r out).1<=i + r.length:=by
 intro m
 induction m using Nat.strongRecOn with
 | ind m ih=>
  intro r i out hm
  cases r with
  | nil=>rw [nA]; exact Nat.le_add_right _ _
  | cons c r=>
   rw [eR]
   simp only [List.length_cons] at hm ⊢
   cases (decide (c < 32) || decide (126 < c)) with
   | true=>simp
   | false=>
    cases (c == 34) with
    | true=>simp
    | false=>
     cases (c == 92) with
     | true=>
      simp only [aI,aL]
      cases r with
      | nil=>simp
      | cons d r'=>
       simp only [List.length_cons] at hm ⊢
       cases (d == 34 || d == 92) with
       | true=>simp only [aL]; have:=ih r'.length (by omega) r' (i + 2) (out ++ [d]) rfl; omega
       | false=>simp
     | false=>
      simp only [aI]
      have:=ih r.length (by omega) r (i + 1) (out ++ [c]) rfl; omega
structure Told (l:List UInt8) (p:Nat) (k:Int) (x:List UInt8) (n:Int) (z:Nat):Prop where
 zero:k=0->p=l.length/\x=[]/\n=0
 one:k ≠ 0->∃ c,l[p]? = some c/\p < z/\z<=l.length/\0 < k/\k<=4/\32 < c.toNat/\c.toNat ≠ 35/\(c == 34)=(k == 3)/\(k == 1)=bB c.toNat
theorem yU {l:List UInt8} {a:Nat} (ha:a<=l.length):(∀ {e t},fG l a=.bad e t->0<=t/\t<=l.length)/\∀ {k x n z},fG l a=.ok k x n z->k=1:=by
 have:=mU (p:=aT) ha
 unfold fG
 simp only
 cases decide (16 < bD aT l a - a)<;>cases (l[bD aT l a]? == some 45)<;>simp [R.bad.injEq,R.ok.injEq]
 all_goals (intros; omega)
theorem rM {l:List UInt8} {a:Nat} {c:UInt8} (hc:l[a]? = some c):(∀ {e t},fB l a=.bad e t->0<=t/\t<=l.length)/\∀ {k x n z},fB l a=.ok k x n z->k=2:=by
 have hlt:a < l.length:=(aZ.1 hc).1
 have hge:(bif l[a]? == some 45 then a + 1 else a)<=l.length:=by cases (l[a]? == some 45)<;>simp<;>omega
 have hz2:=mU (p:=a8) hge
 unfold fB
 simp only
 generalize (List.drop (bif l[a]? == some 45 then a + 1 else a) (List.take (bD a8 l (bif l[a]? == some 45 then a + 1 else a)) l))=q
 cases (q == [] || (q[0]? == some 48 && (decide (1 < q.length) || l[a]? == some 45))) with
 | true=>simp only [aL,R.bad.injEq,reduceCtorEq,false_implies,implies_true,and_true]; rintro e t ⟨rfl,rfl⟩; omega
 | false=>
  simp only [aI]
  split
  · simp only [R.bad.injEq,reduceCtorEq,false_implies,implies_true,and_true]; rintro e t ⟨rfl,rfl⟩; omega
  · cases j8 l (bD a8 l (bif l[a]? == some 45 then a + 1 else a))<;>simp only [aL,aI,R.bad.injEq,R.ok.injEq,reduceCtorEq,false_implies,implies_true,and_true,true_and]
    · rintro k x n z ⟨rfl,_⟩; rfl
    · rintro e t ⟨rfl,rfl⟩; omega
theorem pR {l:List UInt8} {a:Nat} (ha:a < l.length):(∀ {e t},eP l a=.bad e t->0<=t/\t<=l.length)/\∀ {k x n z},eP l a=.ok k x n z->k=3:=by
 have:=YJ _ (l.drop (a + 1)) (a + 1) [] rfl
 simp only [List.length_drop] at this
 unfold eP
 split
 · rename_i i hq
   rw [hq] at this
   simp only at this
   constructor
   · intro e t h; simp only [R.bad.injEq] at h; omega
   · intro k x n z h; cases h
 · rename_i z o hq
   cases decide (200 < o.length)<;>simp [R.bad.injEq,R.ok.injEq]
   all_goals (intros; omega)
def LR (c:UInt8):Bool:=
 (!(bB c.toNat || a8 c || c == 45 || c == 34 || dT c.toNat) || (decide (32 < c.toNat) && c.toNat != 35)) && (!bB c.toNat || !(c == 34)) && (!(a8 c || c == 45) || !(c == 34)) && (!dT c.toNat || !(c == 34))
theorem P9 (c:UInt8):LR c=true:=cD (by decide +kernel) c
theorem nX {l:List UInt8} {p:Nat} (hp:p<=l.length):(∀ {e t},b9 l p=.bad e t->e ≠ 0/\0<=t/\t<=l.length)/\∀ {k x n z},b9 l p=.ok k x n z->Told l p k x n z:=by
 obtain ⟨hb,ho⟩:=xC hp
 refine ⟨fun {e t} h=>⟨hb h,?_⟩,fun {k x n z} h=>?_⟩
 · unfold b9 at h
   split at h
   · cases h
   · rename_i c hc
     have hlt:p < l.length:=(aZ.1 hc).1
     revert h
     cases bB c.toNat with
     | true=>exact fun h=>(yU hp).1 h
     | false=>
      cases (a8 c || c == 45) with
      | true=>exact fun h=>(rM hc).1 h
      | false=>
       cases (c == 34) with
       | true=>exact fun h=>(pR hlt).1 h
       | false=>
        cases dT c.toNat with
        | true=>intro h; cases h
        | false=>intro h; simp only [aI,R.bad.injEq] at h; omega
 · obtain ⟨o1,o2⟩:=ho h
   unfold b9 at h
   split at h
   · simp only [R.ok.injEq] at h
     exact ⟨fun h0=>⟨o1 h0,h.2.1.symm,h.2.2.1.symm⟩,fun h0=>absurd h.1.symm h0⟩
   · rename_i c hc
     have hlt:p < l.length:=(aZ.1 hc).1
     have hs:=P9 c
     unfold LR at hs
     have key:∀ {q:Int},k=q->0 < q->q<=4->(32 < c.toNat/\c.toNat ≠ 35)->(c == 34)=(q == 3)->(q == 1)=bB c.toNat->Told l p k x n z:=by
      rintro q rfl h1 h2 h3 h4 h5
      obtain ⟨h6,h7⟩:=o2 (by omega)
      exact ⟨fun h=>by omega,fun _=>⟨c,hc,h6,h7,h1,h2,h3.1,h3.2,h4,h5⟩⟩
     revert h hs
     cases hL:bB c.toNat with
     | true=>
      intro h hs
      simp at hs
      exact key ((yU hp).2 h) (by omega) (by omega) hs.1.1.1 (by simpa using hs.1.1.2) (by rw [hL]; rfl)
     | false=>
      cases hd:(a8 c || c == 45) with
      | true=>
       intro h hs
       have hd':a8 c=true\/c=45:=by simpa using hd
       simp only [Bool.false_or,hd,Bool.true_or,Bool.not_true,Bool.not_false,Bool.and_true,Bool.true_and,Bool.and_eq_true] at hs
       simp at hs
       exact key ((rM hc).2 h) (by omega) (by omega) hs.1.1 (by simpa using hs.1.2) (by rw [hL]; rfl)
      | false=>
       cases h4:(c == 34) with
       | true=>
        intro h hs
        have:c=34:=by simpa using h4
        subst this
        exact key ((pR hlt).2 h) (by omega) (by omega) (by decide) (by rfl) (by rw [hL]; rfl)
       | false=>
        cases hm:dT c.toNat with
        | true=>
         intro h hs
         simp only [Bool.false_or,hd,Bool.or_true,Bool.not_true,Bool.not_false,Bool.and_true,Bool.true_and,Bool.and_eq_true] at hs
         simp at hs
         simp only [aI,aL,R.ok.injEq] at h
         exact key h.1.symm (by omega) (by omega) hs (by rw [h4]; rfl) (by rw [hL]; rfl)
        | false=>intro h hs; cases h
def rU (l:List UInt8):Nat->List Tk->Prop
 | _,[]=>False
 | a,t :: ts=>a<=t.a/\t.a<=l.length/\∃ z,Told l t.a t.k t.x t.n z/\(t.k=0->ts=[])/\(t.k ≠ 0->rU l z ts)
theorem C8 {l:List UInt8}:∀ (f a:Nat) (ts:List Tk),a<=l.length->l.length < f + a->dG f l a=.ok ts->rU l a ts
 | 0,a,ts,ha,hf,h=>by omega
 | f + 1,a,ts,ha,hf,h=>by
  have hpl:bF l a<=l.length:=nF ha
  have hpa:a<=bF l a:=vM
  rw [dG] at h
  split at h
  · cases h
  · rename_i k x n z hR
    have ht:=(nX hpl).2 hR
    cases hk:k == 0 with
    | true=>
     rw [hk] at h
     simp only [aL,SR.ok.injEq] at h
     subst h
     exact ⟨hpa,hpl,z,ht,fun _=>rfl,fun h=>absurd (by simpa using hk) h⟩
    | false=>
     rw [hk] at h
     have hk':k ≠ 0:=by simpa using hk
     obtain ⟨c,_,h1,h2,_⟩:=ht.one hk'
     cases hr:dG f l z with
     | bad e t=>rw [hr] at h; cases h
     | ok us=>
      rw [hr] at h
      simp only [aI,SR.cons,SR.ok.injEq] at h
      subst h
      exact ⟨hpa,hpl,z,ht,fun h=>absurd h hk',fun _=>C8 f z us h2 (by omega) hr⟩
theorem FT {l:List UInt8}:∀ (f a:Nat) (e t:Int),a<=l.length->dG f l a=.bad e t->e ≠ 0/\0<=t/\t<=l.length
 | 0,a,e,t,ha,h=>by cases h
 | f + 1,a,e,t,ha,h=>by
  have hpl:bF l a<=l.length:=nF ha
  rw [dG] at h
  split at h
  · rename_i e' t' hR
    have:=(nX hpl).1 hR
    simp only [SR.bad.injEq] at h
    obtain ⟨rfl,rfl⟩:=h; exact this
  · rename_i k x n z hR
    have ht:=(nX hpl).2 hR
    cases hk:k == 0 with
    | true=>rw [hk] at h; cases h
    | false=>
     rw [hk] at h
     have hk':k ≠ 0:=by simpa using hk
     obtain ⟨c,_,h1,h2,_⟩:=ht.one hk'
     cases hr:dG f l z with
     | bad e' t'=>rw [hr] at h; simp only [aI,SR.cons,SR.bad.injEq] at h; obtain ⟨rfl,rfl⟩:=h; exact FT f z _ _ h2 hr
     | ok us=>rw [hr] at h; cases h
theorem MC (l:List UInt8):(aU l).err ≠ 0/\(aU l).toks=[]/\0<=(aU l).off/\(aU l).off<=l.length\/(aU l).err=0/\(aU l).off=0/\l.length<=4000/\rU l 0 (aU l).toks:=by
 unfold aU
 cases h:decide (4000 < l.length) with
 | true=>left; exact ⟨by simp [SR.err],rfl,by simp [SR.off],by simp [SR.off]⟩
 | false=>
  have h4:l.length<=4000:=by simpa using h
  simp only [aI]
  cases hr:dG (l.length + 1) l 0 with
  | bad e t=>left; obtain ⟨h1,h2,h3⟩:=FT _ _ _ _ (by omega) hr; exact ⟨h1,rfl,h2,h3⟩
  | ok ts=>right; exact ⟨rfl,rfl,h4,C8 _ _ _ (by omega) (by omega) hr⟩
theorem LJ {l:List UInt8} {a:Nat} {ts:List Tk} (h:rU l a ts):0 < ts.length:=by
 cases ts with
 | nil=>exact h.elim
 | cons t ts=>simp
theorem GW {l:List UInt8}:∀ {a:Nat} {ts:List Tk},rU l a ts->ts.length + a<=l.length + 1
 | a,[],h=>h.elim
 | a,t :: ts,⟨h1,h2,z,h3,h4,h5⟩=>by
  rcases Decidable.em (t.k=0) with h0 | h0
  · rw [h4 h0]; simp only [List.length_cons,List.length_nil]; omega
  · obtain ⟨c,_,g1,_⟩:=h3.one h0
    have:=GW (h5 h0)
    simp only [List.length_cons]; omega
theorem K7 {l:List UInt8}:∀ {a:Nat} {ts:List Tk} {i:Nat} {t:Tk},rU l a ts->ts[i]? = some t->
 a<=t.a/\t.a<=l.length/\(∃ z,Told l t.a t.k t.x t.n z)/\(t.k=0 ↔ i + 1=ts.length)/\∀ u,0 < i->ts[i - 1]? = some u->u.a < t.a
 | a,[],i,t,h,_=>h.elim
 | a,s :: ts,0,t,⟨h1,h2,z,h3,h4,h5⟩,hi=>by
  simp at hi; subst hi
  refine ⟨h1,h2,⟨z,h3⟩,⟨fun h=>by rw [h4 h]; rfl,fun h=>?_⟩,fun u h=>by omega⟩
  rcases Decidable.em (s.k=0) with h0 | h0
  · exact h0
  · have:=LJ (h5 h0); simp only [List.length_cons] at h; omega
 | a,s :: ts,i + 1,t,⟨h1,h2,z,h3,h4,h5⟩,hi=>by
  simp at hi
  have h0:s.k ≠ 0:=fun h=>by rw [h4 h] at hi; simp at hi
  obtain ⟨c,_,g1,g2,_⟩:=h3.one h0
  obtain ⟨q1,q2,q3,q4,q5⟩:=K7 (h5 h0) hi
  refine ⟨by omega,q2,q3,by rw [q4]; simp,fun u _ hu=>?_⟩
  simp only [Nat.add_sub_cancel] at hu
  cases i with
  | zero=>simp at hu; subst hu; omega
  | succ i=>simp at hu; exact q5 u (by omega) (by simpa using hu)
def EA:List S->Prop:=fun xs=>match xs with
 | [.va (.c1 (.vl (.string s))),.va (.c1 (.vl (.int .i64 a)))]=>0<=a/\a<=(bl s).length/\(bl s).length<=4000
 | _=>False
theorem pM {xs:List S} (h:EA xs):∃ s a,xs=[tS s,iS .i64 a]/\0<=a/\a<=(bl s).length/\(bl s).length<=4000:=by
 unfold EA at h
 split at h
 · exact ⟨_,_,rfl,h⟩
 · exact h.elim
def VC (f:List UInt8->Nat->Value):List S->A:=fun xs=>match xs with
 | [.va (.c1 (.vl (.string s))),.va (.c1 (.vl (.int .i64 a)))]=>.c1 (.vl (f (bl s) a.toNat))
 | _=>.gs []
def SH (f:List UInt8->Nat->Value):Fun:=⟨EA,VC f,fun xs h=>by obtain ⟨s,a,rfl,_⟩:=pM h; trivial⟩
theorem TR {f:List UInt8->Nat->Value}:∀ xs H K,(SH f).sp xs H K->xs.length=2:=fun xs H K h=>by obtain ⟨s,a,rfl,_⟩:=pM h.1.1; rfl
attribute [go_sem] SH EA VC
theorem aAM:Meets Tryz.prog 35 (SH fun l a=>.int .i64 (bF l a)).sp:=by
 refine aE Tryz.func35 aLA 2 (by rw [Tryz.ntmps35]; decide) (aA _) TR ?_
 rintro xs H K ⟨⟨h,rfl⟩,hK⟩
 obtain ⟨s,a,rfl,h0,h1,h2⟩:=pM h
 simp -dsimp only [go_sem,aGB,aA7] at hK ⊢
 have h10:∀ c:UInt8,((c.toNat:Int) == 10)=(c == 10):=fun c=>dJ 10
 have h35:∀ c:UInt8,((c.toNat:Int) == 35)=(c == 35):=fun c=>dJ 35
 have h32:∀ c:UInt8,((c.toNat:Int) == 32)=(c == 32):=fun c=>dJ 32
 have h9:∀ c:UInt8,((c.toNat:Int) == 9)=(c == 9):=fun c=>dJ 9
 refine aK (α:=Bool × Nat) (fun z=>[(0,tS s),(1,iS .i64 z.2),(5,bS z.1)]) (fun z=>[]) (fun z=>z.2<=(bl s).length/\z.2 + cV z.1 ((bl s).drop z.2)=bF (bl s) a.toNat) (fun z=>(bl s).length - z.2) (false,a.toNat) 0 ⟨by simp only; omega,rfl⟩ ?_ ?_ ?_
 · simp -dsimp only [go_sem]; simp [Int.toNat_of_nonneg h0]
 · simp [go_sem]
 rintro ⟨r,i⟩ ⟨hi,hr⟩
 simp only at hi hr
 simp -dsimp only [go_sem,bne,h10,h35,h32,h9]
 refine ⟨fun hlt=>⟨⟨by omega,by simpa using hlt⟩,fun c hc=>?_⟩,fun hge=>bP hK ?_⟩
 · have hlt:i < (bl s).length:=(aZ.1 hc).1
   rw [bW hc] at hr
   simp only [cV] at hr
   have hstep:∀ r':Bool,(bif c == 35 then true else bif c == 10 then false else r)=r'->(!r' && !(c == 32 || c == 9 || c == 10))=false->i + 1 + cV r' ((bl s).drop (i + 1))=bF (bl s) a.toNat:=by
    rintro r' rfl h
    rw [h,aI] at hr
    omega
   have hend:∀ r':Bool,(bif c == 35 then true else bif c == 10 then false else r)=r'->(!r' && !(c == 32 || c == 9 || c == 10))=true->i=bF (bl s) a.toNat:=by
    rintro r' rfl h
    rw [h,aL] at hr
    omega
   refine ⟨fun q1=>⟨fun q2=>?_,fun q2=>⟨fun q3=>?_,fun q3=>⟨by omega,aC (false,i + 1) 0 ⟨by simp only; omega,hstep _ (by simp [q1,q2]) (by simp [q1])⟩ (by simp only; omega) ?_ ?_⟩⟩⟩,
    fun q1=>⟨fun q2=>⟨by omega,aC (true,i + 1) 0 ⟨by simp only; omega,hstep _ (by simp [q2]) (by simp)⟩ (by simp only; omega) ?_ ?_⟩,
     fun q2=>⟨fun q3=>?_,fun q3=>⟨by omega,aC (r,i + 1) 0 ⟨by simp only; omega,hstep _ (by simp [q1,q2]) (by simpa [Bool.and_assoc] using q3)⟩ (by simp only; omega) ?_ ?_⟩⟩⟩⟩
   · exfalso
     have e1:c=10:=by simpa using q1
     subst e1; cases q2
   · simp [q1] at q3
   · simp -dsimp only [go_sem]; simp
   · simp [go_sem]
   · simp -dsimp only [go_sem]; simp
   · simp [go_sem]
   · refine bP hK ?_
     rw [<-hend r (by simp [q1,q2]) (by simpa [Bool.and_assoc] using q3)]
   · simp -dsimp only [go_sem]; simp
   · simp [go_sem]
 · have:i=(bl s).length:=by simp at hge; omega
   subst this
   simp [cV] at hr
   rw [<-hr]
def wN (pre:List UInt8->Nat->Prop) (post:ByteArray->Int->(S->Hp->Prop)->Prop):W.Spec:=fun xs H K=>
 match xs,H with
 | [.va (.c1 (.vl (.string s))),.va (.c1 (.vl (.int .i64 a)))],[]=>(0<=a/\a<=(bl s).length/\(bl s).length<=4000/\pre (bl s) a.toNat)/\post s a K
 | _,_=>False
theorem nN {pre:List UInt8->Nat->Prop} {post:ByteArray->Int->(S->Hp->Prop)->Prop} {xs:List S} {H:Hp} {K:S->Hp->Prop} (h:wN pre post xs H K) :
 ∃ s a,xs=[tS s,iS .i64 a]/\H=[]/\0<=a/\a<=(bl s).length/\(bl s).length<=4000/\pre (bl s) a.toNat/\post s a K:=by
 unfold wN at h
 split at h
 · exact ⟨_,_,rfl,rfl,h.1.1,h.1.2.1,h.1.2.2.1,h.1.2.2.2,h.2⟩
 · exact h.elim
theorem wO {pre:List UInt8->Nat->Prop} {post:ByteArray->Int->(S->Hp->Prop)->Prop}:∀ xs H K,wN pre post xs H K->xs.length=2:=fun xs H K h=>by
 obtain ⟨s,a,rfl,_⟩:=nN h; rfl
attribute [go_sem ↓] wN
def Got:R->ByteArray->Int->Int->Int->Int->Prop
 | .ok _ x n z,x',n',z',e',t'=>x'=mk x/\n'=n/\z'=z/\e'=0/\t'=0
 | .bad e t,_,_,_,e',t'=>e'=e/\t'=t
def N2:W.Spec:=wN (fun _ _=>True) fun s a K=>∀ x n z e t,Got (fG (bl s) a.toNat) x n z e t->z=bD aT (bl s) a.toNat->K (.tu [iA .i64 z,iA .i64 e,iA .i64 t]) []
attribute [go_sem ↓] N2
theorem aBU:Meets Tryz.prog 37 N2:=by
 refine aE Tryz.func37 aND 2 (by rw [Tryz.ntmps37]; decide) (aG GJ (aA _)) wO ?_
 intro xs H K h
 obtain ⟨s,a,rfl,rfl,h0,h1,h2,-,hK⟩:=nN h
 simp -dsimp only [go_sem,aA3,aFV] at hK ⊢
 have h45:∀ c:UInt8,((c.toNat:Int) == 45)=(c == 45):=fun c=>dJ 45
 refine aK (α:=Nat) (fun z=>[(0,tS s),(1,iS .i64 a),(7,iS .i64 z)]) (fun z=>[]) (fun z=>a.toNat<=z/\z<=(bl s).length/\bD aT (bl s) z=bD aT (bl s) a.toNat) (fun z=>(bl s).length - z) a.toNat 0 ⟨by omega,by omega,rfl⟩ ?_ ?_ ?_
 · simp -dsimp only [go_sem]; simp [Int.toNat_of_nonneg h0]
 · simp [go_sem]
 rintro i ⟨hai,hi,hr⟩
 simp -dsimp only [go_sem,bne,h45]
 refine ⟨fun hlt=>⟨by omega,by simpa using hlt⟩,fun c hc=>⟨fun _=>by have:=c.toNat_lt; omega,fun h3=>?_,fun h3=>?_⟩⟩
 · simp only [Bool.and_eq_true,decide_eq_true_eq] at h3
   have hc:=hc (by simpa using h3.1)
   have hlt:i < (bl s).length:=(aZ.1 hc).1
   refine ⟨by omega,aC (i + 1) 0 ⟨by omega,hlt,by rw [gJ hc h3.2,hr]⟩ (by omega) ?_ ?_⟩
   · simp -dsimp only [go_sem]; simp
   · simp [go_sem]
 · have hz:bD aT (bl s) a.toNat=i:=by
    rw [<-hr]
    refine lC fun d hd=>?_
    have hlt:i < (bl s).length:=(aZ.1 hd).1
    have hd2:=hc (by simp; omega)
    rw [hd] at hd2; obtain rfl:=bG hd2
    have hlt2:decide ((i:Int) < (bl s).length)=true:=by simp; omega
    rw [hlt2,Bool.true_and] at h3
    exact h3
   simp only [fG,hz] at hK
   refine ⟨by omega,fun h4=>.done (hK (mk []) 0 _ _ _ ?_ rfl),fun h4=>⟨fun hlt=>⟨by omega,by simpa using hlt⟩,fun d hd=>⟨fun h5=>.done (hK (mk []) 0 _ _ _ ?_ rfl),fun h5=>.done (hK (mk (List.drop a.toNat (List.take i (bl s)))) 0 _ _ _ ?_ rfl)⟩⟩⟩
   · have:decide (16 < i - a.toNat)=true:=by simp at h4 ⊢; omega
     rw [this]; exact ⟨rfl,by simp; omega⟩
   all_goals
    have:decide (16 < i - a.toNat)=false:=by simp at h4 ⊢; omega
    rw [this]
   · simp only [Bool.and_eq_true] at h5
     have:=hd h5.1
     simp only [aI,this]
     rw [show (some d == some 45)=(d == 45) from rfl,h5.2]
     exact ⟨rfl,rfl⟩
   · have:((bl s)[i]? == some 45)=false:=by
      cases he:(bl s)[i]? with
      | none=>rfl
      | some e=>
       have hlt:i < (bl s).length:=(aZ.1 he).1
       have hd2:=hd (by simp; omega)
       rw [he] at hd2; obtain rfl:=bG hd2
       have hlt2:decide ((i:Int) < (bl s).length)=true:=by simp; omega
       rw [hlt2,Bool.true_and] at h5
       exact h5
     rw [this]
     exact ⟨rfl,rfl,rfl,rfl,rfl⟩
def decV:Nat->List UInt8->Nat
 | n,[]=>n
 | n,c :: l=>decV (10 * n + (c.toNat - 48)) l
theorem j9 (n:Nat):decV n []=n:=by rw [decV.eq_def]
theorem fT (n:Nat) (c:UInt8) (l:List UInt8):decV n (c :: l)=decV (10 * n + (c.toNat - 48)) l:=by rw [decV.eq_def]
theorem tK:∀ (l:List UInt8) (n:Nat),n<=decV n l
 | [],n=>by rw [j9]; exact Nat.le_refl n
 | c :: l,n=>by have:=tK l (10 * n + (c.toNat - 48)); rw [fT]; omega
theorem OE (lim n:Nat) (c:UInt8) (l:List UInt8):valL lim n (c :: l)=if (lim - (c.toNat - 48)) / 10 < n then none else valL lim (10 * n + (c.toNat - 48)) l:=by rw [valL.eq_def]
theorem vS {lim:Nat} (h9:9<=lim):∀ (l:List UInt8) (n:Nat),n<=lim->(∀ c ∈ l,a8 c=true)->valL lim n l=bif decide (decV n l<=lim) then some (decV n l) else none
 | [],n,hn,_=>by rw [j9,valL.eq_def]; simp [hn]
 | c :: l,n,hn,hd=>by
  have hc:=iI.1 (hd c (by simp))
  rw [OE,fT]
  generalize c.toNat=d at hc ⊢
  by_cases h:(lim - (d - 48)) / 10 < n
  · have:=tK l (10 * n + (d - 48))
    have h2:decide (decV (10 * n + (d - 48)) l<=lim)=false:=by simp only [decide_eq_false_iff_not]; omega
    rw [if_pos h,h2]; rfl
  · rw [if_neg h]
    exact vS h9 l _ (by omega) (fun x hx=>hd x (by simp [hx]))
def m2 (l:List UInt8):Int × Int:=
 let neg:=l[0]? == some 45
 let s:=l.drop (bif neg then 1 else 0)
 bif s == [] || (s[0]? == some 48 && (decide (1 < s.length) || neg)) then (0,2)
 else match valL (bX neg) 0 s with
  | none=>(0,1)
  | some n=>(signed neg n,0)
def rN:W.Spec:=fun xs H K=>
 match xs,H with
 | [.va (.c1 (.vl (.string s)))],[]=>((bl s).length<=4000/\∀ c ∈ (bl s).drop (bif (bl s)[0]? == some 45 then 1 else 0),a8 c=true)/\K (.tu [iA .i64 (m2 (bl s)).1,iA .i64 (m2 (bl s)).2]) []
 | _,_=>False
theorem uM {xs:List S} {H:Hp} {K:S->Hp->Prop} (h:rN xs H K):∃ s,xs=[tS s]/\H=[]/\(bl s).length<=4000/\(∀ c ∈ (bl s).drop (bif (bl s)[0]? == some 45 then 1 else 0),a8 c=true)/\K (.tu [iA .i64 (m2 (bl s)).1,iA .i64 (m2 (bl s)).2]) []:=by
 unfold rN at h
 split at h
 · exact ⟨_,rfl,rfl,h.1.1,h.1.2,h.2⟩
 · exact h.elim
attribute [go_sem ↓] rN
theorem aIT:Meets Tryz.prog 83 rN:=by
 refine aE Tryz.func83 aOR 1 (by rw [Tryz.ntmps83]; decide) (aG yF (aA _)) (fun xs H K h=>by obtain ⟨s,rfl,_⟩:=uM h; rfl) ?_
 intro xs H K h
 obtain ⟨s,rfl,rfl,h0,hd,hK⟩:=uM h
 have h45:∀ c:UInt8,((c.toNat:Int) == 45)=(c == 45):=fun c=>dJ 45
 have h48:∀ c:UInt8,((c.toNat:Int) == 48)=(c == 48):=fun c=>dJ 48
 generalize hneg:((bl s)[0]? == some 45)=neg at hd
 generalize hf:(bif neg then 1 else 0:Nat)=f at hd
 have rest:vc [(38,.f (jC fun c=>.bool (fH c)))] 0 pc83_4.ungh (fL [(0,tS s),(4,iS .i64 f)]) [] (m1 0 NM K):=by
  simp -dsimp only [go_sem,pc83_4,NM,h48]
  have hfn:((f:Int) == 1)=neg:=by subst hf; cases neg<;>rfl
  simp only [m2,hneg,hf] at hK
  generalize hq:List.drop f (bl s)=q at hK hd
  have hql:q.length=(bl s).length - f:=by rw [<-hq]; simp
  have hqg:∀ d r,q=d :: r->(bl s)[f]? = some d:=fun d r e=>by
   have:(List.drop f (bl s))[0]? = some d:=by rw [hq,e]; rfl
   simpa using this
  rw [hfn]
  have key:∀ c e:UInt8,((!decide (((bl s).length:Int)<=f) && decide (1 < ((bl s).length:Int) - f))=true->(bl s)[f]? = some c)->
   ((!(decide (((bl s).length:Int)<=f) || decide (1 < ((bl s).length:Int) - f) && c == 48) && neg)=true->(bl s)[f]? = some e)->
   ((decide (((bl s).length:Int)<=f) || decide (1 < ((bl s).length:Int) - f) && c == 48) || neg && e == 48)=(q == [] || (q[0]? == some 48 && (decide (1 < q.length) || neg))):=by
   intro c e hc he
   cases q with
   | nil=>
    have:decide (((bl s).length:Int)<=f)=true:=by simp at hql ⊢; omega
    rw [this]; rfl
   | cons d r=>
    have hd0:=hqg d r rfl
    have hA:decide (((bl s).length:Int)<=f)=false:=by simp only [List.length_cons] at hql; simp; omega
    have hB:decide (1 < ((bl s).length:Int) - f)=decide (1 < (d :: r).length):=by rw [decide_eq_decide]; simp only [List.length_cons] at hql ⊢; omega
    rw [hB] at hc he ⊢
    rw [hA,hd0] at hc he
    rw [hA]
    simp only [Bool.not_false,Bool.true_and,Bool.false_or,aH] at hc he
    simp only [Bool.false_or,List.getElem?_cons_zero]
    rw [show (some d == some 48)=(d == 48) from rfl,show ((d :: r) == [])=false from rfl,Bool.false_or]
    generalize decide (1 < (d :: r).length)=b at hc he
    cases b with
    | true=>
     obtain rfl:=hc rfl
     simp only [Bool.true_and] at he ⊢
     cases hd48:d == 48 with
     | true=>rfl
     | false=>
      rw [hd48] at he
      cases neg with
      | true=>obtain rfl:=he rfl; rw [hd48]; rfl
      | false=>rfl
    | false=>
     simp only [Bool.false_and,Bool.false_or] at he ⊢
     cases neg with
     | true=>obtain rfl:=he rfl; simp
     | false=>simp
  have hf1:f<=1:=by subst hf; cases neg<;>decide
  refine ⟨fun _=>by omega,fun h=>⟨by omega,by simp at h; omega⟩,fun c hc=>⟨fun h1 h2=>by rw [h1,h2]; rfl,fun h=>⟨by omega,by simp at h; omega⟩,fun e he=>⟨fun h1 h2=>by rw [h1,h2]; rfl,?_⟩⟩⟩
  rw [key c e hc he]
  generalize hG:(q == [] || (q[0]? == some 48 && (decide (1 < q.length) || neg)))=G at hK
  refine ⟨fun h=>?_,fun h=>?_⟩
  · rw [h] at hK; exact .done hK
  rw [h] at hK hG
  simp only [aI] at hK
  have hlim:9<=bX neg:=by cases neg<;>decide
  rw [vS hlim q 0 (Nat.zero_le _) hd] at hK
  have hfl:f < (bl s).length:=by
   cases q with
   | nil=>cases hG
   | cons d r=>simp only [List.length_cons] at hql; omega
  have hpos:neg=true->0 < decV 0 q:=fun hn=>by
   cases q with
   | nil=>cases hG
   | cons d r=>
    subst hn
    have hdd:=iI.1 (hd d (by simp))
    have h1:¬ d=48:=fun e=>by subst e; simp at hG
    have h2:d.toNat ≠ 48:=fun e=>h1 (UInt8.toNat.inj e)
    have:=tK r (10 * 0 + (d.toNat - 48))
    rw [fT]; omega
  refine aK (α:=Nat × Nat) (fun z=>[(0,tS s),(4,iS .i64 f),(5,iS .u64 z.1),(6,iS .i64 z.2)]) (fun z=>[]) (fun z=>f<=z.2/\z.2<=(bl s).length/\z.1<=10000000000000000009/\decV z.1 ((bl s).drop z.2)=decV 0 q) (fun z=>(bl s).length - z.2) (0,f) 0 ⟨by simp only; omega,by simp only; omega,by simp,by simp only; rw [hq]⟩ ?_ ?_ ?_
  · simp -dsimp only [go_sem]; simp
  · simp [go_sem]
  rintro ⟨n,i⟩ ⟨hi1,hi2,hn,hv⟩
  simp only at hi1 hi2 hn hv
  simp -dsimp only [go_sem,hfn]
  have hnone:¬ decV 0 q<=bX neg->K (.tu [iA .i64 0,iA .i64 1]) []:=fun h=>by
   have:decide (decV 0 q<=bX neg)=false:=by simpa using h
   rw [this] at hK; exact hK
  have hlim2:bX neg<=9223372036854775808:=by cases neg<;>decide
  refine ⟨fun hlt=>⟨⟨by omega,by simpa using hlt⟩,fun c hc=>⟨by have:=c.toNat_lt; omega,fun h3=>?_,fun h3=>⟨fun h4=>.done (hnone ?_),fun h4=>⟨by simp at h4; omega,⟨by omega,by simpa using hlt⟩,fun e he=>?_⟩⟩⟩⟩,fun hge=>?_⟩
  · exfalso
    have:c ∈ q:=by rw [<-hq]; exact bK (i:=i - f) (by rw [List.getElem?_drop,show f + (i - f)=i by omega]; exact hc)
    have:=hd c this
    rw [a8,h3] at this; cases this
  · rw [bW hc,fT] at hv
    have:=tK ((bl s).drop (i + 1)) (10 * n + (c.toNat - 48))
    simp at h4; omega
  · rw [hc] at he; obtain rfl:=bG he
    have hc9:=iI.1 (show a8 c=true by simpa [a8] using h3)
    have hw:IntKind.u64.wrap ((c.toNat:Int) - 48)=((c.toNat - 48:Nat):Int):=by
     simp [IntKind.wrap,IntKind.signed,IntKind.bits]; omega
    have hlt:i < (bl s).length:=(aZ.1 hc).1
    simp at h4
    refine ⟨by omega,by rw [hw]; omega,by omega,aC (10 * n + (c.toNat - 48),i + 1) 0 ⟨by simp only; omega,by simp only; omega,by simp only; omega,by simp only; rw [<-hv,bW hc,fT]⟩ (by simp only; omega) ?_ ?_⟩
    · simp -dsimp only [go_sem,hw]; simp
    · simp [go_sem]
  · have hN:n=decV 0 q:=by
     have:i=(bl s).length:=by simp at hge; omega
     rw [<-hv,this,List.drop_length,j9]
    rw [<-hN] at hK hpos hnone
    refine ⟨fun hn1=>⟨fun h4=>.done (hnone ?_),fun h4=>?_⟩,fun hn1=>⟨fun h4=>.done (hnone ?_),fun h4=>?_⟩⟩
    · subst hn1; simp at h4; simp [bX]; omega
    · have hp:=hpos hn1
      simp at h4
      have w1:IntKind.i64.wrap ((n:Int) - 1)=(n:Int) - 1:=kB (by simp [inr,IntKind.min,IntKind.max,IntKind.signed,IntKind.bits]; omega)
      rw [w1]
      refine ⟨by omega,by omega,by omega,bP hK ?_⟩
      subst hn1
      have:decide (n<=bX true)=true:=decide_eq_true (show n<=9223372036854775808 by omega)
      rw [this]
      simp [signed]; omega
    · subst hn1; simp at h4; simp [bX]; omega
    · simp at h4
      have w1:IntKind.i64.wrap (n:Int)=(n:Int):=kB (by simp [inr,IntKind.min,IntKind.max,IntKind.signed,IntKind.bits]; omega)
      rw [w1]
      refine bP hK ?_
      subst hn1
      have:decide (n<=bX false)=true:=decide_eq_true (show n<=9223372036854775807 by omega)
      rw [this]
      simp [signed]
 simp -dsimp only [go_sem,aBV,NM,h45]
 refine ⟨fun h=>⟨by omega,by simpa using h⟩,fun c hc=>⟨fun h=>?_,fun h=>?_⟩⟩
 · simp only [Bool.and_eq_true] at h
   have hc:=hc h.1
   have:neg=true:=by rw [<-hneg,hc]; exact h.2
   subst this
   obtain rfl:1=f:=hf
   refine fQ 0 rest ?_ ?_
   · simp -dsimp only [go_sem]; simp
   · simp [go_sem]
 · have:neg=false:=by
    rw [<-hneg]
    cases h0:(bl s)[0]? with
    | none=>rfl
    | some d=>
     have hlt:0 < (bl s).length:=(aZ.1 h0).1
     have hd2:=hc (by simp; omega)
     rw [h0] at hd2; obtain rfl:=bG hd2
     have:decide ((0:Int) < (bl s).length)=true:=by simp; omega
     rw [this,Bool.true_and] at h
     exact h
   subst this
   obtain rfl:0=f:=hf
   refine fQ 0 rest ?_ ?_
   · simp -dsimp only [go_sem]; simp
   · simp [go_sem]
def P2:W.Spec:=wN (fun l a=>∃ c,l[a]? = some c) fun s a K=>∀ x n z e t,Got (fB (bl s) a.toNat) x n z e t->K (.tu [iA .i64 z,iA .i64 n,iA .i64 e,iA .i64 t]) []
def XM:W.Spec:=wN (fun l a=>l[a]? = some 34) fun s a K=>∀ x n z e t,Got (eP (bl s) a.toNat) x n z e t->K (.tu [iA .i64 z,tA x,iA .i64 e,iA .i64 t]) []
attribute [go_sem ↓] P2 XM
theorem Got.bad {r:R} {e t:Int} (h:r=.bad e t) {x:ByteArray} {n z:Int}:Got r x n z e t:=by subst h; exact ⟨rfl,rfl⟩
theorem Got.ok {r:R} {k:Int} {x:List UInt8} {n:Int} {z:Nat} (h:r=.ok k x n z):Got r (mk x) n z 0 0:=by subst h; exact ⟨rfl,rfl,rfl,rfl,rfl⟩
theorem yO (p:UInt8->Bool):∀ (l:List UInt8) (c:UInt8),l[(l.takeWhile p).length]? = some c->p c=false
 | [],c,h=>by simp at h
 | d :: l,c,h=>by
  cases hp:p d with
  | true=>rw [List.takeWhile_cons,if_pos hp] at h; simp at h; exact yO p l c h
  | false=>rw [List.takeWhile_cons,hp] at h; simp at h; subst h; exact hp
theorem Z4 {p:UInt8->Bool} {l:List UInt8} {a:Nat} {c:UInt8} (h:l[bD p l a]? = some c):p c=false:=by
 refine yO p (l.drop a) c ?_
 rw [List.getElem?_drop]; exact h
theorem aGT:Meets Tryz.prog 40 XM:=by
 refine aE Tryz.func40 aKU 2 (by rw [Tryz.ntmps40]; decide) (aA _) wO ?_
 intro xs H K h
 obtain ⟨s,a,rfl,rfl,h0,h1,h2,hc0,hK⟩:=nN h
 have h34:∀ c:UInt8,((c.toNat:Int) == 34)=(c == 34):=fun c=>dJ 34
 have h92:∀ c:UInt8,((c.toNat:Int) == 92)=(c == 92):=fun c=>dJ 92
 have hlt:a.toNat < (bl s).length:=(aZ.1 hc0).1
 simp -dsimp only [go_sem,aFK,aF1]
 refine ⟨by omega,?_⟩
 refine aK (α:=List UInt8 × Nat) (fun z=>[(0,tS s),(1,iS .i64 a),(8,tS (mk z.1)),(9,iS .i64 z.2)]) (fun z=>[]) (fun z=>z.2<=(bl s).length/\z.1.length<=z.2/\quoL z.2 ((bl s).drop z.2) z.1=quoL (a.toNat + 1) ((bl s).drop (a.toNat + 1)) []) (fun z=>(bl s).length - z.2) ([],a.toNat + 1) 0 ⟨by simp only; omega,by simp,rfl⟩ ?_ ?_ ?_
 · simp -dsimp only [go_sem]; simp [Int.toNat_of_nonneg h0]
 · simp [go_sem]
 rintro ⟨out,i⟩ ⟨hi,ho,hr⟩
 simp only at hi ho hr
 simp -dsimp only [go_sem,bne,h34,h92,n4]
 have ha:((a.toNat:Nat):Int)=a:=Int.toNat_of_nonneg h0
 have hT:eP (bl s) a.toNat=match quoL i (List.drop i (bl s)) out with
  | (i,none)=>.bad 2 i
  | (z,some out)=>bif decide (200 < out.length) then .bad 3 a.toNat else .ok 3 out 0 z:=by rw [hr]; rfl
 refine ⟨fun hge=>?_,fun hlt=>⟨⟨by omega,by simpa using hlt⟩,fun c hc=>⟨fun h3=>?_,fun h3=>⟨fun _=>by omega,fun _=>by omega,fun h4=>⟨by omega,by simp at h4; omega⟩,fun d hd=>⟨fun _=>by omega,fun h=>⟨by omega,by simp at h; omega⟩,fun e he=>⟨fun h1 h2=>by rw [h1,h2]; rfl,fun h1 h2=>by rw [h1,h2]; rfl,fun h1 h2=>by rw [h1,h2]; rfl,?_⟩⟩⟩⟩⟩⟩
 · have:i=(bl s).length:=by simp at hge; omega
   subst this
   rw [List.drop_length,nA] at hT
   exact .done (hK (mk []) 0 _ _ _ (Got.bad hT))
 · have:c=34:=by simpa using h3
   subst this
   rw [bW hc,eR] at hT
   simp at hT
   refine ⟨fun h4=>.done (hK (mk []) 0 _ _ _ (Got.bad (t:=a) (e:=3) ?_)),fun h4=>⟨by omega,.done (hK (mk out) 0 _ _ _ ?_)⟩⟩
   · have:decide (200 < out.length)=true:=by simp at h4 ⊢; omega
     rw [hT,this,aL,Int.max_eq_left h0]
   · have:decide (200 < out.length)=false:=by simp at h4 ⊢; omega
     rw [this] at hT
     exact Got.ok hT
 have hlt2:i < (bl s).length:=(aZ.1 hc).1
 have hw:(decide ((c.toNat:Int) < 32) || decide (126 < (c.toNat:Int)))=(decide (c < 32) || decide (126 < c)):=by
  have e1:decide ((c.toNat:Int) < 32)=decide (c < 32):=by rw [decide_eq_decide,UInt8.lt_iff_toNat_lt]; show _ ↔ c.toNat < 32; omega
  have e2:decide (126 < (c.toNat:Int))=decide (126 < c):=by rw [decide_eq_decide,UInt8.lt_iff_toNat_lt]; show _ ↔ 126 < c.toNat; omega
  rw [e1,e2]
 rw [hw] at hd he ⊢
 rw [bW hc,eR] at hT hr
 generalize (decide (c < 32) || decide (126 < c))=w at hd he hT hr ⊢
 rw [h3] at hT hr
 cases w with
 | true=>
  simp only [aL] at hT
  exact ⟨fun _=>.done (hK (mk []) 0 _ _ _ (Got.bad hT)),fun h=>by simp at h⟩
 | false=>
  simp only [aI] at hT hr
  cases h9:c == 92 with
  | false=>
   rw [h9] at hr
   simp only [aI] at hr
   have hsub:List.drop i (List.take (i + 1) (bl s))=[c]:=by rw [List.drop_take,bW hc]; simp
   refine ⟨fun h=>by simp at h,fun _=>⟨fun h=>by simp at h,fun _=>?_⟩⟩
   and_intros
   all_goals first
    | omega
    | (simp; omega)
    | skip
   refine aC (out ++ [c],i + 1) 0 ⟨by simp only; omega,by simp; omega,hr⟩ (by simp only; omega) ?_ ?_
   · simp -dsimp only [go_sem]; simp [show ((i:Int) + 1).toNat=i + 1 by omega,hsub]
   · simp [go_sem]
  | true=>
   rw [h9] at hr hT hd he
   simp only [aL,Bool.not_false,Bool.true_and] at hr hT hd he
   cases hrest:List.drop (i + 1) (bl s) with
   | nil=>
    have:(bl s).length<=i + 1:=List.drop_eq_nil_iff.1 hrest
    have h8:decide (((bl s).length:Int)<=i + 1)=true:=by simp; omega
    rw [hrest] at hT
    rw [h8]
    exact ⟨fun _=>.done (hK (mk []) 0 _ _ _ (Got.bad hT)),fun h=>by simp at h⟩
   | cons x r=>
    have hx:(bl s)[i + 1]? = some x:=by
     have:(List.drop (i + 1) (bl s))[0]? = some x:=by rw [hrest]; rfl
     simpa using this
    have hltx:i + 1 < (bl s).length:=(aZ.1 hx).1
    have hrx:r=List.drop (i + 2) (bl s):=by
     have:=bW hx
     rw [hrest] at this; simpa using this
    have h8:decide (((bl s).length:Int)<=i + 1)=false:=by simp; omega
    rw [hrest] at hT hr
    have hi1:((i:Int) + 1).toNat=i + 1:=by omega
    have hi2:((i:Int) + 1 + 1).toNat=i + 2:=by omega
    rw [h8,hi1,hx] at hd he
    simp only [Bool.not_false,Bool.true_and,true_implies,aH] at hd he
    obtain rfl:=hd
    have hE:(x == 34 || x == 92)=!(!x == 34 && !e == 92):=by
     cases h7:x == 34 with
     | true=>rfl
     | false=>rw [h7] at he; obtain rfl:=he rfl; simp
    rw [h8]
    simp only [hE] at hT hr
    generalize (!x == 34 && !e == 92)=b at hT hr ⊢
    cases b with
    | true=>exact ⟨fun _=>.done (hK (mk []) 0 _ _ _ (Got.bad hT)),fun h=>by simp at h⟩
    | false=>
     simp only [Bool.not_false,aL] at hr
     have hsub:List.drop (i + 1) (List.take (i + 2) (bl s))=[x]:=by rw [List.drop_take,bW hx]; simp
     refine ⟨fun h=>by simp at h,fun _=>⟨fun _=>?_,fun h=>by simp at h⟩⟩
     and_intros
     all_goals first
      | omega
      | (simp; omega)
      | skip
     refine aC (out ++ [x],i + 2) 0 ⟨by simp only; omega,by simp; omega,by rw [<-hr,hrx]⟩ (by simp only; omega) ?_ ?_
     · simp -dsimp only [go_sem]; simp [hi1,hi2,hsub]; omega
     · simp [go_sem]
theorem aHO:Meets Tryz.prog 39 P2:=by
 refine aE Tryz.func39 aNY 2 (by rw [Tryz.ntmps39]; decide) (aG yF (aB aIT (aG GJ (aA _)))) wO ?_
 intro xs H K h
 obtain ⟨s,a,rfl,rfl,h0,h1,h2,⟨c0,hc0⟩,hK⟩:=nN h
 have h45:∀ c:UInt8,((c.toNat:Int) == 45)=(c == 45):=fun c=>dJ 45
 have hlt:a.toNat < (bl s).length:=(aZ.1 hc0).1
 generalize hneg:((bl s)[a.toNat]? == some 45)=neg at hK
 generalize hfe:(bif neg then a.toNat + 1 else a.toNat)=f
 have hf1:a.toNat<=f/\f<=(bl s).length:=by subst hfe; cases neg<;>simp<;>omega
 generalize hz:bD a8 (bl s) f=z
 have rest:vc [(38,.f (jC fun c=>.bool (fH c))),(83,.s rN),(82,.f (jC fun c=>.bool (dZ c)))] 0 pc39_6.ungh (fL [(0,tS s),(1,iS .i64 a),(8,iS .i64 z)]) [] (m1 0 NB K):=by
  simp -dsimp only [go_sem,pc39_6,NB,h45,n4]
  have hz1:f<=z:=by rw [<-hz]; exact pL
  have hz2:z<=(bl s).length:=by rw [<-hz]; exact mU hf1.2
  generalize hq:List.drop a.toNat (List.take z (bl s))=q
  have hq0:(q[0]? == some 45)=neg:=by
   have e:q[0]? = (List.take z (bl s))[a.toNat]?:=by rw [<-hq,List.getElem?_drop]; rfl
   rw [e,List.getElem?_take]
   split
   · exact hneg
   · cases neg with
     | false=>rfl
     | true=>simp at hfe; omega
  have hqs:List.drop (bif neg then 1 else 0) q=List.drop f (List.take z (bl s)):=by
   rw [<-hq,List.drop_drop,<-hfe]; cases neg<;>rfl
  have hdig:∀ c ∈ List.drop f (List.take z (bl s)),a8 c=true:=fun c hc=>by rw [<-hz] at hc; exact qL c hc
  have hV:((m2 q).2=2->fB (bl s) a.toNat=.bad 2 a.toNat)/\((m2 q).2=1->fB (bl s) a.toNat=.bad 4 a.toNat)/\
   ((m2 q).2 ≠ 2->(m2 q).2 ≠ 1->fB (bl s) a.toNat=bif j8 (bl s) z then .bad 2 z else .ok 2 [] (m2 q).1 z):=by
   simp only [m2,hq0,hqs,fB,hneg,hfe,hz]
   generalize List.drop f (List.take z (bl s))=r
   cases (r == [] || (r[0]? == some 48 && (decide (1 < r.length) || neg))) with
   | true=>simp
   | false=>
    simp only [aI]
    cases valL (bX neg) 0 r with
    | none=>simp
    | some n=>simp
  have hwm:∀ c e:UInt8,(decide ((z:Int) < (bl s).length)=true->(bl s)[z]? = some c)->((decide ((z:Int) < (bl s).length) && !dZ c.toNat)=true->(bl s)[z]? = some e)->
   (decide ((z:Int) < (bl s).length) && (dZ c.toNat || e == 45))=j8 (bl s) z:=by
   intro c e hc he
   unfold j8
   cases hd:(bl s)[z]? with
   | none=>
    have:decide ((z:Int) < (bl s).length)=false:=by have:=List.getElem?_eq_none_iff.1 hd; simp; omega
    rw [this]; rfl
   | some d=>
    have hlt:z < (bl s).length:=(aZ.1 hd).1
    have:decide ((z:Int) < (bl s).length)=true:=by simp; omega
    rw [this,hd] at hc he
    rw [this]
    obtain rfl:=bG (hc rfl)
    have hnd:a8 d=false:=by rw [<-hz] at hd; exact Z4 hd
    simp only [Bool.true_and,hnd,Bool.not_false,Bool.and_true,aT] at he ⊢
    cases hw:dZ d.toNat with
    | true=>rfl
    | false=>rw [hw] at he; obtain rfl:=bG (he rfl); rfl
  obtain ⟨v1,v2,v3⟩:=hV
  have ha:((a.toNat:Nat):Int)=a:=Int.toNat_of_nonneg h0
  refine ⟨by omega,⟨by rw [<-hq]; simp; omega,by rw [hq0,hqs]; exact hdig⟩,fun h=>.done (hK (mk []) _ _ _ _ (by rw [v1 (by simpa using h),ha]; exact ⟨rfl,rfl⟩)),fun h=>⟨fun h5=>.done (hK (mk []) _ _ _ _ (by rw [v2 (by simpa using h5),ha]; exact ⟨rfl,rfl⟩)),fun h5=>⟨fun h6=>⟨by omega,by simpa using h6⟩,fun c hc=>⟨fun _=>by have:=c.toNat_lt; omega,fun h6=>⟨by omega,by simp at h6; omega⟩,fun e he=>⟨fun h6 h7=>by rw [h6,h7]; rfl,?_⟩⟩⟩⟩⟩
  rw [hwm c e hc he]
  have v3:=v3 (by simpa using h) (by simpa using h5)
  refine ⟨fun h6=>.done (hK (mk []) _ _ _ _ ?_),fun h6=>.done (hK (mk []) _ _ _ _ ?_)⟩
  · rw [v3,h6]; exact ⟨rfl,rfl⟩
  · rw [v3,h6]; exact ⟨rfl,rfl,rfl,rfl,rfl⟩
 simp -dsimp only [go_sem,aFQ,NB,h45]
 refine ⟨⟨by omega,by omega⟩,fun c hc=>?_⟩
 have hcn:(c == 45)=neg:=by rw [<-hneg,hc]; rfl
 rw [hcn]
 refine ⟨fun h=>⟨by omega,?_⟩,fun h=>?_⟩
 · have hfi:(f:Int)=a + 1:=by subst h; simp at hfe; omega
   refine aK (α:=Nat) (fun i=>[(0,tS s),(1,iS .i64 a),(8,iS .i64 i)]) (fun i=>[]) (fun i=>f<=i/\i<=(bl s).length/\bD a8 (bl s) i=z) (fun i=>(bl s).length - i) f 0 ⟨by omega,by omega,hz⟩ ?_ ?_ ?_
   · simp -dsimp only [go_sem]; simp [hfi]
   · simp [go_sem]
   rintro i ⟨hai,hi,hr⟩
   simp -dsimp only [go_sem]
   refine ⟨fun hlt=>⟨by omega,by simpa using hlt⟩,fun d hd=>⟨fun _=>by have:=d.toNat_lt; omega,fun h3=>?_,fun h3=>?_⟩⟩
   · simp only [Bool.and_eq_true,decide_eq_true_eq] at h3
     have hd:=hd (by simpa using h3.1)
     have hlt:i < (bl s).length:=(aZ.1 hd).1
     refine ⟨by omega,aC (i + 1) 0 ⟨by omega,hlt,by rw [gJ hd h3.2,hr]⟩ (by omega) ?_ ?_⟩
     · simp -dsimp only [go_sem]; simp
     · simp [go_sem]
   · have hiz:i=z:=by
      rw [<-hr]
      refine (lC fun e he=>?_).symm
      have hlt:i < (bl s).length:=(aZ.1 he).1
      have hd2:=hd (by simp; omega)
      rw [he] at hd2; obtain rfl:=bG hd2
      have hlt2:decide ((i:Int) < (bl s).length)=true:=by simp; omega
      rw [hlt2,Bool.true_and] at h3
      exact h3
     subst hiz
     refine fQ 0 rest ?_ ?_
     · simp -dsimp only [go_sem]
     · simp [go_sem]
 · have hfi:(f:Int)=a:=by subst h; simp at hfe; omega
   refine aK (α:=Nat) (fun i=>[(0,tS s),(1,iS .i64 a),(8,iS .i64 i)]) (fun i=>[]) (fun i=>f<=i/\i<=(bl s).length/\bD a8 (bl s) i=z) (fun i=>(bl s).length - i) f 0 ⟨by omega,by omega,hz⟩ ?_ ?_ ?_
   · simp -dsimp only [go_sem]; simp [hfi]
   · simp [go_sem]
   rintro i ⟨hai,hi,hr⟩
   simp -dsimp only [go_sem]
   refine ⟨fun hlt=>⟨by omega,by simpa using hlt⟩,fun d hd=>⟨fun _=>by have:=d.toNat_lt; omega,fun h3=>?_,fun h3=>?_⟩⟩
   · simp only [Bool.and_eq_true,decide_eq_true_eq] at h3
     have hd:=hd (by simpa using h3.1)
     have hlt:i < (bl s).length:=(aZ.1 hd).1
     refine ⟨by omega,aC (i + 1) 0 ⟨by omega,hlt,by rw [gJ hd h3.2,hr]⟩ (by omega) ?_ ?_⟩
     · simp -dsimp only [go_sem]; simp
     · simp [go_sem]
   · have hiz:i=z:=by
      rw [<-hr]
      refine (lC fun e he=>?_).symm
      have hlt:i < (bl s).length:=(aZ.1 he).1
      have hd2:=hd (by simp; omega)
      rw [he] at hd2; obtain rfl:=bG hd2
      have hlt2:decide ((i:Int) < (bl s).length)=true:=by simp; omega
      rw [hlt2,Bool.true_and] at h3
      exact h3
     subst hiz
     refine fQ 0 rest ?_ ?_
     · simp -dsimp only [go_sem]
     · simp [go_sem]
theorem Q7 {l:List UInt8} {a:Nat} {k:Int} {x:List UInt8} {n:Int} {z:Nat} (h:fG l a=.ok k x n z):k=1/\n=0/\z=bD aT l a/\z - a<=16/\x=(l.take z).drop a/\l[z]? ≠ some 45:=by
 unfold fG at h
 simp only at h
 revert h
 cases h1:decide (16 < bD aT l a - a)<;>cases h2:(l[bD aT l a]? == some 45)<;>simp [R.ok.injEq]
 rintro rfl rfl rfl rfl
 simp at h1 h2
 exact ⟨rfl,rfl,rfl,by omega,rfl,h2⟩
theorem HB (l:List UInt8):cG l=true ↔ ∃ c,l[0]? = some c/\l.length<=16/\bB c.toNat=true/\∀ x ∈ l,aT x=true:=by
 cases l with
 | nil=>simp [cG]
 | cons c l=>simp [cG,and_assoc]
theorem aFA {l:List UInt8} {a:Nat} {k:Int} {x:List UInt8} {n:Int} {z:Nat} (h:fB l a=.ok k x n z):x=[]:=by
 unfold fB at h
 simp only at h
 revert h
 generalize (List.drop (bif l[a]? == some 45 then a + 1 else a) (List.take (bD a8 l (bif l[a]? == some 45 then a + 1 else a)) l))=q
 cases (q == [] || (q[0]? == some 48 && (decide (1 < q.length) || l[a]? == some 45))) with
 | true=>intro h; cases h
 | false=>
  simp only [aI]
  split
  · intro h; cases h
  · cases j8 l (bD a8 l (bif l[a]? == some 45 then a + 1 else a))<;>intro h<;>cases h
    rfl
theorem Y9 {l:List UInt8} {a:Nat} {k:Int} {x:List UInt8} {n:Int} {z:Nat} (h:eP l a=.ok k x n z):n=0:=by
 unfold eP at h
 split at h
 · cases h
 · revert h
   rename_i o _
   cases decide (200 < o.length)<;>intro h<;>cases h
   rfl
theorem aA8:Meets Tryz.prog 16 lD:=by
 refine aE Tryz.func16 aPJ 1 (by rw [Tryz.ntmps16]; decide)
  (aG aAM (aG zY (aB aBU (aG yF (aB aHO (aB aGT (aG WG (aA _)))))))) (fun xs H K h=>by obtain ⟨s,rfl,_⟩:=kU h; rfl) ?_
 intro xs H K h
 obtain ⟨s,rfl,rfl,hK⟩:=kU h
 have h34:∀ c:UInt8,((c.toNat:Int) == 34)=(c == 34):=fun c=>dJ 34
 have h45:∀ c:UInt8,((c.toNat:Int) == 45)=(c == 45):=fun c=>dJ 45
 simp -dsimp only [go_sem,aFT,aBA,h34,h45]
 refine ⟨fun h1=>?_,fun h1=>?_⟩
 · have h2:decide (4000 < (bl s).length)=true:=by simp at h1 ⊢; omega
   simp only [aU,h2,aL,SR.toks,SR.err,SR.off] at hK
   exact .done hK
 have h2:decide (4000 < (bl s).length)=false:=by simp at h1 ⊢; omega
 have hlen:(bl s).length<=4000:=by simpa using h2
 refine ⟨⟨by omega,by omega,hlen⟩,dC (α:=Nat × Nat × List Tk) (fun z=>[(0,tS s),(5,.va (.c1 (.sl 0 z.2.2.length))),(6,iS .i64 (bF (bl s) z.2.1))]) (fun z=>[.row (z.2.2.map cS) 71 4])
  (fun z=>(bl s).length < z.1 + z.2.1/\z.2.1<=(bl s).length/\z.2.2.length<=z.2.1/\SR.app z.2.2 (dG z.1 (bl s) z.2.1)=aU (bl s)) (fun z=>z.1)
  (.nil 5 71 4 ?_ (kV ((bl s).length + 1,0,[]) 1 ⟨by simp only; omega,by simp,by simp,?_⟩ ?_ ?_)) ?_⟩
 · simp -dsimp only [go_sem]; rfl
 · simp only [aU,h2,aI]
   cases dG ((bl s).length + 1) (bl s) 0<;>rfl
 · simp -dsimp only [go_sem]
 · simp -dsimp only [go_sem]
 rintro ⟨f,a,acc⟩ ⟨hf,ha,hac,hr⟩
 simp only at hf ha hac hr
 have hpl:bF (bl s) a<=(bl s).length:=nF ha
 have hpa:a<=bF (bl s) a:=vM
 obtain ⟨hb,ho⟩:=nX hpl
 obtain ⟨f,rfl⟩:∃ g,f=g + 1:=⟨f - 1,by omega⟩
 rw [dG] at hr
 simp -dsimp only [go_sem,h34,h45]
 generalize hp:bF (bl s) a=p at hb ho hr hpl hpa ⊢
 have hbad:∀ {e t:Int} {H2:Hp},b9 (bl s) p=.bad e t->W.Fin 0 K (.tu [.c1 (.fz []),iA .i64 e,iA .i64 t]) H2:=by
  intro e t H2 h
  rw [h] at hr; simp only [SR.app] at hr; rw [<-hr] at hK; simp only [SR.toks,SR.err,SR.off] at hK
  exact .sel [] (by simp) (by simp) rfl (.done (by simpa [go_sem] using hK))
 have hinv:∀ {k:Int} {x:List UInt8} {n:Int} {z:Nat},b9 (bl s) p=.ok k x n z->k ≠ 0->(bl s).length < f + z/\z<=(bl s).length/\(acc ++ [Tk.mk k x n p]).length<=z/\SR.app (acc ++ [Tk.mk k x n p]) (dG f (bl s) z)=aU (bl s):=by
  intro k x n z h hk
  obtain ⟨c,_,g1,g2,_⟩:=(ho h).one hk
  rw [h] at hr
  have hk2:(k == 0)=false:=by simpa using hk
  simp only [hk2,aI,SR.app_cons] at hr
  exact ⟨by omega,g2,by simp; omega,hr⟩
 refine ⟨fun hlt=>⟨by omega,⟨by omega,by simpa using hlt⟩,fun c hc=>⟨by have:=c.toNat_lt; omega,fun q1=>?_,fun q1=>?_⟩⟩,fun hge=>?_⟩
 · have htok:b9 (bl s) p=fG (bl s) p:=by rw [b9,hc]; simp only [q1,aL]
   refine ⟨by omega,fun x n z e t ht hz=>⟨by rw [hz]; have:=pL (p:=aT) (l:=bl s) (a:=p); have:=mU (p:=aT) hpl; omega,?_⟩⟩
   cases hR:fG (bl s) p with
   | bad e' t'=>
    rw [hR] at ht
    obtain ⟨rfl,rfl⟩:=ht
    exact ⟨fun _=>hbad (htok.trans hR),fun h=>absurd h (by simpa using (hb (htok.trans hR)).1)⟩
   | ok k x' n' z'=>
    rw [hR] at ht
    obtain ⟨rfl,rfl,rfl,rfl,rfl⟩:=ht
    obtain ⟨rfl,rfl,-,-,hx,-⟩:=Q7 hR
    have hi:=hinv (htok.trans hR) (by decide)
    refine ⟨fun h=>absurd h (by simp),fun _=>⟨by omega,by omega,aC (f,z',acc ++ [⟨1,x',0,p⟩]) 1 hi (by simp only; omega) ?_ ?_⟩⟩
    · simp -dsimp only [go_sem]<;>simp
    · simp -dsimp only [go_sem]<;>simp [go_sem,hx]
 refine ⟨by have:=c.toNat_lt; omega,fun q2=>?_,fun q2=>⟨fun q3=>?_,fun q3=>⟨by have:=c.toNat_lt; omega,fun q4=>?_,fun q4=>?_⟩⟩⟩
 · have htok:b9 (bl s) p=fB (bl s) p:=by rw [b9,hc]; simp only [q1,aI]; rw [show (a8 c || c == 45)=true from q2]; rfl
   refine ⟨⟨by omega,by omega,hlen,c,hc⟩,fun x n z e t ht=>?_⟩
   cases hR:fB (bl s) p with
   | bad e' t'=>
    rw [hR] at ht
    obtain ⟨rfl,rfl⟩:=ht
    exact ⟨fun _=>hbad (htok.trans hR),fun h=>absurd h (by simpa using (hb (htok.trans hR)).1)⟩
   | ok k x' n' z'=>
    rw [hR] at ht
    obtain ⟨rfl,rfl,rfl,rfl,rfl⟩:=ht
    obtain rfl:=(rM hc).2 hR
    obtain rfl:=aFA hR
    have hi:=hinv (htok.trans hR) (by decide)
    refine ⟨fun h=>absurd h (by simp),fun _=>⟨by omega,by omega,aC (f,z',acc ++ [⟨2,[],n,p⟩]) 1 hi (by simp only; omega) ?_ ?_⟩⟩
    · simp -dsimp only [go_sem]<;>simp
    · simp -dsimp only [go_sem]<;>simp [go_sem]
 · have hc3:c=34:=by simpa using q3
   have hlt2:p < (bl s).length:=(aZ.1 hc).1
   have htok:b9 (bl s) p=eP (bl s) p:=by rw [b9,hc]; simp only [q1,aI]; rw [show (a8 c || c == 45)=false from q2]; simp only [q3,aI,aL]
   refine ⟨⟨by omega,by omega,hlen,by rw [hc,hc3]⟩,fun x n z e t ht=>?_⟩
   cases hR:eP (bl s) p with
   | bad e' t'=>
    rw [hR] at ht
    obtain ⟨rfl,rfl⟩:=ht
    exact ⟨fun _=>hbad (htok.trans hR),fun h=>absurd h (by simpa using (hb (htok.trans hR)).1)⟩
   | ok k x' n' z'=>
    rw [hR] at ht
    obtain ⟨rfl,rfl,rfl,rfl,rfl⟩:=ht
    obtain rfl:=(pR hlt2).2 hR
    obtain rfl:=Y9 hR
    have hi:=hinv (htok.trans hR) (by decide)
    refine ⟨fun h=>absurd h (by simp),fun _=>⟨by omega,by omega,aC (f,z',acc ++ [⟨3,x',0,p⟩]) 1 hi (by simp only; omega) ?_ ?_⟩⟩
    · simp -dsimp only [go_sem]<;>simp
    · simp -dsimp only [go_sem]<;>simp [go_sem]
 · have hlt2:p < (bl s).length:=(aZ.1 hc).1
   have hR:b9 (bl s) p=.ok 4 [c] 0 (p + 1):=by rw [b9,hc]; simp only [q1,aI]; rw [show (a8 c || c == 45)=false from q2]; simp only [q3,q4,aI,aL]
   have hi:=hinv hR (by decide)
   have hi1:((p:Int) + 1).toNat=p + 1:=by omega
   have hsub:List.drop p (List.take (p + 1) (bl s))=[c]:=by rw [List.drop_take,bW hc]; simp
   refine ⟨by omega,fun h=>absurd h (by decide),fun _=>⟨by omega,by omega,?_⟩⟩
   refine aC (f,p + 1,acc ++ [⟨4,[c],0,p⟩]) 1 hi (by simp only; omega) ?_ ?_
   · simp -dsimp only [go_sem]<;>simp [hi1]
   · simp -dsimp only [go_sem]<;>simp [go_sem,hi1,hsub]
 · have hR:b9 (bl s) p=.bad 2 p:=by rw [b9,hc]; simp only [q1,aI]; rw [show (a8 c || c == 45)=false from q2]; simp only [q3,q4,aI]
   exact hbad hR
 · have hpe:p=(bl s).length:=by simp at hge; omega
   have hR:b9 (bl s) p=.ok 0 [] 0 p:=by rw [b9,List.getElem?_eq_none (by omega)]
   rw [hR] at hr
   simp only [beq_self_eq_true,aL,SR.app] at hr
   rw [<-hr] at hK
   simp only [SR.toks,SR.err,SR.off,List.map_append,List.map_cons,List.map_nil] at hK
   refine ⟨by omega,.pub 0 _ _ _ rfl (.sel [] (by simp) (by simp [cN]) rfl (.done ?_))⟩
   rw [hpe] at hK
   simpa [go_sem] using hK
structure Ends (ts:List Tk):Prop where
 pos:0 < ts.length
 le:ts.length<=4001
 last:∀ (i:Nat) (t:Tk),ts[i]? = some t->(t.k=0 ↔ i + 1=ts.length)
abbrev hM (T:TypeId) (ts:List Tk) (n:Nat):B:=.cells [.fz (ts.map cS),.vl (.int .i64 n)] T
theorem RC (T:TypeId) (ts:List Tk) (n:Nat):hM T ts (n + 1)=.cells [.fz (ts.map cS),.vl (.int .i64 ((n:Int) + 1))] T:=rfl
def eG (T:TypeId) (post:List Tk->Nat->(S->Hp->Prop)->Prop):W.Spec:=fun xs H K=>
 match xs,H with
 | [.va (.c1 (.pt 0 0))],[.cells [.fz r,.vl (.int .i64 a)] T']=>T'=T/\∃ (ts:List Tk) (n:Nat),r=ts.map cS/\a=n/\Ends ts/\n < ts.length/\post ts n K
 | _,_=>False
theorem sC {T:TypeId} {post:List Tk->Nat->(S->Hp->Prop)->Prop} {xs:List S} {H:Hp} {K:S->Hp->Prop} (h:eG T post xs H K) :
 ∃ ts n,xs=[.va (.c1 (.pt 0 0))]/\H=[hM T ts n]/\Ends ts/\n < ts.length/\post ts n K:=by
 unfold eG at h
 split at h
 · obtain ⟨rfl,ts,n,rfl,rfl,h1,h2,h3⟩:=h; exact ⟨ts,n,rfl,rfl,h1,h2,h3⟩
 · exact h.elim
theorem FZ {T:TypeId} {post:List Tk->Nat->(S->Hp->Prop)->Prop}:∀ xs H K,eG T post xs H K->xs.length=1:=fun xs H K h=>by obtain ⟨ts,n,rfl,_⟩:=sC h; rfl
attribute [go_sem ↓] eG
def b7 (ts:List Tk) (n:Nat):Nat:=if n + 1 < ts.length then n + 1 else n
def cB (T:TypeId):W.Spec:=eG T fun ts n K=>∀ t,ts[n]? = some t->K (.va (.gs (cS t))) [hM T ts n]
def cH (T:TypeId):W.Spec:=eG T fun ts n K=>∀ t,ts[n]? = some t->K (.va (.gs (cS t))) [hM T ts (b7 ts n)]
attribute [go_sem ↓] cB cH
theorem qQ:Meets Tryz.prog 30 (cB 114):=by
 refine aE Tryz.func30 aK1 1 (by rw [Tryz.ntmps30]; decide) (aA _) FZ ?_
 intro xs H K h
 obtain ⟨ts,n,rfl,rfl,hE,hn,hK⟩:=sC h
 simp -dsimp only [go_sem,aD5,aA9]
 refine ⟨fun h=>?_,fun _=>⟨by omega,fun t ht=>.sel [0] (by simp) (by simp) rfl (.done (hK t ht))⟩⟩
 have:=hE.pos; simp at h; simp [h] at this
theorem DU:Meets Tryz.prog 100 (cH 114):=by
 refine aE Tryz.func100 aG2 1 (by rw [Tryz.ntmps100]; decide) (aB qQ (aA _)) FZ ?_
 intro xs H K h
 obtain ⟨ts,n,rfl,rfl,hE,hn,hK⟩:=sC h
 simp -dsimp only [go_sem,YA,VG]
 refine ⟨ts,n,rfl,rfl,hE,hn,fun t ht=>?_⟩
 have hK:=hK t ht
 have hle:=hE.le
 refine ⟨by omega,fun h=>⟨by omega,?_⟩,fun h=>?_⟩
 · have e:b7 ts n=n + 1:=if_pos (by simp at h; omega)
   rw [e,RC] at hK
   exact .sel [0] (by simp) (by simp) rfl (.done hK)
 · have e:b7 ts n=n:=if_neg (by simp at h; omega)
   rw [e] at hK
   exact .sel [0] (by simp) (by simp) rfl (.done hK)
def c8 (k:Int) (w:List UInt8) (t:Tk):Bool:=t.k == k && t.x == w
def rF (k:Int) (w:List UInt8) (ts:List Tk) (n:Nat) (t:Tk):Nat:=bif c8 k w t then b7 ts n else n
def cC (k:Int) (T:TypeId):W.Spec:=fun xs H K=>
 match xs,H with
 | [.va (.c1 (.pt 0 0)),.va (.c1 (.vl (.string w)))],[.cells [.fz r,.vl (.int .i64 a)] T']=>T'=T/\∃ (ts:List Tk) (n:Nat),r=ts.map cS/\a=n/\Ends ts/\n < ts.length/\
  ∀ t,ts[n]? = some t->K (bS (c8 k (bl w) t)) [hM T ts (rF k (bl w) ts n t)]
 | _,_=>False
theorem n9 {k:Int} {T:TypeId} {xs:List S} {H:Hp} {K:S->Hp->Prop} (h:cC k T xs H K) :
 ∃ w ts n,xs=[.va (.c1 (.pt 0 0)),tS w]/\H=[hM T ts n]/\Ends ts/\n < ts.length/\∀ t,ts[n]? = some t->K (bS (c8 k (bl w) t)) [hM T ts (rF k (bl w) ts n t)]:=by
 unfold cC at h
 split at h
 · obtain ⟨rfl,ts,n,rfl,rfl,h1,h2,h3⟩:=h; exact ⟨_,ts,n,rfl,rfl,h1,h2,h3⟩
 · exact h.elim
theorem xB {k:Int} {T:TypeId}:∀ xs H K,cC k T xs H K->xs.length=2:=fun xs H K h=>by obtain ⟨w,ts,n,rfl,_⟩:=n9 h; rfl
def cO (T:TypeId):W.Spec:=fun xs H K=>
 match xs,H with
 | [.va (.c1 (.pt 0 0)),.va (.c1 (.vl (.int .i64 k))),.va (.c1 (.vl (.string w)))],[.cells [.fz r,.vl (.int .i64 a)] T']=>T'=T/\∃ (ts:List Tk) (n:Nat),r=ts.map cS/\a=n/\Ends ts/\n < ts.length/\
  ∀ t,ts[n]? = some t->K (bS (c8 k (bl w) t)) [hM T ts (rF k (bl w) ts n t)]
 | _,_=>False
theorem uY {T:TypeId} {xs:List S} {H:Hp} {K:S->Hp->Prop} (h:cO T xs H K) :
 ∃ k w ts n,xs=[.va (.c1 (.pt 0 0)),iS .i64 k,tS w]/\H=[hM T ts n]/\Ends ts/\n < ts.length/\∀ t,ts[n]? = some t->K (bS (c8 k (bl w) t)) [hM T ts (rF k (bl w) ts n t)]:=by
 unfold cO at h
 split at h
 · obtain ⟨rfl,ts,n,rfl,rfl,h1,h2,h3⟩:=h; exact ⟨_,_,ts,n,rfl,rfl,h1,h2,h3⟩
 · exact h.elim
theorem L8 {T:TypeId}:∀ xs H K,cO T xs H K->xs.length=3:=fun xs H K h=>by obtain ⟨k,w,ts,n,rfl,_⟩:=uY h; rfl
attribute [go_sem ↓] cC cO
theorem X4:Meets Tryz.prog 120 (cO 114):=by
 refine aE Tryz.func120 aI0 3 (by rw [Tryz.ntmps120]; decide) (aB qQ (aB DU (aA _))) L8 ?_
 intro xs H K h
 obtain ⟨k,w,ts,n,rfl,rfl,hE,hn,hK⟩:=uY h
 simp -dsimp only [go_sem,X8,VP]
 refine ⟨ts,n,rfl,rfl,hE,hn,fun t ht=>?_⟩
 have hK:=hK t ht
 have hg:(t.k != k || !t.x == bl w)=!(c8 k (bl w) t):=by simp [c8,bne,Bool.not_and]
 rw [hg]
 refine ⟨fun h=>?_,fun h=>⟨ts,n,rfl,rfl,hE,hn,fun u hu=>?_⟩⟩
 · have h:c8 k (bl w) t=false:=by simpa using h
   simp only [rF,h,aI] at hK
   exact .sel [0] (by simp) (by simp) rfl (.done hK)
 · have h:c8 k (bl w) t=true:=by simpa using h
   simp only [rF,h,aL] at hK
   exact .sel [0] (by simp) (by simp) rfl (.done hK)
theorem aA6:Meets Tryz.prog 148 (cC 4 114):=by
 refine aE Tryz.func148 aID 2 (by rw [Tryz.ntmps148]; decide) (aB X4 (aA _)) xB ?_
 intro xs H K h
 obtain ⟨w,ts,n,rfl,rfl,hE,hn,hK⟩:=n9 h
 simp -dsimp only [go_sem,XR,U4]
 refine ⟨ts,n,rfl,rfl,hE,hn,fun t ht=>.done ?_⟩
 exact hK t ht
theorem aF2:Meets Tryz.prog 95 (cC 1 114):=by
 refine aE Tryz.func95 aLB 2 (by rw [Tryz.ntmps95]; decide) (aB X4 (aA _)) xB ?_
 intro xs H K h
 obtain ⟨w,ts,n,rfl,rfl,hE,hn,hK⟩:=n9 h
 simp -dsimp only [go_sem,aAZ,aEW]
 refine ⟨ts,n,rfl,rfl,hE,hn,fun t ht=>.done ?_⟩
 exact hK t ht
def gN:W.Spec:=fun xs H K=>
 match xs,H with
 | [.va (.c1 (.vl (.string s)))],[]=>((aU (bl s)).err=0->K (.tu [.c1 (.pt 0 0),iA .i64 0,iA .i64 0]) [hM 114 (aU (bl s)).toks 0])/\
  ((aU (bl s)).err ≠ 0->K (.tu [.c1 (.vl (.pointer none)),iA .i64 (aU (bl s)).err,iA .i64 (aU (bl s)).off]) [])
 | _,_=>False
theorem xH {xs:List S} {H:Hp} {K:S->Hp->Prop} (h:gN xs H K):∃ s,xs=[tS s]/\H=[]/\((aU (bl s)).err=0->K (.tu [.c1 (.pt 0 0),iA .i64 0,iA .i64 0]) [hM 114 (aU (bl s)).toks 0])/\
 ((aU (bl s)).err ≠ 0->K (.tu [.c1 (.vl (.pointer none)),iA .i64 (aU (bl s)).err,iA .i64 (aU (bl s)).off]) []):=by
 unfold gN at h
 split at h
 · exact ⟨_,rfl,rfl,h.1,h.2⟩
 · exact h.elim
attribute [go_sem ↓] gN
theorem aL4:Meets Tryz.prog 29 gN:=by
 refine aE Tryz.func29 aMY 1 (by rw [Tryz.ntmps29]; decide) (aB aI1 (aA _)) (fun xs H K h=>by obtain ⟨s,rfl,_⟩:=xH h; rfl) ?_
 intro xs H K h
 obtain ⟨s,rfl,rfl,hK1,hK2⟩:=xH h
 simp -dsimp only [go_sem,aFL,aDW]
 refine ⟨fun h=>.done (hK2 (by simpa using h)),fun h=>?_⟩
 have hK:=hK1 (by simpa using h)
 exact .sel [0] (by simp) (by simp) rfl (.done hK)
end Go.Proofs.YtkpohmhenegkiaaGreatDoor
namespace Go.Proofs.YtkpohmhenegkiaaGreatDoor.Pr
open Go.W
def pc96:PC:=.seq (.reg [.q 2 (.mv (.k (.string (mk []))))]) (.seq (.reg [.e 3 (.al (.agg #[(.pointer none),(.slice none 0 0)]) 146)]) (.seq (.seq (.reg [.v 8 0,.q 9 (.lnL (.t 8)),.q 10 (.mv (.i 0))]) (.block 0 (.loop (.seq (.reg [.q 11 (.bin .lss true (.t 10) (.t 9))]) (.seq (.cond (.t 11) .skip (.exit 0)) (.seq (.block 1 (.seq (.reg [.l 12 (.ia 4 (.t 8) (.t 10)),.l 13 (.ldn 4 (.t 12)),.e 5 (.al (.agg #[(.int .i64 0),(.string (mk [])),(.int .i64 0),(.int .i64 0)]) 71),.s (.st 4 (.t 5) (.t 13))]) (.seq (.reg [.l 15 (.ldn 4 (.t 5)),.a 16 (.cl 121 [(.t 15)] []),.v 14 16,.q 17 (.ex (.t 14) 0),.q 18 (.ex (.t 14) 1),.v 6 17,.v 7 18]) (.seq (.seq (.reg [.v 19 7,.q 20 (.not (.t 19))]) (.cond (.t 20) (.exit 1) .skip)) (.seq (.seq (.reg [.a 21 (.cl 122 [(.t 3)] [0,1]),.q 22 (.bin .gtr true (.t 21) (.i 0))]) (.cond (.t 22) (.reg [.a 23 (.cl 123 [(.t 3),(.k (.int .u8 32))] [0,1])]) .skip)) (.reg [.v 24 6,.a 25 (.cl 124 [(.t 3),(.t 24)] [0,1])])))))) (.reg [.q 26 (.bin .add true (.t 10) (.i 1)),.v 10 26]))))))) (.seq (.reg [.a 27 (.cl 125 [(.t 3)] [0,1]),.v 2 27]) .ret)))
def rs96:List RV:=[.mv (.t 2)]
theorem ok96:aM Tryz.prog true ⟨fun r k=>if r=7/\k=0 then .own [0,1] else if r=8/\k=0 then .own [0,1] else if r=9/\k=1 then .own [0,1] else if r=11/\k=0 then .own [0,1] else .own [],fun _=>false⟩ Tryz.f96=some (pc96,rs96):=by kernel_rfl
def pc124:PC:=.seq (.reg [.q 4 (.mv (.i 0)),.q 5 (.mv (.k .nilIface))]) (.seq (.reg [.v 6 0,.a 7 (.cl 147 [(.t 6)] [0,1])]) (.seq (.reg [.v 8 0,.v 9 0,.q 10 (.nc (.t 9)),.q 11 (.fa 1 (.t 10)),.l 12 (.ld1 (.t 11)),.v 13 1,.e 14 (.aps 5 (.t 12) (.t 13)),.q 15 (.nc (.t 8)),.q 16 (.fa 1 (.t 15)),.s (.st 1 (.t 16) (.t 14))]) (.seq (.reg [.v 17 1,.q 18 (.lnS (.t 17)),.v 4 18,.q 5 (.mv (.k .nilIface))]) .ret)))
def rs124:List RV:=[.mv (.t 4),.mv (.t 5)]
theorem ok124:aM Tryz.prog true ⟨fun r k=>if r=1/\k=1 then .own [0,1] else .own [],fun _=>false⟩ Tryz.f124=some (pc124,rs124):=by kernel_rfl
def pc144_4:PC:=.seq (.gh (.reg [.q 4 (.mv (.k (.string (mk []))))])) (.seq (.seq (.reg [.q 5 (.mv (.k (.bool true)))]) (.block 0 (.loop (.seq (.seq (.reg [.v 12 5,.v 13 12,⟨some 14,(some (13,false)),.q (.mv (.t 3))⟩,⟨some 15,(some (13,false)),.q (.bin .gtr true (.t 14) (.k (.int .u64 0)))⟩,.a 16 (.pick (.t 13) (.k (.bool true)) (.t 15))]) (.cond (.t 16) .skip (.exit 0))) (.seq (.block 1 (.seq (.reg [.v 17 3,.q 18 (.bin .rem true (.t 17) (.k (.int .u64 10))),.q 19 (.bin .add true (.k (.int .u64 48)) (.t 18)),.q 20 (.cvt .u8 (.t 19)),.e 21 (.bsl 5 1 [(.t 20)]),.q 22 (.b2s (.t 21)),.v 23 4,.q 24 (.bin .add true (.t 22) (.t 23)),.v 4 24]) (.reg [.v 25 3,.q 26 (.bin .quo true (.t 25) (.k (.int .u64 10))),.v 3 26]))) (.reg [.q 5 (.mv (.k (.bool false)))])))))) (.seq (.seq (.reg [.v 27 0,.q 28 (.bin .lss true (.t 27) (.i 0))]) (.cond (.t 28) (.seq (.reg [.v 29 4,.q 30 (.bin .add true (.k (.string (mk [45]))) (.t 29)),.v 2 30]) .ret) .skip)) (.seq (.reg [.v 31 4,.v 2 31]) .ret)))
@[go_sem ↓] theorem QD:a6 pc144_4:=a7 _
def pc144:PC:=.seq (.reg [.q 2 (.mv (.k (.string (mk []))))]) (.seq (.reg [.v 6 0,.q 7 (.cvt .u64 (.t 6)),.v 3 7]) (.seq (.seq (.reg [.v 8 0,.q 9 (.bin .lss true (.t 8) (.i 0))]) (.cond (.t 9) (.reg [.v 10 3,.q 11 (.neg false (.t 10)),.v 3 11]) .skip)) (pc144_4)))
def rs144:List RV:=[.mv (.t 2)]
theorem ok144:aM Tryz.prog true ⟨fun _ _=>.own [],fun r=>[4].contains r⟩ Tryz.f144=some (pc144,rs144):=by kernel_rfl
end Go.Proofs.YtkpohmhenegkiaaGreatDoor.Pr
namespace Go.Proofs.YtkpohmhenegkiaaGreatDoor
open Go.W
def digs (n:Nat):List UInt8:=(if h:n < 10 then [] else digs (n / 10)) ++ [(48 + n % 10).toUInt8]
 termination_by n
 decreasing_by omega
theorem jL {n:Nat} (h:n < 10):digs n=[(48 + n).toUInt8]:=by
 rw [digs.eq_1,dif_pos h,Nat.mod_eq_of_lt h]; rfl
theorem mH {n:Nat} (h:10<=n):digs n=digs (n / 10) ++ [(48 + n % 10).toUInt8]:=by
 rw [digs.eq_1,dif_neg (by omega)]
theorem qU:∀ (k n:Nat),n < 10 ^ (k + 1)->(digs n).length<=k + 1
 | 0,n,h=>by rw [jL (by omega)]; simp
 | k + 1,n,h=>by
  rcases bE n 10 with h1 | h1
  · rw [jL h1]; simp
  · rw [mH h1,List.length_append]
    have:=qU k (n / 10) (by rw [Nat.pow_succ] at h; omega)
    simp; omega
def dW (n:Int):List UInt8:=bif decide (n < 0) then 45 :: digs n.natAbs else digs n.natAbs
def qE (f:Bool) (u:Nat):List UInt8:=bif f || decide (0 < u) then digs u else []
theorem NL {f:Bool} {u:Nat} (h:(f || decide (0 < u))=true):qE f u=qE false (u / 10) ++ [(48 + u % 10).toUInt8]:=by
 unfold qE
 rw [h,aL,Bool.false_or]
 rcases bE u 10 with h1 | h1
 · rw [jL h1,Nat.mod_eq_of_lt h1,show decide (0 < u / 10)=false by simp; omega]; rfl
 · rw [mH h1,show decide (0 < u / 10)=true by simp; omega]; rfl
def xF:List S->Prop:=fun xs=>match xs with
 | [.va (.c1 (.vl (.int .i64 n)))]=>-9223372036854775808<=n/\n<=9223372036854775807
 | _=>False
theorem kY {xs:List S} (h:xF xs):∃ n:Int,xs=[iS .i64 n]/\-9223372036854775808<=n/\n<=9223372036854775807:=by
 unfold xF at h
 split at h
 · exact ⟨_,rfl,h⟩
 · exact h.elim
def QG:List S->A:=fun xs=>match xs with
 | [.va (.c1 (.vl (.int .i64 n)))]=>tA (mk (dW n))
 | _=>.gs []
def decFn:Fun:=⟨xF,QG,fun xs h=>by obtain ⟨n,rfl,_⟩:=kY h; trivial⟩
theorem DG:∀ xs H K,decFn.sp xs H K->xs.length=1:=fun xs H K h=>by obtain ⟨n,rfl,_⟩:=kY h.1.1; rfl
attribute [go_sem ↓] xF QG decFn
theorem RQ:Meets Tryz.prog 144 decFn.sp:=by
 refine aE Tryz.func144 Pr.ok144 1 (by rw [Tryz.ntmps144]; decide) (aA _) DG ?_
 intro xs H K h
 obtain ⟨⟨hp,rfl⟩,hK⟩:=h
 obtain ⟨n,rfl,hn1,hn2⟩:=kY hp
 have hK':K (tS (mk (dW n))) []:=hK
 have rest:vc [] 0 Pr.pc144_4.ungh (fL [(0,iS .i64 n),(3,iS .u64 n.natAbs)]) [] (m1 0 Pr.rs144 K):=by
  simp -dsimp only [go_sem,Pr.pc144_4,Pr.rs144]
  refine aK (α:=Bool × Nat × List UInt8) (fun z=>[(0,iS .i64 n),(3,iS .u64 z.2.1),(4,tS (mk z.2.2)),(5,bS z.1)]) (fun _=>[]) (fun z=>z.2.1<=9223372036854775808/\qE z.1 z.2.1 ++ z.2.2=digs n.natAbs) (fun z=>2 * z.2.1 + (bif z.1 then 1 else 0)) (true,n.natAbs,[]) 0 ⟨by simp only; omega,by simp [qE]⟩ ?_ rfl ?_
  · simp [go_sem]
  rintro ⟨f,u,acc⟩ ⟨hu,hr⟩
  simp only at hu hr
  have hl:=qU 19 n.natAbs (by omega)
  rw [<-hr,List.length_append] at hl
  simp -dsimp only [go_sem]
  have hu0:decide (0 < (u:Int))=decide (0 < u):=by rw [decide_eq_decide]; omega
  have ht:(u:Int).tmod 10=(u % 10:Nat):=by rw [Int.tmod_eq_emod_of_nonneg (by omega)]; omega
  have hd:(u:Int).tdiv 10=(u / 10:Nat):=by rw [Int.tdiv_eq_ediv_of_nonneg (by omega)]; omega
  have hm:=Nat.mod_lt u (show 0 < 10 by decide)
  have hw:IntKind.u8.wrap (48 + ((u % 10:Nat):Int))=48 + ((u % 10:Nat):Int):=kB (by simp [inr,IntKind.min,IntKind.max,IntKind.signed,IntKind.bits]; omega)
  rw [hu0,ht,hd,hw]
  have hb:jT [[C.vl (Value.int IntKind.u8 (48 + ((u % 10:Nat):Int)))]]=[(48 + u % 10).toUInt8]:=by
   show [UInt8.ofNat (48 + ((u % 10:Nat):Int)).toNat]=_
   rw [show (48 + ((u % 10:Nat):Int)).toNat=48 + u % 10 by omega]
  rw [hb]
  refine ⟨fun hf=>⟨by decide,by omega,rfl,by simp; omega,⟨by decide,by omega⟩,?_⟩,fun hf=>⟨fun h0=>⟨by omega,?_⟩,fun h0=>?_⟩⟩
  · rw [NL hf,List.append_assoc] at hr
    refine aC (false,u / 10,[(48 + u % 10).toUInt8] ++ acc) 0 ⟨by simp only; omega,hr⟩ ?_ ?_ rfl
    · cases f with
      | true=>simp only [aL,aI]; omega
      | false=>simp at hf; simp only [aI]; omega
    · simp [go_sem]
  · have:acc=digs n.natAbs:=by rw [<-hr]; simp [qE,hf]
    refine .done ?_
    rw [this]
    simpa [dW,h0] using hK'
  · have:acc=digs n.natAbs:=by rw [<-hr]; simp [qE,hf]
    refine .done ?_
    rw [this]
    simpa [dW,h0] using hK'
 simp -dsimp only [go_sem,Pr.pc144,Pr.rs144]
 have w:∀ m:Int,IntKind.u64.wrap m=m % 18446744073709551616:=fun m=>by simp [IntKind.wrap,IntKind.signed,IntKind.bits]
 refine ⟨fun h0=>fQ 0 rest ?_ rfl,fun h0=>fQ 0 rest ?_ rfl⟩
 · simp at h0
   simp [go_sem,w]
   omega
 · simp at h0
   simp [go_sem,w]
   omega
theorem MF:∀ d,d < 10->(([48,49,50,51,52,53,54,55,56,57]:List UInt8).take (d + 1)).drop d=[(48 + d).toUInt8]:=by decide
theorem PF:Meets Tryz.prog 43 decFn.sp:=by
 refine aE Tryz.func43 aO8 1 (by rw [Tryz.ntmps43]; decide) (aA _) DG ?_
 intro xs H K h
 obtain ⟨⟨hp,rfl⟩,hK⟩:=h
 obtain ⟨n,rfl,hn1,hn2⟩:=kY hp
 have hK':K (tS (mk (dW n))) []:=hK
 simp -dsimp only [go_sem,aDE,aDI]
 refine aK (α:=Int × List UInt8) (fun z=>[(0,iS .i64 z.1),(3,tS (mk z.2)),(4,bS (decide (n < 0)))]) (fun _=>[]) (fun z=>z.1.natAbs<=9223372036854775808/\digs z.1.natAbs ++ z.2=digs n.natAbs) (fun z=>z.1.natAbs) (n,[]) 0 ⟨by simp only; omega,by simp⟩ ?_ rfl ?_
 · simp [go_sem]
 rintro ⟨m,acc⟩ ⟨hu,hr⟩
 simp only at hu hr
 have hl:=qU 19 n.natAbs (by omega)
 rw [<-hr,List.length_append] at hl
 simp -dsimp only [go_sem]
 have ht:(m.tmod 10).natAbs=m.natAbs % 10:=Int.natAbs_tmod m 10
 have hq:(m.tdiv 10).natAbs=m.natAbs / 10:=Int.natAbs_tdiv m 10
 have hm:=Nat.mod_lt m.natAbs (show 0 < 10 by decide)
 have hn:decide (m.tmod 10 < 0)=true->0 - m.tmod 10=((m.natAbs % 10:Nat):Int):=fun h=>by simp at h; omega
 have hp:decide (m.tmod 10 < 0)=false->m.tmod 10=((m.natAbs % 10:Nat):Int):=fun h=>by simp at h; omega
 have hz:(m.tdiv 10 == 0)=decide (m.natAbs < 10):=by rw [Bool.eq_iff_iff]; simp; omega
 obtain ⟨d,hdd⟩:∃ d,d=m.natAbs % 10:=⟨_,rfl⟩
 rw [<-hdd] at ht hm hn hp
 have hd:∀ k:Int,k=(d:Int)->(([48,49,50,51,52,53,54,55,56,57]:List UInt8).take (k + 1).toNat).drop k.toNat=[(48 + d).toUInt8]:=fun k hk=>by
  subst hk
  rw [show ((d:Int) + 1).toNat=d + 1 by omega,show (d:Int).toNat=d by omega]
  exact MF d hm
 have hlast:decide (m.natAbs < 10)=true->[(48 + d).toUInt8] ++ acc=digs n.natAbs:=fun h=>by
  simp at h
  rw [jL h] at hr
  rw [<-hr,show m.natAbs=d by omega]
 have hnext:decide (m.natAbs < 10)=false->digs (m.tdiv 10).natAbs ++ ([(48 + d).toUInt8] ++ acc)=digs n.natAbs:=fun h=>by
  simp at h
  rw [mH h,List.append_assoc] at hr
  rw [hq,<-hr,show d=m.natAbs % 10 by omega]
 rw [hz]
 refine ⟨by decide,fun h=>?_,fun h=>?_⟩
 · have e:=hn h
   rw [hd _ e]
   refine ⟨by omega,by omega,by simp; omega,by simp; omega,⟨by decide,by omega⟩,fun h1=>⟨fun h0=>⟨by simp; omega,?_⟩,fun h0=>?_⟩,fun h1=>?_⟩
   · exact .done (by rw [hlast h1]; simpa [dW,h0] using hK')
   · exact .done (by rw [hlast h1]; simpa [dW,h0] using hK')
   · refine aC (m.tdiv 10,[(48 + d).toUInt8] ++ acc) 0 ⟨by simp only; omega,hnext h1⟩ (by simp at h1; simp only; omega) ?_ rfl
     simp [go_sem,<-e,hd _ e]
 · have e:=hp h
   rw [hd _ e]
   refine ⟨by omega,by simp; omega,by simp; omega,⟨by decide,by omega⟩,fun h1=>⟨fun h0=>⟨by simp; omega,?_⟩,fun h0=>?_⟩,fun h1=>?_⟩
   · exact .done (by rw [hlast h1]; simpa [dW,h0] using hK')
   · exact .done (by rw [hlast h1]; simpa [dW,h0] using hK')
   · refine aC (m.tdiv 10,[(48 + d).toUInt8] ++ acc) 0 ⟨by simp only; omega,hnext h1⟩ (by simp at h1; simp only; omega) ?_ rfl
     simp [go_sem,hd _ e]
def lR (c:UInt8):List UInt8:=bif c == 34 || c == 92 then [92,c] else [c]
def gM (l:List UInt8) (i:Nat):List UInt8:=34 :: (l.take i).flatMap lR
def jS (l:List UInt8):List UInt8:=34 :: l.flatMap lR ++ [34]
theorem DH {l:List UInt8} {i:Nat} {c:UInt8} (h:l[i]? = some c):gM l (i + 1)=gM l i ++ lR c:=by
 unfold gM
 rw [List.take_add_one,h]
 simp
theorem RI (c:UInt8):(lR c).length<=2:=by unfold lR; cases c == 34 || c == 92<;>simp
theorem B3 (l:List UInt8):(l.flatMap lR).length<=2 * l.length:=by
 induction l with
 | nil=>simp
 | cons c l ih=>have:=RI c; simp only [List.flatMap_cons,List.length_append,List.length_cons]; omega
theorem IC (l:List UInt8) (i:Nat):(gM l i).length<=1 + 2 * l.length:=by
 have:=B3 (l.take i)
 simp only [gM,List.length_cons]
 simp only [List.length_take] at this
 omega
theorem GA (l:List UInt8):gM l l.length ++ [34]=jS l:=by unfold gM jS; rw [List.take_length]
def yJ:List S->Prop:=fun xs=>match xs with
 | [.va (.c1 (.vl (.string s)))]=>(bl s).length<=10000000
 | _=>False
theorem kO {xs:List S} (h:yJ xs):∃ s,xs=[tS s]/\(bl s).length<=10000000:=by
 unfold yJ at h
 split at h
 · exact ⟨_,rfl,h⟩
 · exact h.elim
def QB:List S->A:=fun xs=>match xs with
 | [.va (.c1 (.vl (.string s)))]=>tA (mk (jS (bl s)))
 | _=>.gs []
def quoFn:Fun:=⟨yJ,QB,fun xs h=>by obtain ⟨s,rfl,_⟩:=kO h; trivial⟩
theorem CI:∀ xs H K,quoFn.sp xs H K->xs.length=1:=fun xs H K h=>by obtain ⟨s,rfl,_⟩:=kO h.1.1; rfl
attribute [go_sem ↓] yJ QB quoFn
theorem R6:Meets Tryz.prog 44 quoFn.sp:=by
 refine aE Tryz.func44 aNX 1 (by rw [Tryz.ntmps44]; decide) (aA _) CI ?_
 intro xs H K h
 obtain ⟨⟨hp,rfl⟩,hK⟩:=h
 obtain ⟨s,rfl,hs⟩:=kO hp
 have hK':K (tS (mk (jS (bl s)))) []:=hK
 have h34:∀ c:UInt8,((c.toNat:Int) == 34)=(c == 34):=fun c=>dJ 34
 have h92:∀ c:UInt8,((c.toNat:Int) == 92)=(c == 92):=fun c=>dJ 92
 simp -dsimp only [go_sem,aAQ,aE5]
 refine aK (α:=Nat) (fun i=>[(0,tS s),(3,tS (mk (gM (bl s) i))),(4,iS .i64 i)]) (fun _=>[]) (fun i=>i<=(bl s).length) (fun i=>(bl s).length - i) 0 0 (by omega) ?_ rfl ?_
 · simp [go_sem,gM]
 intro i hi
 have hl:=IC (bl s) i
 simp -dsimp only [go_sem,h34,h92]
 have hi1:((i:Int) + 1).toNat=i + 1:=by omega
 have hsub:∀ c,(bl s)[i]? = some c->List.drop i (List.take ((i:Int) + 1).toNat (bl s))=[c]:=fun c hc=>by rw [hi1,List.drop_take,bW hc]; simp
 refine ⟨fun h1=>?_,fun h1=>?_⟩
 · simp at h1
   refine ⟨by omega,fun c hc=>⟨fun _=>by omega,fun d hd=>?_⟩⟩
   have hE:(c == 34 || d == 92)=(c == 34 || c == 92):=by
    cases h7:c == 34 with
    | true=>rfl
    | false=>
     have:=hd h7
     rw [hc] at this
     obtain rfl:=bG this
     rfl
   have hst:=DH hc
   rw [hE,hsub c hc]
   unfold lR at hst
   refine ⟨fun h2=>⟨by omega,by omega,by omega,by simp; omega,by omega,?_⟩,fun h2=>⟨by omega,by omega,by simp; omega,by omega,?_⟩⟩
   · rw [h2,aL] at hst
     refine aC (i + 1) 0 (by omega) (by omega) ?_ rfl
     simp -dsimp only [go_sem,hsub c hc]
     simp [hst]
   · rw [h2,aI] at hst
     refine aC (i + 1) 0 (by omega) (by omega) ?_ rfl
     simp -dsimp only [go_sem,hsub c hc]
     simp [hst]
 · simp at h1
   obtain rfl:i=(bl s).length:=by omega
   refine ⟨by omega,.done ?_⟩
   rw [GA]
   exact hK'
theorem GY (l:List UInt8):jT (l.map fJ)=l:=by
 simp only [jT,List.map_map]
 conv=>rhs; rw [<-List.map_id l]
 apply List.map_congr_left
 intro c _
 simp [C.gi,fJ]
theorem ZQ:Meets Tryz.prog 145 quoFn.sp:=by
 refine aE Tryz.func145 aIU 1 (by rw [Tryz.ntmps145]; decide) (aA _) CI ?_
 intro xs H K h
 obtain ⟨⟨hp,rfl⟩,hK⟩:=h
 obtain ⟨s,rfl,hs⟩:=kO hp
 have hK':K (tS (mk (jS (bl s)))) []:=hK
 have h34:∀ c:UInt8,((c.toNat:Int) == 34)=(c == 34):=fun c=>dJ 34
 have h92:∀ c:UInt8,((c.toNat:Int) == 92)=(c == 92):=fun c=>dJ 92
 simp -dsimp only [go_sem,VK,VW]
 refine aK (α:=Nat) (fun i=>[(0,tS s),(3,.va (.c1 (.sl 0 (gM (bl s) i).length))),(7,iS .i64 (bl s).length),(8,iS .i64 i)]) (fun i=>[.row ((gM (bl s) i).map fJ) 5 1]) (fun i=>i<=(bl s).length) (fun i=>(bl s).length - i) 0 1 (by omega) ?_ (by simp [go_sem,gM]) ?_
 · simp [go_sem,gM]
 intro i hi
 have hl:=IC (bl s) i
 simp -dsimp only [go_sem,h34,h92]
 have hap:∀ (l:List UInt8) (c:UInt8),l.map fJ ++ [[C.vl (.int .u8 c.toNat)]]=(l ++ [c]).map fJ:=fun l c=>by rw [List.map_append]; rfl
 have hap34:(gM (bl s) i).map fJ ++ [[C.vl (.int .u8 34)]]=(gM (bl s) i ++ [34]).map fJ:=hap _ 34
 have hap92:(gM (bl s) i).map fJ ++ [[C.vl (.int .u8 92)]]=(gM (bl s) i ++ [92]).map fJ:=hap _ 92
 refine ⟨fun h1=>?_,fun h1=>?_⟩
 · simp at h1
   refine ⟨by omega,fun c hc=>⟨fun _=>by omega,fun d hd=>?_⟩⟩
   have hE:(c == 34 || d == 92)=(c == 34 || c == 92):=by
    cases h7:c == 34 with
    | true=>rfl
    | false=>
     have:=hd h7
     rw [hc] at this
     obtain rfl:=bG this
     rfl
   have hst:=DH hc
   rw [hE]
   unfold lR at hst
   refine ⟨fun h2=>⟨by omega,by omega,fun e he=>?_⟩,fun h2=>⟨by omega,fun e he=>?_⟩⟩
   · rw [hc] at he
     obtain rfl:=bG he
     rw [h2,aL] at hst
     have hst':gM (bl s) (i + 1)=gM (bl s) i ++ [92] ++ [c]:=by rw [hst,List.append_assoc]; rfl
     refine ⟨by omega,by omega,?_⟩
     refine aC (i + 1) 1 (by omega) (by omega) ?_ ?_
     · simp -dsimp only [go_sem,hst']
       simp
     · simp -dsimp only [go_sem,hst',List.map_cons,List.map_nil]
       rfl
   · rw [hc] at he
     obtain rfl:=bG he
     rw [h2,aI] at hst
     refine ⟨by omega,by omega,?_⟩
     refine aC (i + 1) 1 (by omega) (by omega) ?_ ?_
     · simp -dsimp only [go_sem,hst]
       simp
     · simp -dsimp only [go_sem,hst,List.map_cons,List.map_nil]
 · simp at h1
   obtain rfl:i=(bl s).length:=by omega
   rw [hap34,GY,GA]
   refine ⟨by omega,fun r hr=>?_,.sel [] (by simp) (by simp) rfl (.done hK')⟩
   obtain ⟨c,_,rfl⟩:=List.mem_map.1 hr
   rfl
def NE:W.Spec:=fun av H K=>
 match av,H with
 | [.va (.c1 (.pt 0 0)),.va (.c1 (.vl (.string s)))],[.cells [p,.sl 1 n] 146,.row xs 5 1]=>(jE p n xs/\(bl s).length<=1000000000)/\
  K (.tu [iA .i64 (bl s).length,.c1 (.vl .nilIface)]) [.cells [.pt 0 0,.sl 1 (n + (bl s).length)] 146,.row (xs ++ (bl s).map fJ) 5 1]
 | _,_=>False
theorem CS {av:List S} {H:Hp} {K:S->Hp->Prop} (h:NE av H K):∃ p n xs s,av=[.va (.c1 (.pt 0 0)),tS s]/\H=[.cells [p,.sl 1 n] 146,.row xs 5 1]/\jE p n xs/\(bl s).length<=1000000000/\
 K (.tu [iA .i64 (bl s).length,.c1 (.vl .nilIface)]) [.cells [.pt 0 0,.sl 1 (n + (bl s).length)] 146,.row (xs ++ (bl s).map fJ) 5 1]:=by
 unfold NE at h
 split at h
 · exact ⟨_,_,_,_,rfl,rfl,h.1.1,h.1.2,h.2⟩
 · exact h.elim
attribute [go_sem ↓] NE
theorem HW:Meets Tryz.prog 124 NE:=by
 refine aE Tryz.func124 Pr.ok124 2 (by rw [Tryz.ntmps124]; decide) (aB w6 (aA _)) (fun av H K h=>by obtain ⟨_,_,_,_,rfl,_⟩:=CS h; rfl) ?_
 intro av H K h
 obtain ⟨p,n,xs,s,rfl,rfl,hp,hs,hK⟩:=CS h
 obtain ⟨hp1,rfl,hp2,hp3⟩:=hp
 rcases hp1 with rfl | rfl
 all_goals
  simp -dsimp only [go_sem,Pr.pc124,Pr.rs124] at hK ⊢
  exact ⟨⟨by simp,rfl,hp2,hp3⟩,by omega,.done hK⟩
def gZ (c:UInt8):Bool:=decide (32<=c) && decide (c<=126)
def eJ (k:Int) (x:List UInt8) (n:Int):List UInt8:=bif k == 1 then x else bif k == 2 then dW n else bif k == 3 then jS x else bif k == 4 then x else []
def eT (k:Int) (x:List UInt8) (n:Int):Bool:=
 bif k == 1 then n == 0 && cG x else bif k == 2 then x == [] else bif k == 3 then n == 0 && (decide (x.length<=200) && x.all gZ) else bif k == 4 then n == 0 && (match x with | [c]=>dT c.toNat | _=>false) else false
def y7:W.Spec:=fun xs H K=>
 match xs with
 | [.va (.gs [.vl (.int .i64 k),.vl (.string x),.vl (.int .i64 n),.vl (.int .i64 _)])]=>(H=[]/\(-9223372036854775808<=n/\n<=9223372036854775807)/\(bl x).length<=10000000)/\K (.tu [tA (mk (eJ k (bl x) n)),bA (eT k (bl x) n)]) []
 | _=>False
theorem zK {xs:List S} {H:Hp} {K:S->Hp->Prop} (h:y7 xs H K):∃ k x n a,xs=[.va (.gs (lE k x n a))]/\H=[]/\(-9223372036854775808<=n/\n<=9223372036854775807)/\(bl x).length<=10000000/\K (.tu [tA (mk (eJ k (bl x) n)),bA (eT k (bl x) n)]) []:=by
 unfold y7 at h
 split at h
 · exact ⟨_,_,_,_,rfl,h.1.1,h.1.2.1,h.1.2.2,h.2⟩
 · exact h.elim
theorem P6:∀ xs H K,y7 xs H K->xs.length=1:=fun xs H K h=>by obtain ⟨_,_,_,_,rfl,_⟩:=zK h; rfl
attribute [go_sem ↓] y7
theorem RT:Meets Tryz.prog 121 y7:=by
 refine aE Tryz.func121 aHJ 1 (by rw [Tryz.ntmps121]; decide) (aG Y0 (aG RQ (aG ZQ (aG HU (aA _))))) P6 ?_
 intro xs H K h
 obtain ⟨k,x,n,a,rfl,rfl,hn,hx,hK⟩:=zK h
 simp -dsimp only [go_sem,WS,VD]
 have fin:∀ (H':Hp) (y:ByteArray) (b:Bool),y=mk (eJ k (bl x) n)->b=eT k (bl x) n->W.Fin 0 K (.tu [tA y,bA b]) H':=fun H' y b h1 h2=>by
  subst h1; subst h2
  exact .sel [] (by simp) (by simp) rfl (.done hK)
 refine ⟨fun h1=>fin _ _ _ (by simp [eJ,h1]) (by simp [eT,h1]),fun h1=>⟨fun h2=>⟨hn,fin _ _ _ (by simp [eJ,h1,h2]) (by simp [eT,h1,h2])⟩,fun h2=>⟨fun h3=>?_,fun h3=>⟨fun h4=>?_,fun h4=>fin _ _ _ (by simp [eJ,h1,h2,h3,h4]) (by simp [eT,h1,h2,h3,h4])⟩⟩⟩⟩
 · refine aK (α:=Nat) (fun i=>[(1,.va (.c1 (.pt 0 0))),(4,bS (n == 0 && (decide ((bl x).length<=200) && ((bl x).take i).all gZ))),(41,iS .i64 (bl x).length),(42,iS .i64 i)]) (fun _=>[.cells (lE k x n a) 71]) (fun i=>i<=(bl x).length) (fun i=>(bl x).length - i) 0 1 (by omega) ?_ (by simp [go_sem]) ?_
   · simp [go_sem]
     congr 1
     rw [decide_eq_decide]; omega
   intro i hi
   simp -dsimp only [go_sem]
   refine ⟨fun h5=>⟨fun _=>by simp at h5; omega,fun c hc=>⟨fun _=>by simp at h5; omega,fun d hd=>⟨by omega,aC (i + 1) 1 (by simp at h5; omega) (by simp at h5; omega) ?_ (by simp [go_sem])⟩⟩⟩,fun h5=>?_⟩
   · have hE:(n == 0 && (decide ((bl x).length<=200) && (List.take i (bl x)).all gZ) && decide (32<=(c.toNat:Int)) && decide ((d.toNat:Int)<=126))=(n == 0 && (decide ((bl x).length<=200) && (List.take (i + 1) (bl x)).all gZ)):=by
      have hlt:i < (bl x).length:=by simp at h5; omega
      have hg:=aY hlt
      rw [List.take_add_one,hg,List.all_append]
      generalize (bl x)[i]=e at hg
      simp only [Option.toList_some,List.all_cons,List.all_nil,Bool.and_true]
      have hb:∀ p q r s:Bool,(p && (q && (r && s)))=(p && (q && r) && s):=by decide
      rw [hb]
      generalize (n == 0 && (decide ((bl x).length<=200) && (List.take i (bl x)).all gZ))=g at hc hd ⊢
      cases g with
      | false=>rfl
      | true=>
       obtain rfl:e=c:=by have:=hc rfl; rw [hg] at this; exact bG this
       have e32:decide (32<=(e.toNat:Int))=decide (32<=e):=by rw [decide_eq_decide,UInt8.le_iff_toNat_le]; show _ ↔ 32<=e.toNat; omega
       have e126:∀ d:UInt8,decide ((d.toNat:Int)<=126)=decide (d<=126):=fun d=>by rw [decide_eq_decide,UInt8.le_iff_toNat_le]; show _ ↔ d.toNat<=126; omega
       rw [e32] at hd ⊢
       rw [e126]
       unfold gZ
       cases h6:decide (32<=e) with
       | false=>rfl
       | true=>
        rw [h6] at hd
        obtain rfl:e=d:=by have:=hd rfl; rw [hg] at this; exact bG this
        rfl
     rw [<-hE]
     simp [go_sem]
   · obtain rfl:i=(bl x).length:=by simp at h5; omega
     rw [List.take_length]
     exact ⟨hx,fin _ _ _ (by simp [eJ,h1,h2,h3]) (by simp [eT,h1,h2,h3])⟩
 · refine ⟨fun h5=>by simp at h5; omega,fun c hc=>⟨fun _=>by have:=c.toNat_lt; omega,fin _ _ _ (by simp [eJ,h1,h2,h3,h4]) ?_⟩⟩
   rw [aB8]
   simp only [eT,h1,h2,h3,h4,aL,aI]
   cases h6:n == 0 with
   | false=>rfl
   | true=>
    rw [h6] at hc
    cases hb:bl x with
    | nil=>rfl
    | cons d r=>
     rw [hb] at hc
     cases r with
     | nil=>
      obtain rfl:d=c:=by simpa using hc
      rfl
     | cons e r=>
      have:((((d :: e :: r).length:Nat):Int) == 1)=false:=by simp; omega
      rw [this]; rfl
def rR:List S->Prop:=fun xs=>match xs with
 | [.va (.gs [.vl (.int .i64 _),.vl (.string x),.vl (.int .i64 _),.vl (.int .i64 _)])]=>(bl x).length<=10000000
 | _=>False
theorem oB {xs:List S} (h:rR xs):∃ k x n a,xs=[.va (.gs (lE k x n a))]/\(bl x).length<=10000000:=by
 unfold rR at h
 split at h
 · exact ⟨_,_,_,_,rfl,h⟩
 · exact h.elim
def GN:List S->A:=fun xs=>match xs with
 | [.va (.gs [.vl (.int .i64 k),.vl (.string x),.vl (.int .i64 n),.vl (.int .i64 _)])]=>bA (eT k (bl x) n)
 | _=>.gs []
def vldFn:Fun:=⟨rR,GN,fun xs h=>by obtain ⟨_,_,_,_,rfl,_⟩:=oB h; trivial⟩
theorem P4:∀ xs H K,vldFn.sp xs H K->xs.length=1:=fun xs H K h=>by obtain ⟨_,_,_,_,rfl,_⟩:=oB h.1.1; rfl
attribute [go_sem ↓] rR GN vldFn
structure Tx where
 k:Int
 x:List UInt8
 n:Int
 a:Int
abbrev qY (t:Tx):List C:=lE t.k (mk t.x) t.n t.a
structure TkFit (t:Tx):Prop where
 lo:-9223372036854775808<=t.n
 hi:t.n<=9223372036854775807
 len:t.x.length<=100000
def lP (acc:List UInt8) (t:Tx):List UInt8:=bif eT t.k t.x t.n then acc ++ (bif (acc == []) then [] else [32]) ++ eJ t.k t.x t.n else acc
def cX (ts:List Tx):List UInt8:=ts.foldl lP []
def cK (ts:List Tx) (i:Nat):List UInt8:=(ts.take i).foldl lP []
theorem kQ {ts:List Tx} {i:Nat} {t:Tx} (h:ts[i]? = some t):cK ts (i + 1)=lP (cK ts i) t:=by
 unfold cK
 rw [List.take_add_one,h,List.foldl_append]; rfl
theorem pY (ts:List Tx):cK ts ts.length=cX ts:=by unfold cK cX; rw [List.take_length]
theorem H8 {n:Int} (h1:-9223372036854775808<=n) (h2:n<=9223372036854775807):(dW n).length<=21:=by
 have:=qU 19 n.natAbs (by omega)
 unfold dW
 cases decide (n < 0)<;>simp<;>omega
theorem vN {t:Tx} (h:TkFit t):(eJ t.k t.x t.n).length<=200002:=by
 have h1:=H8 h.lo h.hi
 have h2:=B3 t.x
 have h3:=h.len
 unfold eJ jS
 cases t.k == 1<;>cases t.k == 2<;>cases t.k == 3<;>cases t.k == 4<;>simp -dsimp only [aL,aI,List.length_append,List.length_cons,List.length_nil]<;>omega
theorem IK {acc:List UInt8} {t:Tx} (h:TkFit t):(lP acc t).length<=acc.length + 200003:=by
 have:=vN h
 unfold lP
 cases eT t.k t.x t.n<;>cases (acc == [])<;>simp<;>omega
theorem qC {ts:List Tx} (h:∀ t ∈ ts,TkFit t):∀ i,i<=ts.length->(cK ts i).length<=i * 200003
 | 0,_=>by simp [cK]
 | i + 1,hi=>by
  have h1:=qC h i (by omega)
  have hg:ts[i]? = some ts[i]:=aY (by omega)
  rw [kQ hg]
  have:=IK (acc:=cK ts i) (h _ (bK hg))
  omega
def y9:List S->Prop:=fun xs=>match xs with
 | [.va (.c1 (.fz rs))]=>∃ ts:List Tx,rs=ts.map qY/\ts.length<=4001/\∀ t ∈ ts,TkFit t
 | _=>False
theorem kR {xs:List S} (h:y9 xs):∃ ts:List Tx,xs=[.va (.c1 (.fz (ts.map qY)))]/\ts.length<=4001/\∀ t ∈ ts,TkFit t:=by
 unfold y9 at h
 split at h
 · obtain ⟨ts,rfl,h1,h2⟩:=h
   exact ⟨_,rfl,h1,h2⟩
 · exact h.elim
def C.tk (r:List C):Tx:=match r with
 | [.vl (.int .i64 k),.vl (.string x),.vl (.int .i64 n),.vl (.int .i64 a)]=>⟨k,bl x,n,a⟩
 | _=>⟨0,[],0,0⟩
theorem aCK (t:Tx):C.tk (qY t)=t:=rfl
def rZ:List S->A:=fun xs=>match xs with
 | [.va (.c1 (.fz rs))]=>tA (mk (cX (rs.map C.tk)))
 | _=>.gs []
theorem lB (ts:List Tx):rZ [.va (.c1 (.fz (ts.map qY)))]=tA (mk (cX ts)):=by
 show tA (mk (cX ((ts.map qY).map C.tk)))=_
 rw [List.map_map,show (C.tk ∘ qY)=id from funext aCK,List.map_id]
def prtFn:Fun:=⟨y9,rZ,fun xs h=>by obtain ⟨ts,rfl,_⟩:=kR h; rw [lB]; trivial⟩
theorem CM:∀ xs H K,prtFn.sp xs H K->xs.length=1:=fun xs H K h=>by obtain ⟨ts,rfl,_⟩:=kR h.1.1; rfl
theorem aB3:Meets Tryz.prog 96 prtFn.sp:=by
 refine aE Tryz.func96 Pr.ok96 1 (by rw [Tryz.ntmps96]; decide) (aB RT (aB aA2 (aB wY (aB HW (aB KM (aA _)))))) CM ?_
 intro xs H K h
 obtain ⟨⟨hp,rfl⟩,hK⟩:=h
 obtain ⟨ts,rfl,h60,hf⟩:=kR hp
 have hK':K (tS (mk (cX ts))) []:=by have:=hK; rw [show prtFn.val=rZ from rfl,lB] at this; exact this
 simp -dsimp only [go_sem,Pr.pc96,Pr.rs96]
 refine dC (α:=C × Nat) (fun z=>[(3,.va (.c1 (.pt 0 0))),(8,.va (.c1 (.fz (ts.map qY)))),(9,iS .i64 ts.length),(10,iS .i64 z.2)])
  (fun z=>[.cells [z.1,.sl 1 (cK ts z.2).length] 146,.row ((cK ts z.2).map fJ) 5 1])
  (fun z=>(z.1=.vl (.pointer none)\/z.1=.pt 0 0)/\z.2<=ts.length) (fun z=>ts.length - z.2)
  (.nilc 0 1 5 1 _ _ rfl rfl (kV (.vl (.pointer none),0) 2 ⟨.inl rfl,by simp only; omega⟩ ?_ ?_)) ?_
 · simp [go_sem]
 · simp -dsimp only [go_sem]; simp [cK]
 rintro ⟨p,i⟩ ⟨hp,hi⟩
 simp only at hp hi
 have hl:=qC hf i hi
 have hby:∀ (l:List UInt8),∀ r ∈ l.map fJ,∃ c:UInt8,r=fJ c:=fun l r hr=>by obtain ⟨c,_,rfl⟩:=List.mem_map.1 hr; exact ⟨c,rfl⟩
 have hI:∀ (p:C) (l:List UInt8),(p=.vl (.pointer none)\/p=.pt 0 0)->l.length<=1000000000->jE p l.length (l.map fJ):=fun p l h1 h2=>⟨h1,by simp,hby l,by simpa using h2⟩
 have hap:∀ (l:List UInt8),l.map fJ ++ [[C.vl (.int .u8 32)]]=(l ++ [32]).map fJ:=fun l=>by rw [List.map_append]; rfl
 rcases hp with rfl | rfl
 all_goals
  simp -dsimp only [go_sem,LD]
  refine ⟨fun h1=>⟨by simp at h1; omega,fun t ht=>?_⟩,fun h1=>?_⟩
  · have hft:=hf t (bK ht)
    have hlx:=hft.len
    have hxl:=vN hft
    have hst:=kQ ht
    have hlt:i < ts.length:=by simp at h1; omega
    refine ⟨⟨⟨hft.lo,hft.hi⟩,by omega⟩,fun h2=>⟨by omega,?_⟩,fun h2=>?_⟩
    · simp only [lP,h2,aI] at hst
      first
       | (refine aC (C.vl (.pointer none),i + 1) 2 ⟨.inl rfl,hlt⟩ (by simp only; omega) (by simp [go_sem]) ?_; simp -dsimp only [go_sem,hst]; done)
       | (refine aC (C.pt 0 0,i + 1) 2 ⟨.inr rfl,hlt⟩ (by simp only; omega) (by simp [go_sem]) ?_; simp -dsimp only [go_sem,hst]; done)
    · have h2':eT t.k t.x t.n=true:=by simpa using h2
      simp only [lP,h2',aL] at hst
      refine ⟨hI _ _ (by simp) (by omega),fun h3=>?_,fun h3=>?_⟩
      · have hne:(cK ts i == [])=false:=by
         cases hq:cK ts i with
         | nil=>rw [hq] at h3; simp at h3
         | cons c l=>rfl
        rw [hne,aI] at hst
        have hB:jE (C.pt 0 0) ((cK ts i).length + 1) ((cK ts i).map fJ ++ [[C.vl (.int .u8 32)]]):=by
         rw [hap]
         have:=hI (.pt 0 0) (cK ts i ++ [32]) (.inr rfl) (by simp; omega)
         simpa only [List.length_append,List.length_cons,List.length_nil] using this
        refine ⟨⟨hI _ _ (by simp) (by omega),by omega⟩,⟨hB,by omega⟩,by omega,aC (C.pt 0 0,i + 1) 2 ⟨.inr rfl,hlt⟩ (by simp only; omega) (by simp [go_sem]) ?_⟩
        simp -dsimp only [go_sem,hst,List.map_cons,List.map_nil]
        rfl
      · have hne:(cK ts i == [])=true:=by
         cases hq:cK ts i with
         | nil=>rfl
         | cons c l=>rw [hq] at h3; simp at h3
        rw [hne,aL,List.append_nil] at hst
        refine ⟨⟨hI _ _ (by simp) (by omega),by omega⟩,by omega,aC (C.pt 0 0,i + 1) 2 ⟨.inr rfl,hlt⟩ (by simp only; omega) (by simp [go_sem]) ?_⟩
        simp -dsimp only [go_sem,hst]
  · obtain rfl:i=ts.length:=by simp at h1; omega
    rw [GY,pY]
    exact ⟨hI _ _ (by simp) (by rw [pY] at hl; omega),.sel [] (by simp) (by simp) rfl (.done hK')⟩
theorem G4 {l x rest:List UInt8} {a:Nat} (h:l.drop a=x ++ rest):(l.take (a + x.length)).drop a=x:=by
 rw [List.drop_take,h,Nat.add_sub_cancel_left,List.take_left]
theorem E9 {l x rest:List UInt8} {a:Nat} (h:l.drop a=x ++ rest) (j:Nat):l[a + x.length + j]? = rest[j]?:=by
 have:(l.drop a)[x.length + j]? = rest[j]?:=by rw [h,List.getElem?_append_right (by omega)]; congr 1; omega
 rw [<-this,List.getElem?_drop]; congr 1; omega
theorem sM {l x:List UInt8} {a:Nat} {c:UInt8} (h:l.drop a=c :: x):l[a]? = some c:=by
 have:(l.drop a)[0]? = some c:=by rw [h]; rfl
 rwa [List.getElem?_drop,Nat.add_zero] at this
theorem KN {l x:List UInt8} {a:Nat} {c:UInt8} (h:l.drop a=c :: x):l.drop (a + 1)=x:=by
 rw [<-List.drop_drop,h]; rfl
theorem CY {l rest:List UInt8} {a:Nat} {c:UInt8} (h:l.drop a=c :: rest) (hx:dT c.toNat=true):b9 l a=.ok 4 [c] 0 (a + 1)/\∃ c,l[a]? = some c/\(c == 32 || c == 9 || c == 10)=false/\(c == 35)=false:=by
 have hc:=sM h
 have hsk:=cD (p:=fun c=>!(dT c.toNat) || ((!(c == 32 || c == 9 || c == 10) && !(c == 35)) && (!(bB c.toNat) && !(a8 c || c == 45) && !(c == 34)))) (by decide +kernel) c
 simp only [hx,Bool.not_true,Bool.false_or,Bool.and_eq_true,Bool.not_eq_true'] at hsk
 obtain ⟨h1,⟨h2,h3⟩,h4⟩:=hsk
 exact ⟨by simp only [b9,hc,h2,h3,h4,hx,aL,aI],c,hc,h1⟩
theorem JR:∀ (x rest out:List UInt8) (i:Nat),x.all gZ=true->quoL i (x.flatMap lR ++ 34 :: rest) out=(i + (x.flatMap lR).length + 1,some (out ++ x))
 | [],rest,out,i,_=>by
  rw [List.flatMap_nil,List.nil_append,eR]
  simp
 | c :: x,rest,out,i,h=>by
  rw [List.all_cons,Bool.and_eq_true] at h
  obtain ⟨h1,h2⟩:=h
  have ih:=fun i out=>JR x rest out i h2
  rw [List.flatMap_cons,List.append_assoc]
  unfold gZ at h1
  have hlo:(decide (c < 32) || decide (126 < c))=false:=by
   simp only [Bool.and_eq_true,decide_eq_true_eq,UInt8.le_iff_toNat_le] at h1
   simp only [Bool.or_eq_false_iff,decide_eq_false_iff_not,UInt8.lt_iff_toNat_lt]
   exact ⟨by omega,by omega⟩
  rw [show lR c=bif c == 34 || c == 92 then [92,c] else [c] from rfl]
  cases hq:(c == 34 || c == 92) with
  | true=>
   rw [aL,List.cons_append,eR]
   have e1:(decide ((92:UInt8) < 32) || decide ((126:UInt8) < 92))=false:=by decide
   have e2:((92:UInt8) == 34)=false:=by decide
   have e3:((92:UInt8) == 92)=true:=by decide
   rw [e1,e2,e3]
   simp only [aL,aI,List.cons_append,List.nil_append,hq]
   rw [ih]
   simp; omega
  | false=>
   simp only [Bool.or_eq_false_iff] at hq
   rw [aI,List.cons_append,List.nil_append,eR,hlo,hq.1,hq.2]
   simp only [aI]
   rw [ih]
   simp; omega
theorem BZ {l x rest:List UInt8} {a:Nat} (h:l.drop a=jS x ++ rest) (hl:x.length<=200) (hx:x.all gZ=true):b9 l a=.ok 3 x 0 (a + (jS x).length)/\∃ c,l[a]? = some c/\(c == 32 || c == 9 || c == 10)=false/\(c == 35)=false:=by
 have h':l.drop a=34 :: (x.flatMap lR ++ 34 :: rest):=by rw [h]; simp [jS]
 have hc:=sM h'
 refine ⟨?_,34,hc,by decide,by decide⟩
 have e1:bB ((34:UInt8).toNat:Int)=false:=by decide
 have e2:(a8 34 || (34:UInt8) == 45)=false:=by decide
 have h200:decide (200 < x.length)=false:=by simp; omega
 simp only [b9,hc,e1,e2,aI,eP,KN h',JR x rest [] (a + 1) hx,List.nil_append,h200]
 simp [jS]
 omega
theorem vG:∀ (k m:Nat),m < 10 ^ (k + 1)->∀ c ∈ digs m,a8 c=true
 | 0,m,h=>fun c hc=>by
  rw [jL (by omega)] at hc
  simp only [List.mem_cons,List.not_mem_nil,or_false] at hc
  subst hc
  rw [iI,UInt8.toNat_ofNat']
  omega
 | k + 1,m,h=>fun c hc=>by
  rcases bE m 10 with h1 | h1
  · exact vG 0 m (by omega) c hc
  · rw [mH h1,List.mem_append] at hc
    rcases hc with hc | hc
    · exact vG k (m / 10) (by rw [Nat.pow_succ] at h; omega) c hc
    · simp only [List.mem_cons,List.not_mem_nil,or_false] at hc
      subst hc
      rw [iI,UInt8.toNat_ofNat']
      omega
theorem BC (m:Nat):digs m ≠ []:=by rw [digs.eq_1]; simp
theorem sT:∀ (k m:Nat),m < 10 ^ (k + 1)->0 < m->(digs m)[0]? ≠ some 48
 | 0,m,h,h0=>by
  rw [jL (by omega)]
  simp only [List.getElem?_cons_zero,ne_eq,aH]
  intro e
  have:=congrArg UInt8.toNat e
  rw [UInt8.toNat_ofNat'] at this
  have:(48 + m) % 256=48:=this
  omega
 | k + 1,m,h,h0=>by
  rcases bE m 10 with h1 | h1
  · exact sT 0 m (by omega) h0
  · rw [mH h1,List.getElem?_append_left (List.length_pos_iff.2 (BC _))]
    exact sT k (m / 10) (by rw [Nat.pow_succ] at h; omega) (by omega)
theorem HS (c:UInt8):∀ (l:List UInt8) (n:Nat),decV n (l ++ [c])=10 * decV n l + (c.toNat - 48)
 | [],n=>by rw [List.nil_append,fT,j9,j9]
 | d :: l,n=>by rw [List.cons_append,fT,fT,HS c l]
theorem rL:∀ (k m:Nat),m < 10 ^ (k + 1)->decV 0 (digs m)=m
 | 0,m,h=>by
  rw [jL (by omega),fT,j9,UInt8.toNat_ofNat']
  omega
 | k + 1,m,h=>by
  rcases bE m 10 with h1 | h1
  · exact rL 0 m (by omega)
  · rw [mH h1,HS,rL k (m / 10) (by rw [Nat.pow_succ] at h; omega),UInt8.toNat_ofNat']
    omega
abbrev PW (t:Tx):Bool:=eT t.k t.x t.n
abbrev r8 (t:Tx):List UInt8:=eJ t.k t.x t.n
abbrev UO (t:Tx):Int × List UInt8 × Int:=(t.k,t.x,t.n)
abbrev sN (t:Tk):Int × List UInt8 × Int:=(t.k,t.x,t.n)
def sI:PC:=.seq (.seq (.gh (.reg [.v 25 7,.q 26 (.nc (.t 25)),.q 27 (.fa 4 (.t 26)),.l 28 (.ld1 (.t 27)),.v 29 28,⟨some 30,(some (29,false)),.q (.mv (.t 8))⟩,⟨some 31,(some (29,false)),.q (.lnS (.t 30))⟩,⟨some 32,(some (29,false)),.q (.bin .gtr true (.t 31) (.i 4000))⟩,.a 33 (.pick (.t 29) (.k (.bool true)) (.t 32))])) (.cond (.t 33) (.seq (.reg [.q 6 (.mv (.k (.string (mk []))))]) .ret) .skip)) (.seq (.reg [.v 34 8,.v 6 34]) .ret)
@[go_sem ↓] theorem aPG:a6 sI:=a7 _
def H6:PC:=.seq (.gh (.ord  [.q (.q 17 (.fa 0 (.t 4))),.q (.l 18 (.ld1 (.t 17))),.q (.v 21 7),.q (.l 22 (.ldn 4 (.t 4))),.q (.l 23 (.ldn 5 (.t 5))),.m (.a 19 (.cl 24 [(.t 18)] [])),.rc (.v 21 7),.rc (.l 22 (.ldn 4 (.t 4))),.rc (.l 23 (.ldn 5 (.t 5))),.q (.q 20 (.fld1 0 (.t 19))),.m (.a 24 (.ca (.t 20) [(.t 21),(.t 22),(.t 23)] [3])),.m (.v 8 24)])) (sI)
@[go_sem ↓] theorem aMZ:a6 H6:=a7 _
def SV:PC:=.seq (.reg [.e 3 (.bx 25 (.t 0)),.e 4 (.bx 28 (.t 1)),.e 5 (.bx 32 (.t 2)),.q 6 (.mv (.k (.string (mk []))))]) (.seq (.seq (.reg [.l 9 (.ldn 3 (.t 3)),.l 10 (.ldn 4 (.t 4)),.l 11 (.ldn 5 (.t 5)),.a 12 (.cq 23 [(.t 9),(.t 10),(.t 11)]),.q 13 (.bin .neq true (.t 12) (.i 0))]) (.cond (.t 13) (.seq (.reg [.q 6 (.mv (.k (.string (mk []))))]) .ret) .skip)) (.seq (.reg [.l 14 (.ldn 3 (.t 3)),.q 15 (.bd [(.int .i64 0),(.slice none 0 0),(.slice none 0 0),(.pointer none),(.bool false),(.int .i64 0)] [(0,3,(.t 14))]),.e 16 (.bx 62 (.t 15)),.v 7 16]) (H6)))
def Q9:List RV:=[.mv (.t 6)]
theorem aOG:aM Tryz.prog true ⟨fun r k=>if r=1/\k=3 then .q else if r=4/\k=7 then .own [3] else .own [],fun r=>[4,5].contains r⟩ Tryz.f11=some (SV,Q9):=by kernel_rfl
def HR:PC:=.gh (.reg [.v 46 12,.a 47 (.cl 31 [(.t 46)] [4,3])])
@[go_sem ↓] theorem aLT:a6 HR:=a7 _
def mP:PC:=.seq (.gh (.reg [.v 61 14,.q 62 (.bin .neq true (.t 61) (.i 0))])) (.cond (.t 62) (.seq (.reg [.q 63 (.bd [(.int .i64 0),(.int .i64 0),(.string (mk [])),(.slice none 0 0),(.slice none 0 0)] []),.v 64 14,.s (.st 5 (.t 6) (.t 63)),.v 7 64,.q 8 (.mv (.i 0))]) .ret) .skip)
@[go_sem ↓] theorem aJ9:a6 mP:=a7 _
def t8:PC:=.seq (.seq (.gh (.reg [.l 57 (.ldn 3 (.t 3)),.l 58 (.ldn 4 (.t 4)),.l 59 (.ldn 5 (.t 13)),.a 60 (.cq 23 [(.t 57),(.t 58),(.t 59)]),.v 14 60])) (mP)) (.seq (.reg [.l 65 (.ldn 5 (.t 13)),.s (.st 5 (.t 6) (.t 65)),.q 7 (.mv (.i 0)),.q 8 (.mv (.i 0))]) .ret)
@[go_sem ↓] theorem aJ0:a6 t8:=a7 _
def mS:PC:=.seq (.seq (.gh (.reg [.v 48 12,.q 49 (.nc (.t 48)),.q 50 (.fa 4 (.t 49)),.l 51 (.ld1 (.t 50))])) (.cond (.t 51) (.seq (.ord  [.q (.q 52 (.bd [(.int .i64 0),(.int .i64 0),(.string (mk [])),(.slice none 0 0),(.slice none 0 0)] [])),.q (.v 53 12),.q (.q 54 (.nc (.t 53))),.q (.q 55 (.fa 5 (.t 54))),.q (.l 56 (.ld1 (.t 55))),.m (.s (.st 5 (.t 6) (.t 52))),.rc (.v 53 12),.rc (.q 54 (.nc (.t 53))),.rc (.q 55 (.fa 5 (.t 54))),.rc (.l 56 (.ld1 (.t 55))),.m (.q 7 (.mv (.i 2))),.rc (.v 53 12),.rc (.q 54 (.nc (.t 53))),.rc (.q 55 (.fa 5 (.t 54))),.rc (.l 56 (.ld1 (.t 55))),.m (.v 8 56)]) .ret) .skip)) (t8)
@[go_sem ↓] theorem aJZ:a6 mS:=a7 _
def IQ:PC:=.seq (.seq (.gh (.reg [.v 42 9,.a 43 (.cl 30 [(.t 42)] [3]),.q 44 (.fld1 0 (.t 43)),.q 45 (.bin .neq true (.t 44) (.i 0))])) (.cond (.t 45) (HR) .skip)) (mS)
@[go_sem ↓] theorem aLF:a6 IQ:=a7 _
def IM:PC:=.seq (.gh (.ord  [.q (.q 35 (.fa 0 (.t 4))),.q (.l 36 (.ld1 (.t 35))),.q (.v 39 12),.q (.l 40 (.ldn 4 (.t 4))),.m (.a 37 (.cl 24 [(.t 36)] [])),.rc (.v 39 12),.rc (.l 40 (.ldn 4 (.t 4))),.q (.q 38 (.fld1 1 (.t 37))),.m (.a 41 (.ca (.t 38) [(.t 39),(.t 40)] [4,3])),.m (.e 13 (.al (.agg #[(.int .i64 0),(.int .i64 0),(.string (mk [])),(.slice none 0 0),(.slice none 0 0)]) 32)),.m (.s (.st 5 (.t 13) (.t 41)))])) (IQ)
@[go_sem ↓] theorem aM4:a6 IM:=a7 _
def HT:PC:=.seq (.gh (.reg [.l 31 (.ldn 3 (.t 3)),.v 32 9,.q 33 (.bd [(.int .i64 0),(.slice none 0 0),(.slice none 0 0),(.pointer none),(.bool false),(.int .i64 0)] [(0,3,(.t 31)),(3,1,(.t 32))]),.e 34 (.bx 62 (.t 33)),.v 12 34])) (IM)
@[go_sem ↓] theorem aNR:a6 HT:=a7 _
def w9:PC:=.seq (.seq (.gh (.reg [.v 26 10,.q 27 (.bin .neq true (.t 26) (.i 0))])) (.cond (.t 27) (.seq (.reg [.q 28 (.bd [(.int .i64 0),(.int .i64 0),(.string (mk [])),(.slice none 0 0),(.slice none 0 0)] []),.v 29 10,.v 30 11,.s (.st 5 (.t 6) (.t 28)),.v 7 29,.v 8 30]) .ret) .skip)) (HT)
@[go_sem ↓] theorem aNP:a6 w9:=a7 _
def GO:PC:=.seq (.gh (.reg [.v 21 2,.a 22 (.cl 29 [(.t 21)] []),.v 20 22,.q 23 (.ex (.t 20) 0),.q 24 (.ex (.t 20) 1),.q 25 (.ex (.t 20) 2),.v 9 23,.v 10 24,.v 11 25])) (w9)
@[go_sem ↓] theorem aMU:a6 GO:=a7 _
def RR:PC:=.seq (.reg [.e 3 (.bx 25 (.t 0)),.e 4 (.bx 28 (.t 1)),.e 6 (.al (.agg #[(.int .i64 0),(.int .i64 0),(.string (mk [])),(.slice none 0 0),(.slice none 0 0)]) 32),.q 7 (.mv (.i 0)),.q 8 (.mv (.i 0))]) (.seq (.seq (.reg [.l 15 (.ldn 3 (.t 3)),.l 16 (.ldn 4 (.t 4)),.a 17 (.cq 28 [(.t 15),(.t 16)]),.q 18 (.not (.t 17))]) (.cond (.t 18) (.seq (.reg [.q 19 (.bd [(.int .i64 0),(.int .i64 0),(.string (mk [])),(.slice none 0 0),(.slice none 0 0)] []),.s (.st 5 (.t 6) (.t 19)),.q 7 (.mv (.i 13)),.q 8 (.mv (.i 0))]) .ret) .skip)) (GO))
def RB:List RV:=[.ld (.ldn 5 (.t 6)),.mv (.t 7),.mv (.t 8)]
theorem aMS:aM Tryz.prog true ⟨fun r k=>if r=1/\k=2 then .q else if r=7/\k=6 then .own [4,3] else if r=8/\k=1 then .own [3] else if r=9/\k=1 then .own [4,3] else if r=12/\k=3 then .q else .own [],fun r=>[3,4,6,7,8,10,12,13,9].contains r⟩ Tryz.f13=some (RR,RB):=by kernel_rfl
def wK:PC:=.seq (.reg [.e 2 (.al (.agg #[.nilFunc,.nilFunc]) 66)]) (.seq (.seq (.reg [.v 3 0]) (.block 0 (.seq (.reg [.q 5 (.bin .eql true (.t 3) (.i 1)),.v 4 5]) (.cond (.t 4) (.seq (.reg [.q 6 (.bd [.nilFunc,.nilFunc] [(0,1,(.f 54)),(1,1,(.f 55))]),.s (.st 2 (.t 2) (.t 6))]) .ret) (.seq (.reg [.q 8 (.bin .eql true (.t 3) (.i 4)),.v 7 8]) (.cond (.t 7) (.seq (.reg [.q 9 (.bd [.nilFunc,.nilFunc] [(0,1,(.f 56)),(1,1,(.f 57))]),.s (.st 2 (.t 2) (.t 9))]) .ret) (.seq (.reg [.q 11 (.bin .eql true (.t 3) (.i 7)),.v 10 11]) (.cond (.t 10) (.seq (.reg [.q 12 (.bd [.nilFunc,.nilFunc] [(0,1,(.f 58)),(1,1,(.f 59))]),.s (.st 2 (.t 2) (.t 12))]) .ret) (.seq (.reg [.q 14 (.bin .eql true (.t 3) (.i 5)),.v 13 14]) (.cond (.t 13) (.seq (.reg [.q 15 (.bd [.nilFunc,.nilFunc] [(0,1,(.f 60)),(1,1,(.f 61))]),.s (.st 2 (.t 2) (.t 15))]) .ret) (.seq (.reg [.q 17 (.bin .eql true (.t 3) (.i 6)),.v 16 17]) (.cond (.t 16) (.seq (.reg [.q 18 (.bd [.nilFunc,.nilFunc] [(0,1,(.f 62)),(1,1,(.f 63))]),.s (.st 2 (.t 2) (.t 18))]) .ret) .skip)))))))))))) (.seq (.reg [.q 19 (.bd [.nilFunc,.nilFunc] [(0,1,(.f 64)),(1,1,(.f 65))]),.s (.st 2 (.t 2) (.t 19))]) .ret))
def v6:List RV:=[.ld (.ldn 2 (.t 2))]
theorem aLX:aM Tryz.prog true ⟨fun _ _=>.own [],fun _=>false⟩ Tryz.f24=some (wK,v6):=by kernel_rfl
def aCW:PC:=.seq (.reg [.e 2 (.bx 25 (.t 0)),.e 3 (.bx 28 (.t 1)),.q 4 (.mv (.k (.bool false)))]) (.seq (.ord  [.q (.l 5 (.ldn 3 (.t 2))),.q (.l 6 (.ldn 4 (.t 3))),.q (.l 7 (.ldn 3 (.t 2))),.q (.l 8 (.ldn 4 (.t 3))),.m (.a 9 (.cl 71 [(.t 7),(.t 8)] [])),.rc (.l 5 (.ldn 3 (.t 2))),.rc (.l 6 (.ldn 4 (.t 3))),.m (.a 10 (.cq 23 [(.t 5),(.t 6),(.t 9)])),.q (.q 11 (.bin .eql true (.t 10) (.i 0))),.m (.v 4 11)]) .ret)
def aC2:List RV:=[.mv (.t 4)]
theorem aL3:aM Tryz.prog true ⟨fun r k=>if r=1/\k=5 then .q else .own [],fun _=>false⟩ Tryz.f28=some (aCW,aC2):=by kernel_rfl
def RG:PC:=.seq (.reg [.v 2 0,.q 3 (.nc (.t 2)),.q 4 (.fa 4 (.t 3)),.l 5 (.ld1 (.t 4)),.q 6 (.not (.t 5))]) (.cond (.t 6) (.reg [.v 7 0,.v 8 0,.v 9 0,.q 10 (.nc (.t 9)),.q 11 (.fa 3 (.t 10)),.l 12 (.ld1 (.t 11)),.a 13 (.cl 30 [(.t 12)] [1]),.q 14 (.fld1 3 (.t 13)),.q 15 (.nc (.t 7)),.q 16 (.fa 4 (.t 15)),.s (.st 1 (.t 16) (.k (.bool true))),.q 17 (.nc (.t 8)),.q 18 (.fa 5 (.t 17)),.s (.st 1 (.t 18) (.t 14))]) .skip)
def RU:List RV:=[]
theorem aK2:aM Tryz.prog true ⟨fun r k=>if r=1/\k=6 then .own [1] else .own [],fun _=>false⟩ Tryz.f31=some (RG,RU):=by kernel_rfl
def aGC:PC:=.seq (.reg [.e 4 (.bx 28 (.t 1)),.e 5 (.bx 32 (.t 2)),.q 6 (.mv (.k (.string (mk []))))]) (.seq (.seq (.reg [.q 7 (.fa 1 (.t 5)),.l 8 (.ld1 (.t 7)),.q 9 (.bin .eql true (.t 8) (.i 1))]) (.cond (.t 9) (.seq (.reg [.q 6 (.mv (.k (.string (mk [116,114,117,101]))))]) .ret) .skip)) (.seq (.reg [.q 6 (.mv (.k (.string (mk [102,97,108,115,101]))))]) .ret))
def aCO:List RV:=[.mv (.t 6)]
theorem aMP:aM Tryz.prog true ⟨fun _ _=>.own [],fun _=>false⟩ Tryz.f54=some (aGC,aCO):=by kernel_rfl
def GM:PC:=.gh (.reg [.q 20 (.fa 1 (.t 5)),.s (.st 1 (.t 20) (.i 1))])
@[go_sem ↓] theorem aMN:a6 GM:=a7 _
def zX:PC:=.gh (.reg [.v 34 0,.a 35 (.cl 31 [(.t 34)] [0,1])])
@[go_sem ↓] theorem aK9:a6 zX:=a7 _
def w7:PC:=.seq (.gh (.reg [.v 22 0,.q 23 (.nc (.t 22)),.q 24 (.fa 4 (.t 23)),.l 25 (.ld1 (.t 24)),.v 26 25,⟨some 27,(some (26,false)),.q (.mv (.t 0))⟩,⟨some 28,(some (26,false)),.q (.nc (.t 27))⟩,⟨some 29,(some (26,false)),.q (.fa 3 (.t 28))⟩,⟨some 30,(some (26,false)),.l (.ld1 (.t 29))⟩,⟨some 31,(some (26,false)),.cl 95 [(.t 30),(.k (.string (mk [102,97,108,115,101])))] [1]⟩,⟨some 32,(some (26,false)),.q (.not (.t 31))⟩,.a 33 (.pick (.t 26) (.k (.bool true)) (.t 32)),.v 21 33])) (.cond (.t 21) (zX) .skip)
@[go_sem ↓] theorem aOU:a6 w7:=a7 _
def oO:PC:=.seq (.gh (.reg [.l 36 (.ldn 5 (.t 5)),.s (.st 5 (.t 4) (.t 36))])) .ret
@[go_sem ↓] theorem aM9:a6 oO:=a7 _
def TZ:PC:=.seq (.reg [.e 3 (.bx 28 (.t 1)),.e 4 (.al (.agg #[(.int .i64 0),(.int .i64 0),(.string (mk [])),(.slice none 0 0),(.slice none 0 0)]) 32)]) (.seq (.reg [.q 6 (.bd [(.int .i64 0),(.int .i64 0),(.string (mk [])),(.slice none 0 0),(.slice none 0 0)] [(0,1,(.i 1))]),.e 5 (.al (.agg #[(.int .i64 0),(.int .i64 0),(.string (mk [])),(.slice none 0 0),(.slice none 0 0)]) 32),.s (.st 5 (.t 5) (.t 6))]) (.seq (.block 0 (.seq (.reg [.v 8 0,.q 9 (.nc (.t 8)),.q 10 (.fa 4 (.t 9)),.l 11 (.ld1 (.t 10)),.q 12 (.not (.t 11)),.v 13 12,⟨some 14,(some (13,true)),.q (.mv (.t 0))⟩,⟨some 15,(some (13,true)),.q (.nc (.t 14))⟩,⟨some 16,(some (13,true)),.q (.fa 3 (.t 15))⟩,⟨some 17,(some (13,true)),.l (.ld1 (.t 16))⟩,⟨some 18,(some (13,true)),.cl 95 [(.t 17),(.k (.string (mk [116,114,117,101])))] [1]⟩,.a 19 (.pick (.t 13) (.t 18) (.k (.bool false))),.v 7 19]) (.cond (.t 7) (GM) (w7)))) (oO)))
def RK:List RV:=[.ld (.ldn 5 (.t 4))]
theorem aON:aM Tryz.prog true ⟨fun r k=>if r=2/\k=10 then .own [1] else if r=4/\k=9 then .own [1] else if r=5/\k=1 then .own [0,1] else .own [],fun r=>[4,6,3,5].contains r⟩ Tryz.f55=some (TZ,RK):=by kernel_rfl
def aEC:PC:=.seq (.reg [.e 4 (.bx 28 (.t 1)),.e 5 (.bx 32 (.t 2)),.q 6 (.mv (.k (.string (mk []))))]) (.seq (.reg [.q 8 (.fa 2 (.t 5)),.l 9 (.ld1 (.t 8)),.q 10 (.bd [(.int .i64 0),(.string (mk [])),(.int .i64 0),(.int .i64 0)] [(0,1,(.i 3)),(1,1,(.t 9))]),.e 11 (.bsl 71 4 [(.t 10)]),.a 12 (.cq 96 [(.t 11)]),.v 7 12]) (.seq (.reg [.v 13 0,.v 14 0,.q 15 (.nc (.t 14)),.q 16 (.fa 4 (.t 15)),.l 17 (.ld1 (.t 16)),.v 18 17,⟨some 19,(some (18,false)),.q (.mv (.t 7))⟩,⟨some 20,(some (18,false)),.q (.bin .eql true (.t 19) (.k (.string (mk []))))⟩,.a 21 (.pick (.t 18) (.k (.bool true)) (.t 20)),.q 22 (.nc (.t 13)),.q 23 (.fa 4 (.t 22)),.s (.st 1 (.t 23) (.t 21))]) (.seq (.reg [.v 24 7,.v 6 24]) .ret)))
def aBZ:List RV:=[.mv (.t 6)]
theorem aOF:aM Tryz.prog true ⟨fun r k=>if r=1/\k=4 then .q else .own [],fun _=>false⟩ Tryz.f56=some (aEC,aBZ):=by kernel_rfl
def aFN:PC:=.seq (.reg [.e 3 (.bx 28 (.t 1)),.e 4 (.al (.agg #[(.int .i64 0),(.int .i64 0),(.string (mk [])),(.slice none 0 0),(.slice none 0 0)]) 32)]) (.seq (.reg [.v 5 0,.a 6 (.cl 97 [(.t 5),(.i 3)] [0,1]),.q 7 (.fld1 1 (.t 6)),.q 8 (.bd [(.int .i64 0),(.int .i64 0),(.string (mk [])),(.slice none 0 0),(.slice none 0 0)] [(0,1,(.i 4)),(2,1,(.t 7))]),.s (.st 5 (.t 4) (.t 8))]) .ret)
def aC1:List RV:=[.ld (.ldn 5 (.t 4))]
theorem aO6:aM Tryz.prog true ⟨fun r k=>if r=1/\k=1 then .own [0,1] else .own [],fun _=>false⟩ Tryz.f57=some (aFN,aC1):=by kernel_rfl
def sE:PC:=.seq (.gh (.reg [.v 29 10,.q 30 (.fa 1 (.t 5)),.l 31 (.ld1 (.t 30)),.q 32 (.bin .eql true (.t 29) (.t 31)),.v 33 32,⟨some 34,(some (33,true)),.q (.mv (.t 9))⟩,⟨some 35,(some (33,true)),.q (.fa 1 (.t 7))⟩,⟨some 36,(some (33,true)),.l (.ld1 (.t 35))⟩,⟨some 37,(some (33,true)),.q (.lnL (.t 36))⟩,⟨some 38,(some (33,true)),.q (.bin .lss true (.t 34) (.t 37))⟩,.a 39 (.pick (.t 33) (.t 38) (.k (.bool false)))])) (.cond (.t 39) (.seq (.reg [.q 40 (.fa 1 (.t 7)),.l 41 (.ld1 (.t 40)),.v 42 9,.l 43 (.ia 1 (.t 41) (.t 42)),.l 44 (.ld1 (.t 43)),.v 6 44]) .ret) .skip)
@[go_sem ↓] theorem aL0:a6 sE:=a7 _
def IP:PC:=.seq (.seq (.gh (.reg [.q 21 (.fa 2 (.t 7)),.l 22 (.ld1 (.t 21)),.q 23 (.lnL (.t 22)),.q 24 (.mv (.i 0))])) (.block 0 (.loop (.seq (.reg [.q 25 (.bin .lss true (.t 24) (.t 23))]) (.seq (.cond (.t 25) .skip (.exit 0)) (.seq (.block 1 (.seq (.reg [.v 26 24,.l 27 (.ia 1 (.t 22) (.t 24)),.l 28 (.ld1 (.t 27)),.v 9 26,.v 10 28]) (sE))) (.reg [.q 45 (.bin .add true (.t 24) (.i 1)),.v 24 45]))))))) (.seq (.reg [.q 6 (.mv (.k (.string (mk []))))]) .ret)
@[go_sem ↓] theorem aNE:a6 IP:=a7 _
def aCX:PC:=.seq (.reg [.e 4 (.bx 28 (.t 1)),.e 5 (.bx 32 (.t 2)),.q 6 (.mv (.k (.string (mk []))))]) (.seq (.ord  [.q (.v 12 0),.q (.q 13 (.nc (.t 12))),.q (.q 14 (.fa 0 (.t 13))),.q (.l 15 (.ldn 3 (.t 14))),.q (.q 16 (.fa 2 (.t 4))),.q (.l 17 (.ld1 (.t 16))),.m (.a 18 (.cl 98 [(.t 15),(.t 17)] [])),.q (.v 11 18),.q (.q 19 (.ex (.t 11) 0)),.q (.q 20 (.ex (.t 11) 1)),.m (.e 7 (.al (.agg #[(.string (mk [])),(.slice none 0 0),(.slice none 0 0)]) 92)),.rc (.v 11 18),.rc (.q 19 (.ex (.t 11) 0)),.rc (.q 20 (.ex (.t 11) 1)),.m (.s (.st 3 (.t 7) (.t 19))),.rc (.q 20 (.ex (.t 11) 1)),.m (.v 8 20)]) (IP))
def aCB:List RV:=[.mv (.t 6)]
theorem aO3:aM Tryz.prog true ⟨fun _ _=>.own [],fun r=>[2,5].contains r⟩ Tryz.f58=some (aCX,aCB):=by kernel_rfl
def GF:PC:=.gh (.ord  [.q (.q 34 (.fa 1 (.t 6))),.q (.l 35 (.ld1 (.t 34))),.q (.v 36 0),.q (.q 37 (.nc (.t 36))),.q (.q 38 (.fa 3 (.t 37))),.q (.l 39 (.ld1 (.t 38))),.m (.a 40 (.cl 30 [(.t 39)] [1])),.rc (.q 34 (.fa 1 (.t 6))),.rc (.l 35 (.ld1 (.t 34))),.q (.q 41 (.fld1 1 (.t 40))),.m (.a 42 (.cq 99 [(.t 35),(.t 41)])),.m (.v 8 42)])
@[go_sem ↓] theorem aL9:a6 GF:=a7 _
def oQ:PC:=.seq (.gh (.reg [.l 54 (.ldn 5 (.t 5)),.s (.st 5 (.t 4) (.t 54))])) .ret
@[go_sem ↓] theorem aMJ:a6 oQ:=a7 _
def oY:PC:=.seq (.gh (.reg [.v 52 0,.a 53 (.cl 31 [(.t 52)] [0,1])])) (oQ)
@[go_sem ↓] theorem aOI:a6 oY:=a7 _
def BT:PC:=.seq (.gh (.reg [.l 66 (.ldn 5 (.t 5)),.s (.st 5 (.t 4) (.t 66))])) .ret
@[go_sem ↓] theorem aKR:a6 BT:=a7 _
def A4:PC:=.seq (.gh (.reg [.q 60 (.fa 2 (.t 6)),.l 61 (.ld1 (.t 60)),.v 62 8,.l 63 (.ia 1 (.t 61) (.t 62)),.l 64 (.ld1 (.t 63)),.q 65 (.fa 1 (.t 5)),.s (.st 1 (.t 65) (.t 64))])) (BT)
@[go_sem ↓] theorem aJ7:a6 A4:=a7 _
def HP:PC:=.seq (.gh (.reg [.v 55 0,.q 56 (.nc (.t 55)),.q 57 (.fa 3 (.t 56)),.l 58 (.ld1 (.t 57)),.a 59 (.cl 100 [(.t 58)] [1])])) (A4)
@[go_sem ↓] theorem aO5:a6 HP:=a7 _
def nH:PC:=.seq (.seq (.gh (.reg [.v 43 8,.q 44 (.bin .lss true (.t 43) (.i 0)),.v 45 44,⟨some 46,(some (45,false)),.q (.mv (.t 8))⟩,⟨some 47,(some (45,false)),.q (.fa 2 (.t 6))⟩,⟨some 48,(some (45,false)),.l (.ld1 (.t 47))⟩,⟨some 49,(some (45,false)),.q (.lnL (.t 48))⟩,⟨some 50,(some (45,false)),.q (.bin .geq true (.t 46) (.t 49))⟩,.a 51 (.pick (.t 45) (.k (.bool true)) (.t 50))])) (.cond (.t 51) (oY) .skip)) (HP)
@[go_sem ↓] theorem aLG:a6 nH:=a7 _
def xM:PC:=.seq (.gh (.reg [.q 8 (.mv (.i (-1)))])) (.seq (.seq (.reg [.v 20 0,.q 21 (.nc (.t 20)),.q 22 (.fa 4 (.t 21)),.l 23 (.ld1 (.t 22)),.q 24 (.not (.t 23)),.v 25 24,⟨some 26,(some (25,true)),.q (.mv (.t 0))⟩,⟨some 27,(some (25,true)),.q (.nc (.t 26))⟩,⟨some 28,(some (25,true)),.q (.fa 3 (.t 27))⟩,⟨some 29,(some (25,true)),.l (.ld1 (.t 28))⟩,⟨some 30,(some (25,true)),.cl 30 [(.t 29)] [1]⟩,⟨some 31,(some (25,true)),.q (.fld1 0 (.t 30))⟩,⟨some 32,(some (25,true)),.q (.bin .eql true (.t 31) (.i 1))⟩,.a 33 (.pick (.t 25) (.t 32) (.k (.bool false)))]) (.cond (.t 33) (GF) .skip)) (nH))
@[go_sem ↓] theorem aLE:a6 xM:=a7 _
def aB0:PC:=.seq (.reg [.e 3 (.bx 28 (.t 1)),.e 4 (.al (.agg #[(.int .i64 0),(.int .i64 0),(.string (mk [])),(.slice none 0 0),(.slice none 0 0)]) 32)]) (.seq (.reg [.q 9 (.bd [(.int .i64 0),(.int .i64 0),(.string (mk [])),(.slice none 0 0),(.slice none 0 0)] [(0,1,(.i 7))]),.e 5 (.al (.agg #[(.int .i64 0),(.int .i64 0),(.string (mk [])),(.slice none 0 0),(.slice none 0 0)]) 32),.s (.st 5 (.t 5) (.t 9))]) (.seq (.ord  [.q (.v 11 0),.q (.q 12 (.nc (.t 11))),.q (.q 13 (.fa 0 (.t 12))),.q (.l 14 (.ldn 3 (.t 13))),.q (.q 15 (.fa 2 (.t 3))),.q (.l 16 (.ld1 (.t 15))),.m (.a 17 (.cl 98 [(.t 14),(.t 16)] [])),.q (.v 10 17),.q (.q 18 (.ex (.t 10) 0)),.q (.q 19 (.ex (.t 10) 1)),.m (.e 6 (.al (.agg #[(.string (mk [])),(.slice none 0 0),(.slice none 0 0)]) 92)),.rc (.v 10 17),.rc (.q 18 (.ex (.t 10) 0)),.rc (.q 19 (.ex (.t 10) 1)),.m (.s (.st 3 (.t 6) (.t 18))),.rc (.q 19 (.ex (.t 10) 1)),.m (.v 7 19)]) (xM)))
def aBR:List RV:=[.ld (.ldn 5 (.t 4))]
theorem aN9:aM Tryz.prog true ⟨fun r k=>if r=4/\k=10 then .own [1] else if r=5/\k=6 then .own [1] else if r=5/\k=8 then .q else if r=7/\k=1 then .own [0,1] else if r=9/\k=4 then .own [1] else .own [],fun r=>[3,6,7,8,9,10,11,5].contains r⟩ Tryz.f59=some (aB0,aBR):=by kernel_rfl
def w8:PC:=.gh (.ord  [.q (.v 22 7),.q (.q 23 (.fa 3 (.t 4))),.q (.l 24 (.ld1 (.t 23))),.q (.l 25 (.ia 4 (.t 24) (.i 0))),.q (.q 26 (.fa 0 (.t 25))),.q (.l 27 (.ld1 (.t 26))),.q (.v 30 0),.q (.q 31 (.fa 3 (.t 4))),.q (.l 32 (.ld1 (.t 31))),.q (.l 33 (.ia 4 (.t 32) (.i 0))),.q (.l 34 (.ldn 4 (.t 33))),.q (.l 35 (.ldn 5 (.t 9))),.m (.a 28 (.cl 24 [(.t 27)] [])),.rc (.v 22 7),.rc (.v 30 0),.rc (.q 31 (.fa 3 (.t 4))),.rc (.l 32 (.ld1 (.t 31))),.rc (.l 33 (.ia 4 (.t 32) (.i 0))),.rc (.l 34 (.ldn 4 (.t 33))),.rc (.l 35 (.ldn 5 (.t 9))),.q (.q 29 (.fld1 0 (.t 28))),.m (.a 36 (.ca (.t 29) [(.t 30),(.t 34),(.t 35)] [0])),.rc (.v 22 7),.q (.q 37 (.bin .add true (.t 22) (.t 36))),.m (.v 7 37)])
@[go_sem ↓] theorem aOV:a6 w8:=a7 _
def aD9:PC:=.seq (.reg [.e 4 (.bx 28 (.t 1)),.e 5 (.bx 32 (.t 2)),.q 6 (.mv (.k (.string (mk []))))]) (.seq (.reg [.q 7 (.mv (.k (.string (mk [91]))))]) (.seq (.seq (.reg [.q 10 (.fa 3 (.t 5)),.l 11 (.ld1 (.t 10)),.q 12 (.lnL (.t 11)),.q 13 (.mv (.i 0))]) (.block 0 (.loop (.seq (.reg [.q 14 (.bin .lss true (.t 13) (.t 12))]) (.seq (.cond (.t 14) .skip (.exit 0)) (.seq (.block 1 (.seq (.reg [.v 15 13,.l 16 (.ia 5 (.t 11) (.t 13)),.l 17 (.ldn 5 (.t 16)),.e 9 (.al (.agg #[(.int .i64 0),(.int .i64 0),(.string (mk [])),(.slice none 0 0),(.slice none 0 0)]) 32),.v 8 15,.s (.st 5 (.t 9) (.t 17))]) (.seq (.seq (.reg [.v 18 8,.q 19 (.bin .gtr true (.t 18) (.i 0))]) (.cond (.t 19) (.reg [.v 20 7,.q 21 (.bin .add true (.t 20) (.k (.string (mk [44,32])))),.v 7 21]) .skip)) (w8)))) (.reg [.q 38 (.bin .add true (.t 13) (.i 1)),.v 13 38]))))))) (.seq (.reg [.v 39 7,.q 40 (.bin .add true (.t 39) (.k (.string (mk [93])))),.v 6 40]) .ret)))
def aD1:List RV:=[.mv (.t 6)]
theorem aMC:aM Tryz.prog true ⟨fun r k=>if r=7/\k=14 then .own [0] else .own [],fun r=>[7].contains r⟩ Tryz.f60=some (aD9,aD1):=by kernel_rfl
def IA:PC:=.seq (.gh (.reg [.l 10 (.ldn 5 (.t 5)),.s (.st 5 (.t 4) (.t 10))])) .ret
@[go_sem ↓] theorem aNM:a6 IA:=a7 _
def HK:PC:=.seq (.gh (.reg [.l 7 (.ld1 (.t 2)),.q 8 (.mf 102 [(.t 5),(.t 3),(.t 2)]),.a 9 (.cl 101 [(.t 7),(.k (.string (mk [91]))),(.k (.string (mk [93]))),(.t 8)] [0,1,2,3,5,6])])) (IA)
@[go_sem ↓] theorem aOL:a6 HK:=a7 _
def aFB:PC:=.seq (.reg [.e 2 (.bx 59 (.t 0)),.e 3 (.bx 28 (.t 1)),.e 4 (.al (.agg #[(.int .i64 0),(.int .i64 0),(.string (mk [])),(.slice none 0 0),(.slice none 0 0)]) 32)]) (.seq (.reg [.q 6 (.bd [(.int .i64 0),(.int .i64 0),(.string (mk [])),(.slice none 0 0),(.slice none 0 0)] [(0,1,(.i 5))]),.e 5 (.al (.agg #[(.int .i64 0),(.int .i64 0),(.string (mk [])),(.slice none 0 0),(.slice none 0 0)]) 32),.s (.st 5 (.t 5) (.t 6))]) (HK))
def aAN:List RV:=[.ld (.ldn 5 (.t 4))]
theorem aOA:aM Tryz.prog true ⟨fun r k=>if r=2/\k=2 then .own [0,1,2,3,5,6] else .own [],fun r=>[2,3].contains r⟩ Tryz.f61=some (aFB,aAN):=by kernel_rfl
def xG:PC:=.gh (.ord  [.q (.v 43 9),.q (.q 44 (.fa 1 (.t 12))),.q (.l 45 (.ld1 (.t 44))),.q (.q 46 (.bin .add true (.t 45) (.k (.string (mk [32,61,32]))))),.q (.q 47 (.fa 2 (.t 12))),.q (.q 48 (.fa 0 (.t 47))),.q (.l 49 (.ld1 (.t 48))),.q (.v 52 0),.q (.q 53 (.fa 2 (.t 12))),.q (.l 54 (.ldn 4 (.t 53))),.q (.q 55 (.fa 1 (.t 11))),.q (.l 56 (.ldn 5 (.t 55))),.m (.a 50 (.cl 24 [(.t 49)] [])),.rc (.v 43 9),.rc (.q 44 (.fa 1 (.t 12))),.rc (.l 45 (.ld1 (.t 44))),.rc (.q 46 (.bin .add true (.t 45) (.k (.string (mk [32,61,32]))))),.rc (.v 52 0),.rc (.q 53 (.fa 2 (.t 12))),.rc (.l 54 (.ldn 4 (.t 53))),.rc (.q 55 (.fa 1 (.t 11))),.rc (.l 56 (.ldn 5 (.t 55))),.q (.q 51 (.fld1 0 (.t 50))),.m (.a 57 (.ca (.t 51) [(.t 52),(.t 54),(.t 56)] [0])),.rc (.v 43 9),.rc (.q 44 (.fa 1 (.t 12))),.rc (.l 45 (.ld1 (.t 44))),.rc (.q 46 (.bin .add true (.t 45) (.k (.string (mk [32,61,32]))))),.q (.q 58 (.bin .add true (.t 46) (.t 57))),.q (.q 59 (.bin .add true (.t 43) (.t 58))),.m (.v 9 59)])
@[go_sem ↓] theorem aOJ:a6 xG:=a7 _
def yX:PC:=.seq (.gh (.reg [.l 37 (.ldn 2 (.t 7)),.q 38 (.fa 0 (.t 11)),.l 39 (.ld1 (.t 38)),.a 40 (.cl 104 [(.t 37),(.t 39)] []),.v 36 40,.q 41 (.ex (.t 36) 0),.q 42 (.ex (.t 36) 1),.e 12 (.al (.agg #[(.int .i64 0),(.string (mk [])),(.int .i64 0),(.int .i64 0),(.string (mk [])),(.slice none 0 0),(.bool false)]) 97),.s (.st 7 (.t 12) (.t 41)),.v 13 42])) (xG)
@[go_sem ↓] theorem aOM:a6 yX:=a7 _
def zA:PC:=.seq (.seq (.gh (.reg [.v 32 10,.q 33 (.bin .gtr true (.t 32) (.i 0))])) (.cond (.t 33) (.reg [.v 34 9,.q 35 (.bin .add true (.t 34) (.k (.string (mk [44,32])))),.v 9 35]) .skip)) (yX)
@[go_sem ↓] theorem aM6:a6 zA:=a7 _
def IE:PC:=.seq (.gh (.reg [.q 9 (.mv (.k (.string (mk [123]))))])) (.seq (.seq (.reg [.q 24 (.fa 4 (.t 5)),.l 25 (.ld1 (.t 24)),.q 26 (.lnL (.t 25)),.q 27 (.mv (.i 0))]) (.block 0 (.loop (.seq (.reg [.q 28 (.bin .lss true (.t 27) (.t 26))]) (.seq (.cond (.t 28) .skip (.exit 0)) (.seq (.block 1 (.seq (.reg [.v 29 27,.l 30 (.ia 6 (.t 25) (.t 27)),.l 31 (.ldn 6 (.t 30)),.e 11 (.al (.agg #[(.int .i64 0),(.int .i64 0),(.int .i64 0),(.string (mk [])),(.slice none 0 0),(.slice none 0 0)]) 57),.v 10 29,.s (.st 6 (.t 11) (.t 31))]) (zA))) (.reg [.q 60 (.bin .add true (.t 27) (.i 1)),.v 27 60]))))))) (.seq (.reg [.v 61 9,.q 62 (.bin .add true (.t 61) (.k (.string (mk [125])))),.v 6 62]) .ret))
@[go_sem ↓] theorem aMQ:a6 IE:=a7 _
def aF9:PC:=.seq (.reg [.e 4 (.bx 28 (.t 1)),.e 5 (.bx 32 (.t 2)),.q 6 (.mv (.k (.string (mk []))))]) (.seq (.ord  [.q (.v 15 0),.q (.q 16 (.nc (.t 15))),.q (.q 17 (.fa 0 (.t 16))),.q (.l 18 (.ldn 3 (.t 17))),.q (.q 19 (.fa 2 (.t 4))),.q (.l 20 (.ld1 (.t 19))),.m (.a 21 (.cl 103 [(.t 18),(.t 20)] [])),.q (.v 14 21),.q (.q 22 (.ex (.t 14) 0)),.q (.q 23 (.ex (.t 14) 1)),.m (.e 7 (.al (.agg #[(.string (mk [])),(.slice none 0 0)]) 95)),.rc (.v 14 21),.rc (.q 22 (.ex (.t 14) 0)),.rc (.q 23 (.ex (.t 14) 1)),.m (.s (.st 2 (.t 7) (.t 22))),.rc (.q 23 (.ex (.t 14) 1)),.m (.v 8 23)]) (IE))
def aDB:List RV:=[.mv (.t 6)]
theorem aPN:aM Tryz.prog true ⟨fun r k=>if r=9/\k=14 then .own [0] else .own [],fun r=>[2,6,8,9].contains r⟩ Tryz.f62=some (aF9,aDB):=by kernel_rfl
def F8:PC:=.seq (.gh (.reg [.l 23 (.ldn 5 (.t 5)),.s (.st 5 (.t 4) (.t 23))])) .ret
@[go_sem ↓] theorem aNN:a6 F8:=a7 _
def E0:PC:=.seq (.gh (.reg [.l 20 (.ld1 (.t 2)),.q 21 (.mf 105 [(.t 2),(.t 6),(.t 8),(.t 5)]),.a 22 (.cl 101 [(.t 20),(.k (.string (mk [123]))),(.k (.string (mk [125]))),(.t 21)] [0,1,2,5,6,7,8])])) (F8)
@[go_sem ↓] theorem aL2:a6 E0:=a7 _
def HV:PC:=.seq (.gh (.reg [.e 8 (.al (.int .i64 0) 3),.s (.st 1 (.t 8) (.i 0))])) (E0)
@[go_sem ↓] theorem aN2:a6 HV:=a7 _
def aDK:PC:=.seq (.reg [.e 2 (.bx 59 (.t 0)),.e 3 (.bx 28 (.t 1)),.e 4 (.al (.agg #[(.int .i64 0),(.int .i64 0),(.string (mk [])),(.slice none 0 0),(.slice none 0 0)]) 32)]) (.seq (.reg [.q 9 (.bd [(.int .i64 0),(.int .i64 0),(.string (mk [])),(.slice none 0 0),(.slice none 0 0)] [(0,1,(.i 6))]),.e 5 (.al (.agg #[(.int .i64 0),(.int .i64 0),(.string (mk [])),(.slice none 0 0),(.slice none 0 0)]) 32),.s (.st 5 (.t 5) (.t 9))]) (.seq (.ord  [.q (.l 11 (.ld1 (.t 2))),.q (.q 12 (.nc (.t 11))),.q (.q 13 (.fa 0 (.t 12))),.q (.l 14 (.ldn 3 (.t 13))),.q (.q 15 (.fa 2 (.t 3))),.q (.l 16 (.ld1 (.t 15))),.m (.a 17 (.cl 103 [(.t 14),(.t 16)] [])),.q (.v 10 17),.q (.q 18 (.ex (.t 10) 0)),.q (.q 19 (.ex (.t 10) 1)),.m (.e 6 (.al (.agg #[(.string (mk [])),(.slice none 0 0)]) 95)),.rc (.v 10 17),.rc (.q 18 (.ex (.t 10) 0)),.rc (.q 19 (.ex (.t 10) 1)),.m (.s (.st 2 (.t 6) (.t 18))),.rc (.q 19 (.ex (.t 10) 1)),.m (.v 7 19)]) (HV)))
def aEN:List RV:=[.ld (.ldn 5 (.t 4))]
theorem aNF:aM Tryz.prog true ⟨fun r k=>if r=4/\k=2 then .own [0,1,2,5,6,7,8] else .own [],fun r=>[3,4,5].contains r⟩ Tryz.f63=some (aDK,aEN):=by kernel_rfl
def aDJ:PC:=.seq (.reg [.e 4 (.bx 28 (.t 1)),.e 5 (.bx 32 (.t 2)),.q 6 (.mv (.k (.string (mk []))))]) (.seq (.reg [.q 7 (.fa 1 (.t 5)),.l 8 (.ld1 (.t 7)),.a 9 (.cq 109 [(.t 8),(.i 10)]),.v 6 9]) .ret)
def aDO:List RV:=[.mv (.t 6)]
theorem aLK:aM Tryz.prog true ⟨fun r k=>if r=1/\k=2 then .q else .own [],fun _=>false⟩ Tryz.f64=some (aDJ,aDO):=by kernel_rfl
def aBQ:PC:=.seq (.reg [.e 3 (.bx 28 (.t 1)),.e 4 (.al (.agg #[(.int .i64 0),(.int .i64 0),(.string (mk [])),(.slice none 0 0),(.slice none 0 0)]) 32)]) (.seq (.ord  [.q (.q 5 (.fa 0 (.t 3))),.q (.l 6 (.ld1 (.t 5))),.q (.v 7 0),.m (.a 8 (.cl 97 [(.t 7),(.i 2)] [0,1])),.rc (.q 5 (.fa 0 (.t 3))),.rc (.l 6 (.ld1 (.t 5))),.q (.q 9 (.fld1 2 (.t 8))),.q (.q 10 (.bd [(.int .i64 0),(.int .i64 0),(.string (mk [])),(.slice none 0 0),(.slice none 0 0)] [(0,1,(.t 6)),(1,1,(.t 9))])),.m (.s (.st 5 (.t 4) (.t 10)))]) .ret)
def aBD:List RV:=[.ld (.ldn 5 (.t 4))]
theorem aMT:aM Tryz.prog true ⟨fun r k=>if r=1/\k=3 then .own [0,1] else .own [],fun _=>false⟩ Tryz.f65=some (aBQ,aBD):=by kernel_rfl
def yL:PC:=.seq (.gh (.reg [.v 19 0,.a 20 (.cl 31 [(.t 19)] [0,1])])) (.seq (.reg [.q 21 (.bd [(.int .i64 0),(.string (mk [])),(.int .i64 0),(.int .i64 0)] []),.s (.st 4 (.t 4) (.t 21))]) .ret)
@[go_sem ↓] theorem aK3:a6 yL:=a7 _
def IV:PC:=.seq (.gh (.reg [.v 22 0,.q 23 (.nc (.t 22)),.q 24 (.fa 3 (.t 23)),.l 25 (.ld1 (.t 24)),.a 26 (.cl 100 [(.t 25)] [1]),.s (.st 4 (.t 4) (.t 26))])) .ret
@[go_sem ↓] theorem aMB:a6 IV:=a7 _
def TQ:PC:=.seq (.reg [.e 4 (.al (.agg #[(.int .i64 0),(.string (mk [])),(.int .i64 0),(.int .i64 0)]) 71)]) (.seq (.seq (.reg [.v 5 0,.q 6 (.nc (.t 5)),.q 7 (.fa 4 (.t 6)),.l 8 (.ld1 (.t 7)),.v 9 8,⟨some 10,(some (9,false)),.q (.mv (.t 0))⟩,⟨some 11,(some (9,false)),.q (.nc (.t 10))⟩,⟨some 12,(some (9,false)),.q (.fa 3 (.t 11))⟩,⟨some 13,(some (9,false)),.l (.ld1 (.t 12))⟩,⟨some 14,(some (9,false)),.cl 30 [(.t 13)] [1]⟩,⟨some 15,(some (9,false)),.q (.fld1 0 (.t 14))⟩,⟨some 16,(some (9,false)),.q (.mv (.t 1))⟩,⟨some 17,(some (9,false)),.q (.bin .neq true (.t 15) (.t 16))⟩,.a 18 (.pick (.t 9) (.k (.bool true)) (.t 17))]) (.cond (.t 18) (yL) .skip)) (IV))
def RZ:List RV:=[.ld (.ldn 4 (.t 4))]
theorem aNT:aM Tryz.prog true ⟨fun r k=>if r=1/\k=9 then .own [1] else if r=2/\k=1 then .own [0,1] else if r=4/\k=4 then .own [1] else .own [],fun r=>[2,4].contains r⟩ Tryz.f97=some (TQ,RZ):=by kernel_rfl
def z8:PC:=.gh (.reg [.v 23 0,.a 24 (.cl 128 [(.t 23),(.k (.string (mk [44])))] [0,1]),.v 8 24])
@[go_sem ↓] theorem aJN:a6 z8:=a7 _
def uA:PC:=.gh (.reg [.v 27 0,.v 28 2,.a 29 (.cl 108 [(.t 27),(.t 28)] [0,1])])
@[go_sem ↓] theorem aJP:a6 uA:=a7 _
def AT:PC:=.seq (.seq (.gh (.reg [.q 8 (.mv (.k (.bool true)))])) (.block 0 (.loop (.seq (.seq (.reg [.v 15 8,.v 16 15,⟨some 17,(some (16,true)),.q (.mv (.t 0))⟩,⟨some 18,(some (16,true)),.q (.nc (.t 17))⟩,⟨some 19,(some (16,true)),.q (.fa 4 (.t 18))⟩,⟨some 20,(some (16,true)),.l (.ld1 (.t 19))⟩,⟨some 21,(some (16,true)),.q (.not (.t 20))⟩,.a 22 (.pick (.t 16) (.t 21) (.k (.bool false)))]) (.cond (.t 22) .skip (.exit 0))) (.seq (.block 1 (.reg [.v 25 3,.a 26 (.ca (.t 25) [] [0,1,2,3,4,5])])) (z8)))))) (uA)
@[go_sem ↓] theorem aKN:a6 AT:=a7 _
def BM:PC:=.seq (.seq (.gh (.reg [.v 12 0,.v 13 2,.a 14 (.cl 128 [(.t 12),(.t 13)] [0,1])])) (.cond (.t 14) .ret .skip)) (AT)
@[go_sem ↓] theorem aKF:a6 BM:=a7 _
def V4:PC:=.seq (.reg [.v 9 0,.v 10 1,.a 11 (.cl 108 [(.t 9),(.t 10)] [0,1])]) (BM)
def UM:List RV:=[]
theorem aGZ:aM Tryz.prog true ⟨fun r k=>if r=0/\k=2 then .own [0,1] else if r=1/\k=2 then .own [0,1] else if r=5/\k=1 then .own [0,1,2,3,4,5] else if r=4/\k=1 then .own [0,1] else if r=6/\k=2 then .own [0,1] else .own [],fun r=>[1,2,4,6].contains r⟩ Tryz.f101=some (V4,UM):=by kernel_rfl
def VN:PC:=.ord  [.q (.q 3 (.fa 3 (.t 0))),.q (.l 4 (.ld1 (.t 3))),.q (.q 5 (.fa 3 (.t 1))),.q (.l 6 (.ld1 (.t 5))),.q (.l 7 (.ia 4 (.t 6) (.i 0))),.q (.q 8 (.fa 0 (.t 7))),.q (.l 9 (.ld1 (.t 8))),.q (.l 12 (.ld1 (.t 2))),.q (.q 13 (.fa 3 (.t 1))),.q (.l 14 (.ld1 (.t 13))),.q (.l 15 (.ia 4 (.t 14) (.i 0))),.q (.l 16 (.ldn 4 (.t 15))),.q (.q 18 (.lnL (.t 4))),.m (.a 10 (.cl 24 [(.t 9)] [])),.rc (.q 3 (.fa 3 (.t 0))),.rc (.l 4 (.ld1 (.t 3))),.rc (.l 12 (.ld1 (.t 2))),.rc (.q 13 (.fa 3 (.t 1))),.rc (.l 14 (.ld1 (.t 13))),.rc (.l 15 (.ia 4 (.t 14) (.i 0))),.rc (.l 16 (.ldn 4 (.t 15))),.rc (.q 18 (.lnL (.t 4))),.q (.q 11 (.fld1 1 (.t 10))),.m (.a 17 (.ca (.t 11) [(.t 12),(.t 16)] [0,1])),.rc (.q 3 (.fa 3 (.t 0))),.rc (.l 4 (.ld1 (.t 3))),.rc (.q 18 (.lnL (.t 4))),.m (.e 19 (.bsl 32 5 [(.k (.agg #[(.int .i64 0),(.int .i64 0),(.string (mk [])),(.slice none 0 0),(.slice none 0 0)]))])),.rc (.q 3 (.fa 3 (.t 0))),.rc (.l 4 (.ld1 (.t 3))),.rc (.q 18 (.lnL (.t 4))),.m (.e 20 (.ap 32 5 80 (.t 4) (.t 19))),.q (.l 21 (.ia 5 (.t 20) (.t 18))),.q (.q 22 (.fa 3 (.t 0))),.fk (.s (.st 5 (.t 21) (.t 17))) (.s (.st 1 (.t 22) (.t 20))) [.q 22 (.fa 3 (.t 0))] [.l 21 (.ia 5 (.t 20) (.t 18))]]
def W8:List RV:=[]
theorem aIJ:aM Tryz.prog true ⟨fun r k=>if r=0/\k=14 then .own [0,1] else .own [],fun _=>false⟩ Tryz.f102=some (VN,W8):=by kernel_rfl
def o7:PC:=.seq (.gh (.reg [.l 33 (.ld1 (.t 0)),.a 34 (.cl 31 [(.t 33)] [0,1])])) .ret
@[go_sem ↓] theorem aJS:a6 o7:=a7 _
def A1:PC:=.gh (.ord  [.q (.q 49 (.fa 4 (.t 3))),.q (.l 50 (.ld1 (.t 49))),.q (.q 51 (.fa 0 (.t 6))),.q (.l 52 (.ld1 (.t 51))),.q (.q 53 (.fa 2 (.t 6))),.q (.q 54 (.fa 0 (.t 53))),.q (.l 55 (.ld1 (.t 54))),.q (.l 58 (.ld1 (.t 0))),.q (.q 59 (.fa 2 (.t 6))),.q (.l 60 (.ldn 4 (.t 59))),.q (.q 63 (.lnL (.t 50))),.m (.a 56 (.cl 24 [(.t 55)] [])),.rc (.q 49 (.fa 4 (.t 3))),.rc (.l 50 (.ld1 (.t 49))),.rc (.q 51 (.fa 0 (.t 6))),.rc (.l 52 (.ld1 (.t 51))),.rc (.l 58 (.ld1 (.t 0))),.rc (.q 59 (.fa 2 (.t 6))),.rc (.l 60 (.ldn 4 (.t 59))),.rc (.q 63 (.lnL (.t 50))),.q (.q 57 (.fld1 1 (.t 56))),.m (.a 61 (.ca (.t 57) [(.t 58),(.t 60)] [0,1])),.rc (.q 49 (.fa 4 (.t 3))),.rc (.l 50 (.ld1 (.t 49))),.rc (.q 51 (.fa 0 (.t 6))),.rc (.l 52 (.ld1 (.t 51))),.rc (.q 63 (.lnL (.t 50))),.q (.q 62 (.bd [(.int .i64 0),(.int .i64 0),(.int .i64 0),(.string (mk [])),(.slice none 0 0),(.slice none 0 0)] [(0,1,(.t 52)),(1,5,(.t 61))])),.m (.e 64 (.bsl 57 6 [(.k (.agg #[(.int .i64 0),(.int .i64 0),(.int .i64 0),(.string (mk [])),(.slice none 0 0),(.slice none 0 0)]))])),.rc (.q 49 (.fa 4 (.t 3))),.rc (.l 50 (.ld1 (.t 49))),.rc (.q 51 (.fa 0 (.t 6))),.rc (.l 52 (.ld1 (.t 51))),.rc (.q 63 (.lnL (.t 50))),.rc (.q 62 (.bd [(.int .i64 0),(.int .i64 0),(.int .i64 0),(.string (mk [])),(.slice none 0 0),(.slice none 0 0)] [(0,1,(.t 52)),(1,5,(.t 61))])),.m (.e 65 (.ap 57 6 88 (.t 50) (.t 64))),.q (.l 66 (.ia 6 (.t 65) (.t 63))),.q (.q 67 (.fa 4 (.t 3))),.fk (.s (.st 6 (.t 66) (.t 62))) (.s (.st 1 (.t 67) (.t 65))) [.q 67 (.fa 4 (.t 3))] [.l 66 (.ia 6 (.t 65) (.t 63))]])
@[go_sem ↓] theorem aJI:a6 A1:=a7 _
def AR:PC:=.seq (.gh (.reg [.q 47 (.fa 0 (.t 6)),.l 48 (.ld1 (.t 47)),.s (.st 1 (.t 2) (.t 48))])) (A1)
@[go_sem ↓] theorem aJ5:a6 AR:=a7 _
def AN:PC:=.seq (.gh (.reg [.q 42 (.fa 1 (.t 1)),.l 43 (.ld1 (.t 42)),.v 44 5,.l 45 (.ia 7 (.t 43) (.t 44)),.l 46 (.ldn 7 (.t 45)),.e 6 (.al (.agg #[(.int .i64 0),(.string (mk [])),(.int .i64 0),(.int .i64 0),(.string (mk [])),(.slice none 0 0),(.bool false)]) 97),.s (.st 7 (.t 6) (.t 46))])) (AR)
@[go_sem ↓] theorem aJH:a6 AN:=a7 _
def z7:PC:=.seq (.gh (.reg [.l 40 (.ld1 (.t 0)),.a 41 (.cl 108 [(.t 40),(.k (.string (mk [61])))] [0,1])])) (AN)
@[go_sem ↓] theorem aKJ:a6 z7:=a7 _
def zZ:PC:=.seq (.gh (.reg [.l 35 (.ld1 (.t 0)),.q 36 (.nc (.t 35)),.q 37 (.fa 3 (.t 36)),.l 38 (.ld1 (.t 37)),.a 39 (.cl 100 [(.t 38)] [1])])) (z7)
@[go_sem ↓] theorem aKO:a6 zZ:=a7 _
def mE:PC:=.seq (.seq (.gh (.reg [.q 16 (.fa 0 (.t 4)),.l 17 (.ld1 (.t 16)),.q 18 (.bin .neq true (.t 17) (.i 1)),.v 19 18,⟨some 20,(some (19,false)),.q (.mv (.t 5))⟩,⟨some 21,(some (19,false)),.q (.bin .lss true (.t 20) (.i 0))⟩,.a 22 (.pick (.t 19) (.k (.bool true)) (.t 21)),.v 23 22,⟨some 24,(some (23,false)),.q (.fa 1 (.t 1))⟩,⟨some 25,(some (23,false)),.l (.ld1 (.t 24))⟩,⟨some 26,(some (23,false)),.q (.mv (.t 5))⟩,⟨some 27,(some (23,false)),.l (.ia 7 (.t 25) (.t 26))⟩,⟨some 28,(some (23,false)),.q (.fa 0 (.t 27))⟩,⟨some 29,(some (23,false)),.l (.ld1 (.t 28))⟩,⟨some 30,(some (23,false)),.l (.ld1 (.t 2))⟩,⟨some 31,(some (23,false)),.q (.bin .leq true (.t 29) (.t 30))⟩,.a 32 (.pick (.t 23) (.k (.bool true)) (.t 31))])) (.cond (.t 32) (o7) .skip)) (zZ)
@[go_sem ↓] theorem aKK:a6 mE:=a7 _
def BA:PC:=.seq (.gh (.reg [.q 12 (.fa 1 (.t 1)),.l 13 (.ld1 (.t 12)),.q 14 (.mf 107 [(.t 4)]),.a 15 (.cl 106 [(.t 13),(.t 14)] [7]),.v 5 15])) (mE)
@[go_sem ↓] theorem aJM:a6 BA:=a7 _
def XS:PC:=.seq (.reg [.l 7 (.ld1 (.t 0)),.q 8 (.nc (.t 7)),.q 9 (.fa 3 (.t 8)),.l 10 (.ld1 (.t 9)),.a 11 (.cl 30 [(.t 10)] [1]),.e 4 (.al (.agg #[(.int .i64 0),(.string (mk [])),(.int .i64 0),(.int .i64 0)]) 71),.s (.st 4 (.t 4) (.t 11))]) (BA)
def UJ:List RV:=[]
theorem aHY:aM Tryz.prog true ⟨fun r k=>if r=0/\k=4 then .own [1] else if r=1/\k=3 then .own [7] else if r=3/\k=1 then .own [0,1] else if r=4/\k=4 then .own [1] else if r=5/\k=1 then .own [0,1] else if r=8/\k=12 then .own [0,1] else .own [],fun r=>[1,2,3,4,5,6,7,8].contains r⟩ Tryz.f105=some (XS,UJ):=by kernel_rfl
def XT:PC:=.seq (.reg [.e 2 (.bx 97 (.t 0)),.q 3 (.mv (.k (.bool false)))]) (.seq (.reg [.q 4 (.fa 1 (.t 2)),.l 5 (.ld1 (.t 4)),.q 6 (.fa 1 (.t 1)),.l 7 (.ld1 (.t 6)),.q 8 (.bin .eql true (.t 5) (.t 7)),.v 3 8]) .ret)
def WJ:List RV:=[.mv (.t 3)]
theorem aGL:aM Tryz.prog true ⟨fun _ _=>.own [],fun _=>false⟩ Tryz.f107=some (XT,WJ):=by kernel_rfl
def VM:PC:=.seq (.reg [.v 4 0,.v 5 1,.a 6 (.cl 128 [(.t 4),(.t 5)] [0,1]),.q 7 (.not (.t 6))]) (.cond (.t 7) (.reg [.v 8 0,.a 9 (.cl 31 [(.t 8)] [0,1])]) .skip)
def VS:List RV:=[]
theorem aH4:aM Tryz.prog true ⟨fun r k=>if r=0/\k=2 then .own [0,1] else if r=1/\k=1 then .own [0,1] else .own [],fun _=>false⟩ Tryz.f108=some (VM,VS):=by kernel_rfl
def MD:PC:=.seq (.reg [.q 4 (.mv (.k (.bool false)))]) (.seq (.reg [.v 5 0,.q 6 (.nc (.t 5)),.q 7 (.fa 4 (.t 6)),.l 8 (.ld1 (.t 7)),.q 9 (.not (.t 8)),.v 10 9,⟨some 11,(some (10,true)),.q (.mv (.t 0))⟩,⟨some 12,(some (10,true)),.q (.nc (.t 11))⟩,⟨some 13,(some (10,true)),.q (.fa 3 (.t 12))⟩,⟨some 14,(some (10,true)),.l (.ld1 (.t 13))⟩,⟨some 15,(some (10,true)),.q (.mv (.t 1))⟩,⟨some 16,(some (10,true)),.cl 148 [(.t 14),(.t 15)] [1]⟩,.a 17 (.pick (.t 10) (.t 16) (.k (.bool false))),.v 4 17]) .ret)
def NN:List RV:=[.mv (.t 4)]
theorem aH7:aM Tryz.prog true ⟨fun r k=>if r=1/\k=11 then .own [1] else .own [],fun _=>false⟩ Tryz.f128=some (MD,NN):=by kernel_rfl
end Go.Proofs.YtkpohmhenegkiaaGreatDoor
namespace Go.Proofs
open Go.Shelf
def Tryz.laysM173_ren:Go.Shelf.Ren:=⟨fun | 173=>109 | 246=>131 | 283=>150 | 284=>151 | 285=>152 | 286=>153 | 129=>160 | 317=>159 | 318=>161 | 319=>162 | 320=>163 | 337=>165 | 338=>166 | n=>n,fun | 2=>2 | 3=>3 | 9=>9 | 4=>4 | 171=>169 | 0=>0 | 53=>139 | 37=>43 | 5=>5 | 173=>172 | 212=>184 | 51=>185 | 20=>20 | 213=>186 | 46=>187 | 232=>190 | 233=>191 | n=>n,fun | 17=>0 | 18=>1 | 19=>2 | n=>n⟩
theorem Tryz.lays173:Go.Proofs.Lays.n173 Tryz.prog Tryz.laysM173_ren:={
 mixed:=by kernel_rfl
 f129:=Tryz.func160.trans (congrArg some (by kernel_rfl))
 f173:=Tryz.func109.trans (congrArg some (by kernel_rfl))
 f246:=Tryz.func131.trans (congrArg some (by kernel_rfl))
 f283:=Tryz.func150.trans (congrArg some (by kernel_rfl))
 f284:=Tryz.func151.trans (congrArg some (by kernel_rfl))
 f285:=Tryz.func152.trans (congrArg some (by kernel_rfl))
 f286:=Tryz.func153.trans (congrArg some (by kernel_rfl))
 f317:=Tryz.func159.trans (congrArg some (by kernel_rfl))
 f318:=Tryz.func161.trans (congrArg some (by kernel_rfl))
 f319:=Tryz.func162.trans (congrArg some (by kernel_rfl))
 f320:=Tryz.func163.trans (congrArg some (by kernel_rfl))
 f337:=Tryz.func165.trans (congrArg some (by kernel_rfl))
 f338:=Tryz.func166.trans (congrArg some (by kernel_rfl))
 t0:=Tryz.underlying0
 a0:=Tryz.isAgg0
 z0:=Tryz.sizeOf0
 v0:=Tryz.zeroValue0
 t2:=Tryz.underlying2
 a2:=Tryz.isAgg2
 z2:=Tryz.sizeOf2
 v2:=Tryz.zeroValue2
 t3:=Tryz.underlying3
 a3:=Tryz.isAgg3
 z3:=Tryz.sizeOf3
 v3:=Tryz.zeroValue3
 t4:=Tryz.underlying4
 a4:=Tryz.isAgg4
 z4:=Tryz.sizeOf4
 v4:=Tryz.zeroValue4
 t5:=Tryz.underlying5
 a5:=Tryz.isAgg5
 z5:=Tryz.sizeOf5
 v5:=Tryz.zeroValue5
 t9:=Tryz.underlying9
 a9:=Tryz.isAgg9
 z9:=Tryz.sizeOf9
 v9:=Tryz.zeroValue9
 t20:=Tryz.underlying20
 a20:=Tryz.isAgg20
 z20:=Tryz.sizeOf20
 v20:=Tryz.zeroValue20
 t37:=Tryz.underlying43
 a37:=Tryz.isAgg43
 z37:=Tryz.sizeOf43
 v37:=Tryz.zeroValue43
 t46:=Tryz.underlying187
 a46:=Tryz.isAgg187
 z46:=Tryz.sizeOf187
 v46:=Tryz.zeroValue187
 t51:=Tryz.underlying185
 a51:=Tryz.isAgg185
 z51:=Tryz.sizeOf185
 v51:=Tryz.zeroValue185
 t53:=Tryz.underlying139
 a53:=Tryz.isAgg139
 z53:=Tryz.sizeOf139
 v53:=Tryz.zeroValue139
 t171:=Tryz.underlying169
 a171:=Tryz.isAgg169
 z171:=Tryz.sizeOf169
 v171:=Tryz.zeroValue169
 t173:=Tryz.underlying172
 a173:=Tryz.isAgg172
 z173:=Tryz.sizeOf172
 v173:=Tryz.zeroValue172
 t212:=Tryz.underlying184
 a212:=Tryz.isAgg184
 z212:=Tryz.sizeOf184
 v212:=Tryz.zeroValue184
 t213:=Tryz.underlying186
 a213:=Tryz.isAgg186
 z213:=Tryz.sizeOf186
 t232:=Tryz.underlying190
 a232:=Tryz.isAgg190
 z232:=Tryz.sizeOf190
 v232:=Tryz.zeroValue190
 t233:=Tryz.underlying191
 a233:=Tryz.isAgg191
 z233:=Tryz.sizeOf191
 v233:=Tryz.zeroValue191
 g17:=by kernel_rfl
 g18:=by kernel_rfl
 g19:=by kernel_rfl }
theorem Tryz.laysM173:Go.Proofs.LaysM.n173 Tryz.prog Tryz.laysM173_ren:={ Tryz.lays173 with
 i0:=by kernel_rfl
 i2:=by kernel_rfl
 i3:=by kernel_rfl
 i4:=by kernel_rfl
 i5:=by kernel_rfl
 i9:=by kernel_rfl
 i20:=by kernel_rfl
 i37:=by kernel_rfl
 i46:=by kernel_rfl
 i51:=by kernel_rfl
 i53:=by kernel_rfl
 i171:=by kernel_rfl
 i173:=by kernel_rfl
 i212:=by kernel_rfl
 i232:=by kernel_rfl
 i233:=by kernel_rfl
 m17:=by kernel_rfl
 m18:=by kernel_rfl
 m19:=by kernel_rfl }
open Go.RowKit Go.Sort Go.Lib in
theorem Tryz.strconv_FormatInt_10 (n:Int) (h0:-9223372036854775808<=n) (h1:n<=9223372036854775807) (w:World) (htab:Lib.TabIs Tryz.prog w "internal/strconv.uint64pow10" .u64 Lib.pow10Tab) :
 Calls Tryz.prog 109 #[.int .i64 n,.int .i64 10] w fun e w'=>e=.returned (.string ⟨(Lib.itoa n).toArray⟩)/\∃ k os,w'=grow (w.drewN k) os:=Any.strconv_FormatInt_10 Tryz.laysM173 n h0 h1 w htab
end Go.Proofs
namespace Go.Proofs.YtkpohmhenegkiaaGreatDoor
open Go.W
theorem CD:∀ n:Nat,Lib.decDigits n=digs n:=fun n=>by
 induction n using Nat.strongRecOn with
 | _ n ih=>
  rw [Lib.decDigits,digs]
  by_cases h:n < 10
  · have e:n % 10=n:=Nat.mod_eq_of_lt h
    simp [h,e,Nat.toUInt8]
  · rw [dif_neg h,dif_neg h,ih (n / 10) (by omega)]
theorem O3 (n:Int):Lib.itoa n=dW n:=by
 unfold Lib.itoa dW
 by_cases h:n < 0
 · rw [if_pos h,decide_eq_true h,CD]; rfl
 · rw [if_neg h,decide_eq_false h,CD,show n.toNat=n.natAbs by omega]; rfl
def ES:List S->Prop:=fun av=>match av with
 | [.va (.c1 (.vl (.int .i64 n))),.va (.c1 (.vl (.int .i64 b)))]=>b=10/\-9223372036854775808<=n/\n<=9223372036854775807
 | _=>False
theorem xN {av:List S} (h:ES av):∃ n:Int,av=[iS .i64 n,iS .i64 10]/\-9223372036854775808<=n/\n<=9223372036854775807:=by
 unfold ES at h
 split at h
 · obtain ⟨rfl,h⟩:=h; exact ⟨_,rfl,h⟩
 · exact h.elim
def W9:List S->A:=fun av=>match av with
 | [.va (.c1 (.vl (.int .i64 n))),.va (.c1 (.vl (.int .i64 _)))]=>tA (mk (dW n))
 | _=>.gs []
def fiFn:Fun:=⟨ES,W9,fun av h=>by obtain ⟨_,rfl,_⟩:=xN h; trivial⟩
attribute [go_sem ↓] ES W9 fiFn
theorem aGE {ro:RO} {w:World} (h:GR Tryz.prog ro w):Lib.TabIs Tryz.prog w "internal/strconv.uint64pow10" .u64 Lib.pow10Tab:=by
 have:=(h _ (List.mem_singleton.2 rfl) _ Tryz.laysM173.m17).2
 unfold Lib.TabIs
 rw [this,Lib.pow10Tab,List.map_map]
 rfl
theorem L2:Meets Tryz.prog 109 fiFn.sp:=by
 refine ⟨by kernel_rfl,?_⟩
 rintro xs vs E ro w K hl hrel hr ⟨⟨h,hE⟩,hK⟩ hG
 obtain ⟨n,rfl,h0,h1⟩:=xN h
 obtain ⟨v0,v1,rfl⟩:∃ v0 v1,vs=[v0,v1]:=by
  match vs,hl with
  | [v0,v1],_=>exact ⟨v0,v1,rfl⟩
 have e0:v0=.int .i64 n:=hrel 0 _ _ rfl rfl
 have e1:v1=.int .i64 10:=hrel 1 _ _ rfl rfl
 subst e0 e1
 refine (Tryz.strconv_FormatInt_10 n h0 h1 w (aGE hG)).mono ?_
 rintro e w' ⟨rfl,k,os,rfl⟩
 refine ⟨tS (mk (dW n)),_,E,ro,rfl,by rw [O3]; rfl,by rw [hE]; exact hK,?_⟩
 have hk:∀ j,j < w.heap.size->(Sort.grow (w.drewN k) os).heap[j]? = w.heap[j]?:=fun j hj=>by
  simp [Sort.grow,World.drewN,Array.getElem?_append_left hj]
 exact hr.grown hk (by simp [Sort.grow,World.drewN]) rfl rfl rfl
def gC (k:Int):FuncId:=bif k == 1 then 54 else bif k == 4 then 56 else bif k == 7 then 58 else bif k == 5 then 60 else bif k == 6 then 62 else 64
def gI (k:Int):FuncId:=bif k == 1 then 55 else bif k == 4 then 57 else bif k == 7 then 59 else bif k == 5 then 61 else bif k == 6 then 63 else 65
def lM:W.Spec:=fun av H K=>match av with
 | [.va (.c1 (.vl (.int .i64 k)))]=>H=[]/\K (.va (.gs [.fn (gC k) [],.fn (gI k) []])) []
 | _=>False
attribute [go_sem ↓] lM
theorem mOf:Meets Tryz.prog 24 lM:=by
 refine aE Tryz.func24 aLX 1 (by rw [Tryz.ntmps24]; decide) (aA _) (fun av H K h=>by
  unfold lM at h
  split at h
  · rfl
  · exact h.elim) ?_
 intro av H K h
 unfold lM at h
 split at h
 · rename_i k
   obtain ⟨rfl,hK⟩:=h
   unfold gC gI at hK
   have fin:∀ (f g:FuncId) (R:Hp),K (.va (.gs [.fn f [],.fn g []])) []->W.Fin 0 K (.va (.gs [.fn f [],.fn g []])) R:=fun f g R h=>.sel [] (by simp) (by simp) rfl (.done (by simpa [go_sem] using h))
   cases h1:k == 1 with
   | true=>rw [h1] at hK; simp -dsimp only [go_sem,wK,v6,h1]; exact fin _ _ _ hK
   | false=>
   cases h2:k == 4 with
   | true=>rw [h1,h2] at hK; simp -dsimp only [go_sem,wK,v6,h1,h2]; exact fin _ _ _ hK
   | false=>
   cases h3:k == 7 with
   | true=>rw [h1,h2,h3] at hK; simp -dsimp only [go_sem,wK,v6,h1,h2,h3]; exact fin _ _ _ hK
   | false=>
   cases h4:k == 5 with
   | true=>rw [h1,h2,h3,h4] at hK; simp -dsimp only [go_sem,wK,v6,h1,h2,h3,h4]; exact fin _ _ _ hK
   | false=>
   cases h5:k == 6 with
   | true=>rw [h1,h2,h3,h4,h5] at hK; simp -dsimp only [go_sem,wK,v6,h1,h2,h3,h4,h5]; exact fin _ _ _ hK
   | false=>rw [h1,h2,h3,h4,h5] at hK; simp -dsimp only [go_sem,wK,v6,h1,h2,h3,h4,h5]; exact fin _ _ _ hK
 · exact h.elim
structure Fs where
 bad:Bool
 off:Int
 n:Nat
instance:Inhabited Tk:=⟨⟨0,[],0,0⟩⟩
def bH (ts:List Tk) (n:Nat):Tk:=ts.getD n default
abbrev OF (s:Sc) (b:Bool) (o:Int):B:=.cells [.vl (.int .i64 s.ver),.fz (s.es.map bI),.fz (s.ss.map aP),.pt 1 0,.vl (.bool b),.vl (.int .i64 o)] 62
abbrev hZ (s:Sc) (ts:List Tk) (z:Fs):Hp:=[OF s z.bad z.off,hM 114 ts z.n]
structure Tks (ts:List Tk):Prop where
 e:Ends ts
 n:∀ t ∈ ts,b6 t.n
 x:∀ t ∈ ts,t.x.length<=4000
 a:∀ t ∈ ts,t.a<=4000
def cT (ts:List Tk) (z:Fs):Fs:=bif z.bad then z else ⟨true,(bH ts z.n).a,z.n⟩
def cA (w:List UInt8) (ts:List Tk) (z:Fs):Bool:=!z.bad && c8 4 w (bH ts z.n)
def bY (w:List UInt8) (ts:List Tk) (z:Fs):Fs:=bif cA w ts z then ⟨false,z.off,b7 ts z.n⟩ else z
def cI (w:List UInt8) (ts:List Tk) (z:Fs):Fs:=bif cA w ts z then ⟨false,z.off,b7 ts z.n⟩ else cT ts z
def fY (k:Int) (ts:List Tk) (z:Fs):Bool:=!z.bad && (bH ts z.n).k == k
def hJ (k:Int) (ts:List Tk) (z:Fs):Tk:=bif fY k ts z then bH ts z.n else default
def jV (k:Int) (ts:List Tk) (z:Fs):Fs:=bif fY k ts z then ⟨false,z.off,b7 ts z.n⟩ else cT ts z
theorem jH {ts:List Tk} {n:Nat} (h:n < ts.length):ts[n]? = some (bH ts n):=by simp [bH,List.getD_eq_getElem?_getD,aY h]
theorem j7 {T:TypeId} {ts:List Tk} {n:Nat} {K:S->Hp->Prop} (he:Ends ts) (h:n < ts.length) (hK:K (.va (.gs (cS (bH ts n)))) [hM T ts n]):cB T [.va (.c1 (.pt 0 0))] [hM T ts n] K:=
 ⟨rfl,ts,n,rfl,rfl,he,h,fun t ht=>by rw [jH h] at ht; cases ht; exact hK⟩
theorem wJ {T:TypeId} {ts:List Tk} {n:Nat} {K:S->Hp->Prop} (he:Ends ts) (h:n < ts.length) (hK:K (.va (.gs (cS (bH ts n)))) [hM T ts (b7 ts n)]):cH T [.va (.c1 (.pt 0 0))] [hM T ts n] K:=
 ⟨rfl,ts,n,rfl,rfl,he,h,fun t ht=>by rw [jH h] at ht; cases ht; exact hK⟩
theorem sO {k:Int} {T:TypeId} {w:ByteArray} {ts:List Tk} {n:Nat} {K:S->Hp->Prop} (he:Ends ts) (h:n < ts.length) (hK:K (bS (c8 k (bl w) (bH ts n))) [hM T ts (rF k (bl w) ts n (bH ts n))]):cC k T [.va (.c1 (.pt 0 0)),tS w] [hM T ts n] K:=
 ⟨rfl,ts,n,rfl,rfl,he,h,fun t ht=>by rw [jH h] at ht; cases ht; exact hK⟩
def mM:W.Spec:=fun av H K=>∃ s ts z,av=[.va (.c1 (.pt 0 0))]/\H=hZ s ts z/\Ends ts/\z.n < ts.length/\K (.tu []) (hZ s ts (cT ts z))
theorem dV {s:Sc} {ts:List Tk} {z:Fs} {K:S->Hp->Prop} (h1:Ends ts) (h2:z.n < ts.length) (hK:K (.tu []) (hZ s ts (cT ts z))):mM [.va (.c1 (.pt 0 0))] (hZ s ts z) K:=⟨s,ts,z,rfl,rfl,h1,h2,hK⟩
attribute [-go_sem] cB cH cC eG
theorem o8:Meets Tryz.prog 31 mM:=by
 refine aE Tryz.func31 aK2 1 (by rw [Tryz.ntmps31]; decide) (aB qQ (aA _)) (fun av H K h=>by obtain ⟨_,_,_,rfl,_⟩:=h; rfl) ?_
 rintro av H K ⟨s,ts,⟨b,o,n⟩,rfl,rfl,he,hn,hK⟩
 unfold cT at hK
 cases b with
 | true=>
  simp (maxSteps:=1000000) -dsimp only [go_sem,RG,RU]
  exact .done hK
 | false=>
  simp (maxSteps:=1000000) -dsimp only [go_sem,RG,RU]
  refine j7 he hn ?_
  simp (maxSteps:=1000000) -dsimp only [go_sem]
  exact .done hK
end Go.Proofs.YtkpohmhenegkiaaGreatDoor
namespace Go.Proofs.YtkpohmhenegkiaaGreatDoor
open Go.W
attribute [-go_sem] cB cH cC eG cO
theorem AK (k:Int) (w:List UInt8) (ts:List Tk) (n:Nat) (t:Tk):rF k w ts n t=bif c8 k w t then b7 ts n else n:=rfl
def P5:W.Spec:=fun av H K=>∃ s ts z w,av=[.va (.c1 (.pt 0 0)),tS w]/\H=hZ s ts z/\Ends ts/\z.n < ts.length/\K (bS (cA (bl w) ts z)) (hZ s ts (bY (bl w) ts z))
theorem o0 {s:Sc} {ts:List Tk} {z:Fs} {w:ByteArray} {K:S->Hp->Prop} (h1:Ends ts) (h2:z.n < ts.length) (hK:K (bS (cA (bl w) ts z)) (hZ s ts (bY (bl w) ts z))):P5 [.va (.c1 (.pt 0 0)),tS w] (hZ s ts z) K:=⟨s,ts,z,w,rfl,rfl,h1,h2,hK⟩
theorem NO:Meets Tryz.prog 128 P5:=by
 refine aE Tryz.func128 aH7 2 (by rw [Tryz.ntmps128]; decide) (aB aA6 (aA _)) (fun av H K h=>by obtain ⟨_,_,_,_,rfl,_⟩:=h; rfl) ?_
 rintro av H K ⟨s,ts,⟨b,o,n⟩,w,rfl,rfl,he,hn,hK⟩
 unfold bY cA at hK
 cases b with
 | true=>
  simp (maxSteps:=1000000) -dsimp only [go_sem,MD,NN]
  exact .done hK
 | false=>
  simp (maxSteps:=1000000) -dsimp only [go_sem,MD,NN]
  refine sO he hn ?_
  rw [AK]
  cases ht:c8 4 (bl w) (bH ts n)<;>rw [ht] at hK<;>(simp (maxSteps:=1000000) -dsimp only [go_sem]; exact .done hK)
def uE:W.Spec:=fun av H K=>∃ s ts z w,av=[.va (.c1 (.pt 0 0)),tS w]/\H=hZ s ts z/\Ends ts/\z.n < ts.length/\K (.tu []) (hZ s ts (cI (bl w) ts z))
theorem iH {s:Sc} {ts:List Tk} {z:Fs} {w:ByteArray} {K:S->Hp->Prop} (h1:Ends ts) (h2:z.n < ts.length) (hK:K (.tu []) (hZ s ts (cI (bl w) ts z))):uE [.va (.c1 (.pt 0 0)),tS w] (hZ s ts z) K:=⟨s,ts,z,w,rfl,rfl,h1,h2,hK⟩
theorem HA:Meets Tryz.prog 108 uE:=by
 refine aE Tryz.func108 aH4 2 (by rw [Tryz.ntmps108]; decide) (aB NO (aB o8 (aA _))) (fun av H K h=>by obtain ⟨_,_,_,_,rfl,_⟩:=h; rfl) ?_
 rintro av H K ⟨s,ts,z,w,rfl,rfl,he,hn,hK⟩
 simp (maxSteps:=1000000) -dsimp only [go_sem,VM,VS]
 refine o0 he hn ?_
 unfold cI at hK
 cases ht:cA (bl w) ts z with
 | true=>
  have e:bY (bl w) ts z=⟨false,z.off,b7 ts z.n⟩:=by unfold bY; rw [ht]; rfl
  rw [ht] at hK
  rw [e]
  simp (maxSteps:=1000000) -dsimp only [go_sem]
  exact .done hK
 | false=>
  have e:bY (bl w) ts z=z:=by unfold bY; rw [ht]; rfl
  rw [ht] at hK
  rw [e]
  simp (maxSteps:=1000000) -dsimp only [go_sem]
  refine dV he hn ?_
  simp (maxSteps:=1000000) -dsimp only [go_sem]
  exact .done hK
def LH:W.Spec:=fun av H K=>∃ s ts z k,av=[.va (.c1 (.pt 0 0)),iS .i64 k]/\H=hZ s ts z/\Ends ts/\z.n < ts.length/\K (.va (.gs (cS (hJ k ts z)))) (hZ s ts (jV k ts z))
theorem DM {s:Sc} {ts:List Tk} {z:Fs} {k:Int} {K:S->Hp->Prop} (h1:Ends ts) (h2:z.n < ts.length) (hK:K (.va (.gs (cS (hJ k ts z)))) (hZ s ts (jV k ts z))):LH [.va (.c1 (.pt 0 0)),iS .i64 k] (hZ s ts z) K:=⟨s,ts,z,k,rfl,rfl,h1,h2,hK⟩
theorem NX:Meets Tryz.prog 97 LH:=by
 refine aE Tryz.func97 aNT 2 (by rw [Tryz.ntmps97]; decide) (aB qQ (aB DU (aB o8 (aA _)))) (fun av H K h=>by obtain ⟨_,_,_,_,rfl,_⟩:=h; rfl) ?_
 rintro av H K ⟨s,ts,⟨b,o,n⟩,k,rfl,rfl,he,hn,hK⟩
 unfold hJ jV fY at hK
 cases b with
 | true=>
  simp (maxSteps:=1000000) -dsimp only [go_sem,TQ,RZ]
  refine aD rfl (.done ?_)
  simp (maxSteps:=1000000) -dsimp only [go_sem,yL]
  refine dV (z:=⟨true,o,n⟩) he hn ?_
  simp (maxSteps:=1000000) -dsimp only [go_sem]
  refine .sel [0,1] (by simp) (by simp) rfl (.done ?_)
  simp (maxSteps:=1000000) -dsimp only [go_sem]
  exact hK
 | false=>
  simp (maxSteps:=1000000) -dsimp only [go_sem,TQ,RZ]
  refine j7 he hn ?_
  cases ht:(bH ts n).k == k with
  | true=>
   have ht':((bH ts n).k != k)=false:=by rw [bne,ht]; rfl
   rw [ht] at hK
   simp (maxSteps:=1000000) -dsimp only [go_sem,cS,ht']
   refine aD rfl (.done ?_)
   simp (maxSteps:=1000000) -dsimp only [go_sem,IV]
   refine wJ he hn ?_
   simp (maxSteps:=1000000) -dsimp only [go_sem]
   refine .sel [0,1] (by simp) (by simp) rfl (.done ?_)
   simp (maxSteps:=1000000) -dsimp only [go_sem]
   exact hK
  | false=>
   have ht':((bH ts n).k != k)=true:=by rw [bne,ht]; rfl
   rw [ht] at hK
   simp (maxSteps:=1000000) -dsimp only [go_sem,cS,ht']
   refine aD rfl (.done ?_)
   simp (maxSteps:=1000000) -dsimp only [go_sem,yL]
   refine dV (z:=⟨false,o,n⟩) he hn ?_
   simp (maxSteps:=1000000) -dsimp only [go_sem]
   refine .sel [0,1] (by simp) (by simp) rfl (.done ?_)
   simp (maxSteps:=1000000) -dsimp only [go_sem]
   exact hK
end Go.Proofs.YtkpohmhenegkiaaGreatDoor
namespace Go.Proofs.YtkpohmhenegkiaaGreatDoor
open Go.W
attribute [-go_sem] cB cH cC eG cO
def qB:List UInt8:=[116,114,117,101]
def mZ:List UInt8:=[102,97,108,115,101]
def gA (ts:List Tk) (z:Fs):Vl × Fs:=
 bif !z.bad && c8 1 qB (bH ts z.n) then (.mk 1 1 (mk []) [] [],⟨false,z.off,b7 ts z.n⟩)
 else bif !z.bad && c8 1 mZ (bH ts z.n) then (.mk 1 0 (mk []) [] [],⟨false,z.off,b7 ts z.n⟩)
 else (.mk 1 0 (mk []) [] [],cT ts z)
def A3 (k:Int) (ts:List Tk) (z:Fs):Vl × Fs:=(.mk k (hJ 2 ts z).n (mk []) [] [],jV 2 ts z)
def tC (ts:List Tk) (z:Fs):Vl × Fs:=(.mk 4 0 (mk (hJ 3 ts z).x) [] [],jV 3 ts z)
def iD (e:En) (ts:List Tk) (z:Fs):Int:=bif !z.bad && (bH ts z.n).k == 1 then jN e.ns (mk (bH ts z.n).x) 0 else -1
def f9 (e:En) (ts:List Tk) (z:Fs):Vl × Fs:=
 bif decide (iD e ts z < 0) || decide ((e.vs.length:Int)<=iD e ts z) then (.mk 7 0 (mk []) [] [],cT ts z)
 else (.mk 7 (e.vs.getD (iD e ts z).toNat 0) (mk []) [] [],⟨false,z.off,b7 ts z.n⟩)
def n5 (D:Sc->Ty->Prop) (P:Sc->List Tk->Ty->Fs->Vl × Fs):W.Spec:=fun av H K=>∃ s ts t z,av=[.va (.c1 (.pt 0 0)),.va (.gs (aN t))]/\H=hZ s ts z/\s.fit/\TyOk t/\Tks ts/\z.n < ts.length/\D s t/\K (.va (.gs (bJ (P s ts t z).1))) (hZ s ts (P s ts t z).2)
theorem pK {D:Sc->Ty->Prop} {P:Sc->List Tk->Ty->Fs->Vl × Fs}:∀ av H K,n5 D P av H K->av.length=2:=fun av H K h=>by obtain ⟨_,_,_,_,rfl,_⟩:=h; rfl
theorem ET:Meets Tryz.prog 65 (n5 (fun _ _=>True) fun _ ts t z=>A3 t.k ts z):=by
 refine aE Tryz.func65 aMT 2 (by rw [Tryz.ntmps65]; decide) (aB NX (aA _)) pK ?_
 rintro av H K ⟨s,ts,t,z,rfl,rfl,hs,ht,hts,hn,_,hK⟩
 simp (maxSteps:=1000000) -dsimp only [go_sem,aO t,aBQ,aBD]
 refine DM hts.e hn ?_
 simp (maxSteps:=1000000) -dsimp only [go_sem,cS]
 refine .sel [0,1] (by simp) (by simp) rfl (.done ?_)
 simp (maxSteps:=1000000) -dsimp only [go_sem]
 exact hK
theorem MM:Meets Tryz.prog 57 (n5 (fun _ _=>True) fun _ ts _ z=>tC ts z):=by
 refine aE Tryz.func57 aO6 2 (by rw [Tryz.ntmps57]; decide) (aB NX (aA _)) pK ?_
 rintro av H K ⟨s,ts,t,z,rfl,rfl,hs,ht,hts,hn,_,hK⟩
 simp (maxSteps:=1000000) -dsimp only [go_sem,aO t,aFN,aC1]
 refine DM hts.e hn ?_
 simp (maxSteps:=1000000) -dsimp only [go_sem,cS]
 refine .sel [0,1] (by simp) (by simp) rfl (.done ?_)
 simp (maxSteps:=1000000) -dsimp only [go_sem]
 exact hK
theorem L7:Meets Tryz.prog 55 (n5 (fun _ _=>True) fun _ ts _ z=>gA ts z):=by
 refine aE Tryz.func55 aON 2 (by rw [Tryz.ntmps55]; decide) (aB aF2 (aB o8 (aA _))) pK ?_
 rintro av H K ⟨s,ts,t,⟨b,o,n⟩,rfl,rfl,hs,ht,hts,hn,_,hK⟩
 have hK:K (.va (.gs (bJ (gA ts ⟨b,o,n⟩).1))) (hZ s ts (gA ts ⟨b,o,n⟩).2):=hK
 cases b with
 | true=>
  simp (maxSteps:=1000000) -dsimp only [go_sem,aO t,TZ,RK]
  refine aD rfl (.done ?_)
  simp (maxSteps:=1000000) -dsimp only [go_sem,w7]
  refine aD rfl (.done ?_)
  simp (maxSteps:=1000000) -dsimp only [go_sem,zX]
  refine dV (z:=⟨true,o,n⟩) hts.e hn ?_
  simp (maxSteps:=1000000) -dsimp only [go_sem]
  refine aD rfl (.done ?_)
  simp (maxSteps:=1000000) -dsimp only [go_sem,oO]
  refine .sel [0,1] (by simp) (by simp) rfl (.done ?_)
  simp (maxSteps:=1000000) -dsimp only [go_sem]
  exact hK
 | false=>
  simp (maxSteps:=1000000) -dsimp only [go_sem,aO t,TZ,RK]
  refine sO hts.e hn ?_
  rw [AK]
  rw [show bl (mk [116,114,117,101])=qB from rfl]
  cases h1:c8 1 qB (bH ts n) with
  | true=>
   rw [show gA ts ⟨false,o,n⟩=(.mk 1 1 (mk []) [] [],⟨false,o,b7 ts n⟩) by simp [gA,h1]] at hK
   simp (maxSteps:=1000000) -dsimp only [go_sem]
   refine aD rfl (.done ?_)
   simp (maxSteps:=1000000) -dsimp only [go_sem,GM]
   refine aD rfl (.done ?_)
   simp (maxSteps:=1000000) -dsimp only [go_sem,oO]
   refine .sel [0,1] (by simp) (by simp) rfl (.done ?_)
   simp (maxSteps:=1000000) -dsimp only [go_sem]
   exact hK
  | false=>
   simp (maxSteps:=1000000) -dsimp only [go_sem]
   refine aD rfl (.done ?_)
   simp (maxSteps:=1000000) -dsimp only [go_sem,w7]
   refine sO hts.e hn ?_
   rw [AK]
   rw [show bl (mk [102,97,108,115,101])=mZ from rfl]
   cases h2:c8 1 mZ (bH ts n) with
   | true=>
    rw [show gA ts ⟨false,o,n⟩=(.mk 1 0 (mk []) [] [],⟨false,o,b7 ts n⟩) by simp [gA,h1,h2]] at hK
    simp (maxSteps:=1000000) -dsimp only [go_sem]
    refine aD rfl (.done ?_)
    simp (maxSteps:=1000000) -dsimp only [go_sem,oO]
    refine .sel [0,1] (by simp) (by simp) rfl (.done ?_)
    simp (maxSteps:=1000000) -dsimp only [go_sem]
    exact hK
   | false=>
    rw [show gA ts ⟨false,o,n⟩=(.mk 1 0 (mk []) [] [],cT ts ⟨false,o,n⟩) by simp [gA,h1,h2]] at hK
    simp (maxSteps:=1000000) -dsimp only [go_sem]
    refine aD rfl (.done ?_)
    simp (maxSteps:=1000000) -dsimp only [go_sem,zX]
    refine dV (z:=⟨false,o,n⟩) hts.e hn ?_
    simp (maxSteps:=1000000) -dsimp only [go_sem]
    refine aD rfl (.done ?_)
    simp (maxSteps:=1000000) -dsimp only [go_sem,oO]
    refine .sel [0,1] (by simp) (by simp) rfl (.done ?_)
    simp (maxSteps:=1000000) -dsimp only [go_sem]
    exact hK
theorem QF:∀ (l:List ByteArray) (x:ByteArray) (i:Nat),-1<=jN l x i/\jN l x i < (l.length:Int) + i
 | [],_,_=>⟨by simp [jN],by simp only [jN,List.length_nil]; omega⟩
 | y :: l,x,i=>by
  have:=QF l x (i + 1)
  rw [jN]
  cases decide (x=y) with
  | true=>exact ⟨by simp only [aL]; omega,by simp only [aL,List.length_cons]; omega⟩
  | false=>exact ⟨by simp only [aI]; omega,by simp only [aI,List.length_cons]; omega⟩
theorem MH:Meets Tryz.prog 59 (n5 (fun _ _=>True) fun s ts t z=>f9 ((eU s.es t.n).getD default) ts z):=by
 refine aE Tryz.func59 aN9 2 (by rw [Tryz.ntmps59]; decide) (aB y5 (aB qQ (aB DU (aG aAE (aB o8 (aA _)))))) pK ?_
 rintro av H K ⟨s,ts,t,⟨b,o,n⟩,rfl,rfl,hs,ht,hts,hn,_,hK0⟩
 obtain ⟨e,hE⟩:∃ e,(eU s.es t.n).getD default=e:=⟨_,rfl⟩
 have he:e.ok:=by
  rw [<-hE]
  cases h:eU s.es t.n with
  | none=>exact ⟨by decide,by decide,by decide,fun _ h=>(by cases h),fun _ h=>(by cases h)⟩
  | some e=>exact hs.ok.es e (List.mem_of_find?_eq_some h)
 have hK:K (.va (.gs (bJ (f9 e ts ⟨b,o,n⟩).1))) (hZ s ts (f9 e ts ⟨b,o,n⟩).2):=by
  have:=hK0; simp only [hE] at this; exact this
 clear hK0
 have hlv:=he.lv
 have hln:=he.ln
 have hvs:=he.vs
 simp (maxSteps:=1000000) -dsimp only [go_sem,aO t,aB0,aBR]
 refine mN hs ?_
 rw [hE]
 simp (maxSteps:=1000000) -dsimp only [go_sem,bI]
 refine aD rfl (.done ?_)
 have g0:decide ((-1:Int) < 0)=true:=rfl
 cases b with
 | true=>
  simp (maxSteps:=1000000) -dsimp only [go_sem,xM]
  refine aD rfl (.done ?_)
  simp (maxSteps:=1000000) -dsimp only [go_sem,nH,g0]
  refine aD rfl (.done ?_)
  simp (maxSteps:=1000000) -dsimp only [go_sem,oY]
  refine dV (z:=⟨true,o,n⟩) hts.e hn ?_
  simp (maxSteps:=1000000) -dsimp only [go_sem]
  refine aD rfl (.done ?_)
  simp (maxSteps:=1000000) -dsimp only [go_sem,oQ]
  refine .sel [0,1] (by simp) (by simp) rfl (.done ?_)
  simp (maxSteps:=1000000) -dsimp only [go_sem]
  rw [show f9 e ts ⟨true,o,n⟩=(.mk 7 0 (mk []) [] [],cT ts ⟨true,o,n⟩) by simp [f9,iD]] at hK
  exact hK
 | false=>
  simp (maxSteps:=1000000) -dsimp only [go_sem,xM]
  refine j7 hts.e hn ?_
  cases hk:(bH ts n).k == 1 with
  | false=>
   simp (maxSteps:=1000000) -dsimp only [go_sem,cS,hk]
   refine aD rfl (.done ?_)
   simp (maxSteps:=1000000) -dsimp only [go_sem,nH,g0]
   refine aD rfl (.done ?_)
   simp (maxSteps:=1000000) -dsimp only [go_sem,oY]
   refine dV (z:=⟨false,o,n⟩) hts.e hn ?_
   simp (maxSteps:=1000000) -dsimp only [go_sem]
   refine aD rfl (.done ?_)
   simp (maxSteps:=1000000) -dsimp only [go_sem,oQ]
   refine .sel [0,1] (by simp) (by simp) rfl (.done ?_)
   simp (maxSteps:=1000000) -dsimp only [go_sem]
   rw [show f9 e ts ⟨false,o,n⟩=(.mk 7 0 (mk []) [] [],cT ts ⟨false,o,n⟩) by simp [f9,iD,hk]] at hK
   exact hK
  | true=>
   simp (maxSteps:=1000000) -dsimp only [go_sem,cS,hk]
   refine aD rfl (.done ?_)
   simp (maxSteps:=1000000) -dsimp only [go_sem,GF]
   refine j7 hts.e hn ?_
   simp (maxSteps:=1000000) -dsimp only [go_sem,cS,tM hln]
   have hi:iD e ts ⟨false,o,n⟩=jN e.ns (mk (bH ts n).x) 0:=by simp [iD,hk]
   have hlo:=(QF e.ns (mk (bH ts n).x) 0).1
   have hpE:f9 e ts ⟨false,o,n⟩=bif decide (jN e.ns (mk (bH ts n).x) 0 < 0) || decide ((e.vs.length:Int)<=jN e.ns (mk (bH ts n).x) 0) then (.mk 7 0 (mk []) [] [],cT ts ⟨false,o,n⟩)
    else (.mk 7 (e.vs.getD (jN e.ns (mk (bH ts n).x) 0).toNat 0) (mk []) [] [],⟨false,o,b7 ts n⟩):=by unfold f9; rw [hi]
   rw [hpE] at hK
   clear hpE hi
   obtain ⟨k,hkk⟩:∃ k,jN e.ns (mk (bH ts n).x) 0=k:=⟨_,rfl⟩
   rw [hkk] at hK hlo
   cases h1:decide (k < 0) with
   | true=>
    rw [h1] at hK
    refine aD rfl (.done ?_)
    simp (maxSteps:=1000000) -dsimp only [go_sem,nH,hkk,h1]
    refine aD rfl (.done ?_)
    simp (maxSteps:=1000000) -dsimp only [go_sem,oY]
    refine dV (z:=⟨false,o,n⟩) hts.e hn ?_
    simp (maxSteps:=1000000) -dsimp only [go_sem]
    refine aD rfl (.done ?_)
    simp (maxSteps:=1000000) -dsimp only [go_sem,oQ]
    refine .sel [0,1] (by simp) (by simp) rfl (.done ?_)
    simp (maxSteps:=1000000) -dsimp only [go_sem]
    rw [Bool.true_or] at hK
    exact hK
   | false=>
   rw [h1] at hK
   cases h2:decide ((e.vs.length:Int)<=k) with
   | true=>
    rw [h2] at hK
    refine aD rfl (.done ?_)
    simp (maxSteps:=1000000) -dsimp only [go_sem,nH,hkk,h1,h2]
    refine aD rfl (.done ?_)
    simp (maxSteps:=1000000) -dsimp only [go_sem,oY]
    refine dV (z:=⟨false,o,n⟩) hts.e hn ?_
    simp (maxSteps:=1000000) -dsimp only [go_sem]
    refine aD rfl (.done ?_)
    simp (maxSteps:=1000000) -dsimp only [go_sem,oQ]
    refine .sel [0,1] (by simp) (by simp) rfl (.done ?_)
    simp (maxSteps:=1000000) -dsimp only [go_sem]
    rw [Bool.or_true] at hK
    exact hK
   | false=>
   rw [h2] at hK
   have h1':0<=k:=by simpa using h1
   have h2':k < (e.vs.length:Int):=by simpa using h2
   obtain ⟨m,rfl⟩:∃ m:Nat,k=m:=⟨k.toNat,by omega⟩
   have hm:m < e.vs.length:=by omega
   have hx:e.vs[m]? = some e.vs[m]:=aY hm
   have q2:=aW (row:=cL) hx
   have hv:e.vs.getD ((m:Int)).toNat 0=e.vs[m]:=by simp [List.getD_eq_getElem?_getD,hx]
   rw [hv] at hK
   have hin:=hvs _ (List.getElem_mem hm)
   generalize e.vs[m]=y at *
   refine aD rfl (.done ?_)
   simp (maxSteps:=1000000) -dsimp only [go_sem,nH,hkk,h1,h2]
   refine aD rfl (.done ?_)
   simp (maxSteps:=1000000) -dsimp only [go_sem,HP]
   refine wJ hts.e hn ?_
   simp (maxSteps:=1000000) -dsimp only [go_sem]
   refine aD rfl (.done ?_)
   simp (maxSteps:=1000000) -dsimp only [go_sem,A4,↓q2]
   refine ⟨⟨by omega,by omega⟩,aD rfl (.done ?_)⟩
   simp (maxSteps:=1000000) -dsimp only [go_sem,BT]
   refine .sel [0,1] (by simp) (by simp) rfl (.done ?_)
   simp (maxSteps:=1000000) -dsimp only [go_sem]
   exact hK
end Go.Proofs.YtkpohmhenegkiaaGreatDoor
namespace Go.Proofs.YtkpohmhenegkiaaGreatDoor
open Go.W
attribute [-go_sem] cB cH cC eG cO
abbrev Prs:Type:=Sc->List Tk->Ty->Fs->Vl × Fs
def iE (D:Sc->Ty->Prop) (P:Prs) (f:FuncId):W.Spec:=n5 (fun s t=>D s t/\gI t.k=f) P
def y4 (D:Sc->Ty->Prop) (P:Prs):cJ:=[(24,.s lM),(55,.s (iE D P 55)),(57,.s (iE D P 57)),(59,.s (iE D P 59)),
 (61,.s (iE D P 61)),(63,.s (iE D P 63)),(65,.s (iE D P 65))]
structure ParsM (D:Sc->Ty->Prop) (P:Prs):Prop where
 b:Meets Tryz.prog 55 (iE D P 55)
 t:Meets Tryz.prog 57 (iE D P 57)
 e:Meets Tryz.prog 59 (iE D P 59)
 l:Meets Tryz.prog 61 (iE D P 61)
 s:Meets Tryz.prog 63 (iE D P 63)
 n:Meets Tryz.prog 65 (iE D P 65)
theorem oI {D:Sc->Ty->Prop} {P:Prs} (h:ParsM D P):dB Tryz.prog (y4 D P):=
 aB mOf (aB h.b (aB h.t (aB h.e (aB h.l (aB h.s (aB h.n (aA _)))))))
theorem S3 (D:Sc->Ty->Prop) (P:Prs):sp (y4 D P) 24=lM:=rfl
theorem N6 (D:Sc->Ty->Prop) (P:Prs) (k:Int):sp (y4 D P) (gI k)=iE D P (gI k):=by
 unfold gI
 cases k == 1<;>cases k == 4<;>cases k == 7<;>cases k == 5<;>cases k == 6<;>rfl
theorem FN {D:Sc->Ty->Prop} {P:Prs} {s:Sc} {ts:List Tk} {t:Ty} {z:Fs} {K:S->Hp->Prop} (h1:s.fit) (h2:TyOk t) (h3:Tks ts) (h4:z.n < ts.length) (h5:D s t) (hK:K (.va (.gs (bJ (P s ts t z).1))) (hZ s ts (P s ts t z).2)):iE D P (gI t.k) [.va (.c1 (.pt 0 0)),.va (.gs [.vl (.int .i64 t.k),.vl (.int .i64 t.s),.vl (.string t.n),.fz (t.e.map aN)])] (hZ s ts z) K:=⟨s,ts,t,z,by rw [aO],rfl,h1,h2,h3,h4,⟨h5,rfl⟩,hK⟩
abbrev uF (s:Sc) (ts:List Tk) (t:Ty) (l:List Vl) (z:Fs):Hp:=[OF s z.bad z.off,hM 114 ts z.n,.cells [.pt 0 0] 59,.cells [.vl (.int .i64 t.k),.vl (.int .i64 t.s),.vl (.string t.n),.fz (t.e.map aN)] 28,
 .cells [.vl (.int .i64 5),.vl (.int .i64 0),.vl (.string (mk [])),.sl 5 l.length,.vl (.slice none 0 0)] 32,.row (l.map bJ) 32 5]
def YC (D:Sc->Ty->Prop) (P:Prs):W.Spec:=fun av H K=>∃ s ts t u l z,av=[.va (.c1 (.pt 4 0)),.va (.c1 (.pt 3 0)),.va (.c1 (.pt 2 0))]/\H=uF s ts t l z/\s.fit/\TyOk u/\Tks ts/\z.n < ts.length/\t.e=[u]/\D s u/\(l.length + 1) * 80<=140737488355328/\
 K (.tu []) (uF s ts t (l ++ [(P s ts u z).1]) (P s ts u z).2)
theorem Z5 {D:Sc->Ty->Prop} {P:Prs} {s:Sc} {ts:List Tk} {t u:Ty} {l:List Vl} {z:Fs} {K:S->Hp->Prop} (h1:s.fit) (h2:TyOk u) (h3:Tks ts) (h4:z.n < ts.length) (h5:t.e=[u]) (h6:D s u) (h7:(l.length + 1) * 80<=140737488355328)
 (hK:K (.tu []) (uF s ts t (l ++ [(P s ts u z).1]) (P s ts u z).2)):YC D P [.va (.c1 (.pt 4 0)),.va (.c1 (.pt 3 0)),.va (.c1 (.pt 2 0))] (uF s ts t l z) K:=⟨s,ts,t,u,l,z,rfl,rfl,h1,h2,h3,h4,h5,h6,h7,hK⟩
theorem aGN {D:Sc->Ty->Prop} {P:Prs} (hP:ParsM D P):Meets Tryz.prog 102 (YC D P):=by
 refine aE Tryz.func102 aIJ 3 (by rw [Tryz.ntmps102]; decide) (oI hP) (fun av H K h=>by obtain ⟨_,_,_,_,_,_,rfl,_⟩:=h; rfl) ?_
 rintro av H K ⟨s,ts,t,u,l,z,rfl,rfl,hs,hu,hts,hn,he,hD,hl,hK⟩
 have z0:(0:Int) < ((1:Nat):Int):=by decide
 have z1:(0:Int)<=0:=by decide
 simp (maxSteps:=1000000) -dsimp only [go_sem,he,aO u,VN,W8,S3,N6,forall_eq',z0,z1,List.length_cons,List.length_nil,List.take_succ_cons,List.take_zero]
 refine FN hs hu hts hn hD ?_
 generalize P s ts u z=r at *
 obtain ⟨v,z'⟩:=r
 have ha:∀ {x r:List C},(l.map bJ ++ [x])[l.length]? = some r->r=x:=fun {x r} h=>by
  have h0:l.length=(l.map bJ).length:=by simp
  rw [h0,List.getElem?_concat_length] at h
  exact (bG h).symm
 have hb:∀ x:List C,(l.map bJ ++ [x]).set l.length (bJ v)=(l ++ [v]).map bJ:=fun x=>by
  rw [List.set_append_right _ _ (by simp)]
  simp
 rw [aV] at hb
 simp (maxSteps:=1000000) -dsimp only [go_sem,aV v]
 have fin:∀ {r x:List C} (y:B),r=[.vl (.int .i64 0),.vl (.int .i64 0),.vl (.string (mk [])),.vl (.slice none 0 0),.vl (.slice none 0 0)]->W.Fin 6 K (.tu []) [OF s z'.bad z'.off,hM 114 ts z'.n,.cells [.pt 0 0] 59,.cells [.vl (.int .i64 t.k),.vl (.int .i64 t.s),.vl (.string t.n),.fz [[.vl (.int .i64 u.k),.vl (.int .i64 u.s),.vl (.string u.n),.fz (u.e.map aN)]]] 28,
  .cells [.vl (.int .i64 5),.vl (.int .i64 0),.vl (.string (mk [])),.sl 5 (l.length + 1),.vl (.slice none 0 0)] 32,.row ((l.map bJ ++ [x]).set l.length (.vl (.int .i64 v.k) :: .vl (.int .i64 v.n) :: .vl (.string v.s) :: .fz (v.l.map bJ) :: .fz (v.f.map b8) :: List.drop 5 r)) 32 5,y]:=fun {r x} y hr=>by
  subst hr
  refine .sel [0,1,2,3,4,5] (by simp) (by simp) rfl (.done ?_)
  rw [show List.drop 5 [C.vl (.int .i64 0),C.vl (.int .i64 0),C.vl (.string (mk [])),C.vl (.slice none 0 0),C.vl (.slice none 0 0)]=[] from rfl,hb x]
  simp (maxSteps:=1000000) -dsimp only [go_sem]
  have e:(l ++ [v]).length=l.length + 1:=by simp
  rw [<-e]
  have:=hK
  unfold uF at this
  rw [he] at this
  simp only [aO u,List.map_cons,List.map_nil,List.map_append] at this
  exact this
 exact ⟨hl,⟨by omega,by omega⟩,⟨by omega,fun r hr=>fin _ (ha hr)⟩,⟨by omega,by omega⟩,by omega,fun r hr=>fin _ (ha hr)⟩
end Go.Proofs.YtkpohmhenegkiaaGreatDoor
namespace Go.Proofs.YtkpohmhenegkiaaGreatDoor
open Go.W
attribute [-go_sem] cB cH cC eG cO
def jF {α:Type} (one:α->Fs->α × Fs) (ts:List Tk):Nat->α->Fs->α × Fs
 | 0,a,z=>(a,z)
 | f + 1,a,z=>bif z.bad then (a,z) else bif cA [44] ts (one a z).2 then jF one ts f (one a z).1 (bY [44] ts (one a z).2) else one a z
theorem iG {α:Type} (one:α->Fs->α × Fs) (ts:List Tk) (f:Nat) (a:α) (z:Fs):jF one ts (f + 1) a z=bif z.bad then (a,z) else bif cA [44] ts (one a z).2 then jF one ts f (one a z).1 (bY [44] ts (one a z).2) else one a z:=rfl
def eM {α:Type} (one:α->Fs->α × Fs) (op sh:List UInt8) (ts:List Tk) (a:α) (z:Fs):α × Fs:=
 bif cA sh ts (cI op ts z) then (a,bY sh ts (cI op ts z))
 else ((jF one ts (ts.length + 1) a (cI op ts z)).1,cI sh ts (jF one ts (ts.length + 1) a (cI op ts z)).2)
theorem KS {w:List UInt8} {ts:List Tk} {z:Fs} (he:Ends ts) (hn:z.n < ts.length) (h:cA w ts z=true):b7 ts z.n=z.n + 1/\z.n + 1 < ts.length/\z.bad=false:=by
 unfold cA at h
 rw [Bool.and_eq_true] at h
 obtain ⟨h1,h2⟩:=h
 have hb:z.bad=false:=by cases hb:z.bad with
  | false=>rfl
  | true=>rw [hb] at h1; cases h1
 have hk:(bH ts z.n).k=4:=by
  unfold c8 at h2
  rw [Bool.and_eq_true] at h2
  exact eq_of_beq h2.1
 have hne:¬ (z.n + 1=ts.length):=fun e=>by
  have:=(he.last _ _ (jH hn)).2 e
  rw [hk] at this; cases this
 have hlt:z.n + 1 < ts.length:=by omega
 exact ⟨if_pos hlt,hlt,hb⟩
theorem lI {ts:List Tk} {n:Nat} (h:n < ts.length):n<=b7 ts n/\b7 ts n < ts.length:=by
 unfold b7; split<;>omega
theorem tY (ts:List Tk) (z:Fs):(cT ts z).n=z.n:=by unfold cT; cases z.bad<;>rfl
theorem gU {w:List UInt8} {ts:List Tk} {z:Fs} (h:z.n < ts.length):z.n<=(cI w ts z).n/\(cI w ts z).n < ts.length:=by
 unfold cI
 cases cA w ts z
 · rw [aI,tY]; exact ⟨Nat.le_refl _,h⟩
 · exact lI h
theorem BP {w:List UInt8} {ts:List Tk} {z:Fs} (h:z.n < ts.length):z.n<=(bY w ts z).n/\(bY w ts z).n < ts.length:=by
 unfold bY
 cases cA w ts z
 · exact ⟨Nat.le_refl _,h⟩
 · exact lI h
def CO {α:Type} (one:α->Fs->α × Fs) (ts:List Tk):Prop:=∀ a z,z.n < ts.length->z.n<=(one a z).2.n/\(one a z).2.n < ts.length
theorem N5 {α:Type} {one:α->Fs->α × Fs} {ts:List Tk} (ho:CO one ts):∀ (f:Nat) (a:α) (z:Fs),z.n < ts.length->z.n<=(jF one ts f a z).2.n/\(jF one ts f a z).2.n < ts.length
 | 0,a,z,h=>⟨Nat.le_refl _,h⟩
 | f + 1,a,z,h=>by
  rw [iG]
  cases z.bad
  · have h1:=ho a z h
    cases cA [44] ts (one a z).2
    · exact h1
    · have h2:=BP (w:=[44]) h1.2
      have h3:=N5 ho f (one a z).1 _ h2.2
      exact ⟨Nat.le_trans h1.1 (Nat.le_trans h2.1 h3.1),h3.2⟩
  · exact ⟨Nat.le_refl _,h⟩
theorem NT {α:Type} {one:α->Fs->α × Fs} {ts:List Tk} (ho:CO one ts) (op sh:List UInt8) (a:α) (z:Fs) (h:z.n < ts.length):z.n<=(eM one op sh ts a z).2.n/\(eM one op sh ts a z).2.n < ts.length:=by
 unfold eM
 have h1:=gU (w:=op) h
 cases cA sh ts (cI op ts z)
 · have h2:=N5 ho (ts.length + 1) a _ h1.2
   have h3:=gU (w:=sh) h2.2
   exact ⟨Nat.le_trans h1.1 (Nat.le_trans h2.1 h3.1),h3.2⟩
 · have h2:=BP (w:=sh) h1.2
   exact ⟨Nat.le_trans h1.1 h2.1,h2.2⟩
def iY (P:Prs) (s:Sc) (ts:List Tk) (u:Ty):List Vl->Fs->List Vl × Fs:=fun l z=>(l ++ [(P s ts u z).1],(P s ts u z).2)
abbrev TL:S:=.va (.c1 (.fn 102 [(false,[.pt 4 0]),(false,[.pt 3 0]),(false,[.pt 2 0])]))
def XA (D:Sc->Ty->Prop) (P:Prs):W.Spec:=fun av H K=>∃ s ts t u z op sh,av=[.va (.c1 (.pt 0 0)),tS op,tS sh,TL]/\H=uF s ts t [] z/\s.fit/\TyOk u/\Tks ts/\z.n < ts.length/\t.e=[u]/\D s u/\
 K (.tu []) (uF s ts t (eM (iY P s ts u) (bl op) (bl sh) ts [] z).1 (eM (iY P s ts u) (bl op) (bl sh) ts [] z).2)
theorem Z3 {D:Sc->Ty->Prop} {P:Prs} {s:Sc} {ts:List Tk} {t u:Ty} {z:Fs} {op sh:ByteArray} {K:S->Hp->Prop} (h1:s.fit) (h2:TyOk u) (h3:Tks ts) (h4:z.n < ts.length) (h5:t.e=[u]) (h6:D s u)
 (hK:K (.tu []) (uF s ts t (eM (iY P s ts u) (bl op) (bl sh) ts [] z).1 (eM (iY P s ts u) (bl op) (bl sh) ts [] z).2)):XA D P [.va (.c1 (.pt 0 0)),tS op,tS sh,TL] (uF s ts t [] z) K:=⟨s,ts,t,u,z,op,sh,rfl,rfl,h1,h2,h3,h4,h5,h6,hK⟩
def Prs.onw (P:Prs):Prop:=∀ s ts t z,z.n < ts.length->z.n<=(P s ts t z).2.n/\(P s ts t z).2.n < ts.length
theorem ZB {D:Sc->Ty->Prop} {P:Prs} (hP:ParsM D P) (hO:P.onw):Meets Tryz.prog 101 (XA D P):=by
 refine aE Tryz.func101 aGZ 4 (by rw [Tryz.ntmps101]; decide) (aB HA (aB NO (aB (aGN hP) (aA _)))) (fun av H K h=>by obtain ⟨_,_,_,_,_,_,_,rfl,_⟩:=h; rfl) ?_
 rintro av H K ⟨s,ts,t,u,z,op,sh,rfl,rfl,hs,hu,hts,hn,he,hD,hK⟩
 have onw:CO (iY P s ts u) ts:=fun a z h=>hO s ts u z h
 have hl0:=hts.e.le
 unfold eM at hK
 simp (maxSteps:=1000000) -dsimp only [go_sem,V4,UM]
 refine iH hts.e hn ?_
 have hn1:=(gU (w:=bl op) hn).2
 generalize cI (bl op) ts z=z1 at *
 simp (maxSteps:=1000000) -dsimp only [go_sem]
 refine aD rfl (.done ?_)
 simp (maxSteps:=1000000) -dsimp only [go_sem,BM]
 refine o0 hts.e hn1 ?_
 cases hh:cA (bl sh) ts z1 with
 | true=>
  rw [hh] at hK
  simp (maxSteps:=1000000) -dsimp only [go_sem]
  refine .sel [0,1,2,3,4,5] (by simp) (by simp) rfl (.done ?_)
  simp (maxSteps:=1000000) -dsimp only [go_sem]
  exact hK
 | false=>
 rw [hh] at hK
 rw [show bY (bl sh) ts z1=z1 by unfold bY; rw [hh]; rfl]
 simp (maxSteps:=1000000) -dsimp only [go_sem]
 refine aD rfl (.done ?_)
 simp (maxSteps:=1000000) -dsimp only [go_sem,AT]
 refine aK (α:=Nat × Bool × List Vl × Fs) (fun x=>[(0,.va (.c1 (.pt 0 0))),(2,tS sh),(3,TL),(8,bS x.2.1)]) (fun x=>uF s ts t x.2.2.1 x.2.2.2)
  (fun x=>x.2.2.2.n < ts.length/\x.2.2.1.length + x.1<=ts.length + 1/\(x.2.1=true->ts.length < x.2.2.2.n + x.1)/\(bif x.2.1 then jF (iY P s ts u) ts x.1 x.2.2.1 x.2.2.2 else (x.2.2.1,x.2.2.2))=jF (iY P s ts u) ts (ts.length + 1) [] z1)
  (fun x=>x.1) (ts.length + 1,true,[],z1) 6 ⟨hn1,by simp,fun _=>by omega,rfl⟩ ?_ ?_ ?_
 · simp -dsimp only [go_sem]<;>simp
 · simp -dsimp only [go_sem]<;>simp
 rintro ⟨f,m,l,z⟩ ⟨h1,h2,h3,h4⟩
 simp only at h1 h2 h3 h4
 cases m with
 | false=>
  rw [aI] at h4
  rw [<-h4] at hK
  simp (maxSteps:=1000000) -dsimp only [go_sem]
  refine aD rfl (.done ?_)
  simp (maxSteps:=1000000) -dsimp only [go_sem,uA]
  refine iH (z:=z) hts.e h1 ?_
  simp (maxSteps:=1000000) -dsimp only [go_sem]
  refine .sel [0,1,2,3,4,5] (by simp) (by simp) rfl (.done ?_)
  simp (maxSteps:=1000000) -dsimp only [go_sem]
  exact hK
 | true=>
  rw [aL] at h4
  have h3:=h3 rfl
  obtain ⟨f,rfl⟩:∃ g,f=g + 1:=⟨f - 1,by omega⟩
  rw [iG] at h4
  obtain ⟨b,o,n⟩:=z
  cases b with
  | true=>
   rw [aL] at h4
   rw [<-h4] at hK
   simp (maxSteps:=1000000) -dsimp only [go_sem]
   refine aD rfl (.done ?_)
   simp (maxSteps:=1000000) -dsimp only [go_sem,uA]
   refine iH (z:=⟨true,o,n⟩) hts.e h1 ?_
   simp (maxSteps:=1000000) -dsimp only [go_sem]
   refine .sel [0,1,2,3,4,5] (by simp) (by simp) rfl (.done ?_)
   simp (maxSteps:=1000000) -dsimp only [go_sem]
   exact hK
  | false=>
   rw [aI] at h4
   simp (maxSteps:=1000000) -dsimp only [go_sem]
   refine Z5 (z:=⟨false,o,n⟩) hs hu hts h1 he hD (by omega) ?_
   have h5:=onw l ⟨false,o,n⟩ h1
   have e1:iY P s ts u l ⟨false,o,n⟩=(l ++ [(P s ts u ⟨false,o,n⟩).1],(P s ts u ⟨false,o,n⟩).2):=rfl
   rw [e1] at h4 h5
   generalize P s ts u ⟨false,o,n⟩=r at *
   obtain ⟨v,z'⟩:=r
   simp only at h4 h5
   simp (maxSteps:=1000000) -dsimp only [go_sem]
   refine aD rfl (.done ?_)
   simp (maxSteps:=1000000) -dsimp only [go_sem,z8]
   refine o0 (z:=z') hts.e h5.2 ?_
   cases hc:cA (bl (mk [44])) ts z' with
   | true=>
    obtain ⟨g1,g2,g3⟩:=KS hts.e h5.2 hc
    have hc':cA [44] ts z'=true:=hc
    rw [hc',aL] at h4
    have e2:bY (bl (mk [44])) ts z'=⟨false,z'.off,b7 ts z'.n⟩:=by unfold bY; rw [hc]; rfl
    have e3:bY [44] ts z'=⟨false,z'.off,b7 ts z'.n⟩:=e2
    rw [e3] at h4
    rw [e2]
    simp (maxSteps:=1000000) -dsimp only [go_sem]
    refine aC (f,true,l ++ [v],⟨false,z'.off,b7 ts z'.n⟩) 6 ⟨?_,?_,?_,h4⟩ (by simp) ?_ ?_
    · simp only [g1]; exact g2
    · simp only [List.length_append,List.length_singleton]; omega
    · intro _
      have h6:=h5.1
      simp only at h6 h3 ⊢
      omega
    · simp -dsimp only [go_sem]<;>simp
    · simp -dsimp only [go_sem]<;>simp
   | false=>
    have hc':cA [44] ts z'=false:=hc
    rw [hc',aI] at h4
    rw [show bY (bl (mk [44])) ts z'=z' by unfold bY; rw [hc]; rfl]
    simp (maxSteps:=1000000) -dsimp only [go_sem]
    refine aC (f,false,l ++ [v],z') 6 ⟨h5.2,?_,fun h=>(by cases h),h4⟩ (by simp) ?_ ?_
    · simp only [List.length_append,List.length_singleton]; omega
    · simp -dsimp only [go_sem]<;>simp
    · simp -dsimp only [go_sem]<;>simp
end Go.Proofs.YtkpohmhenegkiaaGreatDoor
namespace Go.Proofs.YtkpohmhenegkiaaGreatDoor
open Go.W
attribute [-go_sem] cB cH cC eG cO
def l7 (P:Prs) (s:Sc) (ts:List Tk) (u:Ty) (z:Fs):Vl × Fs:=(.mk 5 0 (mk []) (eM (iY P s ts u) [91] [93] ts [] z).1 [],(eM (iY P s ts u) [91] [93] ts [] z).2)
theorem NJ {D:Sc->Ty->Prop} {P:Prs} (hP:ParsM D P) (hO:P.onw):Meets Tryz.prog 61 (n5 (fun s t=>∃ u,t.e=[u]/\TyOk u/\D s u) fun s ts t z=>l7 P s ts (t.e.headD default) z):=by
 refine aE Tryz.func61 aOA 2 (by rw [Tryz.ntmps61]; decide) (aB (ZB hP hO) (aA _)) pK ?_
 rintro av H K ⟨s,ts,t,z,rfl,rfl,hs,ht,hts,hn,⟨u,he,hu,hD⟩,hK⟩
 have hK:K (.va (.gs (bJ (l7 P s ts u z).1))) (hZ s ts (l7 P s ts u z).2):=by
  have:=hK; simp only [he,List.headD_cons] at this; exact this
 unfold l7 at hK
 simp (maxSteps:=1000000) -dsimp only [go_sem,aO t,aFB,aAN]
 refine aD rfl (.nilc 5 3 32 5 _ _ rfl rfl (.done ?_))
 simp (maxSteps:=1000000) -dsimp only [go_sem,HK]
 refine Z3 (t:=t) hs hu hts hn he hD ?_
 rw [show bl (mk [91])=[91] from rfl,show bl (mk [93])=[93] from rfl]
 generalize eM (iY P s ts u) [91] [93] ts [] z=r at *
 obtain ⟨l,z'⟩:=r
 simp (maxSteps:=1000000) -dsimp only [go_sem]
 refine aD rfl (.done ?_)
 simp (maxSteps:=1000000) -dsimp only [go_sem,IA]
 refine .pub 6 _ _ _ rfl (.sel [0,1] (by simp) (by simp [cN]) rfl (.done ?_))
 simp (maxSteps:=1000000) -dsimp only [go_sem,cN]
 rw [aV] at hK
 exact hK
end Go.Proofs.YtkpohmhenegkiaaGreatDoor
namespace Go.Proofs.YtkpohmhenegkiaaGreatDoor
open Go.W
attribute [-go_sem] cB cH cC eG cO
abbrev nmV:S:=.va (.c1 (.fn 107 [(false,[.pt 0 0])]))
def aD8:W.Spec:=fun av H K=>∃ (f:Fl) (t:Tk),av=[.va (.gs (aX f)),.va (.c1 (.pt 0 0))]/\H=[.cells (cS t) 71]/\K (bS (bl f.nm == t.x)) [.cells (cS t) 71]
theorem aBT {f:Fl} {t:Tk} {K:S->Hp->Prop} (hK:K (bS (bl f.nm == t.x)) [.cells (cS t) 71]):aD8 [.va (.gs (aX f)),.va (.c1 (.pt 0 0))] [.cells (cS t) 71] K:=⟨f,t,rfl,rfl,hK⟩
theorem aCZ:Meets Tryz.prog 107 aD8:=by
 refine aE Tryz.func107 aGL 2 (by rw [Tryz.ntmps107]; decide) (aA _) (fun av H K h=>by obtain ⟨_,_,rfl,_⟩:=h; rfl) ?_
 rintro av H K ⟨f,t,rfl,rfl,hK⟩
 simp -dsimp only [go_sem,aX,cS,XT,WJ]
 exact .sel [0] (by simp) (by simp) rfl (.done (by simpa [go_sem,cS] using hK))
def jX (n:List UInt8):List Fl->Nat->Int
 | [],_=>-1
 | x :: l,i=>bif bl x.nm == n then (i:Int) else jX n l (i + 1)
def MN:W.Spec:=fun av H K=>∃ (l:List Fl) (t:Tk),av=[.va (.c1 (.fz (l.map aX))),nmV]/\H=[.cells (cS t) 71]/\l.length<=9223372036854775807/\K (iS .i64 (jX t.x l 0)) [.cells (cS t) 71]
theorem aEM {l:List Fl} {t:Tk} {K:S->Hp->Prop} (h:l.length<=9223372036854775807) (hK:K (iS .i64 (jX t.x l 0)) [.cells (cS t) 71]):MN [.va (.c1 (.fz (l.map aX))),nmV] [.cells (cS t) 71] K:=⟨l,t,rfl,rfl,h,hK⟩
theorem SU:Meets Tryz.prog 106 MN:=by
 refine aE Tryz.func106 aH3 2 (by rw [Tryz.ntmps106]; decide) (aB aCZ (aA _)) (fun av H K h=>by obtain ⟨_,_,rfl,_⟩:=h; rfl) ?_
 rintro av H K ⟨l,t,rfl,rfl,hl,hK⟩
 simp -dsimp only [go_sem,W4,UK]
 refine aK (α:=Nat) (fun i=>[(0,.va (.c1 (.fz (l.map aX)))),(1,nmV),(7,iS .i64 l.length),(8,iS .i64 i)]) (fun _=>[.cells (cS t) 71])
  (fun i=>i<=l.length/\jX t.x (l.drop i) i=jX t.x l 0) (fun i=>l.length - i) 0 1 ⟨Nat.zero_le _,rfl⟩ ?_ ?_ ?_
 · simp -dsimp only [go_sem]<;>simp
 · simp -dsimp only [go_sem,cS]<;>simp
 rintro i ⟨hi,ho⟩
 rcases bE i l.length with hlt | hge
 · have hg:decide ((i:Int) < (l.length:Int))=true:=by simp; omega
   have hx:l[i]? = some l[i]:=aY hlt
   have q2:=aW (row:=aX) hx
   rw [List.drop_eq_getElem_cons hlt,jX] at ho
   generalize l[i]=y at *
   simp -dsimp only [go_sem,hg,↓q2,aX,List.take_succ_cons,List.take_zero,List.length_cons]
   refine ⟨by omega,aBT ?_⟩
   cases hc:bl y.nm == t.x with
   | true=>
    rw [hc,aL] at ho
    simp -dsimp only [go_sem]
    exact .sel [0] (by simp) (by simp) rfl (.done (by simpa [go_sem,cS,ho] using hK))
   | false=>
    rw [hc,aI] at ho
    simp -dsimp only [go_sem]
    refine ⟨by omega,aC (i + 1) 1 ⟨by omega,ho⟩ (by omega) ?_ ?_⟩
    · simp -dsimp only [go_sem]<;>simp
    · simp -dsimp only [go_sem,cS]<;>simp [cS]
 · have hg:decide ((i:Int) < (l.length:Int))=false:=by simp; omega
   have:l.drop i=[]:=List.drop_eq_nil_iff.2 (by omega)
   rw [this] at ho
   simp -dsimp only [go_sem,hg]
   exact .sel [0] (by simp) (by simp) rfl (.done (by rw [show jX t.x l 0=-1 from ho.symm] at hK; simpa [go_sem,cS] using hK))
theorem z6 (n:List UInt8):∀ (l:List Fl) (i:Nat),-1<=jX n l i/\jX n l i < (l.length:Int) + i
 | [],_=>⟨by simp [jX],by simp only [jX,List.length_nil]; omega⟩
 | y :: l,i=>by
  have:=z6 n l (i + 1)
  rw [jX]
  cases bl y.nm == n with
  | true=>exact ⟨by simp only [aL]; omega,by simp only [aL,List.length_cons]; omega⟩
  | false=>exact ⟨by simp only [aI]; omega,by simp only [aI,List.length_cons]; omega⟩
end Go.Proofs.YtkpohmhenegkiaaGreatDoor
namespace Go.Proofs.YtkpohmhenegkiaaGreatDoor
open Go.W
attribute [-go_sem] cB cH cC eG cO
def nM (D:Sc->Ty->Prop) (P:Prs):cJ:=(30,.s (cB 114)) :: (100,.s (cH 114)) :: (31,.s mM) :: (108,.s uE) :: (106,.s MN) :: y4 D P
theorem I3 {D:Sc->Ty->Prop} {P:Prs} (h:ParsM D P):dB Tryz.prog (nM D P):=aB qQ (aB DU (aB o8 (aB HA (aB SU (oI h)))))
theorem R8 (D:Sc->Ty->Prop) (P:Prs):sp (nM D P) 24=lM:=rfl
theorem UC (D:Sc->Ty->Prop) (P:Prs):sp (nM D P) 30=cB 114:=rfl
theorem TM (D:Sc->Ty->Prop) (P:Prs):sp (nM D P) 100=cH 114:=rfl
theorem wH (D:Sc->Ty->Prop) (P:Prs):sp (nM D P) 31=mM:=rfl
theorem R9 (D:Sc->Ty->Prop) (P:Prs):sp (nM D P) 108=uE:=rfl
theorem TU (D:Sc->Ty->Prop) (P:Prs):sp (nM D P) 106=MN:=rfl
theorem PG (D:Sc->Ty->Prop) (P:Prs) (k:Int):sp (nM D P) (gI k)=iE D P (gI k):=by
 unfold gI
 cases k == 1<;>cases k == 4<;>cases k == 7<;>cases k == 5<;>cases k == 6<;>rfl
abbrev JK:Type:=Int × List (Int × Vl)
abbrev uK (s:Sc) (ts:List Tk) (u:St) (a:JK) (z:Fs):Hp:=[OF s z.bad z.off,hM 114 ts z.n,.cells [.pt 0 0] 59,
 .cells [.vl (.int .i64 6),.vl (.int .i64 0),.vl (.string (mk [])),.vl (.slice none 0 0),.sl 6 a.2.length] 32,.cells [.vl (.string u.nm),.fz (u.fs.map aX)] 95,.cells [.vl (.int .i64 a.1)] 3,.row (a.2.map b8) 57 6]
def dY (ts:List Tk) (u:St) (z:Fs):Int:=jX (bH ts z.n).x u.fs 0
def i6 (ts:List Tk) (u:St) (last:Int) (z:Fs):Bool:=(bH ts z.n).k != 1 || decide (dY ts u z < 0) || decide ((u.fs.getD (dY ts u z).toNat default).num<=last)
def lV (ts:List Tk) (z:Fs):Fs:=cI [61] ts ⟨z.bad,z.off,b7 ts z.n⟩
def eH (P:Prs) (s:Sc) (ts:List Tk) (u:St):JK->Fs->JK × Fs:=fun a z=>
 bif i6 ts u a.1 z then (a,cT ts z)
 else (((u.fs.getD (dY ts u z).toNat default).num,a.2 ++ [((u.fs.getD (dY ts u z).toNat default).num,(P s ts (u.fs.getD (dY ts u z).toNat default).ty (lV ts z)).1)]),(P s ts (u.fs.getD (dY ts u z).toNat default).ty (lV ts z)).2)
def OS (D:Sc->Ty->Prop) (P:Prs):W.Spec:=fun av H K=>∃ s ts u a z,av=[.va (.c1 (.pt 2 0)),.va (.c1 (.pt 4 0)),.va (.c1 (.pt 5 0)),.va (.c1 (.pt 3 0))]/\H=uK s ts u a z/\s.fit/\Tks ts/\z.n < ts.length/\u.fs.length<=9223372036854775807/\(∀ f ∈ u.fs,TyOk f.ty/\D s f.ty)/\(a.2.length + 1) * 88<=140737488355328/\
 K (.tu []) (uK s ts u (eH P s ts u a z).1 (eH P s ts u a z).2)
theorem R3 {D:Sc->Ty->Prop} {P:Prs} {s:Sc} {ts:List Tk} {u:St} {a:JK} {z:Fs} {K:S->Hp->Prop} (h1:s.fit) (h3:Tks ts) (h4:z.n < ts.length) (h5:u.fs.length<=9223372036854775807) (h6:∀ f ∈ u.fs,TyOk f.ty/\D s f.ty) (h7:(a.2.length + 1) * 88<=140737488355328)
 (hK:K (.tu []) (uK s ts u (eH P s ts u a z).1 (eH P s ts u a z).2)):OS D P [.va (.c1 (.pt 2 0)),.va (.c1 (.pt 4 0)),.va (.c1 (.pt 5 0)),.va (.c1 (.pt 3 0))] (uK s ts u a z) K:=⟨s,ts,u,a,z,rfl,rfl,h1,h3,h4,h5,h6,h7,hK⟩
theorem aIB {D:Sc->Ty->Prop} {P:Prs} (hP:ParsM D P):Meets Tryz.prog 105 (OS D P):=by
 refine aE Tryz.func105 aHY 4 (by rw [Tryz.ntmps105]; decide) (I3 hP) (fun av H K h=>by obtain ⟨_,_,_,_,_,rfl,_⟩:=h; rfl) ?_
 rintro av H K ⟨s,ts,u,⟨last,F⟩,z,rfl,rfl,hs,hts,hn,hul,hD,hl,hK⟩
 unfold eH at hK
 simp only at hK hl
 simp (maxSteps:=1000000) -dsimp only [go_sem,XS,UJ,UC]
 refine j7 hts.e hn ?_
 simp (maxSteps:=1000000) -dsimp only [go_sem,cS]
 refine aD rfl (.done ?_)
 simp (maxSteps:=1000000) -dsimp only [go_sem,BA,TU]
 refine aEM (t:=bH ts z.n) hul ?_
 simp (maxSteps:=1000000) -dsimp only [go_sem]
 refine aD rfl (.done ?_)
 rw [show jX (bH ts z.n).x u.fs 0=dY ts u z from rfl]
 have hlo:-1<=dY ts u z/\dY ts u z < (u.fs.length:Int) + (0:Nat):=z6 _ _ _
 have hbad:i6 ts u last z=((bH ts z.n).k != 1 || decide (dY ts u z < 0) || decide ((u.fs.getD (dY ts u z).toNat default).num<=last)):=rfl
 obtain ⟨k,hk⟩:∃ k,dY ts u z=k:=⟨_,rfl⟩
 rw [hk] at hK hlo hbad
 have hlt:=hlo.2
 cases h1:(bH ts z.n).k != 1 with
 | true=>
  rw [h1,Bool.true_or,Bool.true_or] at hbad
  rw [hbad,aL] at hK
  simp (maxSteps:=1000000) -dsimp only [go_sem,mE,h1]
  refine aD rfl (.done ?_)
  simp (maxSteps:=1000000) -dsimp only [go_sem,o7,wH]
  refine dV hts.e hn ?_
  simp (maxSteps:=1000000) -dsimp only [go_sem]
  refine .sel [0,1,2,3,4,5,6] (by simp) (by simp) rfl (.done ?_)
  simp (maxSteps:=1000000) -dsimp only [go_sem]
  exact hK
 | false=>
  cases h2:decide (k < 0) with
  | true=>
   rw [h1,h2,Bool.or_true,Bool.true_or] at hbad
   rw [hbad,aL] at hK
   simp (maxSteps:=1000000) -dsimp only [go_sem,mE,h1,hk,h2]
   refine aD rfl (.done ?_)
   simp (maxSteps:=1000000) -dsimp only [go_sem,o7,wH]
   refine dV hts.e hn ?_
   simp (maxSteps:=1000000) -dsimp only [go_sem]
   refine .sel [0,1,2,3,4,5,6] (by simp) (by simp) rfl (.done ?_)
   simp (maxSteps:=1000000) -dsimp only [go_sem]
   exact hK
  | false=>
  have h2':0<=k:=by simpa using h2
  obtain ⟨m,rfl⟩:∃ m:Nat,k=m:=⟨k.toNat,by omega⟩
  have hm:m < u.fs.length:=by omega
  have hx:u.fs[m]? = some u.fs[m]:=aY hm
  have q1:=oW (row:=aX) hx
  have q2:=aW (row:=aX) hx
  have hv:u.fs.getD ((m:Int)).toNat default=u.fs[m]:=by simp [List.getD_eq_getElem?_getD,hx]
  rw [hv] at hK hbad
  obtain ⟨hto,hDf⟩:=hD _ (List.getElem_mem hm)
  generalize u.fs[m]=d at *
  rw [h1,h2,Bool.false_or,Bool.false_or] at hbad
  cases h3:decide (d.num<=last) with
  | true=>
   rw [h3] at hbad
   rw [hbad,aL] at hK
   simp (maxSteps:=1000000) -dsimp only [go_sem,mE,h1,hk,h2,↓q2,aX,h3]
   refine ⟨⟨by omega,by omega⟩,aD rfl (.done ?_)⟩
   simp (maxSteps:=1000000) -dsimp only [go_sem,o7,wH]
   refine dV hts.e hn ?_
   simp (maxSteps:=1000000) -dsimp only [go_sem]
   refine .sel [0,1,2,3,4,5,6] (by simp) (by simp) rfl (.done ?_)
   simp (maxSteps:=1000000) -dsimp only [go_sem]
   exact hK
  | false=>
   rw [h3] at hbad
   rw [hbad,aI] at hK
   simp (maxSteps:=1000000) -dsimp only [go_sem,mE,h1,hk,h2,↓q2,aX,h3]
   refine ⟨⟨by omega,by omega⟩,aD rfl (.done ?_)⟩
   simp (maxSteps:=1000000) -dsimp only [go_sem,zZ,TM]
   refine wJ hts.e hn ?_
   simp (maxSteps:=1000000) -dsimp only [go_sem]
   refine aD rfl (.done ?_)
   simp (maxSteps:=1000000) -dsimp only [go_sem,z7,R9]
   refine iH (z:=⟨z.bad,z.off,b7 ts z.n⟩) hts.e (lI hn).2 ?_
   rw [show cI (bl (mk [61])) ts ⟨z.bad,z.off,b7 ts z.n⟩=lV ts z from rfl]
   have hn2:(lV ts z).n < ts.length:=(gU (w:=[61]) (z:=⟨z.bad,z.off,b7 ts z.n⟩) (lI hn).2).2
   generalize lV ts z=z1 at *
   simp (maxSteps:=1000000) -dsimp only [go_sem]
   refine aD rfl (.done ?_)
   simp (maxSteps:=1000000) -dsimp only [go_sem,AN,↓q2,aX,List.take_succ_cons,List.take_zero,List.length_cons]
   refine ⟨⟨by omega,by omega⟩,?_⟩
   refine aD rfl (.done ?_)
   simp (maxSteps:=1000000) -dsimp only [go_sem,AR]
   refine aD rfl (.done ?_)
   simp (maxSteps:=1000000) -dsimp only [go_sem,A1,R8,PG]
   refine FN hs hto hts hn2 hDf ?_
   generalize P s ts d.ty z1=r at *
   obtain ⟨v,z'⟩:=r
   have ha:∀ {x r:List C},(F.map b8 ++ [x])[F.length]? = some r->r=x:=fun {x r} h=>by
    have h0:F.length=(F.map b8).length:=by simp
    rw [h0,List.getElem?_concat_length] at h
    exact (bG h).symm
   have hb:∀ x:List C,(F.map b8 ++ [x]).set F.length (b8 (d.num,v))=(F ++ [(d.num,v)]).map b8:=fun x=>by
    rw [List.set_append_right _ _ (by simp)]
    simp
   unfold b8 at hb
   rw [aV] at hb
   simp (maxSteps:=1000000) -dsimp only [go_sem,aV v]
   have fin:∀ {r x:List C} (y1 y2 y3:B),r=[.vl (.int .i64 0),.vl (.int .i64 0),.vl (.int .i64 0),.vl (.string (mk [])),.vl (.slice none 0 0),.vl (.slice none 0 0)]->W.Fin 7 K (.tu []) [OF s z'.bad z'.off,hM 114 ts z'.n,.cells [.pt 0 0] 59,
    .cells [.vl (.int .i64 6),.vl (.int .i64 0),.vl (.string (mk [])),.vl (.slice none 0 0),.sl 6 (F.length + 1)] 32,.cells [.vl (.string u.nm),.fz (u.fs.map aX)] 95,.cells [.vl (.int .i64 d.num)] 3,
    .row ((F.map b8 ++ [x]).set F.length (.vl (.int .i64 d.num) :: .vl (.int .i64 v.k) :: .vl (.int .i64 v.n) :: .vl (.string v.s) :: .fz (v.l.map bJ) :: .fz (v.f.map b8) :: List.drop 6 r)) 57 6,y1,y2,y3]:=fun {r x} y1 y2 y3 hr=>by
    subst hr
    refine .sel [0,1,2,3,4,5,6] (by simp) (by simp) rfl (.done ?_)
    rw [show List.drop 6 [C.vl (.int .i64 0),C.vl (.int .i64 0),C.vl (.int .i64 0),C.vl (.string (mk [])),C.vl (.slice none 0 0),C.vl (.slice none 0 0)]=[] from rfl]
    have hb:=hb x
    simp (maxSteps:=1000000) -dsimp only [go_sem]
    have e:(F ++ [(d.num,v)]).length=F.length + 1:=by simp
    have:=hK
    unfold uK at this
    simp only [e] at this
    unfold b8 at hb this ⊢
    rw [<-hb] at this
    exact this
   exact ⟨hl,⟨by omega,by omega⟩,⟨by omega,fun r hr=>fin _ _ _ (ha hr)⟩,⟨by omega,by omega⟩,by omega,fun r hr=>fin _ _ _ (ha hr)⟩
end Go.Proofs.YtkpohmhenegkiaaGreatDoor
namespace Go.Proofs.YtkpohmhenegkiaaGreatDoor
open Go.W
def wP:PC:=.gh (.reg [.v 23 0,.a 24 (.cl 128 [(.t 23),(.k (.string (mk [44])))] [0,1]),.v 8 24])
@[go_sem ↓] theorem aIF:a6 wP:=a7 _
def p6:PC:=.gh (.reg [.v 27 0,.v 28 2,.a 29 (.cl 108 [(.t 27),(.t 28)] [0,1])])
@[go_sem ↓] theorem aHE:a6 p6:=a7 _
def wQ:PC:=.seq (.seq (.gh (.reg [.q 8 (.mv (.k (.bool true)))])) (.block 0 (.loop (.seq (.seq (.reg [.v 15 8,.v 16 15,⟨some 17,(some (16,true)),.q (.mv (.t 0))⟩,⟨some 18,(some (16,true)),.q (.nc (.t 17))⟩,⟨some 19,(some (16,true)),.q (.fa 4 (.t 18))⟩,⟨some 20,(some (16,true)),.l (.ld1 (.t 19))⟩,⟨some 21,(some (16,true)),.q (.not (.t 20))⟩,.a 22 (.pick (.t 16) (.t 21) (.k (.bool false)))]) (.cond (.t 22) .skip (.exit 0))) (.seq (.block 1 (.reg [.v 25 3,.a 26 (.ca (.t 25) [] [0,1,2,3,4,5,6])])) (wP)))))) (p6)
@[go_sem ↓] theorem aHN:a6 wQ:=a7 _
def vH:PC:=.seq (.seq (.gh (.reg [.v 12 0,.v 13 2,.a 14 (.cl 128 [(.t 12),(.t 13)] [0,1])])) (.cond (.t 14) .ret .skip)) (wQ)
@[go_sem ↓] theorem aIL:a6 vH:=a7 _
def QO:PC:=.seq (.reg [.v 9 0,.v 10 1,.a 11 (.cl 108 [(.t 9),(.t 10)] [0,1])]) (vH)
def OB:List RV:=[]
theorem aEB:aM Tryz.prog true ⟨fun r k=>if r=0/\k=2 then .own [0,1] else if r=1/\k=2 then .own [0,1] else if r=5/\k=1 then .own [0,1,2,3,4,5,6] else if r=4/\k=1 then .own [0,1] else if r=6/\k=2 then .own [0,1] else .own [],fun r=>[1,2,4,6].contains r⟩ Tryz.f101=some (QO,OB):=by kernel_rfl
attribute [-go_sem] cB cH cC eG cO
abbrev MB:S:=.va (.c1 (.fn 105 [(false,[.pt 2 0]),(false,[.pt 4 0]),(false,[.pt 5 0]),(false,[.pt 3 0])]))
theorem HY {P:Prs} (hO:P.onw) {s:Sc} {ts:List Tk} {u:St}:CO (eH P s ts u) ts:=fun a z h=>by
 unfold eH
 cases i6 ts u a.1 z
 · have h1:z.n<=(lV ts z).n/\(lV ts z).n < ts.length:=by
    have h2:=lI h
    have h3:=gU (w:=[61]) (ts:=ts) (z:=⟨z.bad,z.off,b7 ts z.n⟩) h2.2
    exact ⟨Nat.le_trans h2.1 h3.1,h3.2⟩
   have h2:=hO s ts (u.fs.getD (dY ts u z).toNat default).ty (lV ts z) h1.2
   exact ⟨Nat.le_trans h1.1 h2.1,h2.2⟩
 · rw [aL,tY]; exact ⟨Nat.le_refl _,h⟩
theorem aFO (P:Prs) (s:Sc) (ts:List Tk) (u:St) (a:JK) (z:Fs):(eH P s ts u a z).1.2.length<=a.2.length + 1:=by
 unfold eH
 cases i6 ts u a.1 z
 · rw [aI]; simp
 · rw [aL]; exact Nat.le_succ _
def QE (D:Sc->Ty->Prop) (P:Prs):W.Spec:=fun av H K=>∃ s ts u z op sh,av=[.va (.c1 (.pt 0 0)),tS op,tS sh,MB]/\H=uK s ts u (0,[]) z/\s.fit/\Tks ts/\z.n < ts.length/\u.fs.length<=9223372036854775807/\(∀ f ∈ u.fs,TyOk f.ty/\D s f.ty)/\
 K (.tu []) (uK s ts u (eM (eH P s ts u) (bl op) (bl sh) ts (0,[]) z).1 (eM (eH P s ts u) (bl op) (bl sh) ts (0,[]) z).2)
theorem SJ {D:Sc->Ty->Prop} {P:Prs} {s:Sc} {ts:List Tk} {u:St} {z:Fs} {op sh:ByteArray} {K:S->Hp->Prop} (h1:s.fit) (h3:Tks ts) (h4:z.n < ts.length) (h5:u.fs.length<=9223372036854775807) (h6:∀ f ∈ u.fs,TyOk f.ty/\D s f.ty)
 (hK:K (.tu []) (uK s ts u (eM (eH P s ts u) (bl op) (bl sh) ts (0,[]) z).1 (eM (eH P s ts u) (bl op) (bl sh) ts (0,[]) z).2)):QE D P [.va (.c1 (.pt 0 0)),tS op,tS sh,MB] (uK s ts u (0,[]) z) K:=⟨s,ts,u,z,op,sh,rfl,rfl,h1,h3,h4,h5,h6,hK⟩
theorem SZ {D:Sc->Ty->Prop} {P:Prs} (hP:ParsM D P) (hO:P.onw):Meets Tryz.prog 101 (QE D P):=by
 refine aE Tryz.func101 aEB 4 (by rw [Tryz.ntmps101]; decide) (aB HA (aB NO (aB (aIB hP) (aA _)))) (fun av H K h=>by obtain ⟨_,_,_,_,_,_,rfl,_⟩:=h; rfl) ?_
 rintro av H K ⟨s,ts,u,z,op,sh,rfl,rfl,hs,hts,hn,hul,hD,hK⟩
 have onw:CO (eH P s ts u) ts:=HY hO
 have hl0:=hts.e.le
 unfold eM at hK
 simp (maxSteps:=1000000) -dsimp only [go_sem,QO,OB]
 refine iH hts.e hn ?_
 have hn1:=(gU (w:=bl op) hn).2
 generalize cI (bl op) ts z=z1 at *
 simp (maxSteps:=1000000) -dsimp only [go_sem]
 refine aD rfl (.done ?_)
 simp (maxSteps:=1000000) -dsimp only [go_sem,vH]
 refine o0 hts.e hn1 ?_
 cases hh:cA (bl sh) ts z1 with
 | true=>
  rw [hh] at hK
  simp (maxSteps:=1000000) -dsimp only [go_sem]
  refine .sel [0,1,2,3,4,5,6] (by simp) (by simp) rfl (.done ?_)
  simp (maxSteps:=1000000) -dsimp only [go_sem]
  exact hK
 | false=>
 rw [hh] at hK
 rw [show bY (bl sh) ts z1=z1 by unfold bY; rw [hh]; rfl]
 simp (maxSteps:=1000000) -dsimp only [go_sem]
 refine aD rfl (.done ?_)
 simp (maxSteps:=1000000) -dsimp only [go_sem,wQ]
 refine aK (α:=Nat × Bool × JK × Fs) (fun x=>[(0,.va (.c1 (.pt 0 0))),(2,tS sh),(3,MB),(8,bS x.2.1)]) (fun x=>uK s ts u x.2.2.1 x.2.2.2)
  (fun x=>x.2.2.2.n < ts.length/\x.2.2.1.2.length + x.1<=ts.length + 1/\(x.2.1=true->ts.length < x.2.2.2.n + x.1)/\(bif x.2.1 then jF (eH P s ts u) ts x.1 x.2.2.1 x.2.2.2 else (x.2.2.1,x.2.2.2))=jF (eH P s ts u) ts (ts.length + 1) (0,[]) z1)
  (fun x=>x.1) (ts.length + 1,true,(0,[]),z1) 7 ⟨hn1,by simp,fun _=>by omega,rfl⟩ ?_ ?_ ?_
 · simp -dsimp only [go_sem]<;>simp
 · simp -dsimp only [go_sem]<;>simp
 rintro ⟨f,m,l,z⟩ ⟨h1,h2,h3,h4⟩
 simp only at h1 h2 h3 h4
 cases m with
 | false=>
  rw [aI] at h4
  rw [<-h4] at hK
  simp (maxSteps:=1000000) -dsimp only [go_sem]
  refine aD rfl (.done ?_)
  simp (maxSteps:=1000000) -dsimp only [go_sem,p6]
  refine iH (z:=z) hts.e h1 ?_
  simp (maxSteps:=1000000) -dsimp only [go_sem]
  refine .sel [0,1,2,3,4,5,6] (by simp) (by simp) rfl (.done ?_)
  simp (maxSteps:=1000000) -dsimp only [go_sem]
  exact hK
 | true=>
  rw [aL] at h4
  have h3:=h3 rfl
  obtain ⟨f,rfl⟩:∃ g,f=g + 1:=⟨f - 1,by omega⟩
  rw [iG] at h4
  obtain ⟨b,o,n⟩:=z
  cases b with
  | true=>
   rw [aL] at h4
   rw [<-h4] at hK
   simp (maxSteps:=1000000) -dsimp only [go_sem]
   refine aD rfl (.done ?_)
   simp (maxSteps:=1000000) -dsimp only [go_sem,p6]
   refine iH (z:=⟨true,o,n⟩) hts.e h1 ?_
   simp (maxSteps:=1000000) -dsimp only [go_sem]
   refine .sel [0,1,2,3,4,5,6] (by simp) (by simp) rfl (.done ?_)
   simp (maxSteps:=1000000) -dsimp only [go_sem]
   exact hK
  | false=>
   rw [aI] at h4
   simp (maxSteps:=1000000) -dsimp only [go_sem]
   refine R3 (z:=⟨false,o,n⟩) hs hts h1 hul hD (by omega) ?_
   have h5:=onw l ⟨false,o,n⟩ h1
   have h7:=aFO P s ts u l ⟨false,o,n⟩
   generalize eH P s ts u l ⟨false,o,n⟩=r at *
   obtain ⟨l',z'⟩:=r
   simp only at h7
   simp only at h4 h5
   simp (maxSteps:=1000000) -dsimp only [go_sem]
   refine aD rfl (.done ?_)
   simp (maxSteps:=1000000) -dsimp only [go_sem,wP]
   refine o0 (z:=z') hts.e h5.2 ?_
   cases hc:cA (bl (mk [44])) ts z' with
   | true=>
    obtain ⟨g1,g2,g3⟩:=KS hts.e h5.2 hc
    have hc':cA [44] ts z'=true:=hc
    rw [hc',aL] at h4
    have e2:bY (bl (mk [44])) ts z'=⟨false,z'.off,b7 ts z'.n⟩:=by unfold bY; rw [hc]; rfl
    have e3:bY [44] ts z'=⟨false,z'.off,b7 ts z'.n⟩:=e2
    rw [e3] at h4
    rw [e2]
    simp (maxSteps:=1000000) -dsimp only [go_sem]
    refine aC (f,true,l',⟨false,z'.off,b7 ts z'.n⟩) 7 ⟨?_,?_,?_,h4⟩ (by simp) ?_ ?_
    · simp only [g1]; exact g2
    · simp only; omega
    · intro _
      have h6:=h5.1
      simp only at h6 h3 ⊢
      omega
    · simp -dsimp only [go_sem]<;>simp
    · simp -dsimp only [go_sem]<;>simp
   | false=>
    have hc':cA [44] ts z'=false:=hc
    rw [hc',aI] at h4
    rw [show bY (bl (mk [44])) ts z'=z' by unfold bY; rw [hc]; rfl]
    simp (maxSteps:=1000000) -dsimp only [go_sem]
    refine aC (f,false,l',z') 7 ⟨h5.2,?_,fun h=>(by cases h),h4⟩ (by simp) ?_ ?_
    · simp only; omega
    · simp -dsimp only [go_sem]<;>simp
    · simp -dsimp only [go_sem]<;>simp
end Go.Proofs.YtkpohmhenegkiaaGreatDoor
namespace Go.Proofs.YtkpohmhenegkiaaGreatDoor
open Go.W
attribute [-go_sem] cB cH cC eG cO
def stOf (s:Sc) (t:Ty):St:=(fS s.ss t.n).getD default
def iR (P:Prs) (s:Sc) (ts:List Tk) (u:St) (z:Fs):Vl × Fs:=(.mk 6 0 (mk []) [] (eM (eH P s ts u) [123] [125] ts (0,[]) z).1.2,(eM (eH P s ts u) [123] [125] ts (0,[]) z).2)
theorem mO {s:Sc} (hs:s.fit) (t:Ty):(stOf s t).ok:=by
 unfold stOf
 cases h:fS s.ss t.n with
 | none=>exact ⟨by decide,by decide,fun _ h=>(by cases h)⟩
 | some u=>exact hs.ok.ss u (List.mem_of_find?_eq_some h)
theorem G6 {D:Sc->Ty->Prop} {P:Prs} (hP:ParsM D P) (hO:P.onw):Meets Tryz.prog 63 (n5 (fun s t=>∀ f ∈ (stOf s t).fs,D s f.ty) fun s ts t z=>iR P s ts (stOf s t) z):=by
 refine aE Tryz.func63 aNF 2 (by rw [Tryz.ntmps63]; decide) (aB m7 (aB (SZ hP hO) (aA _))) pK ?_
 rintro av H K ⟨s,ts,t,z,rfl,rfl,hs,ht,hts,hn,hD,hK⟩
 have hok:=mO hs t
 have hK:K (.va (.gs (bJ (iR P s ts (stOf s t) z).1))) (hZ s ts (iR P s ts (stOf s t) z).2):=hK
 simp (maxSteps:=1000000) -dsimp only [go_sem,aO t,aDK,aEN]
 refine kH hs ?_
 rw [show (fS s.ss t.n).getD default=stOf s t from rfl]
 generalize stOf s t=u at *
 unfold iR at hK
 simp (maxSteps:=1000000) -dsimp only [go_sem,aP]
 refine aD rfl (.done ?_)
 simp (maxSteps:=1000000) -dsimp only [go_sem,HV]
 refine aD rfl (.nilc 5 4 57 6 _ _ rfl rfl (.done ?_))
 simp (maxSteps:=1000000) -dsimp only [go_sem,E0]
 refine SJ (u:=u) hs hts hn hok.len (fun f hf=>⟨(hok.fs f hf).ty,hD f hf⟩) ?_
 rw [show bl (mk [123])=[123] from rfl,show bl (mk [125])=[125] from rfl]
 generalize eM (eH P s ts u) [123] [125] ts (0,[]) z=r at *
 obtain ⟨⟨last,F⟩,z'⟩:=r
 simp (maxSteps:=1000000) -dsimp only [go_sem]
 refine aD rfl (.done ?_)
 simp (maxSteps:=1000000) -dsimp only [go_sem,F8]
 refine .pub 8 _ _ _ rfl (.sel [0,1] (by simp) (by simp [cN]) rfl (.done ?_))
 simp (maxSteps:=1000000) -dsimp only [go_sem,cN]
 rw [aV] at hK
 exact hK
end Go.Proofs.YtkpohmhenegkiaaGreatDoor
namespace Go.Proofs.YtkpohmhenegkiaaGreatDoor
open Go.W
def dP:Nat->Sc->Ty->Prop
 | 0,_,_=>False
 | N + 1,s,t=>((t.k == 5)=true->∃ u,t.e=[u]/\TyOk u/\dP N s u)/\((t.k == 6)=true->∀ f ∈ (stOf s t).fs,dP N s f.ty)
def pP:Nat->Prs
 | 0=>fun _ _ _ z=>(default,z)
 | N + 1=>fun s ts t z=>bif t.k == 1 then gA ts z else bif t.k == 4 then tC ts z else bif t.k == 7 then f9 ((eU s.es t.n).getD default) ts z
  else bif t.k == 5 then l7 (pP N) s ts (t.e.headD default) z else bif t.k == 6 then iR (pP N) s ts (stOf s t) z else A3 t.k ts z
theorem gW (N:Nat) (s:Sc) (ts:List Tk) (t:Ty) (z:Fs):pP (N + 1) s ts t z=bif t.k == 1 then gA ts z else bif t.k == 4 then tC ts z else bif t.k == 7 then f9 ((eU s.es t.n).getD default) ts z
 else bif t.k == 5 then l7 (pP N) s ts (t.e.headD default) z else bif t.k == 6 then iR (pP N) s ts (stOf s t) z else A3 t.k ts z:=rfl
theorem LO {k:Int} {ts:List Tk} {z:Fs} (h:z.n < ts.length):z.n<=(jV k ts z).n/\(jV k ts z).n < ts.length:=by
 unfold jV
 cases fY k ts z
 · rw [aI,tY]; exact ⟨Nat.le_refl _,h⟩
 · exact lI h
theorem AG:∀ N,(pP N).onw
 | 0=>fun s ts t z h=>⟨Nat.le_refl _,h⟩
 | N + 1=>fun s ts t z h=>by
  have hf:z.n<=(cT ts z).n/\(cT ts z).n < ts.length:=by rw [tY]; exact ⟨Nat.le_refl _,h⟩
  have hx:=lI h
  rw [gW]
  cases t.k == 1 with
  | true=>
   rw [aL]; unfold gA
   cases (!z.bad && c8 1 qB (bH ts z.n))<;>cases (!z.bad && c8 1 mZ (bH ts z.n))<;>first | exact hx | exact hf
  | false=>
  cases t.k == 4 with
  | true=>exact LO h
  | false=>
  cases t.k == 7 with
  | true=>
   rw [aI,aI,aL]; unfold f9
   cases (decide (iD ((eU s.es t.n).getD default) ts z < 0) || decide ((((eU s.es t.n).getD default).vs.length:Int)<=iD ((eU s.es t.n).getD default) ts z))<;>first | exact hx | exact hf
  | false=>
  cases t.k == 5 with
  | true=>exact NT (one:=iY (pP N) s ts (t.e.headD default)) (fun a z h=>AG N s ts _ z h) [91] [93] [] z h
  | false=>
  cases t.k == 6 with
  | true=>exact NT (one:=eH (pP N) s ts (stOf s t)) (HY (AG N)) [123] [125] (0,[]) z h
  | false=>exact LO h
theorem mJ {f:FuncId} {D D':Sc->Ty->Prop} {P P':Prs} (h:Meets Tryz.prog f (n5 D P)) (hd:∀ s t,D' s t->D s t/\∀ ts z,P s ts t z=P' s ts t z):Meets Tryz.prog f (n5 D' P'):=
 eC (0:Nat) (fun (_:Nat)=>h) fun av H K ⟨s,ts,t,z,h1,h2,h3,h4,h5,h6,h7,h8⟩=>⟨0,s,ts,t,z,h1,h2,h3,h4,h5,h6,(hd s t h7).1,by rw [(hd s t h7).2]; exact h8⟩
theorem mL (k:Int):(gI k=55->(k == 1)=true)/\(gI k=57->(k == 1)=false/\(k == 4)=true)/\(gI k=59->(k == 1)=false/\(k == 4)=false/\(k == 7)=true)/\
 (gI k=61->(k == 1)=false/\(k == 4)=false/\(k == 7)=false/\(k == 5)=true)/\(gI k=63->(k == 1)=false/\(k == 4)=false/\(k == 7)=false/\(k == 5)=false/\(k == 6)=true)/\
 (gI k=65->(k == 1)=false/\(k == 4)=false/\(k == 7)=false/\(k == 5)=false/\(k == 6)=false):=by
 unfold gI
 cases k == 1<;>cases k == 4<;>cases k == 7<;>cases k == 5<;>cases k == 6<;>refine ⟨?_,?_,?_,?_,?_,?_⟩<;>intro h<;>first | (exact absurd h (by decide)) | simp
theorem mV {f:FuncId} {P:Prs} {g:FuncId} (h:nD Tryz.prog f=true):Meets Tryz.prog f (iE (dP 0) P g):=⟨h,by rintro xs vs E ro w K _ _ _ ⟨_,_,_,_,_,_,_,_,_,_,⟨h,_⟩,_⟩; exact h.elim⟩
theorem V5:∀ N,ParsM (dP N) (pP N)
 | 0=>⟨mV (by kernel_rfl),mV (by kernel_rfl),mV (by kernel_rfl),mV (by kernel_rfl),mV (by kernel_rfl),mV (by kernel_rfl)⟩
 | N + 1=>by
  have ih:=V5 N
  have hN:=AG N
  refine ⟨mJ L7 ?_,mJ MM ?_,mJ MH ?_,mJ (NJ ih hN) ?_,mJ (G6 ih hN) ?_,mJ ET ?_⟩
  · rintro s t ⟨hD,hk⟩
    have h1:=(mL t.k).1 hk
    exact ⟨trivial,fun ts z=>by rw [gW,h1,aL]⟩
  · rintro s t ⟨hD,hk⟩
    obtain ⟨h1,h2⟩:=(mL t.k).2.1 hk
    exact ⟨trivial,fun ts z=>by rw [gW,h1,h2]; rfl⟩
  · rintro s t ⟨hD,hk⟩
    obtain ⟨h1,h2,h3⟩:=(mL t.k).2.2.1 hk
    exact ⟨trivial,fun ts z=>by rw [gW,h1,h2,h3]; rfl⟩
  · rintro s t ⟨hD,hk⟩
    obtain ⟨h1,h2,h3,h4⟩:=(mL t.k).2.2.2.1 hk
    exact ⟨hD.1 h4,fun ts z=>by rw [gW,h1,h2,h3,h4]; rfl⟩
  · rintro s t ⟨hD,hk⟩
    obtain ⟨h1,h2,h3,h4,h5⟩:=(mL t.k).2.2.2.2.1 hk
    exact ⟨hD.2 h5,fun ts z=>by rw [gW,h1,h2,h3,h4,h5]; rfl⟩
  · rintro s t ⟨hD,hk⟩
    obtain ⟨h1,h2,h3,h4,h5⟩:=(mL t.k).2.2.2.2.2 hk
    exact ⟨trivial,fun ts z=>by rw [gW,h1,h2,h3,h4,h5]; rfl⟩
attribute [-go_sem] cB cH cC eG cO
def zF (s:Sc):Nat->Ty->Vl
 | 0,_=>.mk 0 0 (mk []) [] []
 | n + 1,t=>bif valF s.ss s.es t then (bif t.k == 6 then .mk 6 0 (mk []) [] (((stOf s t).fs.filter fun f=>!f.opt).map fun f=>(f.num,zF s n f.ty)) else .mk t.k 0 (mk []) [] []) else .mk 0 0 (mk []) [] []
def zE (s:Sc) (n:Nat) (l:List Fl):List (Int × Vl):=(l.filter fun f=>!f.opt).map fun f=>(f.num,zF s n f.ty)
theorem mK (s:Sc) (n:Nat) (t:Ty):zF s (n + 1) t=bif valF s.ss s.es t then (bif t.k == 6 then .mk 6 0 (mk []) [] (zE s n (stOf s t).fs) else .mk t.k 0 (mk []) [] []) else .mk 0 0 (mk []) [] []:=rfl
theorem Z2 {s:Sc} {n i:Nat} {l:List Fl} {f:Fl} (h:l[i]? = some f):zE s n (l.take (i + 1))=bif f.opt then zE s n (l.take i) else zE s n (l.take i) ++ [(f.num,zF s n f.ty)]:=by
 unfold zE
 rw [List.take_add_one,h,List.filter_append,List.map_append]
 cases hf:f.opt<;>simp [hf]
theorem P8 (s:Sc) (n:Nat) (l:List Fl):(zE s n l).length<=l.length:=by
 unfold zE; rw [List.length_map]; exact List.length_filter_le _ _
theorem J2 {s:Sc} (hs:s.fit) (t:Ty):(stOf s t).fs.length<=1000000000:=by
 unfold stOf
 cases h:fS s.ss t.n with
 | none=>exact Nat.zero_le _
 | some u=>exact (hs.sm u (List.mem_of_find?_eq_some h)).1
def aEU (N:Nat):W.Spec:=fun av H K=>∃ (s:Sc) (t:Ty) (n:Nat),av=[.va (.gs (aF s)),.va (.gs (aN t)),iS .i64 ((n:Int) - 1)]/\H=[]/\s.fit/\TyOk t/\n < N/\N<=100/\K (.va (.gs (bJ (zF s n t)))) []
theorem OZ {N:Nat} {s:Sc} {t:Ty} {n:Nat} {K:S->Hp->Prop} (h1:s.fit) (h2:TyOk t) (h3:n < N) (h4:N<=100) (hK:K (.va (.gs (bJ (zF s n t)))) []):aEU N [.va (.gs [.vl (.int .i64 s.ver),.fz (s.es.map bI),.fz (s.ss.map aP)]),.va (.gs [.vl (.int .i64 t.k),.vl (.int .i64 t.s),.vl (.string t.n),.fz (t.e.map aN)]),iS .i64 ((n:Int) - 1)] [] K:=⟨s,t,n,by rw [aO]; rfl,rfl,h1,h2,h3,h4,hK⟩
theorem OO:∀ N,Meets Tryz.prog 114 (aEU N)
 | 0=>⟨by kernel_rfl,by rintro xs vs E ro w K _ _ _ ⟨_,_,n,_,_,_,_,h,_⟩; exact absurd h (Nat.not_lt_zero n)⟩
 | N + 1=>by
  refine aE Tryz.func114 aIW 3 (by rw [Tryz.ntmps114]; decide) (aG u6 (aB m7 (aB (OO N) (aA _)))) (fun av H K h=>by obtain ⟨_,_,_,rfl,_⟩:=h; rfl) ?_
  rintro av H K ⟨s,t,n,rfl,rfl,hs,ht,hn,hN,hK⟩
  have k4:=iB ht
  have k5:=nC t
  have k6:=i7 hs
  have k7:=m5 s
  have fin:∀ {v:Vl} (R:Hp),zF s n t=v->W.Fin 0 K (.va (.gs (bJ v))) R:=fun {v} R h=>by
   rw [h] at hK; refine .sel [] (by simp) (by simp) rfl (.done ?_)
   rw [aV] at hK ⊢
   simpa [go_sem] using hK
  cases n with
  | zero=>
   have g:decide (((0:Nat):Int) - 1 < 0)=true:=rfl
   simp (maxSteps:=1000000) -dsimp only [go_sem,aF,aO t,xI,x8,g,k4,k5,k6,k7]
   exact fin (v:=.mk 0 0 (mk []) [] []) _ rfl
  | succ n=>
   have g:decide (((n + 1:Nat):Int) - 1 < 0)=false:=by rw [decide_eq_false_iff_not]; omega
   have g':((n + 1:Nat):Int) - 1=n:=by omega
   rw [g'] at g ⊢
   rw [mK] at fin
   cases h1:valF s.ss s.es t with
   | false=>
    rw [h1,aI] at fin
    simp (maxSteps:=1000000) -dsimp only [go_sem,aF,aO t,xI,x8,g,k4,k5,k6,k7,h1]
    exact fin _ rfl
   | true=>
   rw [h1,aL] at fin
   cases h2:t.k == 6 with
   | false=>
    have h2':(t.k != 6)=true:=by rw [bne,h2]; rfl
    rw [h2,aI] at fin
    simp (maxSteps:=1000000) -dsimp only [go_sem,aF,aO t,xI,x8,g,k4,k5,k6,k7,h1,h2']
    exact fin _ rfl
   | true=>
   have h2':(t.k != 6)=false:=by rw [bne,h2]; rfl
   rw [h2,aL] at fin
   simp (maxSteps:=1000000) -dsimp only [go_sem,aF,aO t,xI,x8,g,k4,k5,k6,k7,h1,h2']
   refine kH hs ?_
   rw [show (fS s.ss t.n).getD default=stOf s t from rfl]
   have hok:=mO hs t
   have hsm:=J2 hs t
   have hz6:zF s (n + 1) t=.mk 6 0 (mk []) [] (zE s n (stOf s t).fs):=by rw [mK,h1,h2]; rfl
   rw [hz6,aV] at hK
   clear hz6 fin
   generalize stOf s t=u at *
   simp (maxSteps:=1000000) -dsimp only [go_sem,aP]
   have hlen:=fun i=>Nat.le_trans (P8 s n (u.fs.take i)) (Nat.le_trans (List.length_take_le' i u.fs) hsm)
   refine dC (α:=Nat) (fun i=>[(2,iS .i64 n),(3,.va (.c1 (.pt 0 0))),(4,.va (.c1 (.pt 1 0))),(6,.va (.c1 (.pt 2 0))),(7,.va (.c1 (.pt 3 0))),(37,.va (.c1 (.fz (u.fs.map aX)))),(38,iS .i64 u.fs.length),(39,iS .i64 i)])
    (fun i=>[.cells [.vl (.int .i64 s.ver),.fz (s.es.map bI),.fz (s.ss.map aP)] 105,.cells [.vl (.int .i64 t.k),.vl (.int .i64 t.s),.vl (.string t.n),.fz (t.e.map aN)] 28,.cells [.vl (.int .i64 0),.vl (.int .i64 0),.vl (.string (mk [])),.vl (.slice none 0 0),.vl (.slice none 0 0)] 32,
      .cells [.vl (.int .i64 t.k),.vl (.int .i64 0),.vl (.string (mk [])),.vl (.slice none 0 0),.sl 5 (zE s n (u.fs.take i)).length] 32,.cells [.vl (.string u.nm),.fz (u.fs.map aX)] 95,.row ((zE s n (u.fs.take i)).map b8) 57 6])
    (fun i=>i<=u.fs.length) (fun i=>u.fs.length - i) (.nilc 3 4 57 6 _ _ rfl rfl (kV 0 6 (Nat.zero_le _) ?_ ?_)) ?_
   · simp -dsimp only [go_sem]<;>simp
   · simp -dsimp only [go_sem]<;>simp [zE]
   intro i hi
   have hli:=hlen i
   rcases bE i u.fs.length with hlt | hge
   · have hg:decide ((i:Int) < (u.fs.length:Int))=true:=by simp; omega
     have hx:u.fs[i]? = some u.fs[i]:=aY hlt
     have q2:=aW (row:=aX) hx
     have hfo:=(hok.fs _ (List.getElem_mem hlt)).ty
     generalize u.fs[i]=f at *
     have hz:=Z2 (s:=s) (n:=n) hx
     cases ho:f.opt with
     | true=>
      rw [ho,aL] at hz
      simp (maxSteps:=1000000) -dsimp only [go_sem,hg,↓q2,aX,ho,List.take_succ_cons,List.take_zero,List.length_cons]
      refine ⟨by omega,by omega,aC (i + 1) 6 (by omega) (by omega) ?_ ?_⟩
      · simp -dsimp only [go_sem]<;>simp
      · simp -dsimp only [go_sem,hz]<;>simp
     | false=>
      rw [ho,aI] at hz
      simp (maxSteps:=1000000) -dsimp only [go_sem,hg,↓q2,aX,ho,List.take_succ_cons,List.take_zero,List.length_cons]
      refine ⟨⟨by omega,by omega⟩,⟨by omega,by omega⟩,OZ hs hfo (by omega) (by omega) ?_⟩
      generalize zF s n f.ty=v at *
      simp (maxSteps:=1000000) -dsimp only [go_sem,aV v]
      refine ⟨by omega,by omega,aC (i + 1) 6 (by omega) (by omega) ?_ ?_⟩
      · simp -dsimp only [go_sem]<;>simp
      · simp -dsimp only [go_sem,hz]<;>simp [b8,aV v]
   · have hg:decide ((i:Int) < (u.fs.length:Int))=false:=by simp; omega
     rw [List.take_of_length_le hge] at *
     have h6:t.k=6:=eq_of_beq h2
     simp (maxSteps:=1000000) -dsimp only [go_sem,hg,h6]
     refine .pub 5 _ _ _ rfl (.sel [] (by simp) (by simp [cN]) rfl (.done ?_))
     simp -dsimp only [go_sem,cN]
     exact hK
def aEI:W.Spec:=fun av H K=>∃ (s:Sc) (t:Ty),av=[.va (.gs (aF s)),.va (.gs (aN t))]/\H=[]/\s.fit/\TyOk t/\K (.va (.gs (bJ (zF s 23 t)))) []
theorem YV {s:Sc} {t:Ty} {K:S->Hp->Prop} (h1:s.fit) (h2:TyOk t) (hK:K (.va (.gs (bJ (zF s 23 t)))) []):aEI [.va (.gs [.vl (.int .i64 s.ver),.fz (s.es.map bI),.fz (s.ss.map aP)]),.va (.gs [.vl (.int .i64 t.k),.vl (.int .i64 t.s),.vl (.string t.n),.fz (t.e.map aN)])] [] K:=⟨s,t,by rw [aO]; rfl,rfl,h1,h2,hK⟩
theorem aH1:Meets Tryz.prog 71 aEI:=by
 refine aE Tryz.func71 aPA 2 (by rw [Tryz.ntmps71]; decide) (aB (OO 24) (aA _)) (fun av H K h=>by obtain ⟨_,_,rfl,_⟩:=h; rfl) ?_
 rintro av H K ⟨s,t,rfl,rfl,hs,ht,hK⟩
 simp (maxSteps:=1000000) -dsimp only [go_sem,aF,aO t,aE7,aEJ]
 refine OZ (n:=23) hs ht (by decide) (by decide) ?_
 rw [aV] at hK ⊢
 simp (maxSteps:=1000000) -dsimp only [go_sem]
 refine .sel [] (by simp) (by simp) rfl (.done ?_)
 simp -dsimp only [go_sem]
 exact hK
end Go.Proofs.YtkpohmhenegkiaaGreatDoor
namespace Go.Proofs.YtkpohmhenegkiaaGreatDoor
open Go.W
attribute [-go_sem] cB cH cC eG cO
theorem VI {s:Sc} (hs:s.fit):∀ (n:Nat) (t:Ty),TyOk t->VlOk (zF s n t)
 | 0,t,ht=>.mk ⟨by decide,by decide⟩ ⟨by decide,by decide⟩ (by decide) (by simp) (by simp) (by simp) (by simp) (by simp)
 | n + 1,t,ht=>by
  have hok:=mO hs t
  have hsm:=J2 hs t
  rw [mK]
  cases valF s.ss s.es t with
  | false=>exact .mk ⟨by decide,by decide⟩ ⟨by decide,by decide⟩ (by decide) (by simp) (by simp) (by simp) (by simp) (by simp)
  | true=>
   cases t.k == 6 with
   | false=>exact .mk ht.k ⟨by decide,by decide⟩ (by decide) (by simp) (by simp) (by simp) (by simp) (by simp)
   | true=>
    have hl:=P8 s n (stOf s t).fs
    have hm:∀ x ∈ zE s n (stOf s t).fs,∃ f ∈ (stOf s t).fs,x=(f.num,zF s n f.ty):=fun x hx=>by
     unfold zE at hx
     obtain ⟨f,hf,rfl⟩:=List.mem_map.1 hx
     exact ⟨f,(List.mem_filter.1 hf).1,rfl⟩
    refine .mk ⟨by decide,by decide⟩ ⟨by decide,by decide⟩ (by decide) (by simp) (by omega) (by simp) (fun x hx=>?_) (fun x hx=>?_)
    · obtain ⟨f,hf,rfl⟩:=hm x hx; exact (hok.fs f hf).num
    · obtain ⟨f,hf,rfl⟩:=hm x hx; exact VI hs n f.ty (hok.fs f hf).ty
def EO:List S->Prop:=fun av=>match av with
 | [.va (.gs r),.va (.gs q)]=>jY r/\eO q
 | _=>False
theorem pV {av:List S} (h:EO av):∃ s t,av=[.va (.gs (aF s)),.va (.gs (aN t))]/\s.fit/\TyOk t:=by
 unfold EO at h
 split at h
 · obtain ⟨⟨s,rfl,hs⟩,⟨t,rfl,ht⟩⟩:=h
   exact ⟨s,t,rfl,hs,ht⟩
 · exact h.elim
noncomputable def X7 (f:Sc->Ty->Value):List S->A:=fun av=>match av with
 | [.va (.gs r),.va (.gs q)]=>.c1 (.vl (f (C.sc r) (C.ty q)))
 | _=>.gs []
noncomputable def vB (f:Sc->Ty->Value):Fun:=⟨EO,X7 f,fun av h=>by obtain ⟨_,_,rfl,_⟩:=pV h; trivial⟩
theorem SN {f:Sc->Ty->Value}:∀ av H K,(vB f).sp av H K->av.length=2:=fun av H K h=>by obtain ⟨_,_,rfl,_⟩:=pV h.1.1; rfl
attribute [go_sem] vB EO X7
theorem aAG {f:Sc->Ty->Value} {av:List S} {H:Hp} {K:S->Hp->Prop} (h:(vB f).sp av H K):∃ s t,av=[.va (.gs (aF s)),.va (.gs (aN t))]/\H=[]/\s.fit/\TyOk t/\K (.va (.c1 (.vl (f s t)))) []:=by
 obtain ⟨⟨h,rfl⟩,hK⟩:=h
 obtain ⟨s,t,rfl,hs,ht⟩:=pV h
 have:(vB f).val [.va (.gs (aF s)),.va (.gs (aN t))]=.c1 (.vl (f s t)):=by
  show A.c1 (.vl (f (C.sc (aF s)) (C.ty (aN t))))=_
  rw [fW,eX]
 rw [this] at hK
 exact ⟨s,t,rfl,rfl,hs,ht,hK⟩
def oZ (s:Sc) (t:Ty):Bool:=hY s t (zF s 23 t) == 0
theorem I2:Meets Tryz.prog 28 (vB fun s t=>.bool (oZ s t)).sp:=by
 refine aE Tryz.func28 aL3 2 (by rw [Tryz.ntmps28]; decide) (aB aH1 (aG AP (aA _))) SN ?_
 intro av H K h
 obtain ⟨s,t,rfl,rfl,hs,ht,hK⟩:=aAG h
 clear h
 have k4:=iB ht
 have k5:=nC t
 have k6:=i7 hs
 have k7:=m5 s
 have hv:=VI hs 23 t ht
 have hK:K (bS (hY s t (zF s 23 t) == 0)) []:=hK
 simp (maxSteps:=1000000) -dsimp only [go_sem,aF,aO t,aCW,aC2]
 refine YV hs ht ?_
 generalize zF s 23 t=v at *
 have k1:=fV hv
 have k2:=lO v
 simp (maxSteps:=1000000) -dsimp only [go_sem,aV v,k1,k2,k4,k5,k6,k7]
 exact .sel [] (by simp) (by simp) rfl (.done (by simpa [go_sem] using hK))
end Go.Proofs.YtkpohmhenegkiaaGreatDoor
namespace Go.Proofs.YtkpohmhenegkiaaGreatDoor
open Go.W
theorem FE {α:Type} {one:α->Fs->α × Fs} {ts:List Tk} (ho:CO one ts) (I:Nat->α->Prop) (hs:∀ k a z,z.n < ts.length->I k a->I (k + 1) (one a z).1):∀ (f k:Nat) (a:α) (z:Fs),z.n < ts.length->I k a->∃ k',k'<=k + f/\I k' (jF one ts f a z).1
 | 0,k,a,z,_,h=>⟨k,Nat.le_refl _,h⟩
 | f + 1,k,a,z,hn,h=>by
  rw [iG]
  cases z.bad
  · have h1:=hs k a z hn h
    have h2:=ho a z hn
    cases cA [44] ts (one a z).2
    · exact ⟨k + 1,by omega,h1⟩
    · obtain ⟨k',h3,h4⟩:=FE ho I hs f (k + 1) (one a z).1 (bY [44] ts (one a z).2) (BP h2.2).2 h1
      exact ⟨k',by omega,h4⟩
  · exact ⟨k,by omega,h⟩
theorem HN {α:Type} {one:α->Fs->α × Fs} {ts:List Tk} (ho:CO one ts) (I:Nat->α->Prop) (hs:∀ k a z,z.n < ts.length->I k a->I (k + 1) (one a z).1) (op sh:List UInt8) (a:α) (z:Fs) (hn:z.n < ts.length) (h:I 0 a):∃ k',k'<=ts.length + 1/\I k' (eM one op sh ts a z).1:=by
 unfold eM
 have h1:=gU (w:=op) hn
 cases cA sh ts (cI op ts z)
 · obtain ⟨k,h2,h3⟩:=FE ho I hs (ts.length + 1) 0 a _ h1.2 h
   exact ⟨k,by omega,h3⟩
 · exact ⟨0,Nat.zero_le _,h⟩
theorem rV {k n:Int} {s:ByteArray} (hk:b6 k) (hn:b6 n) (hs:s.size<=9223372036854775807):VlOk (.mk k n s [] []):=.mk hk hn hs (by simp) (by simp) (by simp) (by simp) (by simp)
theorem O5 {ts:List Tk} (h:Tks ts) (k:Int) (z:Fs) (hn:z.n < ts.length):b6 (hJ k ts z).n/\(hJ k ts z).x.length<=4000:=by
 have hm:bH ts z.n ∈ ts:=bK (jH hn)
 unfold hJ
 cases fY k ts z
 · rw [aI]; exact ⟨⟨by decide,by decide⟩,by decide⟩
 · exact ⟨h.n _ hm,h.x _ hm⟩
theorem D5 {s:Sc} (hs:s.fit) {ts:List Tk} (hts:Tks ts):∀ (N:Nat) (t:Ty) (z:Fs),TyOk t->dP N s t->z.n < ts.length->VlOk (pP N s ts t z).1
 | 0,t,z,_,h,_=>h.elim
 | N + 1,t,z,ht,hd,hn=>by
  have hle:=hts.e.le
  have c0:b6 0:=⟨by decide,by decide⟩
  have c1:b6 1:=⟨by decide,by decide⟩
  have c4:b6 4:=⟨by decide,by decide⟩
  have c5:b6 5:=⟨by decide,by decide⟩
  have c6:b6 6:=⟨by decide,by decide⟩
  have c7:b6 7:=⟨by decide,by decide⟩
  rw [gW]
  cases t.k == 1 with
  | true=>
   rw [aL]; unfold gA
   cases (!z.bad && c8 1 qB (bH ts z.n))<;>cases (!z.bad && c8 1 mZ (bH ts z.n))<;>first | exact rV c1 c1 (by decide) | exact rV c1 c0 (by decide)
  | false=>
  cases t.k == 4 with
  | true=>
   refine rV c4 c0 ?_
   have:=(O5 hts 3 z hn).2
   show (mk (hJ 3 ts z).x).size<=_
   have e:(mk (hJ 3 ts z).x).size=(hJ 3 ts z).x.length:=by simp [mk,ByteArray.size]
   omega
  | false=>
  cases t.k == 7 with
  | true=>
   have he:((eU s.es t.n).getD default).ok:=by
    cases h:eU s.es t.n with
    | none=>exact ⟨by decide,by decide,by decide,fun _ h=>(by cases h),fun _ h=>(by cases h)⟩
    | some e=>exact hs.ok.es e (List.mem_of_find?_eq_some h)
   generalize (eU s.es t.n).getD default=e at he ⊢
   rw [aI,aI,aL]; unfold f9
   cases hc:(decide (iD e ts z < 0) || decide ((e.vs.length:Int)<=iD e ts z)) with
   | true=>exact rV c7 c0 (by decide)
   | false=>
    refine rV c7 ?_ (by decide)
    rw [List.getD_eq_getElem?_getD]
    cases hx:e.vs[(iD e ts z).toNat]? with
    | none=>exact c0
    | some y=>exact he.vs _ (bK hx)
  | false=>
  cases h5:t.k == 5 with
  | true=>
   obtain ⟨u,he,hu,hD⟩:=hd.1 h5
   rw [he,List.headD_cons]
   obtain ⟨k,hk,h1,h2⟩:=HN (one:=iY (pP N) s ts u) (fun a z h=>AG N s ts u z h) (fun k l=>l.length<=k/\∀ v ∈ l,VlOk v) (fun k l z hz ⟨h1,h2⟩=>⟨by simp [iY]; omega,fun v hv=>by
    rcases List.mem_append.1 hv with hv | hv
    · exact h2 v hv
    · rw [List.mem_singleton.1 hv]; exact D5 hs hts N u z hu hD hz⟩) [91] [93] [] z hn ⟨Nat.le_refl _,by simp⟩
   exact .mk c5 c0 (by decide) (by omega) (by simp) h2 (by simp) (by simp)
  | false=>
  cases h6:t.k == 6 with
  | true=>
   have hD:=hd.2 h6
   have hok:=mO hs t
   obtain ⟨k,hk,h1,h2⟩:=HN (one:=eH (pP N) s ts (stOf s t)) (HY (AG N)) (fun k a=>a.2.length<=k/\∀ x ∈ a.2,b6 x.1/\VlOk x.2) (fun k a z hz ⟨h1,h2⟩=>by
    unfold eH
    cases hb:i6 ts (stOf s t) a.1 z with
    | true=>exact ⟨by rw [aL]; exact Nat.le_succ_of_le h1,h2⟩
    | false=>
     rw [aI]
     refine ⟨by simp; omega,fun x hx=>?_⟩
     rcases List.mem_append.1 hx with hx | hx
     · exact h2 x hx
     · rw [List.mem_singleton.1 hx]
       have hz1:(lV ts z).n < ts.length:=(gU (w:=[61]) (z:=⟨z.bad,z.off,b7 ts z.n⟩) (lI hz).2).2
       have hlt:dY ts (stOf s t) z < ((stOf s t).fs.length:Int):=by have:=(z6 (bH ts z.n).x (stOf s t).fs 0).2; unfold dY; omega
       have hge:¬ (dY ts (stOf s t) z < 0):=fun h=>by unfold i6 at hb; rw [decide_eq_true h] at hb; simp at hb
       have hm:(stOf s t).fs.getD (dY ts (stOf s t) z).toNat default ∈ (stOf s t).fs:=by
        have hl:(dY ts (stOf s t) z).toNat < (stOf s t).fs.length:=by omega
        rw [List.getD_eq_getElem?_getD,aY hl]
        exact List.getElem_mem hl
       exact ⟨(hok.fs _ hm).num,D5 hs hts N _ _ (hok.fs _ hm).ty (hD _ hm) hz1⟩) [123] [125] (0,[]) z hn ⟨Nat.le_refl _,by simp⟩
   exact .mk c6 c0 (by decide) (by simp) (by show List.length _ * 88<=_; omega) (by simp) (fun x hx=>(h2 x hx).1) (fun x hx=>(h2 x hx).2)
  | false=>exact rV ht.k (O5 hts 2 z hn).1 (by decide)
attribute [-go_sem] cB cH cC eG cO gN
noncomputable def nO (D:Sc->Ty->Prop) (P:Prs):cJ:=(28,.f (vB fun s t=>.bool (oZ s t))) :: (23,.f (gX (fun _ _ _=>True) fun s t v=>.int .i64 (hY s t v))) :: (29,.s gN) :: (30,.s (cB 114)) :: (31,.s mM) :: y4 D P
theorem I4 {D:Sc->Ty->Prop} {P:Prs} (h:ParsM D P):dB Tryz.prog (nO D P):=aG I2 (aG AP (aB aL4 (aB qQ (aB o8 (oI h)))))
theorem HI (D:Sc->Ty->Prop) (P:Prs):jJ (nO D P) 28=some (vB fun s t=>.bool (oZ s t)):=rfl
theorem FY (D:Sc->Ty->Prop) (P:Prs):jJ (nO D P) 23=some (gX (fun _ _ _=>True) fun s t v=>.int .i64 (hY s t v)):=rfl
theorem TP (D:Sc->Ty->Prop) (P:Prs):sp (nO D P) 29=gN:=rfl
theorem TV (D:Sc->Ty->Prop) (P:Prs):sp (nO D P) 30=cB 114:=rfl
theorem Q6 (D:Sc->Ty->Prop) (P:Prs):sp (nO D P) 31=mM:=rfl
theorem T7 (D:Sc->Ty->Prop) (P:Prs):sp (nO D P) 24=lM:=rfl
theorem PA (D:Sc->Ty->Prop) (P:Prs) (k:Int):sp (nO D P) (gI k)=iE D P (gI k):=by
 unfold gI
 cases k == 1<;>cases k == 4<;>cases k == 7<;>cases k == 5<;>cases k == 6<;>rfl
theorem aFE {x:ByteArray} {K:S->Hp->Prop} (h:(aU (bl x)).err=0) (hK:K (.tu [.c1 (.pt 0 0),iA .i64 0,iA .i64 0]) [hM 114 (aU (bl x)).toks 0]):gN [tS x] [] K:=⟨fun _=>hK,fun h'=>absurd h h'⟩
theorem ZY {x:ByteArray} {K:S->Hp->Prop} (h:(aU (bl x)).err ≠ 0) (hK:K (.tu [.c1 (.vl (.pointer none)),iA .i64 (aU (bl x)).err,iA .i64 (aU (bl x)).off]) []):gN [tS x] [] K:=⟨fun h'=>absurd h' h,fun _=>hK⟩
def v0:Vl:=.mk 0 0 (mk []) [] []
def lQ (ts:List Tk) (z:Fs):Fs:=bif (bH ts z.n).k != 0 then cT ts z else z
def MS (s:Sc) (t:Ty) (ts:List Tk) (r:Vl × Fs):Vl × Int × Int:=
 bif (lQ ts r.2).bad then (v0,2,(lQ ts r.2).off) else bif hY s t r.1 != 0 then (v0,hY s t r.1,0) else (r.1,0,0)
def fM (P:Prs) (s:Sc) (t:Ty) (x:List UInt8):Vl × Int × Int:=
 bif !oZ s t then (v0,13,0) else bif (aU x).err != 0 then (v0,(aU x).err,(aU x).off) else MS s t (aU x).toks (P s (aU x).toks t ⟨false,0,0⟩)
def rT (D:Sc->Ty->Prop) (P:Prs):W.Spec:=fun av H K=>∃ s t x,av=[.va (.gs (aF s)),.va (.gs (aN t)),tS x]/\H=[]/\s.fit/\TyOk t/\(oZ s t=true->D s t)/\((aU (bl x)).err=0->Tks (aU (bl x)).toks)/\
 K (.tu [.gs (bJ (fM P s t (bl x)).1),iA .i64 (fM P s t (bl x)).2.1,iA .i64 (fM P s t (bl x)).2.2]) []
theorem aFC {D:Sc->Ty->Prop} {P:Prs} (hP:ParsM D P) (hO:P.onw) (hv:∀ s ts t z,s.fit->Tks ts->TyOk t->D s t->z.n < ts.length->VlOk (P s ts t z).1):Meets Tryz.prog 13 (rT D P):=by
 refine aE Tryz.func13 aMS 3 (by rw [Tryz.ntmps13]; decide) (I4 hP) (fun av H K h=>by obtain ⟨_,_,_,rfl,_⟩:=h; rfl) ?_
 rintro av H K ⟨s,t,x,rfl,rfl,hs,ht,hD,hT,hK⟩
 have k4:=iB ht
 have k5:=nC t
 have k6:=i7 hs
 have k7:=m5 s
 have fin:∀ (v:Vl) (e a:Int) (R:Hp),fM P s t (bl x)=(v,e,a)->W.Fin 0 K (.tu [.gs (bJ v),iA .i64 e,iA .i64 a]) R:=fun v e a R h=>by
  rw [h] at hK
  refine .sel [] (by simp) (by simp) rfl (.done ?_)
  rw [aV] at hK ⊢
  simpa [go_sem] using hK
 clear hK
 unfold fM at fin
 cases h1:oZ s t with
 | false=>
  rw [h1] at fin
  simp (maxSteps:=1000000) -dsimp only [go_sem,aF,aO t,RR,RB,HI,k4,k5,k6,k7,h1]
  exact fin v0 13 0 _ rfl
 | true=>
 rw [h1] at fin
 simp (maxSteps:=1000000) -dsimp only [go_sem,aF,aO t,RR,RB,HI,k4,k5,k6,k7,h1]
 refine aD rfl (.done ?_)
 simp (maxSteps:=1000000) -dsimp only [go_sem,GO,TP]
 cases h2:(aU (bl x)).err != 0 with
 | true=>
  rw [h2] at fin
  refine ZY (by simpa using h2) ?_
  simp (maxSteps:=1000000) -dsimp only [go_sem]
  refine aD rfl (.done ?_)
  simp (maxSteps:=1000000) -dsimp only [go_sem,w9,h2]
  exact fin v0 _ _ _ rfl
 | false=>
 rw [h2] at fin
 have h2':(aU (bl x)).err=0:=by simpa using h2
 have hts:=hT h2'
 refine aFE h2' ?_
 have hn0:(⟨false,0,0⟩:Fs).n < (aU (bl x)).toks.length:=hts.e.pos
 generalize (aU (bl x)).toks=ts at *
 simp (maxSteps:=1000000) -dsimp only [go_sem]
 refine aD rfl (.done ?_)
 have g0:((0:Int) != 0)=false:=rfl
 simp (maxSteps:=1000000) -dsimp only [go_sem,w9,g0]
 refine aD rfl (.done ?_)
 simp (maxSteps:=1000000) -dsimp only [go_sem,HT]
 refine aD rfl (.done ?_)
 simp (maxSteps:=1000000) -dsimp only [go_sem,IM,T7,PA]
 refine FN (z:=⟨false,0,0⟩) hs ht hts hn0 (hD h1) ?_
 have hvk:=hv s ts t ⟨false,0,0⟩ hs hts ht (hD h1) hn0
 have hn1:=(hO s ts t ⟨false,0,0⟩ hn0).2
 generalize P s ts t ⟨false,0,0⟩=r at *
 obtain ⟨v,z⟩:=r
 simp only at hvk hn1
 have k1:=fV hvk
 have k2:=lO v
 simp (maxSteps:=1000000) -dsimp only [go_sem,aV v]
 refine aD rfl (.done ?_)
 simp (maxSteps:=1000000) -dsimp only [go_sem,IQ,TV]
 refine j7 hts.e hn1 ?_
 simp only [Bool.not_true,aI,MS,lQ] at fin
 cases hk:(bH ts z.n).k != 0 with
 | true=>
  rw [hk,aL] at fin
  simp (maxSteps:=1000000) -dsimp only [go_sem,cS,hk]
  refine aD rfl (.done ?_)
  simp (maxSteps:=1000000) -dsimp only [go_sem,HR,Q6]
  refine dV (z:=z) hts.e hn1 ?_
  generalize cT ts z=z2 at *
  simp (maxSteps:=1000000) -dsimp only [go_sem]
  refine aD rfl (.done ?_)
  cases hb:z2.bad with
  | true=>
   rw [hb] at fin
   simp (maxSteps:=1000000) -dsimp only [go_sem,mS]
   exact fin v0 2 z2.off _ rfl
  | false=>
   rw [hb] at fin
   simp (maxSteps:=1000000) -dsimp only [go_sem,mS]
   refine aD rfl (.done ?_)
   simp (maxSteps:=1000000) -dsimp only [go_sem,t8,FY,k1,k2,k4,k5,k6,k7]
   refine aD rfl (.done ?_)
   cases hc:hY s t v != 0 with
   | true=>
    rw [hc] at fin
    simp (maxSteps:=1000000) -dsimp only [go_sem,mP,hc]
    exact fin v0 (hY s t v) 0 _ rfl
   | false=>
    rw [hc] at fin
    simp (maxSteps:=1000000) -dsimp only [go_sem,mP,hc]
    have:=fin v 0 0
    rw [aV] at this
    exact this _ rfl
 | false=>
  rw [hk,aI] at fin
  simp (maxSteps:=1000000) -dsimp only [go_sem,cS,hk]
  have z2:=z
  clear z2
  generalize hz2:z=z2 at *
  refine aD rfl (.done ?_)
  cases hb:z2.bad with
  | true=>
   rw [hb] at fin
   simp (maxSteps:=1000000) -dsimp only [go_sem,mS]
   exact fin v0 2 z2.off _ rfl
  | false=>
   rw [hb] at fin
   simp (maxSteps:=1000000) -dsimp only [go_sem,mS]
   refine aD rfl (.done ?_)
   simp (maxSteps:=1000000) -dsimp only [go_sem,t8,FY,k1,k2,k4,k5,k6,k7]
   refine aD rfl (.done ?_)
   cases hc:hY s t v != 0 with
   | true=>
    rw [hc] at fin
    simp (maxSteps:=1000000) -dsimp only [go_sem,mP,hc]
    exact fin v0 (hY s t v) 0 _ rfl
   | false=>
    rw [hc] at fin
    simp (maxSteps:=1000000) -dsimp only [go_sem,mP,hc]
    have:=fin v 0 0
    rw [aV] at this
    exact this _ rfl
end Go.Proofs.YtkpohmhenegkiaaGreatDoor
namespace Go.Proofs.YtkpohmhenegkiaaGreatDoor
open Go.W
attribute [-go_sem] cB cH cC eG cO gN
abbrev rW (s:Sc) (b:Bool):B:=.cells [.vl (.int .i64 s.ver),.fz (s.es.map bI),.fz (s.ss.map aP),.vl (.pointer none),.vl (.bool b),.vl (.int .i64 0)] 62
abbrev fD:Type:=Sc->Ty->Vl->List UInt8 × Bool
def n8 (D:Sc->Ty->Vl->Prop) (F:fD):W.Spec:=fun av H K=>∃ s t v b,av=[.va (.c1 (.pt 0 0)),.va (.gs (aN t)),.va (.gs (bJ v))]/\H=[rW s b]/\s.fit/\TyOk t/\VlOk v/\D s t v/\K (tS (mk (F s t v).1)) [rW s (b || (F s t v).2)]
theorem o5 {D:Sc->Ty->Vl->Prop} {F:fD}:∀ av H K,n8 D F av H K->av.length=3:=fun av H K h=>by obtain ⟨_,_,_,_,rfl,_⟩:=h; rfl
def WZ (n:Int):List UInt8:=bif n == 1 then qB else mZ
theorem IZ:Meets Tryz.prog 54 (n8 (fun _ _ _=>True) fun _ _ v=>(WZ v.n,false)):=by
 refine aE Tryz.func54 aMP 3 (by rw [Tryz.ntmps54]; decide) (aA _) o5 ?_
 rintro av H K ⟨s,t,v,b,rfl,rfl,hs,ht,hv,_,hK⟩
 unfold WZ at hK
 rw [Bool.or_false] at hK
 cases h:v.n == 1<;>simp only [h,aL,aI] at hK <;>
 · simp (maxSteps:=1000000) -dsimp only [go_sem,aO t,aV v,aGC,aCO,h]
   refine .sel [0] (by simp) (by simp) rfl (.done ?_)
   simp (maxSteps:=1000000) -dsimp only [go_sem]
   exact hK
theorem DR:Meets Tryz.prog 64 (n8 (fun _ _ _=>True) fun _ _ v=>(dW v.n,false)):=by
 refine aE Tryz.func64 aLK 3 (by rw [Tryz.ntmps64]; decide) (aG L2 (aA _)) o5 ?_
 rintro av H K ⟨s,t,v,b,rfl,rfl,hs,ht,hv,_,hK⟩
 rw [Bool.or_false] at hK
 have hn:=hv.n
 have hn1:=hn.1
 have hn2:=hn.2
 simp (maxSteps:=1000000) -dsimp only [go_sem,aO t,aV v,aDJ,aDO]
 refine ⟨⟨hn1,hn2⟩,.sel [0] (by simp) (by simp) rfl (.done ?_)⟩
 simp (maxSteps:=1000000) -dsimp only [go_sem]
 exact hK
def rK (x:List UInt8):List UInt8:=bif decide (x.length<=200) && x.all gZ then jS x else []
theorem aE0 (x:List UInt8):cX [⟨3,x,0,0⟩]=rK x:=by
 unfold cX rK lP eT eJ
 cases h:(decide (x.length<=200) && x.all gZ)<;>simp [h]
theorem IY:Meets Tryz.prog 56 (n8 (fun _ _ v=>(bl v.s).length<=100000) fun _ _ v=>(rK (bl v.s),rK (bl v.s) == [])):=by
 refine aE Tryz.func56 aOF 3 (by rw [Tryz.ntmps56]; decide) (aG aB3 (aA _)) o5 ?_
 rintro av H K ⟨s,t,v,b,rfl,rfl,hs,ht,hv,hD,hK⟩
 have hK:K (tS (mk (rK (bl v.s)))) [rW s (b || (rK (bl v.s) == []))]:=hK
 have e:[C.vl (.int .i64 3),.vl (.string v.s),.vl (.int .i64 0),.vl (.int .i64 0)]=qY ⟨3,bl v.s,0,0⟩:=by show _=[_,C.vl (.string (mk (bl v.s))),_,_]; rw [l8]
 have p1:prtFn.val [.va (.c1 (.fz [[.vl (.int .i64 3),.vl (.string v.s),.vl (.int .i64 0),.vl (.int .i64 0)]]))]=tA (mk (rK (bl v.s))):=by
  rw [e,<-aE0]; exact lB [⟨3,bl v.s,0,0⟩]
 have p2:prtFn.pre [.va (.c1 (.fz [[.vl (.int .i64 3),.vl (.string v.s),.vl (.int .i64 0),.vl (.int .i64 0)]]))]:=by
  rw [e]
  exact ⟨[⟨3,bl v.s,0,0⟩],rfl,by simp,fun t ht=>by rw [List.mem_singleton.1 ht]; exact ⟨show (-9223372036854775808:Int)<=0 by decide,show (0:Int)<=9223372036854775807 by decide,hD⟩⟩
 cases b <;>
 · simp (maxSteps:=1000000) -dsimp only [go_sem,aO t,aV v,aEC,aBZ,p1,p2]
   refine .sel [0] (by simp) (by simp) rfl (.done ?_)
   simp (maxSteps:=1000000) -dsimp only [go_sem]
   exact hK
end Go.Proofs.YtkpohmhenegkiaaGreatDoor
namespace Go.Proofs.YtkpohmhenegkiaaGreatDoor
open Go.W
attribute [-go_sem] cB cH cC eG cO gN
def xX (ns:List ByteArray) (n:Int):List Int->Nat->ByteArray
 | [],_=>mk []
 | m :: l,i=>bif m == n && decide ((i:Int) < (ns.length:Int)) then ns.getD i (mk []) else xX ns n l (i + 1)
def enOf (s:Sc) (t:Ty):En:=(eU s.es t.n).getD default
theorem ZL {s:Sc} (hs:s.fit) (t:Ty):(enOf s t).ok:=by
 unfold enOf
 cases h:eU s.es t.n with
 | none=>exact ⟨by decide,by decide,by decide,fun _ h=>(by cases h),fun _ h=>(by cases h)⟩
 | some e=>exact hs.ok.es e (List.mem_of_find?_eq_some h)
theorem I5:Meets Tryz.prog 58 (n8 (fun _ _ _=>True) fun s t v=>(bl (xX (enOf s t).ns v.n (enOf s t).vs 0),false)):=by
 refine aE Tryz.func58 aO3 3 (by rw [Tryz.ntmps58]; decide) (aB y5 (aA _)) o5 ?_
 rintro av H K ⟨s,t,v,b,rfl,rfl,hs,ht,hv,_,hK⟩
 have he:=ZL hs t
 rw [Bool.or_false] at hK
 have hK:K (tS (xX (enOf s t).ns v.n (enOf s t).vs 0)) [rW s b]:=by have:=hK; rw [l8] at this; exact this
 simp (maxSteps:=1000000) -dsimp only [go_sem,aO t,aV v,aCX,aCB]
 refine mN hs ?_
 rw [show (eU s.es t.n).getD default=enOf s t from rfl]
 generalize enOf s t=e at *
 have hlv:=he.lv
 have hln:=he.ln
 simp (maxSteps:=1000000) -dsimp only [go_sem,bI]
 refine aD rfl (.done ?_)
 simp (maxSteps:=1000000) -dsimp only [go_sem,IP]
 refine aK (α:=Nat) (fun i=>[(5,.va (.c1 (.pt 2 0))),(7,.va (.c1 (.pt 3 0))),(22,.va (.c1 (.fz (e.vs.map cL)))),(23,iS .i64 e.vs.length),(24,iS .i64 i)])
  (fun _=>[rW s b,.cells [.vl (.int .i64 t.k),.vl (.int .i64 t.s),.vl (.string t.n),.fz (t.e.map aN)] 28,.cells [.vl (.int .i64 v.k),.vl (.int .i64 v.n),.vl (.string v.s),.fz (v.l.map bJ),.fz (v.f.map b8)] 32,.cells [.vl (.string e.nm),.fz (e.ns.map bM),.fz (e.vs.map cL)] 92])
  (fun i=>i<=e.vs.length/\xX e.ns v.n (e.vs.drop i) i=xX e.ns v.n e.vs 0) (fun i=>e.vs.length - i) 0 4 ⟨Nat.zero_le _,rfl⟩ ?_ ?_ ?_
 · simp -dsimp only [go_sem]<;>simp
 · simp -dsimp only [go_sem]<;>simp
 rintro i ⟨hi,ho⟩
 rcases bE i e.vs.length with hlt | hge
 · have hg:decide ((i:Int) < (e.vs.length:Int))=true:=by simp; omega
   have hx:e.vs[i]? = some e.vs[i]:=aY hlt
   have q2:=aW (row:=cL) hx
   rw [List.drop_eq_getElem_cons hlt,xX] at ho
   generalize e.vs[i]=m at *
   simp (maxSteps:=1000000) -dsimp only [go_sem,hg,↓q2]
   refine ⟨⟨by omega,by omega⟩,aD rfl (.done ?_)⟩
   cases hc1:m == v.n with
   | false=>
    rw [hc1,Bool.false_and,aI] at ho
    simp (maxSteps:=1000000) -dsimp only [go_sem,sE,hc1]
    refine ⟨by omega,aC (i + 1) 4 ⟨by omega,ho⟩ (by omega) ?_ ?_⟩
    · simp -dsimp only [go_sem]<;>simp
    · simp -dsimp only [go_sem]<;>simp
   | true=>
    cases hc2:decide ((i:Int) < (e.ns.length:Int)) with
    | false=>
     rw [hc1,hc2,Bool.true_and,aI] at ho
     simp (maxSteps:=1000000) -dsimp only [go_sem,sE,hc1,hc2]
     refine ⟨by omega,aC (i + 1) 4 ⟨by omega,ho⟩ (by omega) ?_ ?_⟩
     · simp -dsimp only [go_sem]<;>simp
     · simp -dsimp only [go_sem]<;>simp
    | true=>
     rw [hc1,hc2,Bool.true_and,aL] at ho
     have hlt2:i < e.ns.length:=by simpa using hc2
     have hx2:e.ns[i]? = some e.ns[i]:=aY hlt2
     have q3:=aW (row:=bM) hx2
     rw [List.getD_eq_getElem?_getD,hx2,Option.getD_some] at ho
     rw [<-ho] at hK
     generalize e.ns[i]=w at *
     simp (maxSteps:=1000000) -dsimp only [go_sem,sE,hc1,hc2,↓q3]
     refine ⟨⟨by omega,by omega⟩,.sel [0] (by simp) (by simp) rfl (.done ?_)⟩
     simp (maxSteps:=1000000) -dsimp only [go_sem]
     exact hK
 · have hg:decide ((i:Int) < (e.vs.length:Int))=false:=by simp; omega
   have:e.vs.drop i=[]:=List.drop_eq_nil_iff.2 (by omega)
   rw [this,xX] at ho
   rw [<-ho] at hK
   simp (maxSteps:=1000000) -dsimp only [go_sem,hg]
   refine .sel [0] (by simp) (by simp) rfl (.done ?_)
   simp (maxSteps:=1000000) -dsimp only [go_sem]
   exact hK
end Go.Proofs.YtkpohmhenegkiaaGreatDoor
namespace Go.Proofs.YtkpohmhenegkiaaGreatDoor
open Go.W
attribute [-go_sem] cB cH cC eG cO gN
def iC (D:Sc->Ty->Vl->Prop) (F:fD) (f:FuncId):W.Spec:=n8 (fun s t v=>D s t v/\gC t.k=f) F
def G0 (D:Sc->Ty->Vl->Prop) (F:fD):cJ:=[(24,.s lM),(54,.s (iC D F 54)),(56,.s (iC D F 56)),(58,.s (iC D F 58)),
 (60,.s (iC D F 60)),(62,.s (iC D F 62)),(64,.s (iC D F 64))]
structure FmtM (D:Sc->Ty->Vl->Prop) (F:fD):Prop where
 b:Meets Tryz.prog 54 (iC D F 54)
 t:Meets Tryz.prog 56 (iC D F 56)
 e:Meets Tryz.prog 58 (iC D F 58)
 l:Meets Tryz.prog 60 (iC D F 60)
 s:Meets Tryz.prog 62 (iC D F 62)
 n:Meets Tryz.prog 64 (iC D F 64)
theorem qM {D:Sc->Ty->Vl->Prop} {F:fD} (h:FmtM D F):dB Tryz.prog (G0 D F):=
 aB mOf (aB h.b (aB h.t (aB h.e (aB h.l (aB h.s (aB h.n (aA _)))))))
theorem LA (D:Sc->Ty->Vl->Prop) (F:fD):sp (G0 D F) 24=lM:=rfl
theorem FO (D:Sc->Ty->Vl->Prop) (F:fD) (k:Int):sp (G0 D F) (gC k)=iC D F (gC k):=by
 unfold gC
 cases k == 1<;>cases k == 4<;>cases k == 7<;>cases k == 5<;>cases k == 6<;>rfl
theorem rY {D:Sc->Ty->Vl->Prop} {F:fD} {s:Sc} {t:Ty} {v:Vl} {b:Bool} {K:S->Hp->Prop} (h1:s.fit) (h2:TyOk t) (h3:VlOk v) (h4:D s t v) (hK:K (tS (mk (F s t v).1)) [rW s (b || (F s t v).2)]) :
 iC D F (gC t.k) [.va (.c1 (.pt 0 0)),.va (.gs [.vl (.int .i64 t.k),.vl (.int .i64 t.s),.vl (.string t.n),.fz (t.e.map aN)]),.va (.gs [.vl (.int .i64 v.k),.vl (.int .i64 v.n),.vl (.string v.s),.fz (v.l.map bJ),.fz (v.f.map b8)])] [rW s b] K:=
 ⟨s,t,v,b,by rw [aO,aV],rfl,h1,h2,h3,⟨h4,rfl⟩,hK⟩
def gY:Bool->List (List UInt8)->List UInt8
 | _,[]=>[]
 | c,x :: r=>(bif c then [44,32] else []) ++ x ++ gY true r
theorem vV:∀ (c:Bool) (xs ys:List (List UInt8)),gY c (xs ++ ys)=gY c xs ++ gY (c || !xs.isEmpty) ys
 | c,[],ys=>by simp [gY]
 | c,x :: r,ys=>by
  rw [List.cons_append,gY,gY,vV true r ys]
  simp [List.append_assoc]
theorem nY {α:Type} (f:α->List UInt8) (l:List α) (i:Nat):(gY false ((l.take i).map f)).length<=(gY false (l.map f)).length:=by
 have h:l.map f=(l.take i).map f ++ (l.drop i).map f:=by rw [<-List.map_append,List.take_append_drop]
 rw [h,vV,List.length_append]; omega
theorem C4 {α:Type} (f:α->List UInt8) {l:List α} {i:Nat} {x:α} (h:l[i]? = some x):gY false ((l.take (i + 1)).map f)=gY false ((l.take i).map f) ++ (bif decide (0 < (i:Int)) then [44,32] else []) ++ f x:=by
 have hl:=(aZ.1 h).1
 rw [List.take_add_one,h,List.map_append,vV]
 have e:(false || !((l.take i).map f).isEmpty)=decide (0 < (i:Int)):=by
  cases i with
  | zero=>simp
  | succ i=>
   have:decide (0 < ((i + 1:Nat):Int))=true:=decide_eq_true (by omega)
   rw [this]
   cases l with
   | nil=>simp at hl
   | cons y l=>simp
 rw [e]
 simp [gY,List.append_assoc]
def n1 (F:fD) (s:Sc) (u:Ty) (l:List Vl):List UInt8 × Bool:=([91] ++ gY false (l.map fun x=>(F s u x).1) ++ [93],l.any fun x=>(F s u x).2)
theorem IW {D:Sc->Ty->Vl->Prop} {F:fD} (hF:FmtM D F):Meets Tryz.prog 60 (n8 (fun s t v=>∃ u,t.e=[u]/\TyOk u/\(∀ x ∈ v.l,D s u x)/\(n1 F s u v.l).1.length<=100000000000000) fun s t v=>n1 F s (t.e.headD default) v.l):=by
 refine aE Tryz.func60 aMC 3 (by rw [Tryz.ntmps60]; decide) (qM hF) o5 ?_
 rintro av H K ⟨s,t,v,b,rfl,rfl,hs,ht,hv,⟨u,he,hu,hD,hlen⟩,hK⟩
 have hK:K (tS (mk (n1 F s u v.l).1)) [rW s (b || (n1 F s u v.l).2)]:=by have:=hK; simp only [he,List.headD_cons] at this; exact this
 have hll:=hv.ll
 have hvl:=hv.l
 unfold n1 at hK hlen
 simp only [List.length_append,List.length_singleton] at hlen
 simp (maxSteps:=1000000) -dsimp only [go_sem,aO t,aV v,aD9,aD1]
 refine aK (α:=Nat) (fun i=>[(0,.va (.c1 (.pt 0 0))),(4,.va (.c1 (.pt 1 0))),(7,tS (mk ([91] ++ gY false ((v.l.take i).map fun x=>(F s u x).1)))),(11,.va (.c1 (.fz (v.l.map bJ)))),(12,iS .i64 v.l.length),(13,iS .i64 i)])
  (fun i=>[rW s (b || (v.l.take i).any fun x=>(F s u x).2),.cells [.vl (.int .i64 t.k),.vl (.int .i64 t.s),.vl (.string t.n),.fz (t.e.map aN)] 28,.cells [.vl (.int .i64 v.k),.vl (.int .i64 v.n),.vl (.string v.s),.fz (v.l.map bJ),.fz (v.f.map b8)] 32])
  (fun i=>i<=v.l.length) (fun i=>v.l.length - i) 0 3 (Nat.zero_le _) ?_ ?_ ?_
 · simp -dsimp only [go_sem]<;>simp [gY]
 · simp -dsimp only [go_sem]<;>simp
 intro i hi
 have hci:=nY (fun x=>(F s u x).1) v.l i
 rcases bE i v.l.length with hlt | hge
 · have hg:decide ((i:Int) < (v.l.length:Int))=true:=by simp; omega
   have hx:v.l[i]? = some v.l[i]:=aY hlt
   have q2:=aW (row:=bJ) hx
   have hxo:=hvl _ (List.getElem_mem hlt)
   have hxD:=hD _ (List.getElem_mem hlt)
   have hcn:=C4 (fun x=>(F s u x).1) hx
   have han:(v.l.take (i + 1)).any (fun x=>(F s u x).2)=((v.l.take i).any (fun x=>(F s u x).2) || (F s u v.l[i]).2):=by rw [List.take_add_one,hx,List.any_append]; simp
   have hc1:=nY (fun x=>(F s u x).1) v.l (i + 1)
   generalize v.l[i]=x at *
   have z0:(0:Int) < ((1:Nat):Int):=by decide
   have z1:(0:Int)<=0:=by decide
   cases hc:decide (0 < (i:Int)) with
   | true=>
    rw [hc,aL] at hcn
    rw [hcn] at hc1
    simp only [List.length_append] at hc1
    simp (maxSteps:=1000000) -dsimp only [go_sem,hg,↓q2,aV x,hc,List.take_succ_cons,List.take_zero,List.length_cons]
    refine ⟨⟨by omega,by omega⟩,by omega,aD rfl (.done ?_)⟩
    simp (maxSteps:=1000000) -dsimp only [go_sem,w8,he,aO u,LA,FO,forall_eq',z0,z1,List.length_cons,List.length_nil,List.take_succ_cons,List.take_zero]
    refine rY hs hu hxo hxD ?_
    simp (maxSteps:=1000000) -dsimp only [go_sem]
    refine ⟨by simp only [List.length_cons,List.length_nil] at hc1; omega,⟨by omega,by omega⟩,aC (i + 1) 3 (by omega) (by omega) ?_ ?_⟩
    · simp -dsimp only [go_sem,hcn]<;>simp
    · simp -dsimp only [go_sem,han]<;>simp [he,aO u,Bool.or_assoc]
   | false=>
    rw [hc,aI] at hcn
    rw [hcn] at hc1
    simp only [List.length_append] at hc1
    simp (maxSteps:=1000000) -dsimp only [go_sem,hg,↓q2,aV x,hc,List.take_succ_cons,List.take_zero,List.length_cons]
    refine ⟨⟨by omega,by omega⟩,aD rfl (.done ?_)⟩
    simp (maxSteps:=1000000) -dsimp only [go_sem,w8,he,aO u,LA,FO,forall_eq',z0,z1,List.length_cons,List.length_nil,List.take_succ_cons,List.take_zero]
    refine rY hs hu hxo hxD ?_
    simp (maxSteps:=1000000) -dsimp only [go_sem]
    refine ⟨by simp only [List.length_nil] at hc1; omega,⟨by omega,by omega⟩,aC (i + 1) 3 (by omega) (by omega) ?_ ?_⟩
    · simp -dsimp only [go_sem,hcn]<;>simp
    · simp -dsimp only [go_sem,han]<;>simp [he,aO u,Bool.or_assoc]
 · have hg:decide ((i:Int) < (v.l.length:Int))=false:=by simp; omega
   rw [List.take_of_length_le hge] at hci ⊢
   simp (maxSteps:=1000000) -dsimp only [go_sem,hg]
   refine ⟨by omega,.sel [0] (by simp) (by simp) rfl (.done ?_)⟩
   simp (maxSteps:=1000000) -dsimp only [go_sem]
   simpa using hK
end Go.Proofs.YtkpohmhenegkiaaGreatDoor
namespace Go.Proofs.YtkpohmhenegkiaaGreatDoor
open Go.W
attribute [-go_sem] cB cH cC eG cO gN
def FQ (D:Sc->Ty->Vl->Prop) (F:fD):cJ:=(103,.s w5) :: (104,.s zQ) :: G0 D F
theorem M2 {D:Sc->Ty->Vl->Prop} {F:fD} (h:FmtM D F):dB Tryz.prog (FQ D F):=aB m7 (aB rH (qM h))
theorem KX (D:Sc->Ty->Vl->Prop) (F:fD):sp (FQ D F) 24=lM:=rfl
theorem ZW (D:Sc->Ty->Vl->Prop) (F:fD):sp (FQ D F) 103=w5:=rfl
theorem KY (D:Sc->Ty->Vl->Prop) (F:fD):sp (FQ D F) 104=zQ:=rfl
theorem II (D:Sc->Ty->Vl->Prop) (F:fD) (k:Int):sp (FQ D F) (gC k)=iC D F (gC k):=by
 unfold gC
 cases k == 1<;>cases k == 4<;>cases k == 7<;>cases k == 5<;>cases k == 6<;>rfl
def gH (u:St) (n:Int):Fl:=(fF u.fs n).getD default
def KR (F:fD) (s:Sc) (u:St) (x:Int × Vl):List UInt8:=bl (gH u x.1).nm ++ [32,61,32] ++ (F s (gH u x.1).ty x.2).1
def jM (F:fD) (s:Sc) (u:St) (l:List (Int × Vl)):List UInt8 × Bool:=([123] ++ gY false (l.map (KR F s u)) ++ [125],l.any fun x=>(F s (gH u x.1).ty x.2).2)
theorem Y1 {u:St} (hu:u.ok) (n:Int):(gH u n).ok:=by
 unfold gH
 cases h:fF u.fs n with
 | none=>exact ⟨⟨by decide,by decide⟩,by decide,.mk ⟨by decide,by decide⟩ ⟨by decide,by decide⟩ (by decide) (by decide) (fun _ h=>by cases h)⟩
 | some d=>exact hu.fs d (List.mem_of_find?_eq_some h)
theorem RN {s:Sc} (hs:s.fit) (t:Ty):∀ f ∈ (stOf s t).fs,TySm f.ty:=by
 unfold stOf
 cases h:fS s.ss t.n with
 | none=>exact fun _ h=>(by cases h)
 | some u=>exact (hs.sm u (List.mem_of_find?_eq_some h)).2
theorem GC {t:St} {k:Int} {K:S->Hp->Prop} (h:t.ok) (h2:∀ f ∈ t.fs,TySm f.ty) (hK:K (.tu [.gs (aX (gH t k)),bA (fF t.fs k).isSome]) []):zQ [.va (.gs [.vl (.string t.nm),.fz (t.fs.map aX)]),iS .i64 k] [] K:=⟨t,k,rfl,rfl,h,h2,hK⟩
theorem DP {D:Sc->Ty->Vl->Prop} {F:fD} (hF:FmtM D F):Meets Tryz.prog 62 (n8 (fun s t v=>(∀ x ∈ v.f,D s (gH (stOf s t) x.1).ty x.2)/\(jM F s (stOf s t) v.f).1.length<=100000000000000) fun s t v=>jM F s (stOf s t) v.f):=by
 refine aE Tryz.func62 aPN 3 (by rw [Tryz.ntmps62]; decide) (M2 hF) o5 ?_
 rintro av H K ⟨s,t,v,b,rfl,rfl,hs,ht,hv,⟨hD,hlen⟩,hK⟩
 have hK:K (tS (mk (jM F s (stOf s t) v.f).1)) [rW s (b || (jM F s (stOf s t) v.f).2)]:=hK
 have hok:=mO hs t
 have hll:=hv.lf
 have hvl:=hv.f
 have hvn:=hv.fn
 simp (maxSteps:=1000000) -dsimp only [go_sem,aO t,aV v,aF9,aDB,ZW]
 refine kH hs ?_
 rw [show (fS s.ss t.n).getD default=stOf s t from rfl]
 have hsu:=RN hs t
 generalize stOf s t=u at *
 unfold jM at hK hlen
 simp only [List.length_append,List.length_singleton] at hlen
 simp (maxSteps:=1000000) -dsimp only [go_sem,aP]
 refine aD rfl (.done ?_)
 simp (maxSteps:=1000000) -dsimp only [go_sem,IE]
 refine aK (α:=Nat) (fun i=>[(0,.va (.c1 (.pt 0 0))),(7,.va (.c1 (.pt 3 0))),(9,tS (mk ([123] ++ gY false ((v.f.take i).map (KR F s u))))),(25,.va (.c1 (.fz (v.f.map b8)))),(26,iS .i64 v.f.length),(27,iS .i64 i)])
  (fun i=>[rW s (b || (v.f.take i).any fun x=>(F s (gH u x.1).ty x.2).2),.cells [.vl (.int .i64 t.k),.vl (.int .i64 t.s),.vl (.string t.n),.fz (t.e.map aN)] 28,.cells [.vl (.int .i64 v.k),.vl (.int .i64 v.n),.vl (.string v.s),.fz (v.l.map bJ),.fz (v.f.map b8)] 32,.cells [.vl (.string u.nm),.fz (u.fs.map aX)] 95])
  (fun i=>i<=v.f.length) (fun i=>v.f.length - i) 0 4 (Nat.zero_le _) ?_ ?_ ?_
 · simp -dsimp only [go_sem]<;>simp [gY]
 · simp -dsimp only [go_sem]<;>simp
 intro i hi
 have hci:=nY (KR F s u) v.f i
 rcases bE i v.f.length with hlt | hge
 · have hg:decide ((i:Int) < (v.f.length:Int))=true:=by simp; omega
   have hx:v.f[i]? = some v.f[i]:=aY hlt
   have q2:=aW (row:=b8) hx
   have hxo:=hvl _ (List.getElem_mem hlt)
   have hxD:=hD _ (List.getElem_mem hlt)
   have hcn:=C4 (KR F s u) hx
   have han:(v.f.take (i + 1)).any (fun x=>(F s (gH u x.1).ty x.2).2)=((v.f.take i).any (fun x=>(F s (gH u x.1).ty x.2).2) || (F s (gH u v.f[i].1).ty v.f[i].2).2):=by rw [List.take_add_one,hx,List.any_append]; simp
   have hc1:=nY (KR F s u) v.f (i + 1)
   generalize v.f[i]=x at *
   obtain ⟨n,x⟩:=x
   have hdo:=Y1 hok n
   have hit:KR F s u (n,x)=bl (gH u n).nm ++ [32,61,32] ++ (F s (gH u n).ty x).1:=rfl
   simp only at hxo hxD han
   simp (maxSteps:=1000000) -dsimp only [go_sem,hg,↓q2,b8,aV x,List.take_succ_cons,List.take_zero,List.length_cons]
   refine ⟨⟨by omega,by omega⟩,aD rfl (.done ?_)⟩
   cases hc:decide (0 < (i:Int)) with
   | true=>
    rw [hc,aL] at hcn
    rw [hcn,hit] at hc1
    rw [hit] at hcn
    simp only [List.length_append,List.length_cons,List.length_nil] at hc1
    simp (maxSteps:=1000000) -dsimp only [go_sem,zA,hc]
    refine ⟨by omega,aD rfl (.done ?_)⟩
    simp (maxSteps:=1000000) -dsimp only [go_sem,yX,KY]
    refine GC hok hsu ?_
    generalize gH u n=d at *
    simp (maxSteps:=1000000) -dsimp only [go_sem,aX]
    refine aD rfl (.done ?_)
    simp (maxSteps:=1000000) -dsimp only [go_sem,xG,KX,II,List.length_cons,List.length_nil,List.take_succ_cons,List.take_zero]
    have hnm:(bl d.nm).length<=9223372036854775804:=by omega
    refine ⟨hnm,hnm,rY hs hdo.ty hxo hxD ?_⟩
    simp (maxSteps:=1000000) -dsimp only [go_sem]
    refine ⟨hnm,by omega,by omega,⟨by omega,by omega⟩,aC (i + 1) 4 (by omega) (by omega) ?_ ?_⟩
    · simp -dsimp only [go_sem,hcn]<;>simp
    · simp -dsimp only [go_sem,han]<;>simp [Bool.or_assoc]
   | false=>
    rw [hc,aI] at hcn
    rw [hcn,hit] at hc1
    rw [hit] at hcn
    simp only [List.length_append,List.length_cons,List.length_nil] at hc1
    simp (maxSteps:=1000000) -dsimp only [go_sem,zA,hc]
    refine aD rfl (.done ?_)
    simp (maxSteps:=1000000) -dsimp only [go_sem,yX,KY]
    refine GC hok hsu ?_
    generalize gH u n=d at *
    simp (maxSteps:=1000000) -dsimp only [go_sem,aX]
    refine aD rfl (.done ?_)
    simp (maxSteps:=1000000) -dsimp only [go_sem,xG,KX,II,List.length_cons,List.length_nil,List.take_succ_cons,List.take_zero]
    have hnm:(bl d.nm).length<=9223372036854775804:=by omega
    refine ⟨hnm,hnm,rY hs hdo.ty hxo hxD ?_⟩
    simp (maxSteps:=1000000) -dsimp only [go_sem]
    refine ⟨hnm,by omega,by omega,⟨by omega,by omega⟩,aC (i + 1) 4 (by omega) (by omega) ?_ ?_⟩
    · simp -dsimp only [go_sem,hcn]<;>simp
    · simp -dsimp only [go_sem,han]<;>simp [Bool.or_assoc]
 · have hg:decide ((i:Int) < (v.f.length:Int))=false:=by simp; omega
   rw [List.take_of_length_le hge] at hci ⊢
   simp (maxSteps:=1000000) -dsimp only [go_sem,hg]
   refine ⟨by omega,.sel [0] (by simp) (by simp) rfl (.done ?_)⟩
   simp (maxSteps:=1000000) -dsimp only [go_sem]
   simpa using hK
end Go.Proofs.YtkpohmhenegkiaaGreatDoor
namespace Go.Proofs.YtkpohmhenegkiaaGreatDoor
open Go.W
attribute [-go_sem] cB cH cC eG cO gN
def fP:Nat->fD
 | 0=>fun _ _ _=>([],false)
 | N + 1=>fun s t v=>bif t.k == 1 then (WZ v.n,false) else bif t.k == 4 then (rK (bl v.s),rK (bl v.s) == []) else bif t.k == 7 then (bl (xX (enOf s t).ns v.n (enOf s t).vs 0),false)
  else bif t.k == 5 then n1 (fP N) s (t.e.headD default) v.l else bif t.k == 6 then jM (fP N) s (stOf s t) v.f else (dW v.n,false)
theorem mQ (N:Nat) (s:Sc) (t:Ty) (v:Vl):fP (N + 1) s t v=bif t.k == 1 then (WZ v.n,false) else bif t.k == 4 then (rK (bl v.s),rK (bl v.s) == []) else bif t.k == 7 then (bl (xX (enOf s t).ns v.n (enOf s t).vs 0),false)
 else bif t.k == 5 then n1 (fP N) s (t.e.headD default) v.l else bif t.k == 6 then jM (fP N) s (stOf s t) v.f else (dW v.n,false):=rfl
def dF:Nat->Sc->Ty->Vl->Prop
 | 0,_,_,_=>False
 | N + 1,s,t,v=>((t.k == 4)=true->(bl v.s).length<=100000)/\((t.k == 5)=true->∃ u,t.e=[u]/\TyOk u/\∀ x ∈ v.l,dF N s u x)/\((t.k == 6)=true->∀ x ∈ v.f,dF N s (gH (stOf s t) x.1).ty x.2)/\(fP (N + 1) s t v).1.length<=100000000000000
theorem mF {f:FuncId} {D D':Sc->Ty->Vl->Prop} {F F':fD} (h:Meets Tryz.prog f (n8 D F)) (hd:∀ s t v,D' s t v->D s t v/\F s t v=F' s t v):Meets Tryz.prog f (n8 D' F'):=
 eC (0:Nat) (fun (_:Nat)=>h) fun av H K ⟨s,t,v,b,h1,h2,h3,h4,h5,h6,h7⟩=>⟨0,s,t,v,b,h1,h2,h3,h4,h5,(hd s t v h6).1,by rw [(hd s t v h6).2]; exact h7⟩
theorem mW (k:Int):(gC k=54->(k == 1)=true)/\(gC k=56->(k == 1)=false/\(k == 4)=true)/\(gC k=58->(k == 1)=false/\(k == 4)=false/\(k == 7)=true)/\
 (gC k=60->(k == 1)=false/\(k == 4)=false/\(k == 7)=false/\(k == 5)=true)/\(gC k=62->(k == 1)=false/\(k == 4)=false/\(k == 7)=false/\(k == 5)=false/\(k == 6)=true)/\
 (gC k=64->(k == 1)=false/\(k == 4)=false/\(k == 7)=false/\(k == 5)=false/\(k == 6)=false):=by
 unfold gC
 cases k == 1<;>cases k == 4<;>cases k == 7<;>cases k == 5<;>cases k == 6<;>refine ⟨?_,?_,?_,?_,?_,?_⟩<;>intro h<;>first | (exact absurd h (by decide)) | simp
theorem mD {f:FuncId} {F:fD} {g:FuncId} (h:nD Tryz.prog f=true):Meets Tryz.prog f (iC (dF 0) F g):=⟨h,by rintro xs vs E ro w K _ _ _ ⟨_,_,_,_,_,_,_,_,_,⟨h,_⟩,_⟩; exact h.elim⟩
theorem aDZ:∀ N,FmtM (dF N) (fP N)
 | 0=>⟨mD (by kernel_rfl),mD (by kernel_rfl),mD (by kernel_rfl),mD (by kernel_rfl),mD (by kernel_rfl),mD (by kernel_rfl)⟩
 | N + 1=>by
  have ih:=aDZ N
  refine ⟨mF IZ ?_,mF IY ?_,mF I5 ?_,mF (IW ih) ?_,mF (DP ih) ?_,mF DR ?_⟩
  · rintro s t v ⟨hD,hk⟩
    have h1:=(mW t.k).1 hk
    exact ⟨trivial,by rw [mQ,h1,aL]⟩
  · rintro s t v ⟨hD,hk⟩
    obtain ⟨h1,h2⟩:=(mW t.k).2.1 hk
    exact ⟨hD.1 h2,by rw [mQ,h1,h2]; rfl⟩
  · rintro s t v ⟨hD,hk⟩
    obtain ⟨h1,h2,h3⟩:=(mW t.k).2.2.1 hk
    exact ⟨trivial,by rw [mQ,h1,h2,h3]; rfl⟩
  · rintro s t v ⟨hD,hk⟩
    obtain ⟨h1,h2,h3,h4⟩:=(mW t.k).2.2.2.1 hk
    have e:fP (N + 1) s t v=n1 (fP N) s (t.e.headD default) v.l:=by rw [mQ,h1,h2,h3,h4]; rfl
    obtain ⟨u,he,hu,hD1⟩:=hD.2.1 h4
    have hl:=hD.2.2.2
    rw [e,he,List.headD_cons] at hl
    exact ⟨⟨u,he,hu,hD1,hl⟩,e.symm⟩
  · rintro s t v ⟨hD,hk⟩
    obtain ⟨h1,h2,h3,h4,h5⟩:=(mW t.k).2.2.2.2.1 hk
    have e:fP (N + 1) s t v=jM (fP N) s (stOf s t) v.f:=by rw [mQ,h1,h2,h3,h4,h5]; rfl
    have hl:=hD.2.2.2
    rw [e] at hl
    exact ⟨⟨hD.2.2.1 h5,hl⟩,e.symm⟩
  · rintro s t v ⟨hD,hk⟩
    obtain ⟨h1,h2,h3,h4,h5⟩:=(mW t.k).2.2.2.2.2 hk
    exact ⟨trivial,by rw [mQ,h1,h2,h3,h4,h5]; rfl⟩
end Go.Proofs.YtkpohmhenegkiaaGreatDoor
