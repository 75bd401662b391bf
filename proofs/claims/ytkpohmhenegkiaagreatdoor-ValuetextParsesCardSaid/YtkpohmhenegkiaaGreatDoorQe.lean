/- Lemmas and walks for the proof. -/
import Derived.Test.YtkpohmhenegkiaaGreatDoorQd
import Derived.Test.YtkpohmhenegkiaaGreatDoorProg
import Derived.Shelf.Strconv.Itoa4
set_option maxRecDepth 100000
set_option maxHeartbeats 8000000
namespace Go.Proofs.YtkpohmhenegkiaaGreatDoor
open Go.W
theorem aCC:∀ (m:Nat) (r:List UInt8) (i:Nat) (out:List UInt8),r.length=m->(quoL i r out).1<=i + r.length:=by
 intro m
 induction m using Nat.strongRecOn with
 | ind m ih=>
  intro r i out hm
  cases r with
  | nil=>rw [nV]; exact Nat.le_add_right _ _
  | cons c r=>
   rw [jA]
   simp only [List.length_cons] at hm ⊢
   cases (decide (c < 32) || decide (126 < c)) with
   | true=>simp
   | false=>
    cases (c == 34) with
    | true=>simp
    | false=>
     cases (c == 92) with
     | true=>
      simp only [aH,aN]
      cases r with
      | nil=>simp
      | cons d r'=>
       simp only [List.length_cons] at hm ⊢
       cases (d == 34 || d == 92) with
       | true=>simp only [aN]; have:=ih r'.length (by omega) r' (i + 2) (out ++ [d]) rfl; omega
       | false=>simp
     | false=>
      simp only [aH]
      have:=ih r.length (by omega) r (i + 1) (out ++ [c]) rfl; omega
structure Told (l:List UInt8) (p:Nat) (k:Int) (x:List UInt8) (n:Int) (z:Nat):Prop where
 zero:k=0->p=l.length/\x=[]/\n=0
 one:k ≠ 0->∃ c,l[p]? = some c/\p < z/\z<=l.length/\0 < k/\k<=4/\32 < c.toNat/\c.toNat ≠ 35/\(c == 34)=(k == 3)/\(k == 1)=bK c.toNat
theorem BB {l:List UInt8} {a:Nat} (ha:a<=l.length):(∀ {e t},gD l a=.bad e t->0<=t/\t<=l.length)/\∀ {k x n z},gD l a=.ok k x n z->k=1:=by
 have:=mZ (p:=bB) ha
 unfold gD
 simp only
 cases decide (16 < bL bB l a - a)<;>cases (l[bL bB l a]? == some 45)<;>simp [R.bad.injEq,R.ok.injEq]
 all_goals (intros; omega)
theorem tX {l:List UInt8} {a:Nat} {c:UInt8} (hc:l[a]? = some c):(∀ {e t},gM l a=.bad e t->0<=t/\t<=l.length)/\∀ {k x n z},gM l a=.ok k x n z->k=2:=by
 have hlt:a < l.length:=(bC.1 hc).1
 have hge:(bif l[a]? == some 45 then a + 1 else a)<=l.length:=by cases (l[a]? == some 45)<;>simp<;>omega
 have hz2:=mZ (p:=bJ) hge
 unfold gM
 simp only
 generalize (List.drop (bif l[a]? == some 45 then a + 1 else a) (List.take (bL bJ l (bif l[a]? == some 45 then a + 1 else a)) l))=q
 cases (q == [] || (q[0]? == some 48 && (decide (1 < q.length) || l[a]? == some 45))) with
 | true=>simp only [aN,R.bad.injEq,reduceCtorEq,false_implies,implies_true,and_true]; rintro e t ⟨rfl,rfl⟩; omega
 | false=>
  simp only [aH]
  split
  · simp only [R.bad.injEq,reduceCtorEq,false_implies,implies_true,and_true]; rintro e t ⟨rfl,rfl⟩; omega
  · cases nK l (bL bJ l (bif l[a]? == some 45 then a + 1 else a))<;>simp only [aN,aH,R.bad.injEq,R.ok.injEq,reduceCtorEq,false_implies,implies_true,and_true,true_and]
    · rintro k x n z ⟨rfl,_⟩; rfl
    · rintro e t ⟨rfl,rfl⟩; omega
theorem qR {l:List UInt8} {a:Nat} (ha:a < l.length):(∀ {e t},fY l a=.bad e t->0<=t/\t<=l.length)/\∀ {k x n z},fY l a=.ok k x n z->k=3:=by
 have:=aCC _ (l.drop (a + 1)) (a + 1) [] rfl
 simp only [List.length_drop] at this
 unfold fY
 split
 · rename_i i hq
   rw [hq] at this
   simp only at this
   constructor
   · intro e t h; simp only [R.bad.injEq] at h; omega
   · intro k x n z h; cases h
 · rename_i z o hq
   cases decide (200 < o.length)<;>simp [R.bad.injEq,R.ok.injEq]
   all_goals (intros; omega)
def LP (c:UInt8):Bool:=
 (!(bK c.toNat || bJ c || c == 45 || c == 34 || fA c.toNat) || (decide (32 < c.toNat) && c.toNat != 35)) && (!bK c.toNat || !(c == 34)) && (!(bJ c || c == 45) || !(c == 34)) && (!fA c.toNat || !(c == 34))
theorem P7 (c:UInt8):LP c=true:=dL (by decide +kernel) c
theorem oG {l:List UInt8} {p:Nat} (hp:p<=l.length):(∀ {e t},dY l p=.bad e t->e ≠ 0/\0<=t/\t<=l.length)/\∀ {k x n z},dY l p=.ok k x n z->Told l p k x n z:=by
 obtain ⟨hb,ho⟩:=zJ hp
 refine ⟨fun {e t} h=>⟨hb h,?_⟩,fun {k x n z} h=>?_⟩
 · unfold dY at h
   split at h
   · cases h
   · rename_i c hc
     have hlt:p < l.length:=(bC.1 hc).1
     revert h
     cases bK c.toNat with
     | true=>exact fun h=>(BB hp).1 h
     | false=>
      cases (bJ c || c == 45) with
      | true=>exact fun h=>(tX hc).1 h
      | false=>
       cases (c == 34) with
       | true=>exact fun h=>(qR hlt).1 h
       | false=>
        cases fA c.toNat with
        | true=>intro h; cases h
        | false=>intro h; simp only [aH,R.bad.injEq] at h; omega
 · obtain ⟨o1,o2⟩:=ho h
   unfold dY at h
   split at h
   · simp only [R.ok.injEq] at h
     exact ⟨fun h0=>⟨o1 h0,h.2.1.symm,h.2.2.1.symm⟩,fun h0=>absurd h.1.symm h0⟩
   · rename_i c hc
     have hlt:p < l.length:=(bC.1 hc).1
     have hs:=P7 c
     unfold LP at hs
     have key:∀ {q:Int},k=q->0 < q->q<=4->(32 < c.toNat/\c.toNat ≠ 35)->(c == 34)=(q == 3)->(q == 1)=bK c.toNat->Told l p k x n z:=by
      rintro q rfl h1 h2 h3 h4 h5
      obtain ⟨h6,h7⟩:=o2 (by omega)
      exact ⟨fun h=>by omega,fun _=>⟨c,hc,h6,h7,h1,h2,h3.1,h3.2,h4,h5⟩⟩
     revert h hs
     cases hL:bK c.toNat with
     | true=>
      intro h hs
      simp at hs
      exact key ((BB hp).2 h) (by omega) (by omega) hs.1.1.1 (by simpa using hs.1.1.2) (by rw [hL]; rfl)
     | false=>
      cases hd:(bJ c || c == 45) with
      | true=>
       intro h hs
       have hd':bJ c=true\/c=45:=by simpa using hd
       simp only [Bool.false_or,hd,Bool.true_or,Bool.not_true,Bool.not_false,Bool.and_true,Bool.true_and,Bool.and_eq_true] at hs
       simp at hs
       exact key ((tX hc).2 h) (by omega) (by omega) hs.1.1 (by simpa using hs.1.2) (by rw [hL]; rfl)
      | false=>
       cases h4:(c == 34) with
       | true=>
        intro h hs
        have:c=34:=by simpa using h4
        subst this
        exact key ((qR hlt).2 h) (by omega) (by omega) (by decide) (by rfl) (by rw [hL]; rfl)
       | false=>
        cases hm:fA c.toNat with
        | true=>
         intro h hs
         simp only [Bool.false_or,hd,Bool.or_true,Bool.not_true,Bool.not_false,Bool.and_true,Bool.true_and,Bool.and_eq_true] at hs
         simp at hs
         simp only [aH,aN,R.ok.injEq] at h
         exact key h.1.symm (by omega) (by omega) hs (by rw [h4]; rfl) (by rw [hL]; rfl)
        | false=>intro h hs; cases h
def s8 (l:List UInt8):Nat->List Tk->Prop
 | _,[]=>False
 | a,t :: ts=>a<=t.a/\t.a<=l.length/\∃ z,Told l t.a t.k t.x t.n z/\(t.k=0->ts=[])/\(t.k ≠ 0->s8 l z ts)
theorem DT {l:List UInt8}:∀ (f a:Nat) (ts:List Tk),a<=l.length->l.length < f + a->eU f l a=.ok ts->s8 l a ts
 | 0,a,ts,ha,hf,h=>by omega
 | f + 1,a,ts,ha,hf,h=>by
  have hpl:bO l a<=l.length:=nW ha
  have hpa:a<=bO l a:=xM
  rw [eU] at h
  split at h
  · cases h
  · rename_i k x n z hR
    have ht:=(oG hpl).2 hR
    cases hk:k == 0 with
    | true=>
     rw [hk] at h
     simp only [aN,SR.ok.injEq] at h
     subst h
     exact ⟨hpa,hpl,z,ht,fun _=>rfl,fun h=>absurd (by simpa using hk) h⟩
    | false=>
     rw [hk] at h
     have hk':k ≠ 0:=by simpa using hk
     obtain ⟨c,_,h1,h2,_⟩:=ht.one hk'
     cases hr:eU f l z with
     | bad e t=>rw [hr] at h; cases h
     | ok us=>
      rw [hr] at h
      simp only [aH,SR.cons,SR.ok.injEq] at h
      subst h
      exact ⟨hpa,hpl,z,ht,fun h=>absurd h hk',fun _=>DT f z us h2 (by omega) hr⟩
theorem G5 {l:List UInt8}:∀ (f a:Nat) (e t:Int),a<=l.length->eU f l a=.bad e t->e ≠ 0/\0<=t/\t<=l.length
 | 0,a,e,t,ha,h=>by cases h
 | f + 1,a,e,t,ha,h=>by
  have hpl:bO l a<=l.length:=nW ha
  rw [eU] at h
  split at h
  · rename_i e' t' hR
    have:=(oG hpl).1 hR
    simp only [SR.bad.injEq] at h
    obtain ⟨rfl,rfl⟩:=h; exact this
  · rename_i k x n z hR
    have ht:=(oG hpl).2 hR
    cases hk:k == 0 with
    | true=>rw [hk] at h; cases h
    | false=>
     rw [hk] at h
     have hk':k ≠ 0:=by simpa using hk
     obtain ⟨c,_,h1,h2,_⟩:=ht.one hk'
     cases hr:eU f l z with
     | bad e' t'=>rw [hr] at h; simp only [aH,SR.cons,SR.bad.injEq] at h; obtain ⟨rfl,rfl⟩:=h; exact G5 f z _ _ h2 hr
     | ok us=>rw [hr] at h; cases h
theorem NN (l:List UInt8):(bD l).err ≠ 0/\(bD l).toks=[]/\0<=(bD l).off/\(bD l).off<=l.length\/(bD l).err=0/\(bD l).off=0/\l.length<=4000/\s8 l 0 (bD l).toks:=by
 unfold bD
 cases h:decide (4000 < l.length) with
 | true=>left; exact ⟨by simp [SR.err],rfl,by simp [SR.off],by simp [SR.off]⟩
 | false=>
  have h4:l.length<=4000:=by simpa using h
  simp only [aH]
  cases hr:eU (l.length + 1) l 0 with
  | bad e t=>left; obtain ⟨h1,h2,h3⟩:=G5 _ _ _ _ (by omega) hr; exact ⟨h1,rfl,h2,h3⟩
  | ok ts=>right; exact ⟨rfl,rfl,h4,DT _ _ _ (by omega) (by omega) hr⟩
theorem KY {l:List UInt8} {a:Nat} {ts:List Tk} (h:s8 l a ts):0 < ts.length:=by
 cases ts with
 | nil=>exact h.elim
 | cons t ts=>simp
theorem IW {l:List UInt8}:∀ {a:Nat} {ts:List Tk},s8 l a ts->ts.length + a<=l.length + 1
 | a,[],h=>h.elim
 | a,t :: ts,⟨h1,h2,z,h3,h4,h5⟩=>by
  rcases Decidable.em (t.k=0) with h0 | h0
  · rw [h4 h0]; simp only [List.length_cons,List.length_nil]; omega
  · obtain ⟨c,_,g1,_⟩:=h3.one h0
    have:=IW (h5 h0)
    simp only [List.length_cons]; omega
theorem K8 {l:List UInt8}:∀ {a:Nat} {ts:List Tk} {i:Nat} {t:Tk},s8 l a ts->ts[i]? = some t->
 a<=t.a/\t.a<=l.length/\(∃ z,Told l t.a t.k t.x t.n z)/\(t.k=0 ↔ i + 1=ts.length)/\∀ u,0 < i->ts[i - 1]? = some u->u.a < t.a
 | a,[],i,t,h,_=>h.elim
 | a,s :: ts,0,t,⟨h1,h2,z,h3,h4,h5⟩,hi=>by
  simp at hi; subst hi
  refine ⟨h1,h2,⟨z,h3⟩,⟨fun h=>by rw [h4 h]; rfl,fun h=>?_⟩,fun u h=>by omega⟩
  rcases Decidable.em (s.k=0) with h0 | h0
  · exact h0
  · have:=KY (h5 h0); simp only [List.length_cons] at h; omega
 | a,s :: ts,i + 1,t,⟨h1,h2,z,h3,h4,h5⟩,hi=>by
  simp at hi
  have h0:s.k ≠ 0:=fun h=>by rw [h4 h] at hi; simp at hi
  obtain ⟨c,_,g1,g2,_⟩:=h3.one h0
  obtain ⟨q1,q2,q3,q4,q5⟩:=K8 (h5 h0) hi
  refine ⟨by omega,q2,q3,by rw [q4]; simp,fun u _ hu=>?_⟩
  simp only [Nat.add_sub_cancel] at hu
  cases i with
  | zero=>simp at hu; subst hu; omega
  | succ i=>simp at hu; exact q5 u (by omega) (by simpa using hu)
def GD:List S->Prop:=fun xs=>match xs with
 | [.va (.c1 (.vl (.string s))),.va (.c1 (.vl (.int .i64 a)))]=>0<=a/\a<=(bl s).length/\(bl s).length<=4000
 | _=>False
theorem rJ {xs:List S} (h:GD xs):∃ s a,xs=[tS s,iS .i64 a]/\0<=a/\a<=(bl s).length/\(bl s).length<=4000:=by
 unfold GD at h
 split at h
 · exact ⟨_,_,rfl,h⟩
 · exact h.elim
def XZ (f:List UInt8->Nat->Value):List S->A:=fun xs=>match xs with
 | [.va (.c1 (.vl (.string s))),.va (.c1 (.vl (.int .i64 a)))]=>.c1 (.vl (f (bl s) a.toNat))
 | _=>.gs []
def UX (f:List UInt8->Nat->Value):Fun:=⟨GD,XZ f,fun xs h=>by obtain ⟨s,a,rfl,_⟩:=rJ h; trivial⟩
theorem T4 {f:List UInt8->Nat->Value}:∀ xs H K,(UX f).sp xs H K->xs.length=2:=fun xs H K h=>by obtain ⟨s,a,rfl,_⟩:=rJ h.1.1; rfl
attribute [go_sem] UX GD XZ
theorem aHO:Meets Tryz.prog 35 (UX fun l a=>.int .i64 (bO l a)).sp:=by
 refine aE Tryz.func35 aO3 2 (by rw [Tryz.ntmps35]; decide) (aA _) T4 ?_
 rintro xs H K ⟨⟨h,rfl⟩,hK⟩
 obtain ⟨s,a,rfl,h0,h1,h2⟩:=rJ h
 simp -dsimp only [go_sem,aDT,aHC] at hK ⊢
 have h10:∀ c:UInt8,((c.toNat:Int) == 10)=(c == 10):=fun c=>eR 10
 have h35:∀ c:UInt8,((c.toNat:Int) == 35)=(c == 35):=fun c=>eR 35
 have h32:∀ c:UInt8,((c.toNat:Int) == 32)=(c == 32):=fun c=>eR 32
 have h9:∀ c:UInt8,((c.toNat:Int) == 9)=(c == 9):=fun c=>eR 9
 refine aK (α:=Bool × Nat) (fun z=>[(0,tS s),(1,iS .i64 z.2),(5,bS z.1)]) (fun z=>[]) (fun z=>z.2<=(bl s).length/\z.2 + eN z.1 ((bl s).drop z.2)=bO (bl s) a.toNat) (fun z=>(bl s).length - z.2) (false,a.toNat) 0 ⟨by simp only; omega,rfl⟩ ?_ ?_ ?_
 · simp -dsimp only [go_sem]; simp [Int.toNat_of_nonneg h0]
 · simp [go_sem]
 rintro ⟨r,i⟩ ⟨hi,hr⟩
 simp only at hi hr
 simp -dsimp only [go_sem,bne,h10,h35,h32,h9]
 refine ⟨fun hlt=>⟨⟨by omega,by simpa using hlt⟩,fun c hc=>?_⟩,fun hge=>cA hK ?_⟩
 · have hlt:i < (bl s).length:=(bC.1 hc).1
   rw [cI hc] at hr
   simp only [eN] at hr
   have hstep:∀ r':Bool,(bif c == 35 then true else bif c == 10 then false else r)=r'->(!r' && !(c == 32 || c == 9 || c == 10))=false->i + 1 + eN r' ((bl s).drop (i + 1))=bO (bl s) a.toNat:=by
    rintro r' rfl h
    rw [h,aH] at hr
    omega
   have hend:∀ r':Bool,(bif c == 35 then true else bif c == 10 then false else r)=r'->(!r' && !(c == 32 || c == 9 || c == 10))=true->i=bO (bl s) a.toNat:=by
    rintro r' rfl h
    rw [h,aN] at hr
    omega
   refine ⟨fun q1=>⟨fun q2=>?_,fun q2=>⟨fun q3=>?_,fun q3=>⟨by omega,aC (false,i + 1) 0 ⟨by simp only; omega,hstep _ (by simp [q1,q2]) (by simp [q1])⟩ (by simp only; omega) ?_ ?_⟩⟩⟩,
    fun q1=>⟨fun q2=>⟨by omega,aC (true,i + 1) 0 ⟨by simp only; omega,hstep _ (by simp [q2]) (by simp)⟩ (by simp only; omega) ?_ ?_⟩,
     fun q2=>⟨fun q3=>?_,fun q3=>⟨by omega,aC (r,i + 1) 0 ⟨by simp only; omega,hstep _ (by simp [q1,q2]) (by simpa [Bool.and_assoc] using q3)⟩ (by simp only; omega) ?_ ?_⟩⟩⟩⟩
   · exfalso
     have e1:c=10:=by simpa using q1
     subst e1; cases q2
   · simp [q1] at q3
   · simp -dsimp only [go_sem]; simp
   · simp [go_sem]
   · simp -dsimp only [go_sem]; simp
   · simp [go_sem]
   · refine cA hK ?_
     rw [<-hend r (by simp [q1,q2]) (by simpa [Bool.and_assoc] using q3)]
   · simp -dsimp only [go_sem]; simp
   · simp [go_sem]
 · have:i=(bl s).length:=by simp at hge; omega
   subst this
   simp [eN] at hr
   rw [<-hr]
def yI (pre:List UInt8->Nat->Prop) (post:ByteArray->Int->(S->Hp->Prop)->Prop):W.Spec:=fun xs H K=>
 match xs,H with
 | [.va (.c1 (.vl (.string s))),.va (.c1 (.vl (.int .i64 a)))],[]=>(0<=a/\a<=(bl s).length/\(bl s).length<=4000/\pre (bl s) a.toNat)/\post s a K
 | _,_=>False
theorem oP {pre:List UInt8->Nat->Prop} {post:ByteArray->Int->(S->Hp->Prop)->Prop} {xs:List S} {H:Hp} {K:S->Hp->Prop} (h:yI pre post xs H K) :
 ∃ s a,xs=[tS s,iS .i64 a]/\H=[]/\0<=a/\a<=(bl s).length/\(bl s).length<=4000/\pre (bl s) a.toNat/\post s a K:=by
 unfold yI at h
 split at h
 · exact ⟨_,_,rfl,rfl,h.1.1,h.1.2.1,h.1.2.2.1,h.1.2.2.2,h.2⟩
 · exact h.elim
theorem w4 {pre:List UInt8->Nat->Prop} {post:ByteArray->Int->(S->Hp->Prop)->Prop}:∀ xs H K,yI pre post xs H K->xs.length=2:=fun xs H K h=>by
 obtain ⟨s,a,rfl,_⟩:=oP h; rfl
attribute [go_sem ↓] yI
def Got:R->ByteArray->Int->Int->Int->Int->Prop
 | .ok _ x n z,x',n',z',e',t'=>x'=mk x/\n'=n/\z'=z/\e'=0/\t'=0
 | .bad e t,_,_,_,e',t'=>e'=e/\t'=t
def Q6:W.Spec:=yI (fun _ _=>True) fun s a K=>∀ x n z e t,Got (gD (bl s) a.toNat) x n z e t->z=bL bB (bl s) a.toNat->K (.tu [iA .i64 z,iA .i64 e,iA .i64 t]) []
attribute [go_sem ↓] Q6
theorem aFY:Meets Tryz.prog 37 Q6:=by
 refine aE Tryz.func37 aTH 2 (by rw [Tryz.ntmps37]; decide) (aG Q0 (aA _)) w4 ?_
 intro xs H K h
 obtain ⟨s,a,rfl,rfl,h0,h1,h2,-,hK⟩:=oP h
 simp -dsimp only [go_sem,aFP,aFR] at hK ⊢
 have h45:∀ c:UInt8,((c.toNat:Int) == 45)=(c == 45):=fun c=>eR 45
 refine aK (α:=Nat) (fun z=>[(0,tS s),(1,iS .i64 a),(7,iS .i64 z)]) (fun z=>[]) (fun z=>a.toNat<=z/\z<=(bl s).length/\bL bB (bl s) z=bL bB (bl s) a.toNat) (fun z=>(bl s).length - z) a.toNat 0 ⟨by omega,by omega,rfl⟩ ?_ ?_ ?_
 · simp -dsimp only [go_sem]; simp [Int.toNat_of_nonneg h0]
 · simp [go_sem]
 rintro i ⟨hai,hi,hr⟩
 simp -dsimp only [go_sem,bne,h45]
 refine ⟨fun hlt=>⟨by omega,by simpa using hlt⟩,fun c hc=>⟨fun _=>by have:=c.toNat_lt; omega,fun h3=>?_,fun h3=>?_⟩⟩
 · simp only [Bool.and_eq_true,decide_eq_true_eq] at h3
   have hc:=hc (by simpa using h3.1)
   have hlt:i < (bl s).length:=(bC.1 hc).1
   refine ⟨by omega,aC (i + 1) 0 ⟨by omega,hlt,by rw [hS hc h3.2,hr]⟩ (by omega) ?_ ?_⟩
   · simp -dsimp only [go_sem]; simp
   · simp [go_sem]
 · have hz:bL bB (bl s) a.toNat=i:=by
    rw [<-hr]
    refine lT fun d hd=>?_
    have hlt:i < (bl s).length:=(bC.1 hd).1
    have hd2:=hc (by simp; omega)
    rw [hd] at hd2; obtain rfl:=bN hd2
    have hlt2:decide ((i:Int) < (bl s).length)=true:=by simp; omega
    rw [hlt2,Bool.true_and] at h3
    exact h3
   simp only [gD,hz] at hK
   refine ⟨by omega,fun h4=>.done (hK (mk []) 0 _ _ _ ?_ rfl),fun h4=>⟨fun hlt=>⟨by omega,by simpa using hlt⟩,fun d hd=>⟨fun h5=>.done (hK (mk []) 0 _ _ _ ?_ rfl),fun h5=>.done (hK (mk (List.drop a.toNat (List.take i (bl s)))) 0 _ _ _ ?_ rfl)⟩⟩⟩
   · have:decide (16 < i - a.toNat)=true:=by simp at h4 ⊢; omega
     rw [this]; exact ⟨rfl,by simp; omega⟩
   all_goals
    have:decide (16 < i - a.toNat)=false:=by simp at h4 ⊢; omega
    rw [this]
   · simp only [Bool.and_eq_true] at h5
     have:=hd h5.1
     simp only [aH,this]
     rw [show (some d == some 45)=(d == 45) from rfl,h5.2]
     exact ⟨rfl,rfl⟩
   · have:((bl s)[i]? == some 45)=false:=by
      cases he:(bl s)[i]? with
      | none=>rfl
      | some e=>
       have hlt:i < (bl s).length:=(bC.1 he).1
       have hd2:=hd (by simp; omega)
       rw [he] at hd2; obtain rfl:=bN hd2
       have hlt2:decide ((i:Int) < (bl s).length)=true:=by simp; omega
       rw [hlt2,Bool.true_and] at h5
       exact h5
     rw [this]
     exact ⟨rfl,rfl,rfl,rfl,rfl⟩
def decV:Nat->List UInt8->Nat
 | n,[]=>n
 | n,c :: l=>decV (10 * n + (c.toNat - 48)) l
theorem xH (n:Nat):decV n []=n:=by rw [decV.eq_def]
theorem lY (n:Nat) (c:UInt8) (l:List UInt8):decV n (c :: l)=decV (10 * n + (c.toNat - 48)) l:=by rw [decV.eq_def]
theorem uZ:∀ (l:List UInt8) (n:Nat),n<=decV n l
 | [],n=>by rw [xH]; exact Nat.le_refl n
 | c :: l,n=>by have:=uZ l (10 * n + (c.toNat - 48)); rw [lY]; omega
theorem RP (lim n:Nat) (c:UInt8) (l:List UInt8):valL lim n (c :: l)=if (lim - (c.toNat - 48)) / 10 < n then none else valL lim (10 * n + (c.toNat - 48)) l:=by rw [valL.eq_def]
theorem JA {lim:Nat} (h9:9<=lim):∀ (l:List UInt8) (n:Nat),n<=lim->(∀ c ∈ l,bJ c=true)->valL lim n l=bif decide (decV n l<=lim) then some (decV n l) else none
 | [],n,hn,_=>by rw [xH,valL.eq_def]; simp [hn]
 | c :: l,n,hn,hd=>by
  have hc:=nR.1 (hd c (by simp))
  rw [RP,lY]
  generalize c.toNat=d at hc ⊢
  by_cases h:(lim - (d - 48)) / 10 < n
  · have:=uZ l (10 * n + (d - 48))
    have h2:decide (decV (10 * n + (d - 48)) l<=lim)=false:=by simp only [decide_eq_false_iff_not]; omega
    rw [if_pos h,h2]; rfl
  · rw [if_neg h]
    exact JA h9 l _ (by omega) (fun x hx=>hd x (by simp [hx]))
def nS (l:List UInt8):Int × Int:=
 let neg:=l[0]? == some 45
 let s:=l.drop (bif neg then 1 else 0)
 bif s == [] || (s[0]? == some 48 && (decide (1 < s.length) || neg)) then (0,2)
 else match valL (cN neg) 0 s with
  | none=>(0,1)
  | some n=>(signed neg n,0)
def sY:W.Spec:=fun xs H K=>
 match xs,H with
 | [.va (.c1 (.vl (.string s)))],[]=>((bl s).length<=4000/\∀ c ∈ (bl s).drop (bif (bl s)[0]? == some 45 then 1 else 0),bJ c=true)/\K (.tu [iA .i64 (nS (bl s)).1,iA .i64 (nS (bl s)).2]) []
 | _,_=>False
theorem wF {xs:List S} {H:Hp} {K:S->Hp->Prop} (h:sY xs H K):∃ s,xs=[tS s]/\H=[]/\(bl s).length<=4000/\(∀ c ∈ (bl s).drop (bif (bl s)[0]? == some 45 then 1 else 0),bJ c=true)/\K (.tu [iA .i64 (nS (bl s)).1,iA .i64 (nS (bl s)).2]) []:=by
 unfold sY at h
 split at h
 · exact ⟨_,rfl,rfl,h.1.1,h.1.2,h.2⟩
 · exact h.elim
attribute [go_sem ↓] sY
theorem aLX:Meets Tryz.prog 83 sY:=by
 refine aE Tryz.func83 aSO 1 (by rw [Tryz.ntmps83]; decide) (aG AW (aA _)) (fun xs H K h=>by obtain ⟨s,rfl,_⟩:=wF h; rfl) ?_
 intro xs H K h
 obtain ⟨s,rfl,rfl,h0,hd,hK⟩:=wF h
 have h45:∀ c:UInt8,((c.toNat:Int) == 45)=(c == 45):=fun c=>eR 45
 have h48:∀ c:UInt8,((c.toNat:Int) == 48)=(c == 48):=fun c=>eR 48
 generalize hneg:((bl s)[0]? == some 45)=neg at hd
 generalize hf:(bif neg then 1 else 0:Nat)=f at hd
 have rest:vc [(38,.f (jU fun c=>.bool (fX c)))] 0 pc83_4.ungh (dS [(0,tS s),(4,iS .i64 f)]) [] (f7 0 PF K):=by
  simp -dsimp only [go_sem,pc83_4,PF,h48]
  have hfn:((f:Int) == 1)=neg:=by subst hf; cases neg<;>rfl
  simp only [nS,hneg,hf] at hK
  generalize hq:List.drop f (bl s)=q at hK hd
  have hql:q.length=(bl s).length - f:=by rw [<-hq]; simp
  have hqg:∀ d r,q=d :: r->(bl s)[f]? = some d:=fun d r e=>by
   have:(List.drop f (bl s))[0]? = some d:=by rw [hq,e]; rfl
   simpa using this
  rw [hfn]
  have key:∀ c e:UInt8,((!decide (((bl s).length:Int)<=f) && decide (1 < ((bl s).length:Int) - f))=true->(bl s)[f]? = some c)->
   ((!(decide (((bl s).length:Int)<=f) || decide (1 < ((bl s).length:Int) - f) && c == 48) && neg)=true->(bl s)[f]? = some e)->
   ((decide (((bl s).length:Int)<=f) || decide (1 < ((bl s).length:Int) - f) && c == 48) || neg && e == 48)=(q == [] || (q[0]? == some 48 && (decide (1 < q.length) || neg))):=by
   intro c e hc he
   cases q with
   | nil=>
    have:decide (((bl s).length:Int)<=f)=true:=by simp at hql ⊢; omega
    rw [this]; rfl
   | cons d r=>
    have hd0:=hqg d r rfl
    have hA:decide (((bl s).length:Int)<=f)=false:=by simp only [List.length_cons] at hql; simp; omega
    have hB:decide (1 < ((bl s).length:Int) - f)=decide (1 < (d :: r).length):=by rw [decide_eq_decide]; simp only [List.length_cons] at hql ⊢; omega
    rw [hB] at hc he ⊢
    rw [hA,hd0] at hc he
    rw [hA]
    simp only [Bool.not_false,Bool.true_and,Bool.false_or,aI] at hc he
    simp only [Bool.false_or,List.getElem?_cons_zero]
    rw [show (some d == some 48)=(d == 48) from rfl,show ((d :: r) == [])=false from rfl,Bool.false_or]
    generalize decide (1 < (d :: r).length)=b at hc he
    cases b with
    | true=>
     obtain rfl:=hc rfl
     simp only [Bool.true_and] at he ⊢
     cases hd48:d == 48 with
     | true=>rfl
     | false=>
      rw [hd48] at he
      cases neg with
      | true=>obtain rfl:=he rfl; rw [hd48]; rfl
      | false=>rfl
    | false=>
     simp only [Bool.false_and,Bool.false_or] at he ⊢
     cases neg with
     | true=>obtain rfl:=he rfl; simp
     | false=>simp
  have hf1:f<=1:=by subst hf; cases neg<;>decide
  refine ⟨fun _=>by omega,fun h=>⟨by omega,by simp at h; omega⟩,fun c hc=>⟨fun h1 h2=>by rw [h1,h2]; rfl,fun h=>⟨by omega,by simp at h; omega⟩,fun e he=>⟨fun h1 h2=>by rw [h1,h2]; rfl,?_⟩⟩⟩
  rw [key c e hc he]
  generalize hG:(q == [] || (q[0]? == some 48 && (decide (1 < q.length) || neg)))=G at hK
  refine ⟨fun h=>?_,fun h=>?_⟩
  · rw [h] at hK; exact .done hK
  rw [h] at hK hG
  simp only [aH] at hK
  have hlim:9<=cN neg:=by cases neg<;>decide
  rw [JA hlim q 0 (Nat.zero_le _) hd] at hK
  have hfl:f < (bl s).length:=by
   cases q with
   | nil=>cases hG
   | cons d r=>simp only [List.length_cons] at hql; omega
  have hpos:neg=true->0 < decV 0 q:=fun hn=>by
   cases q with
   | nil=>cases hG
   | cons d r=>
    subst hn
    have hdd:=nR.1 (hd d (by simp))
    have h1:¬ d=48:=fun e=>by subst e; simp at hG
    have h2:d.toNat ≠ 48:=fun e=>h1 (UInt8.toNat.inj e)
    have:=uZ r (10 * 0 + (d.toNat - 48))
    rw [lY]; omega
  refine aK (α:=Nat × Nat) (fun z=>[(0,tS s),(4,iS .i64 f),(5,iS .u64 z.1),(6,iS .i64 z.2)]) (fun z=>[]) (fun z=>f<=z.2/\z.2<=(bl s).length/\z.1<=10000000000000000009/\decV z.1 ((bl s).drop z.2)=decV 0 q) (fun z=>(bl s).length - z.2) (0,f) 0 ⟨by simp only; omega,by simp only; omega,by simp,by simp only; rw [hq]⟩ ?_ ?_ ?_
  · simp -dsimp only [go_sem]; simp
  · simp [go_sem]
  rintro ⟨n,i⟩ ⟨hi1,hi2,hn,hv⟩
  simp only at hi1 hi2 hn hv
  simp -dsimp only [go_sem,hfn]
  have hnone:¬ decV 0 q<=cN neg->K (.tu [iA .i64 0,iA .i64 1]) []:=fun h=>by
   have:decide (decV 0 q<=cN neg)=false:=by simpa using h
   rw [this] at hK; exact hK
  have hlim2:cN neg<=9223372036854775808:=by cases neg<;>decide
  refine ⟨fun hlt=>⟨⟨by omega,by simpa using hlt⟩,fun c hc=>⟨by have:=c.toNat_lt; omega,fun h3=>?_,fun h3=>⟨fun h4=>.done (hnone ?_),fun h4=>⟨by simp at h4; omega,⟨by omega,by simpa using hlt⟩,fun e he=>?_⟩⟩⟩⟩,fun hge=>?_⟩
  · exfalso
    have:c ∈ q:=by rw [<-hq]; exact bT (i:=i - f) (by rw [List.getElem?_drop,show f + (i - f)=i by omega]; exact hc)
    have:=hd c this
    rw [bJ,h3] at this; cases this
  · rw [cI hc,lY] at hv
    have:=uZ ((bl s).drop (i + 1)) (10 * n + (c.toNat - 48))
    simp at h4; omega
  · rw [hc] at he; obtain rfl:=bN he
    have hc9:=nR.1 (show bJ c=true by simpa [bJ] using h3)
    have hw:IntKind.u64.wrap ((c.toNat:Int) - 48)=((c.toNat - 48:Nat):Int):=by
     simp [IntKind.wrap,IntKind.signed,IntKind.bits]; omega
    have hlt:i < (bl s).length:=(bC.1 hc).1
    simp at h4
    refine ⟨by omega,by rw [hw]; omega,by omega,aC (10 * n + (c.toNat - 48),i + 1) 0 ⟨by simp only; omega,by simp only; omega,by simp only; omega,by simp only; rw [<-hv,cI hc,lY]⟩ (by simp only; omega) ?_ ?_⟩
    · simp -dsimp only [go_sem,hw]; simp
    · simp [go_sem]
  · have hN:n=decV 0 q:=by
     have:i=(bl s).length:=by simp at hge; omega
     rw [<-hv,this,List.drop_length,xH]
    rw [<-hN] at hK hpos hnone
    refine ⟨fun hn1=>⟨fun h4=>.done (hnone ?_),fun h4=>?_⟩,fun hn1=>⟨fun h4=>.done (hnone ?_),fun h4=>?_⟩⟩
    · subst hn1; simp at h4; simp [cN]; omega
    · have hp:=hpos hn1
      simp at h4
      have w1:IntKind.i64.wrap ((n:Int) - 1)=(n:Int) - 1:=lH (by simp [inr,IntKind.min,IntKind.max,IntKind.signed,IntKind.bits]; omega)
      rw [w1]
      refine ⟨by omega,by omega,by omega,cA hK ?_⟩
      subst hn1
      have:decide (n<=cN true)=true:=decide_eq_true (show n<=9223372036854775808 by omega)
      rw [this]
      simp [signed]; omega
    · subst hn1; simp at h4; simp [cN]; omega
    · simp at h4
      have w1:IntKind.i64.wrap (n:Int)=(n:Int):=lH (by simp [inr,IntKind.min,IntKind.max,IntKind.signed,IntKind.bits]; omega)
      rw [w1]
      refine cA hK ?_
      subst hn1
      have:decide (n<=cN false)=true:=decide_eq_true (show n<=9223372036854775807 by omega)
      rw [this]
      simp [signed]
 simp -dsimp only [go_sem,aF9,PF,h45]
 refine ⟨fun h=>⟨by omega,by simpa using h⟩,fun c hc=>⟨fun h=>?_,fun h=>?_⟩⟩
 · simp only [Bool.and_eq_true] at h
   have hc:=hc h.1
   have:neg=true:=by rw [<-hneg,hc]; exact h.2
   subst this
   obtain rfl:1=f:=hf
   refine b8 0 rest ?_ ?_
   · simp -dsimp only [go_sem]; simp
   · simp [go_sem]
 · have:neg=false:=by
    rw [<-hneg]
    cases h0:(bl s)[0]? with
    | none=>rfl
    | some d=>
     have hlt:0 < (bl s).length:=(bC.1 h0).1
     have hd2:=hc (by simp; omega)
     rw [h0] at hd2; obtain rfl:=bN hd2
     have:decide ((0:Int) < (bl s).length)=true:=by simp; omega
     rw [this,Bool.true_and] at h
     exact h
   subst this
   obtain rfl:0=f:=hf
   refine b8 0 rest ?_ ?_
   · simp -dsimp only [go_sem]; simp
   · simp [go_sem]
def QL:W.Spec:=yI (fun l a=>∃ c,l[a]? = some c) fun s a K=>∀ x n z e t,Got (gM (bl s) a.toNat) x n z e t->K (.tu [iA .i64 z,iA .i64 n,iA .i64 e,iA .i64 t]) []
def Y6:W.Spec:=yI (fun l a=>l[a]? = some 34) fun s a K=>∀ x n z e t,Got (fY (bl s) a.toNat) x n z e t->K (.tu [iA .i64 z,tA x,iA .i64 e,iA .i64 t]) []
attribute [go_sem ↓] QL Y6
theorem Got.bad {r:R} {e t:Int} (h:r=.bad e t) {x:ByteArray} {n z:Int}:Got r x n z e t:=by subst h; exact ⟨rfl,rfl⟩
theorem Got.ok {r:R} {k:Int} {x:List UInt8} {n:Int} {z:Nat} (h:r=.ok k x n z):Got r (mk x) n z 0 0:=by subst h; exact ⟨rfl,rfl,rfl,rfl,rfl⟩
theorem yQ (p:UInt8->Bool):∀ (l:List UInt8) (c:UInt8),l[(l.takeWhile p).length]? = some c->p c=false
 | [],c,h=>by simp at h
 | d :: l,c,h=>by
  cases hp:p d with
  | true=>rw [List.takeWhile_cons,if_pos hp] at h; simp at h; exact yQ p l c h
  | false=>rw [List.takeWhile_cons,hp] at h; simp at h; subst h; exact hp
theorem aBH {p:UInt8->Bool} {l:List UInt8} {a:Nat} {c:UInt8} (h:l[bL p l a]? = some c):p c=false:=by
 refine yQ p (l.drop a) c ?_
 rw [List.getElem?_drop]; exact h
theorem aJ3:Meets Tryz.prog 40 Y6:=by
 refine aE Tryz.func40 aP4 2 (by rw [Tryz.ntmps40]; decide) (aA _) w4 ?_
 intro xs H K h
 obtain ⟨s,a,rfl,rfl,h0,h1,h2,hc0,hK⟩:=oP h
 have h34:∀ c:UInt8,((c.toNat:Int) == 34)=(c == 34):=fun c=>eR 34
 have h92:∀ c:UInt8,((c.toNat:Int) == 92)=(c == 92):=fun c=>eR 92
 have hlt:a.toNat < (bl s).length:=(bC.1 hc0).1
 simp -dsimp only [go_sem,aFV,aHZ]
 refine ⟨by omega,?_⟩
 refine aK (α:=List UInt8 × Nat) (fun z=>[(0,tS s),(1,iS .i64 a),(8,tS (mk z.1)),(9,iS .i64 z.2)]) (fun z=>[]) (fun z=>z.2<=(bl s).length/\z.1.length<=z.2/\quoL z.2 ((bl s).drop z.2) z.1=quoL (a.toNat + 1) ((bl s).drop (a.toNat + 1)) []) (fun z=>(bl s).length - z.2) ([],a.toNat + 1) 0 ⟨by simp only; omega,by simp,rfl⟩ ?_ ?_ ?_
 · simp -dsimp only [go_sem]; simp [Int.toNat_of_nonneg h0]
 · simp [go_sem]
 rintro ⟨out,i⟩ ⟨hi,ho,hr⟩
 simp only at hi ho hr
 simp -dsimp only [go_sem,bne,h34,h92,oH]
 have ha:((a.toNat:Nat):Int)=a:=Int.toNat_of_nonneg h0
 have hT:fY (bl s) a.toNat=match quoL i (List.drop i (bl s)) out with
  | (i,none)=>.bad 2 i
  | (z,some out)=>bif decide (200 < out.length) then .bad 3 a.toNat else .ok 3 out 0 z:=by rw [hr]; rfl
 refine ⟨fun hge=>?_,fun hlt=>⟨⟨by omega,by simpa using hlt⟩,fun c hc=>⟨fun h3=>?_,fun h3=>⟨fun _=>by omega,fun _=>by omega,fun h4=>⟨by omega,by simp at h4; omega⟩,fun d hd=>⟨fun _=>by omega,fun h=>⟨by omega,by simp at h; omega⟩,fun e he=>⟨fun h1 h2=>by rw [h1,h2]; rfl,fun h1 h2=>by rw [h1,h2]; rfl,fun h1 h2=>by rw [h1,h2]; rfl,?_⟩⟩⟩⟩⟩⟩
 · have:i=(bl s).length:=by simp at hge; omega
   subst this
   rw [List.drop_length,nV] at hT
   exact .done (hK (mk []) 0 _ _ _ (Got.bad hT))
 · have:c=34:=by simpa using h3
   subst this
   rw [cI hc,jA] at hT
   simp at hT
   refine ⟨fun h4=>.done (hK (mk []) 0 _ _ _ (Got.bad (t:=a) (e:=3) ?_)),fun h4=>⟨by omega,.done (hK (mk out) 0 _ _ _ ?_)⟩⟩
   · have:decide (200 < out.length)=true:=by simp at h4 ⊢; omega
     rw [hT,this,aN,Int.max_eq_left h0]
   · have:decide (200 < out.length)=false:=by simp at h4 ⊢; omega
     rw [this] at hT
     exact Got.ok hT
 have hlt2:i < (bl s).length:=(bC.1 hc).1
 have hw:(decide ((c.toNat:Int) < 32) || decide (126 < (c.toNat:Int)))=(decide (c < 32) || decide (126 < c)):=by
  have e1:decide ((c.toNat:Int) < 32)=decide (c < 32):=by rw [decide_eq_decide,UInt8.lt_iff_toNat_lt]; show _ ↔ c.toNat < 32; omega
  have e2:decide (126 < (c.toNat:Int))=decide (126 < c):=by rw [decide_eq_decide,UInt8.lt_iff_toNat_lt]; show _ ↔ 126 < c.toNat; omega
  rw [e1,e2]
 rw [hw] at hd he ⊢
 rw [cI hc,jA] at hT hr
 generalize (decide (c < 32) || decide (126 < c))=w at hd he hT hr ⊢
 rw [h3] at hT hr
 cases w with
 | true=>
  simp only [aN] at hT
  exact ⟨fun _=>.done (hK (mk []) 0 _ _ _ (Got.bad hT)),fun h=>by simp at h⟩
 | false=>
  simp only [aH] at hT hr
  cases h9:c == 92 with
  | false=>
   rw [h9] at hr
   simp only [aH] at hr
   have hsub:List.drop i (List.take (i + 1) (bl s))=[c]:=by rw [List.drop_take,cI hc]; simp
   refine ⟨fun h=>by simp at h,fun _=>⟨fun h=>by simp at h,fun _=>?_⟩⟩
   and_intros
   all_goals first
    | omega
    | (simp; omega)
    | skip
   refine aC (out ++ [c],i + 1) 0 ⟨by simp only; omega,by simp; omega,hr⟩ (by simp only; omega) ?_ ?_
   · simp -dsimp only [go_sem]; simp [show ((i:Int) + 1).toNat=i + 1 by omega,hsub]
   · simp [go_sem]
  | true=>
   rw [h9] at hr hT hd he
   simp only [aN,Bool.not_false,Bool.true_and] at hr hT hd he
   cases hrest:List.drop (i + 1) (bl s) with
   | nil=>
    have:(bl s).length<=i + 1:=List.drop_eq_nil_iff.1 hrest
    have h8:decide (((bl s).length:Int)<=i + 1)=true:=by simp; omega
    rw [hrest] at hT
    rw [h8]
    exact ⟨fun _=>.done (hK (mk []) 0 _ _ _ (Got.bad hT)),fun h=>by simp at h⟩
   | cons x r=>
    have hx:(bl s)[i + 1]? = some x:=by
     have:(List.drop (i + 1) (bl s))[0]? = some x:=by rw [hrest]; rfl
     simpa using this
    have hltx:i + 1 < (bl s).length:=(bC.1 hx).1
    have hrx:r=List.drop (i + 2) (bl s):=by
     have:=cI hx
     rw [hrest] at this; simpa using this
    have h8:decide (((bl s).length:Int)<=i + 1)=false:=by simp; omega
    rw [hrest] at hT hr
    have hi1:((i:Int) + 1).toNat=i + 1:=by omega
    have hi2:((i:Int) + 1 + 1).toNat=i + 2:=by omega
    rw [h8,hi1,hx] at hd he
    simp only [Bool.not_false,Bool.true_and,true_implies,aI] at hd he
    obtain rfl:=hd
    have hE:(x == 34 || x == 92)=!(!x == 34 && !e == 92):=by
     cases h7:x == 34 with
     | true=>rfl
     | false=>rw [h7] at he; obtain rfl:=he rfl; simp
    rw [h8]
    simp only [hE] at hT hr
    generalize (!x == 34 && !e == 92)=b at hT hr ⊢
    cases b with
    | true=>exact ⟨fun _=>.done (hK (mk []) 0 _ _ _ (Got.bad hT)),fun h=>by simp at h⟩
    | false=>
     simp only [Bool.not_false,aN] at hr
     have hsub:List.drop (i + 1) (List.take (i + 2) (bl s))=[x]:=by rw [List.drop_take,cI hx]; simp
     refine ⟨fun h=>by simp at h,fun _=>⟨fun _=>?_,fun h=>by simp at h⟩⟩
     and_intros
     all_goals first
      | omega
      | (simp; omega)
      | skip
     refine aC (out ++ [x],i + 2) 0 ⟨by simp only; omega,by simp; omega,by rw [<-hr,hrx]⟩ (by simp only; omega) ?_ ?_
     · simp -dsimp only [go_sem]; simp [hi1,hi2,hsub]; omega
     · simp [go_sem]
theorem aLZ:Meets Tryz.prog 39 QL:=by
 refine aE Tryz.func39 aSX 2 (by rw [Tryz.ntmps39]; decide) (aG AW (aB aLX (aG Q0 (aA _)))) w4 ?_
 intro xs H K h
 obtain ⟨s,a,rfl,rfl,h0,h1,h2,⟨c0,hc0⟩,hK⟩:=oP h
 have h45:∀ c:UInt8,((c.toNat:Int) == 45)=(c == 45):=fun c=>eR 45
 have hlt:a.toNat < (bl s).length:=(bC.1 hc0).1
 generalize hneg:((bl s)[a.toNat]? == some 45)=neg at hK
 generalize hfe:(bif neg then a.toNat + 1 else a.toNat)=f
 have hf1:a.toNat<=f/\f<=(bl s).length:=by subst hfe; cases neg<;>simp<;>omega
 generalize hz:bL bJ (bl s) f=z
 have rest:vc [(38,.f (jU fun c=>.bool (fX c))),(83,.s sY),(82,.f (jU fun c=>.bool (eO c)))] 0 pc39_6.ungh (dS [(0,tS s),(1,iS .i64 a),(8,iS .i64 z)]) [] (f7 0 OC K):=by
  simp -dsimp only [go_sem,pc39_6,OC,h45,oH]
  have hz1:f<=z:=by rw [<-hz]; exact pW
  have hz2:z<=(bl s).length:=by rw [<-hz]; exact mZ hf1.2
  generalize hq:List.drop a.toNat (List.take z (bl s))=q
  have hq0:(q[0]? == some 45)=neg:=by
   have e:q[0]? = (List.take z (bl s))[a.toNat]?:=by rw [<-hq,List.getElem?_drop]; rfl
   rw [e,List.getElem?_take]
   split
   · exact hneg
   · cases neg with
     | false=>rfl
     | true=>simp at hfe; omega
  have hqs:List.drop (bif neg then 1 else 0) q=List.drop f (List.take z (bl s)):=by
   rw [<-hq,List.drop_drop,<-hfe]; cases neg<;>rfl
  have hdig:∀ c ∈ List.drop f (List.take z (bl s)),bJ c=true:=fun c hc=>by rw [<-hz] at hc; exact rG c hc
  have hV:((nS q).2=2->gM (bl s) a.toNat=.bad 2 a.toNat)/\((nS q).2=1->gM (bl s) a.toNat=.bad 4 a.toNat)/\
   ((nS q).2 ≠ 2->(nS q).2 ≠ 1->gM (bl s) a.toNat=bif nK (bl s) z then .bad 2 z else .ok 2 [] (nS q).1 z):=by
   simp only [nS,hq0,hqs,gM,hneg,hfe,hz]
   generalize List.drop f (List.take z (bl s))=r
   cases (r == [] || (r[0]? == some 48 && (decide (1 < r.length) || neg))) with
   | true=>simp
   | false=>
    simp only [aH]
    cases valL (cN neg) 0 r with
    | none=>simp
    | some n=>simp
  have hwm:∀ c e:UInt8,(decide ((z:Int) < (bl s).length)=true->(bl s)[z]? = some c)->((decide ((z:Int) < (bl s).length) && !eO c.toNat)=true->(bl s)[z]? = some e)->
   (decide ((z:Int) < (bl s).length) && (eO c.toNat || e == 45))=nK (bl s) z:=by
   intro c e hc he
   unfold nK
   cases hd:(bl s)[z]? with
   | none=>
    have:decide ((z:Int) < (bl s).length)=false:=by have:=List.getElem?_eq_none_iff.1 hd; simp; omega
    rw [this]; rfl
   | some d=>
    have hlt:z < (bl s).length:=(bC.1 hd).1
    have:decide ((z:Int) < (bl s).length)=true:=by simp; omega
    rw [this,hd] at hc he
    rw [this]
    obtain rfl:=bN (hc rfl)
    have hnd:bJ d=false:=by rw [<-hz] at hd; exact aBH hd
    simp only [Bool.true_and,hnd,Bool.not_false,Bool.and_true,bB] at he ⊢
    cases hw:eO d.toNat with
    | true=>rfl
    | false=>rw [hw] at he; obtain rfl:=bN (he rfl); rfl
  obtain ⟨v1,v2,v3⟩:=hV
  have ha:((a.toNat:Nat):Int)=a:=Int.toNat_of_nonneg h0
  refine ⟨by omega,⟨by rw [<-hq]; simp; omega,by rw [hq0,hqs]; exact hdig⟩,fun h=>.done (hK (mk []) _ _ _ _ (by rw [v1 (by simpa using h),ha]; exact ⟨rfl,rfl⟩)),fun h=>⟨fun h5=>.done (hK (mk []) _ _ _ _ (by rw [v2 (by simpa using h5),ha]; exact ⟨rfl,rfl⟩)),fun h5=>⟨fun h6=>⟨by omega,by simpa using h6⟩,fun c hc=>⟨fun _=>by have:=c.toNat_lt; omega,fun h6=>⟨by omega,by simp at h6; omega⟩,fun e he=>⟨fun h6 h7=>by rw [h6,h7]; rfl,?_⟩⟩⟩⟩⟩
  rw [hwm c e hc he]
  have v3:=v3 (by simpa using h) (by simpa using h5)
  refine ⟨fun h6=>.done (hK (mk []) _ _ _ _ ?_),fun h6=>.done (hK (mk []) _ _ _ _ ?_)⟩
  · rw [v3,h6]; exact ⟨rfl,rfl⟩
  · rw [v3,h6]; exact ⟨rfl,rfl,rfl,rfl,rfl⟩
 simp -dsimp only [go_sem,aFO,OC,h45]
 refine ⟨⟨by omega,by omega⟩,fun c hc=>?_⟩
 have hcn:(c == 45)=neg:=by rw [<-hneg,hc]; rfl
 rw [hcn]
 refine ⟨fun h=>⟨by omega,?_⟩,fun h=>?_⟩
 · have hfi:(f:Int)=a + 1:=by subst h; simp at hfe; omega
   refine aK (α:=Nat) (fun i=>[(0,tS s),(1,iS .i64 a),(8,iS .i64 i)]) (fun i=>[]) (fun i=>f<=i/\i<=(bl s).length/\bL bJ (bl s) i=z) (fun i=>(bl s).length - i) f 0 ⟨by omega,by omega,hz⟩ ?_ ?_ ?_
   · simp -dsimp only [go_sem]; simp [hfi]
   · simp [go_sem]
   rintro i ⟨hai,hi,hr⟩
   simp -dsimp only [go_sem]
   refine ⟨fun hlt=>⟨by omega,by simpa using hlt⟩,fun d hd=>⟨fun _=>by have:=d.toNat_lt; omega,fun h3=>?_,fun h3=>?_⟩⟩
   · simp only [Bool.and_eq_true,decide_eq_true_eq] at h3
     have hd:=hd (by simpa using h3.1)
     have hlt:i < (bl s).length:=(bC.1 hd).1
     refine ⟨by omega,aC (i + 1) 0 ⟨by omega,hlt,by rw [hS hd h3.2,hr]⟩ (by omega) ?_ ?_⟩
     · simp -dsimp only [go_sem]; simp
     · simp [go_sem]
   · have hiz:i=z:=by
      rw [<-hr]
      refine (lT fun e he=>?_).symm
      have hlt:i < (bl s).length:=(bC.1 he).1
      have hd2:=hd (by simp; omega)
      rw [he] at hd2; obtain rfl:=bN hd2
      have hlt2:decide ((i:Int) < (bl s).length)=true:=by simp; omega
      rw [hlt2,Bool.true_and] at h3
      exact h3
     subst hiz
     refine b8 0 rest ?_ ?_
     · simp -dsimp only [go_sem]
     · simp [go_sem]
 · have hfi:(f:Int)=a:=by subst h; simp at hfe; omega
   refine aK (α:=Nat) (fun i=>[(0,tS s),(1,iS .i64 a),(8,iS .i64 i)]) (fun i=>[]) (fun i=>f<=i/\i<=(bl s).length/\bL bJ (bl s) i=z) (fun i=>(bl s).length - i) f 0 ⟨by omega,by omega,hz⟩ ?_ ?_ ?_
   · simp -dsimp only [go_sem]; simp [hfi]
   · simp [go_sem]
   rintro i ⟨hai,hi,hr⟩
   simp -dsimp only [go_sem]
   refine ⟨fun hlt=>⟨by omega,by simpa using hlt⟩,fun d hd=>⟨fun _=>by have:=d.toNat_lt; omega,fun h3=>?_,fun h3=>?_⟩⟩
   · simp only [Bool.and_eq_true,decide_eq_true_eq] at h3
     have hd:=hd (by simpa using h3.1)
     have hlt:i < (bl s).length:=(bC.1 hd).1
     refine ⟨by omega,aC (i + 1) 0 ⟨by omega,hlt,by rw [hS hd h3.2,hr]⟩ (by omega) ?_ ?_⟩
     · simp -dsimp only [go_sem]; simp
     · simp [go_sem]
   · have hiz:i=z:=by
      rw [<-hr]
      refine (lT fun e he=>?_).symm
      have hlt:i < (bl s).length:=(bC.1 he).1
      have hd2:=hd (by simp; omega)
      rw [he] at hd2; obtain rfl:=bN hd2
      have hlt2:decide ((i:Int) < (bl s).length)=true:=by simp; omega
      rw [hlt2,Bool.true_and] at h3
      exact h3
     subst hiz
     refine b8 0 rest ?_ ?_
     · simp -dsimp only [go_sem]
     · simp [go_sem]
theorem U4 {l:List UInt8} {a:Nat} {k:Int} {x:List UInt8} {n:Int} {z:Nat} (h:gD l a=.ok k x n z):k=1/\n=0/\z=bL bB l a/\z - a<=16/\x=(l.take z).drop a/\l[z]? ≠ some 45:=by
 unfold gD at h
 simp only at h
 revert h
 cases h1:decide (16 < bL bB l a - a)<;>cases h2:(l[bL bB l a]? == some 45)<;>simp [R.ok.injEq]
 rintro rfl rfl rfl rfl
 simp at h1 h2
 exact ⟨rfl,rfl,rfl,by omega,rfl,h2⟩
theorem S6 (l:List UInt8):c8 l=true ↔ ∃ c,l[0]? = some c/\l.length<=16/\bK c.toNat=true/\∀ x ∈ l,bB x=true:=by
 cases l with
 | nil=>simp [c8]
 | cons c l=>simp [c8,and_assoc]
theorem aG2 {l:List UInt8} {a:Nat} {k:Int} {x:List UInt8} {n:Int} {z:Nat} (h:gM l a=.ok k x n z):x=[]:=by
 unfold gM at h
 simp only at h
 revert h
 generalize (List.drop (bif l[a]? == some 45 then a + 1 else a) (List.take (bL bJ l (bif l[a]? == some 45 then a + 1 else a)) l))=q
 cases (q == [] || (q[0]? == some 48 && (decide (1 < q.length) || l[a]? == some 45))) with
 | true=>intro h; cases h
 | false=>
  simp only [aH]
  split
  · intro h; cases h
  · cases nK l (bL bJ l (bif l[a]? == some 45 then a + 1 else a))<;>intro h<;>cases h
    rfl
theorem aAN {l:List UInt8} {a:Nat} {k:Int} {x:List UInt8} {n:Int} {z:Nat} (h:fY l a=.ok k x n z):n=0:=by
 unfold fY at h
 split at h
 · cases h
 · revert h
   rename_i o _
   cases decide (200 < o.length)<;>intro h<;>cases h
   rfl
theorem aFI:Meets Tryz.prog 16 nL:=by
 refine aE Tryz.func16 aS6 1 (by rw [Tryz.ntmps16]; decide)
  (aG aHO (aG ME (aB aFY (aG AW (aB aLZ (aB aJ3 (aG aJ1 (aA _)))))))) (fun xs H K h=>by obtain ⟨s,rfl,_⟩:=lP h; rfl) ?_
 intro xs H K h
 obtain ⟨s,rfl,rfl,hK⟩:=lP h
 have h34:∀ c:UInt8,((c.toNat:Int) == 34)=(c == 34):=fun c=>eR 34
 have h45:∀ c:UInt8,((c.toNat:Int) == 45)=(c == 45):=fun c=>eR 45
 simp -dsimp only [go_sem,aHX,aES,h34,h45]
 refine ⟨fun h1=>?_,fun h1=>?_⟩
 · have h2:decide (4000 < (bl s).length)=true:=by simp at h1 ⊢; omega
   simp only [bD,h2,aN,SR.toks,SR.err,SR.off] at hK
   exact .done hK
 have h2:decide (4000 < (bl s).length)=false:=by simp at h1 ⊢; omega
 have hlen:(bl s).length<=4000:=by simpa using h2
 refine ⟨⟨by omega,by omega,hlen⟩,dW (α:=Nat × Nat × List Tk) (fun z=>[(0,tS s),(5,.va (.c1 (.sl 0 z.2.2.length))),(6,iS .i64 (bO (bl s) z.2.1))]) (fun z=>[.row (z.2.2.map bE) 71 4])
  (fun z=>(bl s).length < z.1 + z.2.1/\z.2.1<=(bl s).length/\z.2.2.length<=z.2.1/\SR.app z.2.2 (eU z.1 (bl s) z.2.1)=bD (bl s)) (fun z=>z.1)
  (.nil 5 71 4 ?_ (lR ((bl s).length + 1,0,[]) 1 ⟨by simp only; omega,by simp,by simp,?_⟩ ?_ ?_)) ?_⟩
 · simp -dsimp only [go_sem]; rfl
 · simp only [bD,h2,aH]
   cases eU ((bl s).length + 1) (bl s) 0<;>rfl
 · simp -dsimp only [go_sem]
 · simp -dsimp only [go_sem]
 rintro ⟨f,a,acc⟩ ⟨hf,ha,hac,hr⟩
 simp only at hf ha hac hr
 have hpl:bO (bl s) a<=(bl s).length:=nW ha
 have hpa:a<=bO (bl s) a:=xM
 obtain ⟨hb,ho⟩:=oG hpl
 obtain ⟨f,rfl⟩:∃ g,f=g + 1:=⟨f - 1,by omega⟩
 rw [eU] at hr
 simp -dsimp only [go_sem,h34,h45]
 generalize hp:bO (bl s) a=p at hb ho hr hpl hpa ⊢
 have hbad:∀ {e t:Int} {H2:Hp},dY (bl s) p=.bad e t->W.Fin 0 K (.tu [.c1 (.fz []),iA .i64 e,iA .i64 t]) H2:=by
  intro e t H2 h
  rw [h] at hr; simp only [SR.app] at hr; rw [<-hr] at hK; simp only [SR.toks,SR.err,SR.off] at hK
  exact .sel [] (by simp) (by simp) rfl (.done (by simpa [go_sem] using hK))
 have hinv:∀ {k:Int} {x:List UInt8} {n:Int} {z:Nat},dY (bl s) p=.ok k x n z->k ≠ 0->(bl s).length < f + z/\z<=(bl s).length/\(acc ++ [Tk.mk k x n p]).length<=z/\SR.app (acc ++ [Tk.mk k x n p]) (eU f (bl s) z)=bD (bl s):=by
  intro k x n z h hk
  obtain ⟨c,_,g1,g2,_⟩:=(ho h).one hk
  rw [h] at hr
  have hk2:(k == 0)=false:=by simpa using hk
  simp only [hk2,aH,SR.app_cons] at hr
  exact ⟨by omega,g2,by simp; omega,hr⟩
 refine ⟨fun hlt=>⟨by omega,⟨by omega,by simpa using hlt⟩,fun c hc=>⟨by have:=c.toNat_lt; omega,fun q1=>?_,fun q1=>?_⟩⟩,fun hge=>?_⟩
 · have htok:dY (bl s) p=gD (bl s) p:=by rw [dY,hc]; simp only [q1,aN]
   refine ⟨by omega,fun x n z e t ht hz=>⟨by rw [hz]; have:=pW (p:=bB) (l:=bl s) (a:=p); have:=mZ (p:=bB) hpl; omega,?_⟩⟩
   cases hR:gD (bl s) p with
   | bad e' t'=>
    rw [hR] at ht
    obtain ⟨rfl,rfl⟩:=ht
    exact ⟨fun _=>hbad (htok.trans hR),fun h=>absurd h (by simpa using (hb (htok.trans hR)).1)⟩
   | ok k x' n' z'=>
    rw [hR] at ht
    obtain ⟨rfl,rfl,rfl,rfl,rfl⟩:=ht
    obtain ⟨rfl,rfl,-,-,hx,-⟩:=U4 hR
    have hi:=hinv (htok.trans hR) (by decide)
    refine ⟨fun h=>absurd h (by simp),fun _=>⟨by omega,by omega,aC (f,z',acc ++ [⟨1,x',0,p⟩]) 1 hi (by simp only; omega) ?_ ?_⟩⟩
    · simp -dsimp only [go_sem]<;>simp
    · simp -dsimp only [go_sem]<;>simp [go_sem,hx]
 refine ⟨by have:=c.toNat_lt; omega,fun q2=>?_,fun q2=>⟨fun q3=>?_,fun q3=>⟨by have:=c.toNat_lt; omega,fun q4=>?_,fun q4=>?_⟩⟩⟩
 · have htok:dY (bl s) p=gM (bl s) p:=by rw [dY,hc]; simp only [q1,aH]; rw [show (bJ c || c == 45)=true from q2]; rfl
   refine ⟨⟨by omega,by omega,hlen,c,hc⟩,fun x n z e t ht=>?_⟩
   cases hR:gM (bl s) p with
   | bad e' t'=>
    rw [hR] at ht
    obtain ⟨rfl,rfl⟩:=ht
    exact ⟨fun _=>hbad (htok.trans hR),fun h=>absurd h (by simpa using (hb (htok.trans hR)).1)⟩
   | ok k x' n' z'=>
    rw [hR] at ht
    obtain ⟨rfl,rfl,rfl,rfl,rfl⟩:=ht
    obtain rfl:=(tX hc).2 hR
    obtain rfl:=aG2 hR
    have hi:=hinv (htok.trans hR) (by decide)
    refine ⟨fun h=>absurd h (by simp),fun _=>⟨by omega,by omega,aC (f,z',acc ++ [⟨2,[],n,p⟩]) 1 hi (by simp only; omega) ?_ ?_⟩⟩
    · simp -dsimp only [go_sem]<;>simp
    · simp -dsimp only [go_sem]<;>simp [go_sem]
 · have hc3:c=34:=by simpa using q3
   have hlt2:p < (bl s).length:=(bC.1 hc).1
   have htok:dY (bl s) p=fY (bl s) p:=by rw [dY,hc]; simp only [q1,aH]; rw [show (bJ c || c == 45)=false from q2]; simp only [q3,aH,aN]
   refine ⟨⟨by omega,by omega,hlen,by rw [hc,hc3]⟩,fun x n z e t ht=>?_⟩
   cases hR:fY (bl s) p with
   | bad e' t'=>
    rw [hR] at ht
    obtain ⟨rfl,rfl⟩:=ht
    exact ⟨fun _=>hbad (htok.trans hR),fun h=>absurd h (by simpa using (hb (htok.trans hR)).1)⟩
   | ok k x' n' z'=>
    rw [hR] at ht
    obtain ⟨rfl,rfl,rfl,rfl,rfl⟩:=ht
    obtain rfl:=(qR hlt2).2 hR
    obtain rfl:=aAN hR
    have hi:=hinv (htok.trans hR) (by decide)
    refine ⟨fun h=>absurd h (by simp),fun _=>⟨by omega,by omega,aC (f,z',acc ++ [⟨3,x',0,p⟩]) 1 hi (by simp only; omega) ?_ ?_⟩⟩
    · simp -dsimp only [go_sem]<;>simp
    · simp -dsimp only [go_sem]<;>simp [go_sem]
 · have hlt2:p < (bl s).length:=(bC.1 hc).1
   have hR:dY (bl s) p=.ok 4 [c] 0 (p + 1):=by rw [dY,hc]; simp only [q1,aH]; rw [show (bJ c || c == 45)=false from q2]; simp only [q3,q4,aH,aN]
   have hi:=hinv hR (by decide)
   have hi1:((p:Int) + 1).toNat=p + 1:=by omega
   have hsub:List.drop p (List.take (p + 1) (bl s))=[c]:=by rw [List.drop_take,cI hc]; simp
   refine ⟨by omega,fun h=>absurd h (by decide),fun _=>⟨by omega,by omega,?_⟩⟩
   refine aC (f,p + 1,acc ++ [⟨4,[c],0,p⟩]) 1 hi (by simp only; omega) ?_ ?_
   · simp -dsimp only [go_sem]<;>simp [hi1]
   · simp -dsimp only [go_sem]<;>simp [go_sem,hi1,hsub]
 · have hR:dY (bl s) p=.bad 2 p:=by rw [dY,hc]; simp only [q1,aH]; rw [show (bJ c || c == 45)=false from q2]; simp only [q3,q4,aH]
   exact hbad hR
 · have hpe:p=(bl s).length:=by simp at hge; omega
   have hR:dY (bl s) p=.ok 0 [] 0 p:=by rw [dY,List.getElem?_eq_none (by omega)]
   rw [hR] at hr
   simp only [beq_self_eq_true,aN,SR.app] at hr
   rw [<-hr] at hK
   simp only [SR.toks,SR.err,SR.off,List.map_append,List.map_cons,List.map_nil] at hK
   refine ⟨by omega,.pub 0 _ _ _ rfl (.sel [] (by simp) (by simp [cT]) rfl (.done ?_))⟩
   rw [hpe] at hK
   simpa [go_sem] using hK
structure Ends (ts:List Tk):Prop where
 pos:0 < ts.length
 le:ts.length<=4001
 last:∀ (i:Nat) (t:Tk),ts[i]? = some t->(t.k=0 ↔ i + 1=ts.length)
abbrev iY (T:TypeId) (ts:List Tk) (n:Nat):B:=.cells [.fz (ts.map bE),.vl (.int .i64 n)] T
theorem U0 (T:TypeId) (ts:List Tk) (n:Nat):iY T ts (n + 1)=.cells [.fz (ts.map bE),.vl (.int .i64 ((n:Int) + 1))] T:=rfl
def e7 (T:TypeId) (post:List Tk->Nat->(S->Hp->Prop)->Prop):W.Spec:=fun xs H K=>
 match xs,H with
 | [.va (.c1 (.pt 0 0))],[.cells [.fz r,.vl (.int .i64 a)] T']=>T'=T/\∃ (ts:List Tk) (n:Nat),r=ts.map bE/\a=n/\Ends ts/\n < ts.length/\post ts n K
 | _,_=>False
theorem tR {T:TypeId} {post:List Tk->Nat->(S->Hp->Prop)->Prop} {xs:List S} {H:Hp} {K:S->Hp->Prop} (h:e7 T post xs H K) :
 ∃ ts n,xs=[.va (.c1 (.pt 0 0))]/\H=[iY T ts n]/\Ends ts/\n < ts.length/\post ts n K:=by
 unfold e7 at h
 split at h
 · obtain ⟨rfl,ts,n,rfl,rfl,h1,h2,h3⟩:=h; exact ⟨ts,n,rfl,rfl,h1,h2,h3⟩
 · exact h.elim
theorem KA {T:TypeId} {post:List Tk->Nat->(S->Hp->Prop)->Prop}:∀ xs H K,e7 T post xs H K->xs.length=1:=fun xs H K h=>by obtain ⟨ts,n,rfl,_⟩:=tR h; rfl
attribute [go_sem ↓] e7
def cP (ts:List Tk) (n:Nat):Nat:=if n + 1 < ts.length then n + 1 else n
def cM (T:TypeId):W.Spec:=e7 T fun ts n K=>∀ t,ts[n]? = some t->K (.va (.gs (bE t))) [iY T ts n]
def cU (T:TypeId):W.Spec:=e7 T fun ts n K=>∀ t,ts[n]? = some t->K (.va (.gs (bE t))) [iY T ts (cP ts n)]
attribute [go_sem ↓] cM cU
theorem q9:Meets Tryz.prog 30 (cM 114):=by
 refine aE Tryz.func30 aRK 1 (by rw [Tryz.ntmps30]; decide) (aA _) KA ?_
 intro xs H K h
 obtain ⟨ts,n,rfl,rfl,hE,hn,hK⟩:=tR h
 simp -dsimp only [go_sem,aEZ,aIM]
 refine ⟨fun h=>?_,fun _=>⟨by omega,fun t ht=>.sel [0] (by simp) (by simp) rfl (.done (hK t ht))⟩⟩
 have:=hE.pos; simp at h; simp [h] at this
theorem FZ:Meets Tryz.prog 100 (cU 114):=by
 refine aE Tryz.func100 aMU 1 (by rw [Tryz.ntmps100]; decide) (aB q9 (aA _)) KA ?_
 intro xs H K h
 obtain ⟨ts,n,rfl,rfl,hE,hn,hK⟩:=tR h
 simp -dsimp only [go_sem,YV,YP]
 refine ⟨ts,n,rfl,rfl,hE,hn,fun t ht=>?_⟩
 have hK:=hK t ht
 have hle:=hE.le
 refine ⟨by omega,fun h=>⟨by omega,?_⟩,fun h=>?_⟩
 · have e:cP ts n=n + 1:=if_pos (by simp at h; omega)
   rw [e,U0] at hK
   exact .sel [0] (by simp) (by simp) rfl (.done hK)
 · have e:cP ts n=n:=if_neg (by simp at h; omega)
   rw [e] at hK
   exact .sel [0] (by simp) (by simp) rfl (.done hK)
def bQ (k:Int) (w:List UInt8) (t:Tk):Bool:=t.k == k && t.x == w
def n4 (k:Int) (w:List UInt8) (ts:List Tk) (n:Nat) (t:Tk):Nat:=bif bQ k w t then cP ts n else n
def cL (k:Int) (T:TypeId):W.Spec:=fun xs H K=>
 match xs,H with
 | [.va (.c1 (.pt 0 0)),.va (.c1 (.vl (.string w)))],[.cells [.fz r,.vl (.int .i64 a)] T']=>T'=T/\∃ (ts:List Tk) (n:Nat),r=ts.map bE/\a=n/\Ends ts/\n < ts.length/\
  ∀ t,ts[n]? = some t->K (bS (bQ k (bl w) t)) [iY T ts (n4 k (bl w) ts n t)]
 | _,_=>False
theorem pE {k:Int} {T:TypeId} {xs:List S} {H:Hp} {K:S->Hp->Prop} (h:cL k T xs H K) :
 ∃ w ts n,xs=[.va (.c1 (.pt 0 0)),tS w]/\H=[iY T ts n]/\Ends ts/\n < ts.length/\∀ t,ts[n]? = some t->K (bS (bQ k (bl w) t)) [iY T ts (n4 k (bl w) ts n t)]:=by
 unfold cL at h
 split at h
 · obtain ⟨rfl,ts,n,rfl,rfl,h1,h2,h3⟩:=h; exact ⟨_,ts,n,rfl,rfl,h1,h2,h3⟩
 · exact h.elim
theorem AB {k:Int} {T:TypeId}:∀ xs H K,cL k T xs H K->xs.length=2:=fun xs H K h=>by obtain ⟨w,ts,n,rfl,_⟩:=pE h; rfl
def cZ (T:TypeId):W.Spec:=fun xs H K=>
 match xs,H with
 | [.va (.c1 (.pt 0 0)),.va (.c1 (.vl (.int .i64 k))),.va (.c1 (.vl (.string w)))],[.cells [.fz r,.vl (.int .i64 a)] T']=>T'=T/\∃ (ts:List Tk) (n:Nat),r=ts.map bE/\a=n/\Ends ts/\n < ts.length/\
  ∀ t,ts[n]? = some t->K (bS (bQ k (bl w) t)) [iY T ts (n4 k (bl w) ts n t)]
 | _,_=>False
theorem wH {T:TypeId} {xs:List S} {H:Hp} {K:S->Hp->Prop} (h:cZ T xs H K) :
 ∃ k w ts n,xs=[.va (.c1 (.pt 0 0)),iS .i64 k,tS w]/\H=[iY T ts n]/\Ends ts/\n < ts.length/\∀ t,ts[n]? = some t->K (bS (bQ k (bl w) t)) [iY T ts (n4 k (bl w) ts n t)]:=by
 unfold cZ at h
 split at h
 · obtain ⟨rfl,ts,n,rfl,rfl,h1,h2,h3⟩:=h; exact ⟨_,_,ts,n,rfl,rfl,h1,h2,h3⟩
 · exact h.elim
theorem NT {T:TypeId}:∀ xs H K,cZ T xs H K->xs.length=3:=fun xs H K h=>by obtain ⟨k,w,ts,n,rfl,_⟩:=wH h; rfl
attribute [go_sem ↓] cL cZ
theorem ZO:Meets Tryz.prog 120 (cZ 114):=by
 refine aE Tryz.func120 aLM 3 (by rw [Tryz.ntmps120]; decide) (aB q9 (aB FZ (aA _))) NT ?_
 intro xs H K h
 obtain ⟨k,w,ts,n,rfl,rfl,hE,hn,hK⟩:=wH h
 simp -dsimp only [go_sem,XS,YG]
 refine ⟨ts,n,rfl,rfl,hE,hn,fun t ht=>?_⟩
 have hK:=hK t ht
 have hg:(t.k != k || !t.x == bl w)=!(bQ k (bl w) t):=by simp [bQ,bne,Bool.not_and]
 rw [hg]
 refine ⟨fun h=>?_,fun h=>⟨ts,n,rfl,rfl,hE,hn,fun u hu=>?_⟩⟩
 · have h:bQ k (bl w) t=false:=by simpa using h
   simp only [n4,h,aH] at hK
   exact .sel [0] (by simp) (by simp) rfl (.done hK)
 · have h:bQ k (bl w) t=true:=by simpa using h
   simp only [n4,h,aN] at hK
   exact .sel [0] (by simp) (by simp) rfl (.done hK)
theorem aHP:Meets Tryz.prog 148 (cL 4 114):=by
 refine aE Tryz.func148 aJE 2 (by rw [Tryz.ntmps148]; decide) (aB ZO (aA _)) AB ?_
 intro xs H K h
 obtain ⟨w,ts,n,rfl,rfl,hE,hn,hK⟩:=pE h
 simp -dsimp only [go_sem,WD,ZD]
 refine ⟨ts,n,rfl,rfl,hE,hn,fun t ht=>.done ?_⟩
 exact hK t ht
theorem aC9:Meets Tryz.prog 95 (cL 1 114):=by
 refine aE Tryz.func95 aO0 2 (by rw [Tryz.ntmps95]; decide) (aB ZO (aA _)) AB ?_
 intro xs H K h
 obtain ⟨w,ts,n,rfl,rfl,hE,hn,hK⟩:=pE h
 simp -dsimp only [go_sem,aDY,aDM]
 refine ⟨ts,n,rfl,rfl,hE,hn,fun t ht=>.done ?_⟩
 exact hK t ht
def iD:W.Spec:=fun xs H K=>
 match xs,H with
 | [.va (.c1 (.vl (.string s)))],[]=>((bD (bl s)).err=0->K (.tu [.c1 (.pt 0 0),iA .i64 0,iA .i64 0]) [iY 114 (bD (bl s)).toks 0])/\
  ((bD (bl s)).err ≠ 0->K (.tu [.c1 (.vl (.pointer none)),iA .i64 (bD (bl s)).err,iA .i64 (bD (bl s)).off]) [])
 | _,_=>False
theorem yS {xs:List S} {H:Hp} {K:S->Hp->Prop} (h:iD xs H K):∃ s,xs=[tS s]/\H=[]/\((bD (bl s)).err=0->K (.tu [.c1 (.pt 0 0),iA .i64 0,iA .i64 0]) [iY 114 (bD (bl s)).toks 0])/\
 ((bD (bl s)).err ≠ 0->K (.tu [.c1 (.vl (.pointer none)),iA .i64 (bD (bl s)).err,iA .i64 (bD (bl s)).off]) []):=by
 unfold iD at h
 split at h
 · exact ⟨_,rfl,rfl,h.1,h.2⟩
 · exact h.elim
attribute [go_sem ↓] iD
theorem aQZ:Meets Tryz.prog 29 iD:=by
 refine aE Tryz.func29 aQ6 1 (by rw [Tryz.ntmps29]; decide) (aB aJ6 (aA _)) (fun xs H K h=>by obtain ⟨s,rfl,_⟩:=yS h; rfl) ?_
 intro xs H K h
 obtain ⟨s,rfl,rfl,hK1,hK2⟩:=yS h
 simp -dsimp only [go_sem,aC4,aIB]
 refine ⟨fun h=>.done (hK2 (by simpa using h)),fun h=>?_⟩
 have hK:=hK1 (by simpa using h)
 exact .sel [0] (by simp) (by simp) rfl (.done hK)
end Go.Proofs.YtkpohmhenegkiaaGreatDoor
namespace Go.Proofs.YtkpohmhenegkiaaGreatDoor.Pr
open Go.W
def pc96:PC:=.seq (.reg [.q 2 (.mv (.k (.string (mk []))))]) (.seq (.reg [.e 3 (.al (.agg #[(.pointer none),(.slice none 0 0)]) 146)]) (.seq (.seq (.reg [.v 8 0,.q 9 (.lnL (.t 8)),.q 10 (.mv (.i 0))]) (.block 0 (.loop (.seq (.reg [.q 11 (.bin .lss true (.t 10) (.t 9))]) (.seq (.cond (.t 11) .skip (.exit 0)) (.seq (.block 1 (.seq (.reg [.l 12 (.ia 4 (.t 8) (.t 10)),.l 13 (.ldn 4 (.t 12)),.e 5 (.al (.agg #[(.int .i64 0),(.string (mk [])),(.int .i64 0),(.int .i64 0)]) 71),.s (.st 4 (.t 5) (.t 13))]) (.seq (.reg [.l 15 (.ldn 4 (.t 5)),.a 16 (.cl 121 [(.t 15)] []),.v 14 16,.q 17 (.ex (.t 14) 0),.q 18 (.ex (.t 14) 1),.v 6 17,.v 7 18]) (.seq (.seq (.reg [.v 19 7,.q 20 (.not (.t 19))]) (.cond (.t 20) (.exit 1) .skip)) (.seq (.seq (.reg [.a 21 (.cl 122 [(.t 3)] [0,1]),.q 22 (.bin .gtr true (.t 21) (.i 0))]) (.cond (.t 22) (.reg [.a 23 (.cl 123 [(.t 3),(.k (.int .u8 32))] [0,1])]) .skip)) (.reg [.v 24 6,.a 25 (.cl 124 [(.t 3),(.t 24)] [0,1])])))))) (.reg [.q 26 (.bin .add true (.t 10) (.i 1)),.v 10 26]))))))) (.seq (.reg [.a 27 (.cl 125 [(.t 3)] [0,1]),.v 2 27]) .ret)))
def rs96:List RV:=[.mv (.t 2)]
theorem ok96:aP Tryz.prog true ⟨fun r k=>if r=7/\k=0 then .own [0,1] else if r=8/\k=0 then .own [0,1] else if r=9/\k=1 then .own [0,1] else if r=11/\k=0 then .own [0,1] else .own [],fun _=>false⟩ Tryz.f96=some (pc96,rs96):=by kernel_rfl
def pc124:PC:=.seq (.reg [.q 4 (.mv (.i 0)),.q 5 (.mv (.k .nilIface))]) (.seq (.reg [.v 6 0,.a 7 (.cl 147 [(.t 6)] [0,1])]) (.seq (.reg [.v 8 0,.v 9 0,.q 10 (.nc (.t 9)),.q 11 (.fa 1 (.t 10)),.l 12 (.ld1 (.t 11)),.v 13 1,.e 14 (.aps 5 (.t 12) (.t 13)),.q 15 (.nc (.t 8)),.q 16 (.fa 1 (.t 15)),.s (.st 1 (.t 16) (.t 14))]) (.seq (.reg [.v 17 1,.q 18 (.lnS (.t 17)),.v 4 18,.q 5 (.mv (.k .nilIface))]) .ret)))
def rs124:List RV:=[.mv (.t 4),.mv (.t 5)]
theorem ok124:aP Tryz.prog true ⟨fun r k=>if r=1/\k=1 then .own [0,1] else .own [],fun _=>false⟩ Tryz.f124=some (pc124,rs124):=by kernel_rfl
def pc144_4:PC:=.seq (.gh (.reg [.q 4 (.mv (.k (.string (mk []))))])) (.seq (.seq (.reg [.q 5 (.mv (.k (.bool true)))]) (.block 0 (.loop (.seq (.seq (.reg [.v 12 5,.v 13 12,⟨some 14,(some (13,false)),.q (.mv (.t 3))⟩,⟨some 15,(some (13,false)),.q (.bin .gtr true (.t 14) (.k (.int .u64 0)))⟩,.a 16 (.pick (.t 13) (.k (.bool true)) (.t 15))]) (.cond (.t 16) .skip (.exit 0))) (.seq (.block 1 (.seq (.reg [.v 17 3,.q 18 (.bin .rem true (.t 17) (.k (.int .u64 10))),.q 19 (.bin .add true (.k (.int .u64 48)) (.t 18)),.q 20 (.cvt .u8 (.t 19)),.e 21 (.bsl 5 1 [(.t 20)]),.q 22 (.b2s (.t 21)),.v 23 4,.q 24 (.bin .add true (.t 22) (.t 23)),.v 4 24]) (.reg [.v 25 3,.q 26 (.bin .quo true (.t 25) (.k (.int .u64 10))),.v 3 26]))) (.reg [.q 5 (.mv (.k (.bool false)))])))))) (.seq (.seq (.reg [.v 27 0,.q 28 (.bin .lss true (.t 27) (.i 0))]) (.cond (.t 28) (.seq (.reg [.v 29 4,.q 30 (.bin .add true (.k (.string (mk [45]))) (.t 29)),.v 2 30]) .ret) .skip)) (.seq (.reg [.v 31 4,.v 2 31]) .ret)))
@[go_sem ↓] theorem R3:aT pc144_4:=aU _
def pc144:PC:=.seq (.reg [.q 2 (.mv (.k (.string (mk []))))]) (.seq (.reg [.v 6 0,.q 7 (.cvt .u64 (.t 6)),.v 3 7]) (.seq (.seq (.reg [.v 8 0,.q 9 (.bin .lss true (.t 8) (.i 0))]) (.cond (.t 9) (.reg [.v 10 3,.q 11 (.neg false (.t 10)),.v 3 11]) .skip)) (pc144_4)))
def rs144:List RV:=[.mv (.t 2)]
theorem ok144:aP Tryz.prog true ⟨fun _ _=>.own [],fun r=>[4].contains r⟩ Tryz.f144=some (pc144,rs144):=by kernel_rfl
end Go.Proofs.YtkpohmhenegkiaaGreatDoor.Pr
namespace Go.Proofs.YtkpohmhenegkiaaGreatDoor
open Go.W
def digs (n:Nat):List UInt8:=(if h:n < 10 then [] else digs (n / 10)) ++ [(48 + n % 10).toUInt8]
 termination_by n
 decreasing_by omega
theorem CT {n:Nat} (h:n < 10):digs n=[(48 + n).toUInt8]:=by
 rw [digs.eq_1,dif_pos h,Nat.mod_eq_of_lt h]; rfl
theorem K4 {n:Nat} (h:10<=n):digs n=digs (n / 10) ++ [(48 + n % 10).toUInt8]:=by
 rw [digs.eq_1,dif_neg (by omega)]
theorem w9:∀ (k n:Nat),n < 10 ^ (k + 1)->(digs n).length<=k + 1
 | 0,n,h=>by rw [CT (by omega)]; simp
 | k + 1,n,h=>by
  rcases bF n 10 with h1 | h1
  · rw [CT h1]; simp
  · rw [K4 h1,List.length_append]
    have:=w9 k (n / 10) (by rw [Nat.pow_succ] at h; omega)
    simp; omega
def kO (n:Int):List UInt8:=bif decide (n < 0) then 45 :: digs n.natAbs else digs n.natAbs
def rP (f:Bool) (u:Nat):List UInt8:=bif f || decide (0 < u) then digs u else []
theorem OH {f:Bool} {u:Nat} (h:(f || decide (0 < u))=true):rP f u=rP false (u / 10) ++ [(48 + u % 10).toUInt8]:=by
 unfold rP
 rw [h,aN,Bool.false_or]
 rcases bF u 10 with h1 | h1
 · rw [CT h1,Nat.mod_eq_of_lt h1,show decide (0 < u / 10)=false by simp; omega]; rfl
 · rw [K4 h1,show decide (0 < u / 10)=true by simp; omega]; rfl
def AT:List S->Prop:=fun xs=>match xs with
 | [.va (.c1 (.vl (.int .i64 n)))]=>-9223372036854775808<=n/\n<=9223372036854775807
 | _=>False
theorem pI {xs:List S} (h:AT xs):∃ n:Int,xs=[iS .i64 n]/\-9223372036854775808<=n/\n<=9223372036854775807:=by
 unfold AT at h
 split at h
 · exact ⟨_,rfl,h⟩
 · exact h.elim
def QT:List S->A:=fun xs=>match xs with
 | [.va (.c1 (.vl (.int .i64 n)))]=>tA (mk (kO n))
 | _=>.gs []
def decFn:Fun:=⟨AT,QT,fun xs h=>by obtain ⟨n,rfl,_⟩:=pI h; trivial⟩
theorem PU:∀ xs H K,decFn.sp xs H K->xs.length=1:=fun xs H K h=>by obtain ⟨n,rfl,_⟩:=pI h.1.1; rfl
attribute [go_sem ↓] AT QT decFn
theorem T8:Meets Tryz.prog 144 decFn.sp:=by
 refine aE Tryz.func144 Pr.ok144 1 (by rw [Tryz.ntmps144]; decide) (aA _) PU ?_
 intro xs H K h
 obtain ⟨⟨hp,rfl⟩,hK⟩:=h
 obtain ⟨n,rfl,hn1,hn2⟩:=pI hp
 have hK':K (tS (mk (kO n))) []:=hK
 have rest:vc [] 0 Pr.pc144_4.ungh (dS [(0,iS .i64 n),(3,iS .u64 n.natAbs)]) [] (f7 0 Pr.rs144 K):=by
  simp -dsimp only [go_sem,Pr.pc144_4,Pr.rs144]
  refine aK (α:=Bool × Nat × List UInt8) (fun z=>[(0,iS .i64 n),(3,iS .u64 z.2.1),(4,tS (mk z.2.2)),(5,bS z.1)]) (fun _=>[]) (fun z=>z.2.1<=9223372036854775808/\rP z.1 z.2.1 ++ z.2.2=digs n.natAbs) (fun z=>2 * z.2.1 + (bif z.1 then 1 else 0)) (true,n.natAbs,[]) 0 ⟨by simp only; omega,by simp [rP]⟩ ?_ rfl ?_
  · simp [go_sem]
  rintro ⟨f,u,acc⟩ ⟨hu,hr⟩
  simp only at hu hr
  have hl:=w9 19 n.natAbs (by omega)
  rw [<-hr,List.length_append] at hl
  simp -dsimp only [go_sem]
  have hu0:decide (0 < (u:Int))=decide (0 < u):=by rw [decide_eq_decide]; omega
  have ht:(u:Int).tmod 10=(u % 10:Nat):=by rw [Int.tmod_eq_emod_of_nonneg (by omega)]; omega
  have hd:(u:Int).tdiv 10=(u / 10:Nat):=by rw [Int.tdiv_eq_ediv_of_nonneg (by omega)]; omega
  have hm:=Nat.mod_lt u (show 0 < 10 by decide)
  have hw:IntKind.u8.wrap (48 + ((u % 10:Nat):Int))=48 + ((u % 10:Nat):Int):=lH (by simp [inr,IntKind.min,IntKind.max,IntKind.signed,IntKind.bits]; omega)
  rw [hu0,ht,hd,hw]
  have hb:kM [[C.vl (Value.int IntKind.u8 (48 + ((u % 10:Nat):Int)))]]=[(48 + u % 10).toUInt8]:=by
   show [UInt8.ofNat (48 + ((u % 10:Nat):Int)).toNat]=_
   rw [show (48 + ((u % 10:Nat):Int)).toNat=48 + u % 10 by omega]
  rw [hb]
  refine ⟨fun hf=>⟨by decide,by omega,rfl,by simp; omega,⟨by decide,by omega⟩,?_⟩,fun hf=>⟨fun h0=>⟨by omega,?_⟩,fun h0=>?_⟩⟩
  · rw [OH hf,List.append_assoc] at hr
    refine aC (false,u / 10,[(48 + u % 10).toUInt8] ++ acc) 0 ⟨by simp only; omega,hr⟩ ?_ ?_ rfl
    · cases f with
      | true=>simp only [aN,aH]; omega
      | false=>simp at hf; simp only [aH]; omega
    · simp [go_sem]
  · have:acc=digs n.natAbs:=by rw [<-hr]; simp [rP,hf]
    refine .done ?_
    rw [this]
    simpa [kO,h0] using hK'
  · have:acc=digs n.natAbs:=by rw [<-hr]; simp [rP,hf]
    refine .done ?_
    rw [this]
    simpa [kO,h0] using hK'
 simp -dsimp only [go_sem,Pr.pc144,Pr.rs144]
 have w:∀ m:Int,IntKind.u64.wrap m=m % 18446744073709551616:=fun m=>by simp [IntKind.wrap,IntKind.signed,IntKind.bits]
 refine ⟨fun h0=>b8 0 rest ?_ rfl,fun h0=>b8 0 rest ?_ rfl⟩
 · simp at h0
   simp [go_sem,w]
   omega
 · simp at h0
   simp [go_sem,w]
   omega
def xR (c:UInt8):List UInt8:=bif c == 34 || c == 92 then [92,c] else [c]
def jI (l:List UInt8) (i:Nat):List UInt8:=34 :: (l.take i).flatMap xR
def xE (l:List UInt8):List UInt8:=34 :: l.flatMap xR ++ [34]
theorem RE {l:List UInt8} {i:Nat} {c:UInt8} (h:l[i]? = some c):jI l (i + 1)=jI l i ++ xR c:=by
 unfold jI
 rw [List.take_add_one,h]
 simp
theorem SV (c:UInt8):(xR c).length<=2:=by unfold xR; cases c == 34 || c == 92<;>simp
theorem D4 (l:List UInt8):(l.flatMap xR).length<=2 * l.length:=by
 induction l with
 | nil=>simp
 | cons c l ih=>have:=SV c; simp only [List.flatMap_cons,List.length_append,List.length_cons]; omega
theorem VJ (l:List UInt8) (i:Nat):(jI l i).length<=1 + 2 * l.length:=by
 have:=D4 (l.take i)
 simp only [jI,List.length_cons]
 simp only [List.length_take] at this
 omega
theorem V5 (l:List UInt8):jI l l.length ++ [34]=xE l:=by unfold jI xE; rw [List.take_length]
def yR:List S->Prop:=fun xs=>match xs with
 | [.va (.c1 (.vl (.string s)))]=>(bl s).length<=10000000
 | _=>False
theorem pB {xs:List S} (h:yR xs):∃ s,xs=[tS s]/\(bl s).length<=10000000:=by
 unfold yR at h
 split at h
 · exact ⟨_,rfl,h⟩
 · exact h.elim
def P4:List S->A:=fun xs=>match xs with
 | [.va (.c1 (.vl (.string s)))]=>tA (mk (xE (bl s)))
 | _=>.gs []
def quoFn:Fun:=⟨yR,P4,fun xs h=>by obtain ⟨s,rfl,_⟩:=pB h; trivial⟩
theorem QA:∀ xs H K,quoFn.sp xs H K->xs.length=1:=fun xs H K h=>by obtain ⟨s,rfl,_⟩:=pB h.1.1; rfl
attribute [go_sem ↓] yR P4 quoFn
theorem G7 (l:List UInt8):kM (l.map iL)=l:=by
 simp only [kM,List.map_map]
 conv=>rhs; rw [<-List.map_id l]
 apply List.map_congr_left
 intro c _
 simp [C.gi,iL]
theorem aAX:Meets Tryz.prog 145 quoFn.sp:=by
 refine aE Tryz.func145 aJU 1 (by rw [Tryz.ntmps145]; decide) (aA _) QA ?_
 intro xs H K h
 obtain ⟨⟨hp,rfl⟩,hK⟩:=h
 obtain ⟨s,rfl,hs⟩:=pB hp
 have hK':K (tS (mk (xE (bl s)))) []:=hK
 have h34:∀ c:UInt8,((c.toNat:Int) == 34)=(c == 34):=fun c=>eR 34
 have h92:∀ c:UInt8,((c.toNat:Int) == 92)=(c == 92):=fun c=>eR 92
 simp -dsimp only [go_sem,XO,ZA]
 refine aK (α:=Nat) (fun i=>[(0,tS s),(3,.va (.c1 (.sl 0 (jI (bl s) i).length))),(7,iS .i64 (bl s).length),(8,iS .i64 i)]) (fun i=>[.row ((jI (bl s) i).map iL) 5 1]) (fun i=>i<=(bl s).length) (fun i=>(bl s).length - i) 0 1 (by omega) ?_ (by simp [go_sem,jI]) ?_
 · simp [go_sem,jI]
 intro i hi
 have hl:=VJ (bl s) i
 simp -dsimp only [go_sem,h34,h92]
 have hap:∀ (l:List UInt8) (c:UInt8),l.map iL ++ [[C.vl (.int .u8 c.toNat)]]=(l ++ [c]).map iL:=fun l c=>by rw [List.map_append]; rfl
 have hap34:(jI (bl s) i).map iL ++ [[C.vl (.int .u8 34)]]=(jI (bl s) i ++ [34]).map iL:=hap _ 34
 have hap92:(jI (bl s) i).map iL ++ [[C.vl (.int .u8 92)]]=(jI (bl s) i ++ [92]).map iL:=hap _ 92
 refine ⟨fun h1=>?_,fun h1=>?_⟩
 · simp at h1
   refine ⟨by omega,fun c hc=>⟨fun _=>by omega,fun d hd=>?_⟩⟩
   have hE:(c == 34 || d == 92)=(c == 34 || c == 92):=by
    cases h7:c == 34 with
    | true=>rfl
    | false=>
     have:=hd h7
     rw [hc] at this
     obtain rfl:=bN this
     rfl
   have hst:=RE hc
   rw [hE]
   unfold xR at hst
   refine ⟨fun h2=>⟨by omega,by omega,fun e he=>?_⟩,fun h2=>⟨by omega,fun e he=>?_⟩⟩
   · rw [hc] at he
     obtain rfl:=bN he
     rw [h2,aN] at hst
     have hst':jI (bl s) (i + 1)=jI (bl s) i ++ [92] ++ [c]:=by rw [hst,List.append_assoc]; rfl
     refine ⟨by omega,by omega,?_⟩
     refine aC (i + 1) 1 (by omega) (by omega) ?_ ?_
     · simp -dsimp only [go_sem,hst']
       simp
     · simp -dsimp only [go_sem,hst',List.map_cons,List.map_nil]
       rfl
   · rw [hc] at he
     obtain rfl:=bN he
     rw [h2,aH] at hst
     refine ⟨by omega,by omega,?_⟩
     refine aC (i + 1) 1 (by omega) (by omega) ?_ ?_
     · simp -dsimp only [go_sem,hst]
       simp
     · simp -dsimp only [go_sem,hst,List.map_cons,List.map_nil]
 · simp at h1
   obtain rfl:i=(bl s).length:=by omega
   rw [hap34,G7,V5]
   refine ⟨by omega,fun r hr=>?_,.sel [] (by simp) (by simp) rfl (.done hK')⟩
   obtain ⟨c,_,rfl⟩:=List.mem_map.1 hr
   rfl
def NO:W.Spec:=fun av H K=>
 match av,H with
 | [.va (.c1 (.pt 0 0)),.va (.c1 (.vl (.string s)))],[.cells [p,.sl 1 n] 146,.row xs 5 1]=>(j0 p n xs/\(bl s).length<=1000000000)/\
  K (.tu [iA .i64 (bl s).length,.c1 (.vl .nilIface)]) [.cells [.pt 0 0,.sl 1 (n + (bl s).length)] 146,.row (xs ++ (bl s).map iL) 5 1]
 | _,_=>False
theorem DZ {av:List S} {H:Hp} {K:S->Hp->Prop} (h:NO av H K):∃ p n xs s,av=[.va (.c1 (.pt 0 0)),tS s]/\H=[.cells [p,.sl 1 n] 146,.row xs 5 1]/\j0 p n xs/\(bl s).length<=1000000000/\
 K (.tu [iA .i64 (bl s).length,.c1 (.vl .nilIface)]) [.cells [.pt 0 0,.sl 1 (n + (bl s).length)] 146,.row (xs ++ (bl s).map iL) 5 1]:=by
 unfold NO at h
 split at h
 · exact ⟨_,_,_,_,rfl,rfl,h.1.1,h.1.2,h.2⟩
 · exact h.elim
attribute [go_sem ↓] NO
theorem IU:Meets Tryz.prog 124 NO:=by
 refine aE Tryz.func124 Pr.ok124 2 (by rw [Tryz.ntmps124]; decide) (aB zV (aA _)) (fun av H K h=>by obtain ⟨_,_,_,_,rfl,_⟩:=DZ h; rfl) ?_
 intro av H K h
 obtain ⟨p,n,xs,s,rfl,rfl,hp,hs,hK⟩:=DZ h
 obtain ⟨hp1,rfl,hp2,hp3⟩:=hp
 rcases hp1 with rfl | rfl
 all_goals
  simp -dsimp only [go_sem,Pr.pc124,Pr.rs124] at hK ⊢
  exact ⟨⟨by simp,rfl,hp2,hp3⟩,by omega,.done hK⟩
def mJ (c:UInt8):Bool:=decide (32<=c) && decide (c<=126)
def mI (k:Int) (x:List UInt8) (n:Int):List UInt8:=bif k == 1 then x else bif k == 2 then kO n else bif k == 3 then xE x else bif k == 4 then x else []
def n2 (k:Int) (x:List UInt8) (n:Int):Bool:=
 bif k == 1 then n == 0 && c8 x else bif k == 2 then x == [] else bif k == 3 then n == 0 && (decide (x.length<=200) && x.all mJ) else bif k == 4 then n == 0 && (match x with | [c]=>fA c.toNat | _=>false) else false
def zO:W.Spec:=fun xs H K=>
 match xs with
 | [.va (.gs [.vl (.int .i64 k),.vl (.string x),.vl (.int .i64 n),.vl (.int .i64 _)])]=>(H=[]/\(-9223372036854775808<=n/\n<=9223372036854775807)/\(bl x).length<=10000000)/\K (.tu [tA (mk (mI k (bl x) n)),bA (n2 k (bl x) n)]) []
 | _=>False
theorem AS {xs:List S} {H:Hp} {K:S->Hp->Prop} (h:zO xs H K):∃ k x n a,xs=[.va (.gs (nO k x n a))]/\H=[]/\(-9223372036854775808<=n/\n<=9223372036854775807)/\(bl x).length<=10000000/\K (.tu [tA (mk (mI k (bl x) n)),bA (n2 k (bl x) n)]) []:=by
 unfold zO at h
 split at h
 · exact ⟨_,_,_,_,rfl,h.1.1,h.1.2.1,h.1.2.2,h.2⟩
 · exact h.elim
theorem RG:∀ xs H K,zO xs H K->xs.length=1:=fun xs H K h=>by obtain ⟨_,_,_,_,rfl,_⟩:=AS h; rfl
attribute [go_sem ↓] zO
theorem S2:Meets Tryz.prog 121 zO:=by
 refine aE Tryz.func121 aL5 1 (by rw [Tryz.ntmps121]; decide) (aG aCE (aG T8 (aG aAX (aG JI (aA _))))) RG ?_
 intro xs H K h
 obtain ⟨k,x,n,a,rfl,rfl,hn,hx,hK⟩:=AS h
 simp -dsimp only [go_sem,ZB,X7]
 have fin:∀ (H':Hp) (y:ByteArray) (b:Bool),y=mk (mI k (bl x) n)->b=n2 k (bl x) n->W.Fin 0 K (.tu [tA y,bA b]) H':=fun H' y b h1 h2=>by
  subst h1; subst h2
  exact .sel [] (by simp) (by simp) rfl (.done hK)
 refine ⟨fun h1=>fin _ _ _ (by simp [mI,h1]) (by simp [n2,h1]),fun h1=>⟨fun h2=>⟨hn,fin _ _ _ (by simp [mI,h1,h2]) (by simp [n2,h1,h2])⟩,fun h2=>⟨fun h3=>?_,fun h3=>⟨fun h4=>?_,fun h4=>fin _ _ _ (by simp [mI,h1,h2,h3,h4]) (by simp [n2,h1,h2,h3,h4])⟩⟩⟩⟩
 · refine aK (α:=Nat) (fun i=>[(1,.va (.c1 (.pt 0 0))),(4,bS (n == 0 && (decide ((bl x).length<=200) && ((bl x).take i).all mJ))),(41,iS .i64 (bl x).length),(42,iS .i64 i)]) (fun _=>[.cells (nO k x n a) 71]) (fun i=>i<=(bl x).length) (fun i=>(bl x).length - i) 0 1 (by omega) ?_ (by simp [go_sem]) ?_
   · simp [go_sem]
     congr 1
     rw [decide_eq_decide]; omega
   intro i hi
   simp -dsimp only [go_sem]
   refine ⟨fun h5=>⟨fun _=>by simp at h5; omega,fun c hc=>⟨fun _=>by simp at h5; omega,fun d hd=>⟨by omega,aC (i + 1) 1 (by simp at h5; omega) (by simp at h5; omega) ?_ (by simp [go_sem])⟩⟩⟩,fun h5=>?_⟩
   · have hE:(n == 0 && (decide ((bl x).length<=200) && (List.take i (bl x)).all mJ) && decide (32<=(c.toNat:Int)) && decide ((d.toNat:Int)<=126))=(n == 0 && (decide ((bl x).length<=200) && (List.take (i + 1) (bl x)).all mJ)):=by
      have hlt:i < (bl x).length:=by simp at h5; omega
      have hg:=a7 hlt
      rw [List.take_add_one,hg,List.all_append]
      generalize (bl x)[i]=e at hg
      simp only [Option.toList_some,List.all_cons,List.all_nil,Bool.and_true]
      have hb:∀ p q r s:Bool,(p && (q && (r && s)))=(p && (q && r) && s):=by decide
      rw [hb]
      generalize (n == 0 && (decide ((bl x).length<=200) && (List.take i (bl x)).all mJ))=g at hc hd ⊢
      cases g with
      | false=>rfl
      | true=>
       obtain rfl:e=c:=by have:=hc rfl; rw [hg] at this; exact bN this
       have e32:decide (32<=(e.toNat:Int))=decide (32<=e):=by rw [decide_eq_decide,UInt8.le_iff_toNat_le]; show _ ↔ 32<=e.toNat; omega
       have e126:∀ d:UInt8,decide ((d.toNat:Int)<=126)=decide (d<=126):=fun d=>by rw [decide_eq_decide,UInt8.le_iff_toNat_le]; show _ ↔ d.toNat<=126; omega
       rw [e32] at hd ⊢
       rw [e126]
       unfold mJ
       cases h6:decide (32<=e) with
       | false=>rfl
       | true=>
        rw [h6] at hd
        obtain rfl:e=d:=by have:=hd rfl; rw [hg] at this; exact bN this
        rfl
     rw [<-hE]
     simp [go_sem]
   · obtain rfl:i=(bl x).length:=by simp at h5; omega
     rw [List.take_length]
     exact ⟨hx,fin _ _ _ (by simp [mI,h1,h2,h3]) (by simp [n2,h1,h2,h3])⟩
 · refine ⟨fun h5=>by simp at h5; omega,fun c hc=>⟨fun _=>by have:=c.toNat_lt; omega,fin _ _ _ (by simp [mI,h1,h2,h3,h4]) ?_⟩⟩
   rw [aD4]
   simp only [n2,h1,h2,h3,h4,aN,aH]
   cases h6:n == 0 with
   | false=>rfl
   | true=>
    rw [h6] at hc
    cases hb:bl x with
    | nil=>rfl
    | cons d r=>
     rw [hb] at hc
     cases r with
     | nil=>
      obtain rfl:d=c:=by simpa using hc
      rfl
     | cons e r=>
      have:((((d :: e :: r).length:Nat):Int) == 1)=false:=by simp; omega
      rw [this]; rfl
structure Tx where
 k:Int
 x:List UInt8
 n:Int
 a:Int
abbrev FB (t:Tx):List C:=nO t.k (mk t.x) t.n t.a
structure TkFit (t:Tx):Prop where
 lo:-9223372036854775808<=t.n
 hi:t.n<=9223372036854775807
 len:t.x.length<=100000
def tE (acc:List UInt8) (t:Tx):List UInt8:=bif n2 t.k t.x t.n then acc ++ (bif (acc == []) then [] else [32]) ++ mI t.k t.x t.n else acc
def lU (ts:List Tx):List UInt8:=ts.foldl tE []
def eH (ts:List Tx) (i:Nat):List UInt8:=(ts.take i).foldl tE []
theorem vV {ts:List Tx} {i:Nat} {t:Tx} (h:ts[i]? = some t):eH ts (i + 1)=tE (eH ts i) t:=by
 unfold eH
 rw [List.take_add_one,h,List.foldl_append]; rfl
theorem z7 (ts:List Tx):eH ts ts.length=lU ts:=by unfold eH lU; rw [List.take_length]
theorem V3 {n:Int} (h1:-9223372036854775808<=n) (h2:n<=9223372036854775807):(kO n).length<=21:=by
 have:=w9 19 n.natAbs (by omega)
 unfold kO
 cases decide (n < 0)<;>simp<;>omega
theorem IB {t:Tx} (h:TkFit t):(mI t.k t.x t.n).length<=200002:=by
 have h1:=V3 h.lo h.hi
 have h2:=D4 t.x
 have h3:=h.len
 unfold mI xE
 cases t.k == 1<;>cases t.k == 2<;>cases t.k == 3<;>cases t.k == 4<;>simp -dsimp only [aN,aH,List.length_append,List.length_cons,List.length_nil]<;>omega
theorem VU {acc:List UInt8} {t:Tx} (h:TkFit t):(tE acc t).length<=acc.length + 200003:=by
 have:=IB h
 unfold tE
 cases n2 t.k t.x t.n<;>cases (acc == [])<;>simp<;>omega
theorem BF {ts:List Tx} (h:∀ t ∈ ts,TkFit t):∀ i,i<=ts.length->(eH ts i).length<=i * 200003
 | 0,_=>by simp [eH]
 | i + 1,hi=>by
  have h1:=BF h i (by omega)
  have hg:ts[i]? = some ts[i]:=a7 (by omega)
  rw [vV hg]
  have:=VU (acc:=eH ts i) (h _ (bT hg))
  omega
def HK:List S->Prop:=fun xs=>match xs with
 | [.va (.c1 (.fz rs))]=>∃ ts:List Tx,rs=ts.map FB/\ts.length<=4001/\∀ t ∈ ts,TkFit t
 | _=>False
theorem pC {xs:List S} (h:HK xs):∃ ts:List Tx,xs=[.va (.c1 (.fz (ts.map FB)))]/\ts.length<=4001/\∀ t ∈ ts,TkFit t:=by
 unfold HK at h
 split at h
 · obtain ⟨ts,rfl,h1,h2⟩:=h
   exact ⟨_,rfl,h1,h2⟩
 · exact h.elim
def C.tk (r:List C):Tx:=match r with
 | [.vl (.int .i64 k),.vl (.string x),.vl (.int .i64 n),.vl (.int .i64 a)]=>⟨k,bl x,n,a⟩
 | _=>⟨0,[],0,0⟩
theorem aGH (t:Tx):C.tk (FB t)=t:=rfl
def HB:List S->A:=fun xs=>match xs with
 | [.va (.c1 (.fz rs))]=>tA (mk (lU (rs.map C.tk)))
 | _=>.gs []
theorem tV (ts:List Tx):HB [.va (.c1 (.fz (ts.map FB)))]=tA (mk (lU ts)):=by
 show tA (mk (lU ((ts.map FB).map C.tk)))=_
 rw [List.map_map,show (C.tk ∘ FB)=id from funext aGH,List.map_id]
def prtFn:Fun:=⟨HK,HB,fun xs h=>by obtain ⟨ts,rfl,_⟩:=pC h; rw [tV]; trivial⟩
theorem RR:∀ xs H K,prtFn.sp xs H K->xs.length=1:=fun xs H K h=>by obtain ⟨ts,rfl,_⟩:=pC h.1.1; rfl
theorem aDS:Meets Tryz.prog 96 prtFn.sp:=by
 refine aE Tryz.func96 Pr.ok96 1 (by rw [Tryz.ntmps96]; decide) (aB S2 (aB aCX (aB AH (aB IU (aB K9 (aA _)))))) RR ?_
 intro xs H K h
 obtain ⟨⟨hp,rfl⟩,hK⟩:=h
 obtain ⟨ts,rfl,h60,hf⟩:=pC hp
 have hK':K (tS (mk (lU ts))) []:=by have:=hK; rw [show prtFn.val=HB from rfl,tV] at this; exact this
 simp -dsimp only [go_sem,Pr.pc96,Pr.rs96]
 refine dW (α:=C × Nat) (fun z=>[(3,.va (.c1 (.pt 0 0))),(8,.va (.c1 (.fz (ts.map FB)))),(9,iS .i64 ts.length),(10,iS .i64 z.2)])
  (fun z=>[.cells [z.1,.sl 1 (eH ts z.2).length] 146,.row ((eH ts z.2).map iL) 5 1])
  (fun z=>(z.1=.vl (.pointer none)\/z.1=.pt 0 0)/\z.2<=ts.length) (fun z=>ts.length - z.2)
  (.nilc 0 1 5 1 _ _ rfl rfl (lR (.vl (.pointer none),0) 2 ⟨.inl rfl,by simp only; omega⟩ ?_ ?_)) ?_
 · simp [go_sem]
 · simp -dsimp only [go_sem]; simp [eH]
 rintro ⟨p,i⟩ ⟨hp,hi⟩
 simp only at hp hi
 have hl:=BF hf i hi
 have hby:∀ (l:List UInt8),∀ r ∈ l.map iL,∃ c:UInt8,r=iL c:=fun l r hr=>by obtain ⟨c,_,rfl⟩:=List.mem_map.1 hr; exact ⟨c,rfl⟩
 have hI:∀ (p:C) (l:List UInt8),(p=.vl (.pointer none)\/p=.pt 0 0)->l.length<=1000000000->j0 p l.length (l.map iL):=fun p l h1 h2=>⟨h1,by simp,hby l,by simpa using h2⟩
 have hap:∀ (l:List UInt8),l.map iL ++ [[C.vl (.int .u8 32)]]=(l ++ [32]).map iL:=fun l=>by rw [List.map_append]; rfl
 rcases hp with rfl | rfl
 all_goals
  simp -dsimp only [go_sem,aB5]
  refine ⟨fun h1=>⟨by simp at h1; omega,fun t ht=>?_⟩,fun h1=>?_⟩
  · have hft:=hf t (bT ht)
    have hlx:=hft.len
    have hxl:=IB hft
    have hst:=vV ht
    have hlt:i < ts.length:=by simp at h1; omega
    refine ⟨⟨⟨hft.lo,hft.hi⟩,by omega⟩,fun h2=>⟨by omega,?_⟩,fun h2=>?_⟩
    · simp only [tE,h2,aH] at hst
      first
       | (refine aC (C.vl (.pointer none),i + 1) 2 ⟨.inl rfl,hlt⟩ (by simp only; omega) (by simp [go_sem]) ?_; simp -dsimp only [go_sem,hst]; done)
       | (refine aC (C.pt 0 0,i + 1) 2 ⟨.inr rfl,hlt⟩ (by simp only; omega) (by simp [go_sem]) ?_; simp -dsimp only [go_sem,hst]; done)
    · have h2':n2 t.k t.x t.n=true:=by simpa using h2
      simp only [tE,h2',aN] at hst
      refine ⟨hI _ _ (by simp) (by omega),fun h3=>?_,fun h3=>?_⟩
      · have hne:(eH ts i == [])=false:=by
         cases hq:eH ts i with
         | nil=>rw [hq] at h3; simp at h3
         | cons c l=>rfl
        rw [hne,aH] at hst
        have hB:j0 (C.pt 0 0) ((eH ts i).length + 1) ((eH ts i).map iL ++ [[C.vl (.int .u8 32)]]):=by
         rw [hap]
         have:=hI (.pt 0 0) (eH ts i ++ [32]) (.inr rfl) (by simp; omega)
         simpa only [List.length_append,List.length_cons,List.length_nil] using this
        refine ⟨⟨hI _ _ (by simp) (by omega),by omega⟩,⟨hB,by omega⟩,by omega,aC (C.pt 0 0,i + 1) 2 ⟨.inr rfl,hlt⟩ (by simp only; omega) (by simp [go_sem]) ?_⟩
        simp -dsimp only [go_sem,hst,List.map_cons,List.map_nil]
        rfl
      · have hne:(eH ts i == [])=true:=by
         cases hq:eH ts i with
         | nil=>rfl
         | cons c l=>rw [hq] at h3; simp at h3
        rw [hne,aN,List.append_nil] at hst
        refine ⟨⟨hI _ _ (by simp) (by omega),by omega⟩,by omega,aC (C.pt 0 0,i + 1) 2 ⟨.inr rfl,hlt⟩ (by simp only; omega) (by simp [go_sem]) ?_⟩
        simp -dsimp only [go_sem,hst]
  · obtain rfl:i=ts.length:=by simp at h1; omega
    rw [G7,z7]
    exact ⟨hI _ _ (by simp) (by rw [z7] at hl; omega),.sel [] (by simp) (by simp) rfl (.done hK')⟩
def tK:PC:=.seq (.seq (.gh (.reg [.v 25 7,.q 26 (.nc (.t 25)),.q 27 (.fa 4 (.t 26)),.l 28 (.ld1 (.t 27)),.v 29 28,⟨some 30,(some (29,false)),.q (.mv (.t 8))⟩,⟨some 31,(some (29,false)),.q (.lnS (.t 30))⟩,⟨some 32,(some (29,false)),.q (.bin .gtr true (.t 31) (.i 4000))⟩,.a 33 (.pick (.t 29) (.k (.bool true)) (.t 32))])) (.cond (.t 33) (.seq (.reg [.q 6 (.mv (.k (.string (mk []))))]) .ret) .skip)) (.seq (.reg [.v 34 8,.v 6 34]) .ret)
@[go_sem ↓] theorem aSC:aT tK:=aU _
def HC:PC:=.seq (.gh (.ord  [.q (.q 17 (.fa 0 (.t 4))),.q (.l 18 (.ld1 (.t 17))),.q (.v 21 7),.q (.l 22 (.ldn 4 (.t 4))),.q (.l 23 (.ldn 5 (.t 5))),.m (.a 19 (.cl 24 [(.t 18)] [])),.rc (.v 21 7),.rc (.l 22 (.ldn 4 (.t 4))),.rc (.l 23 (.ldn 5 (.t 5))),.q (.q 20 (.fld1 0 (.t 19))),.m (.a 24 (.ca (.t 20) [(.t 21),(.t 22),(.t 23)] [3])),.m (.v 8 24)])) (tK)
@[go_sem ↓] theorem aOT:aT HC:=aU _
def SU:PC:=.seq (.reg [.e 3 (.bx 25 (.t 0)),.e 4 (.bx 28 (.t 1)),.e 5 (.bx 32 (.t 2)),.q 6 (.mv (.k (.string (mk []))))]) (.seq (.seq (.reg [.l 9 (.ldn 3 (.t 3)),.l 10 (.ldn 4 (.t 4)),.l 11 (.ldn 5 (.t 5)),.a 12 (.cq 23 [(.t 9),(.t 10),(.t 11)]),.q 13 (.bin .neq true (.t 12) (.i 0))]) (.cond (.t 13) (.seq (.reg [.q 6 (.mv (.k (.string (mk []))))]) .ret) .skip)) (.seq (.reg [.l 14 (.ldn 3 (.t 3)),.q 15 (.bd [(.int .i64 0),(.slice none 0 0),(.slice none 0 0),(.pointer none),(.bool false),(.int .i64 0)] [(0,3,(.t 14))]),.e 16 (.bx 62 (.t 15)),.v 7 16]) (HC)))
def SS:List RV:=[.mv (.t 6)]
theorem aOS:aP Tryz.prog true ⟨fun r k=>if r=1/\k=3 then .q else if r=4/\k=7 then .own [3] else .own [],fun r=>[4,5].contains r⟩ Tryz.f11=some (SU,SS):=by kernel_rfl
def IH:PC:=.gh (.reg [.v 46 12,.a 47 (.cl 31 [(.t 46)] [4,3])])
@[go_sem ↓] theorem aO5:aT IH:=aU _
def nB:PC:=.seq (.gh (.reg [.v 61 14,.q 62 (.bin .neq true (.t 61) (.i 0))])) (.cond (.t 62) (.seq (.reg [.q 63 (.bd [(.int .i64 0),(.int .i64 0),(.string (mk [])),(.slice none 0 0),(.slice none 0 0)] []),.v 64 14,.s (.st 5 (.t 6) (.t 63)),.v 7 64,.q 8 (.mv (.i 0))]) .ret) .skip)
@[go_sem ↓] theorem aNK:aT nB:=aU _
def uJ:PC:=.seq (.seq (.gh (.reg [.l 57 (.ldn 3 (.t 3)),.l 58 (.ldn 4 (.t 4)),.l 59 (.ldn 5 (.t 13)),.a 60 (.cq 23 [(.t 57),(.t 58),(.t 59)]),.v 14 60])) (nB)) (.seq (.reg [.l 65 (.ldn 5 (.t 13)),.s (.st 5 (.t 6) (.t 65)),.q 7 (.mv (.i 0)),.q 8 (.mv (.i 0))]) .ret)
@[go_sem ↓] theorem aNH:aT uJ:=aU _
def m6:PC:=.seq (.seq (.gh (.reg [.v 48 12,.q 49 (.nc (.t 48)),.q 50 (.fa 4 (.t 49)),.l 51 (.ld1 (.t 50))])) (.cond (.t 51) (.seq (.ord  [.q (.q 52 (.bd [(.int .i64 0),(.int .i64 0),(.string (mk [])),(.slice none 0 0),(.slice none 0 0)] [])),.q (.v 53 12),.q (.q 54 (.nc (.t 53))),.q (.q 55 (.fa 5 (.t 54))),.q (.l 56 (.ld1 (.t 55))),.m (.s (.st 5 (.t 6) (.t 52))),.rc (.v 53 12),.rc (.q 54 (.nc (.t 53))),.rc (.q 55 (.fa 5 (.t 54))),.rc (.l 56 (.ld1 (.t 55))),.m (.q 7 (.mv (.i 2))),.rc (.v 53 12),.rc (.q 54 (.nc (.t 53))),.rc (.q 55 (.fa 5 (.t 54))),.rc (.l 56 (.ld1 (.t 55))),.m (.v 8 56)]) .ret) .skip)) (uJ)
@[go_sem ↓] theorem aNQ:aT m6:=aU _
def HJ:PC:=.seq (.seq (.gh (.reg [.v 42 9,.a 43 (.cl 30 [(.t 42)] [3]),.q 44 (.fld1 0 (.t 43)),.q 45 (.bin .neq true (.t 44) (.i 0))])) (.cond (.t 45) (IH) .skip)) (m6)
@[go_sem ↓] theorem aSE:aT HJ:=aU _
def GK:PC:=.seq (.gh (.ord  [.q (.q 35 (.fa 0 (.t 4))),.q (.l 36 (.ld1 (.t 35))),.q (.v 39 12),.q (.l 40 (.ldn 4 (.t 4))),.m (.a 37 (.cl 24 [(.t 36)] [])),.rc (.v 39 12),.rc (.l 40 (.ldn 4 (.t 4))),.q (.q 38 (.fld1 1 (.t 37))),.m (.a 41 (.ca (.t 38) [(.t 39),(.t 40)] [4,3])),.m (.e 13 (.al (.agg #[(.int .i64 0),(.int .i64 0),(.string (mk [])),(.slice none 0 0),(.slice none 0 0)]) 32)),.m (.s (.st 5 (.t 13) (.t 41)))])) (HJ)
@[go_sem ↓] theorem aRZ:aT GK:=aU _
def G8:PC:=.seq (.gh (.reg [.l 31 (.ldn 3 (.t 3)),.v 32 9,.q 33 (.bd [(.int .i64 0),(.slice none 0 0),(.slice none 0 0),(.pointer none),(.bool false),(.int .i64 0)] [(0,3,(.t 31)),(3,1,(.t 32))]),.e 34 (.bx 62 (.t 33)),.v 12 34])) (GK)
@[go_sem ↓] theorem aPW:aT G8:=aU _
def zB:PC:=.seq (.seq (.gh (.reg [.v 26 10,.q 27 (.bin .neq true (.t 26) (.i 0))])) (.cond (.t 27) (.seq (.reg [.q 28 (.bd [(.int .i64 0),(.int .i64 0),(.string (mk [])),(.slice none 0 0),(.slice none 0 0)] []),.v 29 10,.v 30 11,.s (.st 5 (.t 6) (.t 28)),.v 7 29,.v 8 30]) .ret) .skip)) (G8)
@[go_sem ↓] theorem aS2:aT zB:=aU _
def JN:PC:=.seq (.gh (.reg [.v 21 2,.a 22 (.cl 29 [(.t 21)] []),.v 20 22,.q 23 (.ex (.t 20) 0),.q 24 (.ex (.t 20) 1),.q 25 (.ex (.t 20) 2),.v 9 23,.v 10 24,.v 11 25])) (zB)
@[go_sem ↓] theorem aSU:aT JN:=aU _
def VY:PC:=.seq (.reg [.e 3 (.bx 25 (.t 0)),.e 4 (.bx 28 (.t 1)),.e 6 (.al (.agg #[(.int .i64 0),(.int .i64 0),(.string (mk [])),(.slice none 0 0),(.slice none 0 0)]) 32),.q 7 (.mv (.i 0)),.q 8 (.mv (.i 0))]) (.seq (.seq (.reg [.l 15 (.ldn 3 (.t 3)),.l 16 (.ldn 4 (.t 4)),.a 17 (.cq 28 [(.t 15),(.t 16)]),.q 18 (.not (.t 17))]) (.cond (.t 18) (.seq (.reg [.q 19 (.bd [(.int .i64 0),(.int .i64 0),(.string (mk [])),(.slice none 0 0),(.slice none 0 0)] []),.s (.st 5 (.t 6) (.t 19)),.q 7 (.mv (.i 13)),.q 8 (.mv (.i 0))]) .ret) .skip)) (JN))
def SZ:List RV:=[.ld (.ldn 5 (.t 6)),.mv (.t 7),.mv (.t 8)]
theorem aPM:aP Tryz.prog true ⟨fun r k=>if r=1/\k=2 then .q else if r=7/\k=6 then .own [4,3] else if r=8/\k=1 then .own [3] else if r=9/\k=1 then .own [4,3] else if r=12/\k=3 then .q else .own [],fun r=>[3,4,6,7,8,10,12,13,9].contains r⟩ Tryz.f13=some (VY,SZ):=by kernel_rfl
def xN:PC:=.seq (.reg [.e 2 (.al (.agg #[.nilFunc,.nilFunc]) 66)]) (.seq (.seq (.reg [.v 3 0]) (.block 0 (.seq (.reg [.q 5 (.bin .eql true (.t 3) (.i 1)),.v 4 5]) (.cond (.t 4) (.seq (.reg [.q 6 (.bd [.nilFunc,.nilFunc] [(0,1,(.f 54)),(1,1,(.f 55))]),.s (.st 2 (.t 2) (.t 6))]) .ret) (.seq (.reg [.q 8 (.bin .eql true (.t 3) (.i 4)),.v 7 8]) (.cond (.t 7) (.seq (.reg [.q 9 (.bd [.nilFunc,.nilFunc] [(0,1,(.f 56)),(1,1,(.f 57))]),.s (.st 2 (.t 2) (.t 9))]) .ret) (.seq (.reg [.q 11 (.bin .eql true (.t 3) (.i 7)),.v 10 11]) (.cond (.t 10) (.seq (.reg [.q 12 (.bd [.nilFunc,.nilFunc] [(0,1,(.f 58)),(1,1,(.f 59))]),.s (.st 2 (.t 2) (.t 12))]) .ret) (.seq (.reg [.q 14 (.bin .eql true (.t 3) (.i 5)),.v 13 14]) (.cond (.t 13) (.seq (.reg [.q 15 (.bd [.nilFunc,.nilFunc] [(0,1,(.f 60)),(1,1,(.f 61))]),.s (.st 2 (.t 2) (.t 15))]) .ret) (.seq (.reg [.q 17 (.bin .eql true (.t 3) (.i 6)),.v 16 17]) (.cond (.t 16) (.seq (.reg [.q 18 (.bd [.nilFunc,.nilFunc] [(0,1,(.f 62)),(1,1,(.f 63))]),.s (.st 2 (.t 2) (.t 18))]) .ret) .skip)))))))))))) (.seq (.reg [.q 19 (.bd [.nilFunc,.nilFunc] [(0,1,(.f 64)),(1,1,(.f 65))]),.s (.st 2 (.t 2) (.t 19))]) .ret))
def w6:List RV:=[.ld (.ldn 2 (.t 2))]
theorem aOZ:aP Tryz.prog true ⟨fun _ _=>.own [],fun _=>false⟩ Tryz.f24=some (xN,w6):=by kernel_rfl
def aE8:PC:=.seq (.reg [.e 2 (.bx 25 (.t 0)),.e 3 (.bx 28 (.t 1)),.q 4 (.mv (.k (.bool false)))]) (.seq (.ord  [.q (.l 5 (.ldn 3 (.t 2))),.q (.l 6 (.ldn 4 (.t 3))),.q (.l 7 (.ldn 3 (.t 2))),.q (.l 8 (.ldn 4 (.t 3))),.m (.a 9 (.cl 71 [(.t 7),(.t 8)] [])),.rc (.l 5 (.ldn 3 (.t 2))),.rc (.l 6 (.ldn 4 (.t 3))),.m (.a 10 (.cq 23 [(.t 5),(.t 6),(.t 9)])),.q (.q 11 (.bin .eql true (.t 10) (.i 0))),.m (.v 4 11)]) .ret)
def aHS:List RV:=[.mv (.t 4)]
theorem aS8:aP Tryz.prog true ⟨fun r k=>if r=1/\k=5 then .q else .own [],fun _=>false⟩ Tryz.f28=some (aE8,aHS):=by kernel_rfl
def VX:PC:=.seq (.reg [.v 2 0,.q 3 (.nc (.t 2)),.q 4 (.fa 4 (.t 3)),.l 5 (.ld1 (.t 4)),.q 6 (.not (.t 5))]) (.cond (.t 6) (.reg [.v 7 0,.v 8 0,.v 9 0,.q 10 (.nc (.t 9)),.q 11 (.fa 3 (.t 10)),.l 12 (.ld1 (.t 11)),.a 13 (.cl 30 [(.t 12)] [1]),.q 14 (.fld1 3 (.t 13)),.q 15 (.nc (.t 7)),.q 16 (.fa 4 (.t 15)),.s (.st 1 (.t 16) (.k (.bool true))),.q 17 (.nc (.t 8)),.q 18 (.fa 5 (.t 17)),.s (.st 1 (.t 18) (.t 14))]) .skip)
def S5:List RV:=[]
theorem aQF:aP Tryz.prog true ⟨fun r k=>if r=1/\k=6 then .own [1] else .own [],fun _=>false⟩ Tryz.f31=some (VX,S5):=by kernel_rfl
def aHN:PC:=.seq (.reg [.e 4 (.bx 28 (.t 1)),.e 5 (.bx 32 (.t 2)),.q 6 (.mv (.k (.string (mk []))))]) (.seq (.seq (.reg [.q 7 (.fa 1 (.t 5)),.l 8 (.ld1 (.t 7)),.q 9 (.bin .eql true (.t 8) (.i 1))]) (.cond (.t 9) (.seq (.reg [.q 6 (.mv (.k (.string (mk [116,114,117,101]))))]) .ret) .skip)) (.seq (.reg [.q 6 (.mv (.k (.string (mk [102,97,108,115,101]))))]) .ret))
def aFG:List RV:=[.mv (.t 6)]
theorem aR2:aP Tryz.prog true ⟨fun _ _=>.own [],fun _=>false⟩ Tryz.f54=some (aHN,aFG):=by kernel_rfl
def GI:PC:=.gh (.reg [.q 20 (.fa 1 (.t 5)),.s (.st 1 (.t 20) (.i 1))])
@[go_sem ↓] theorem aRB:aT GI:=aU _
def BA:PC:=.gh (.reg [.v 34 0,.a 35 (.cl 31 [(.t 34)] [0,1])])
@[go_sem ↓] theorem aOY:aT BA:=aU _
def A5:PC:=.seq (.gh (.reg [.v 22 0,.q 23 (.nc (.t 22)),.q 24 (.fa 4 (.t 23)),.l 25 (.ld1 (.t 24)),.v 26 25,⟨some 27,(some (26,false)),.q (.mv (.t 0))⟩,⟨some 28,(some (26,false)),.q (.nc (.t 27))⟩,⟨some 29,(some (26,false)),.q (.fa 3 (.t 28))⟩,⟨some 30,(some (26,false)),.l (.ld1 (.t 29))⟩,⟨some 31,(some (26,false)),.cl 95 [(.t 30),(.k (.string (mk [102,97,108,115,101])))] [1]⟩,⟨some 32,(some (26,false)),.q (.not (.t 31))⟩,.a 33 (.pick (.t 26) (.k (.bool true)) (.t 32)),.v 21 33])) (.cond (.t 21) (BA) .skip)
@[go_sem ↓] theorem aRH:aT A5:=aU _
def pM:PC:=.seq (.gh (.reg [.l 36 (.ldn 5 (.t 5)),.s (.st 5 (.t 4) (.t 36))])) .ret
@[go_sem ↓] theorem aTJ:aT pM:=aU _
def T3:PC:=.seq (.reg [.e 3 (.bx 28 (.t 1)),.e 4 (.al (.agg #[(.int .i64 0),(.int .i64 0),(.string (mk [])),(.slice none 0 0),(.slice none 0 0)]) 32)]) (.seq (.reg [.q 6 (.bd [(.int .i64 0),(.int .i64 0),(.string (mk [])),(.slice none 0 0),(.slice none 0 0)] [(0,1,(.i 1))]),.e 5 (.al (.agg #[(.int .i64 0),(.int .i64 0),(.string (mk [])),(.slice none 0 0),(.slice none 0 0)]) 32),.s (.st 5 (.t 5) (.t 6))]) (.seq (.block 0 (.seq (.reg [.v 8 0,.q 9 (.nc (.t 8)),.q 10 (.fa 4 (.t 9)),.l 11 (.ld1 (.t 10)),.q 12 (.not (.t 11)),.v 13 12,⟨some 14,(some (13,true)),.q (.mv (.t 0))⟩,⟨some 15,(some (13,true)),.q (.nc (.t 14))⟩,⟨some 16,(some (13,true)),.q (.fa 3 (.t 15))⟩,⟨some 17,(some (13,true)),.l (.ld1 (.t 16))⟩,⟨some 18,(some (13,true)),.cl 95 [(.t 17),(.k (.string (mk [116,114,117,101])))] [1]⟩,.a 19 (.pick (.t 13) (.t 18) (.k (.bool false))),.v 7 19]) (.cond (.t 7) (GI) (A5)))) (pM)))
def UN:List RV:=[.ld (.ldn 5 (.t 4))]
theorem aO9:aP Tryz.prog true ⟨fun r k=>if r=2/\k=10 then .own [1] else if r=4/\k=9 then .own [1] else if r=5/\k=1 then .own [0,1] else .own [],fun r=>[4,6,3,5].contains r⟩ Tryz.f55=some (T3,UN):=by kernel_rfl
def aI2:PC:=.seq (.reg [.e 4 (.bx 28 (.t 1)),.e 5 (.bx 32 (.t 2)),.q 6 (.mv (.k (.string (mk []))))]) (.seq (.reg [.q 8 (.fa 2 (.t 5)),.l 9 (.ld1 (.t 8)),.q 10 (.bd [(.int .i64 0),(.string (mk [])),(.int .i64 0),(.int .i64 0)] [(0,1,(.i 3)),(1,1,(.t 9))]),.e 11 (.bsl 71 4 [(.t 10)]),.a 12 (.cq 96 [(.t 11)]),.v 7 12]) (.seq (.reg [.v 13 0,.v 14 0,.q 15 (.nc (.t 14)),.q 16 (.fa 4 (.t 15)),.l 17 (.ld1 (.t 16)),.v 18 17,⟨some 19,(some (18,false)),.q (.mv (.t 7))⟩,⟨some 20,(some (18,false)),.q (.bin .eql true (.t 19) (.k (.string (mk []))))⟩,.a 21 (.pick (.t 18) (.k (.bool true)) (.t 20)),.q 22 (.nc (.t 13)),.q 23 (.fa 4 (.t 22)),.s (.st 1 (.t 23) (.t 21))]) (.seq (.reg [.v 24 7,.v 6 24]) .ret)))
def aGI:List RV:=[.mv (.t 6)]
theorem aR0:aP Tryz.prog true ⟨fun r k=>if r=1/\k=4 then .q else .own [],fun _=>false⟩ Tryz.f56=some (aI2,aGI):=by kernel_rfl
def aH8:PC:=.seq (.reg [.e 3 (.bx 28 (.t 1)),.e 4 (.al (.agg #[(.int .i64 0),(.int .i64 0),(.string (mk [])),(.slice none 0 0),(.slice none 0 0)]) 32)]) (.seq (.reg [.v 5 0,.a 6 (.cl 97 [(.t 5),(.i 3)] [0,1]),.q 7 (.fld1 1 (.t 6)),.q 8 (.bd [(.int .i64 0),(.int .i64 0),(.string (mk [])),(.slice none 0 0),(.slice none 0 0)] [(0,1,(.i 4)),(2,1,(.t 7))]),.s (.st 5 (.t 4) (.t 8))]) .ret)
def aFC:List RV:=[.ld (.ldn 5 (.t 4))]
theorem aP1:aP Tryz.prog true ⟨fun r k=>if r=1/\k=1 then .own [0,1] else .own [],fun _=>false⟩ Tryz.f57=some (aH8,aFC):=by kernel_rfl
def tC:PC:=.seq (.gh (.reg [.v 29 10,.q 30 (.fa 1 (.t 5)),.l 31 (.ld1 (.t 30)),.q 32 (.bin .eql true (.t 29) (.t 31)),.v 33 32,⟨some 34,(some (33,true)),.q (.mv (.t 9))⟩,⟨some 35,(some (33,true)),.q (.fa 1 (.t 7))⟩,⟨some 36,(some (33,true)),.l (.ld1 (.t 35))⟩,⟨some 37,(some (33,true)),.q (.lnL (.t 36))⟩,⟨some 38,(some (33,true)),.q (.bin .lss true (.t 34) (.t 37))⟩,.a 39 (.pick (.t 33) (.t 38) (.k (.bool false)))])) (.cond (.t 39) (.seq (.reg [.q 40 (.fa 1 (.t 7)),.l 41 (.ld1 (.t 40)),.v 42 9,.l 43 (.ia 1 (.t 41) (.t 42)),.l 44 (.ld1 (.t 43)),.v 6 44]) .ret) .skip)
@[go_sem ↓] theorem aPC:aT tC:=aU _
def HT:PC:=.seq (.seq (.gh (.reg [.q 21 (.fa 2 (.t 7)),.l 22 (.ld1 (.t 21)),.q 23 (.lnL (.t 22)),.q 24 (.mv (.i 0))])) (.block 0 (.loop (.seq (.reg [.q 25 (.bin .lss true (.t 24) (.t 23))]) (.seq (.cond (.t 25) .skip (.exit 0)) (.seq (.block 1 (.seq (.reg [.v 26 24,.l 27 (.ia 1 (.t 22) (.t 24)),.l 28 (.ld1 (.t 27)),.v 9 26,.v 10 28]) (tC))) (.reg [.q 45 (.bin .add true (.t 24) (.i 1)),.v 24 45]))))))) (.seq (.reg [.q 6 (.mv (.k (.string (mk []))))]) .ret)
@[go_sem ↓] theorem aPH:aT HT:=aU _
def aE4:PC:=.seq (.reg [.e 4 (.bx 28 (.t 1)),.e 5 (.bx 32 (.t 2)),.q 6 (.mv (.k (.string (mk []))))]) (.seq (.ord  [.q (.v 12 0),.q (.q 13 (.nc (.t 12))),.q (.q 14 (.fa 0 (.t 13))),.q (.l 15 (.ldn 3 (.t 14))),.q (.q 16 (.fa 2 (.t 4))),.q (.l 17 (.ld1 (.t 16))),.m (.a 18 (.cl 98 [(.t 15),(.t 17)] [])),.q (.v 11 18),.q (.q 19 (.ex (.t 11) 0)),.q (.q 20 (.ex (.t 11) 1)),.m (.e 7 (.al (.agg #[(.string (mk [])),(.slice none 0 0),(.slice none 0 0)]) 92)),.rc (.v 11 18),.rc (.q 19 (.ex (.t 11) 0)),.rc (.q 20 (.ex (.t 11) 1)),.m (.s (.st 3 (.t 7) (.t 19))),.rc (.q 20 (.ex (.t 11) 1)),.m (.v 8 20)]) (HT))
def aC6:List RV:=[.mv (.t 6)]
theorem aQJ:aP Tryz.prog true ⟨fun _ _=>.own [],fun r=>[2,5].contains r⟩ Tryz.f58=some (aE4,aC6):=by kernel_rfl
def H5:PC:=.gh (.ord  [.q (.q 34 (.fa 1 (.t 6))),.q (.l 35 (.ld1 (.t 34))),.q (.v 36 0),.q (.q 37 (.nc (.t 36))),.q (.q 38 (.fa 3 (.t 37))),.q (.l 39 (.ld1 (.t 38))),.m (.a 40 (.cl 30 [(.t 39)] [1])),.rc (.q 34 (.fa 1 (.t 6))),.rc (.l 35 (.ld1 (.t 34))),.q (.q 41 (.fld1 1 (.t 40))),.m (.a 42 (.cq 99 [(.t 35),(.t 41)])),.m (.v 8 42)])
@[go_sem ↓] theorem aSR:aT H5:=aU _
def pN:PC:=.seq (.gh (.reg [.l 54 (.ldn 5 (.t 5)),.s (.st 5 (.t 4) (.t 54))])) .ret
@[go_sem ↓] theorem aSF:aT pN:=aU _
def qI:PC:=.seq (.gh (.reg [.v 52 0,.a 53 (.cl 31 [(.t 52)] [0,1])])) (pN)
@[go_sem ↓] theorem aSJ:aT qI:=aU _
def BO:PC:=.seq (.gh (.reg [.l 66 (.ldn 5 (.t 5)),.s (.st 5 (.t 4) (.t 66))])) .ret
@[go_sem ↓] theorem aM3:aT BO:=aU _
def CC:PC:=.seq (.gh (.reg [.q 60 (.fa 2 (.t 6)),.l 61 (.ld1 (.t 60)),.v 62 8,.l 63 (.ia 1 (.t 61) (.t 62)),.l 64 (.ld1 (.t 63)),.q 65 (.fa 1 (.t 5)),.s (.st 1 (.t 65) (.t 64))])) (BO)
@[go_sem ↓] theorem aN3:aT CC:=aU _
def HO:PC:=.seq (.gh (.reg [.v 55 0,.q 56 (.nc (.t 55)),.q 57 (.fa 3 (.t 56)),.l 58 (.ld1 (.t 57)),.a 59 (.cl 100 [(.t 58)] [1])])) (CC)
@[go_sem ↓] theorem aTC:aT HO:=aU _
def n6:PC:=.seq (.seq (.gh (.reg [.v 43 8,.q 44 (.bin .lss true (.t 43) (.i 0)),.v 45 44,⟨some 46,(some (45,false)),.q (.mv (.t 8))⟩,⟨some 47,(some (45,false)),.q (.fa 2 (.t 6))⟩,⟨some 48,(some (45,false)),.l (.ld1 (.t 47))⟩,⟨some 49,(some (45,false)),.q (.lnL (.t 48))⟩,⟨some 50,(some (45,false)),.q (.bin .geq true (.t 46) (.t 49))⟩,.a 51 (.pick (.t 45) (.k (.bool true)) (.t 50))])) (.cond (.t 51) (qI) .skip)) (HO)
@[go_sem ↓] theorem aQR:aT n6:=aU _
def AA:PC:=.seq (.gh (.reg [.q 8 (.mv (.i (-1)))])) (.seq (.seq (.reg [.v 20 0,.q 21 (.nc (.t 20)),.q 22 (.fa 4 (.t 21)),.l 23 (.ld1 (.t 22)),.q 24 (.not (.t 23)),.v 25 24,⟨some 26,(some (25,true)),.q (.mv (.t 0))⟩,⟨some 27,(some (25,true)),.q (.nc (.t 26))⟩,⟨some 28,(some (25,true)),.q (.fa 3 (.t 27))⟩,⟨some 29,(some (25,true)),.l (.ld1 (.t 28))⟩,⟨some 30,(some (25,true)),.cl 30 [(.t 29)] [1]⟩,⟨some 31,(some (25,true)),.q (.fld1 0 (.t 30))⟩,⟨some 32,(some (25,true)),.q (.bin .eql true (.t 31) (.i 1))⟩,.a 33 (.pick (.t 25) (.t 32) (.k (.bool false)))]) (.cond (.t 33) (H5) .skip)) (n6))
@[go_sem ↓] theorem aR6:aT AA:=aU _
def aGQ:PC:=.seq (.reg [.e 3 (.bx 28 (.t 1)),.e 4 (.al (.agg #[(.int .i64 0),(.int .i64 0),(.string (mk [])),(.slice none 0 0),(.slice none 0 0)]) 32)]) (.seq (.reg [.q 9 (.bd [(.int .i64 0),(.int .i64 0),(.string (mk [])),(.slice none 0 0),(.slice none 0 0)] [(0,1,(.i 7))]),.e 5 (.al (.agg #[(.int .i64 0),(.int .i64 0),(.string (mk [])),(.slice none 0 0),(.slice none 0 0)]) 32),.s (.st 5 (.t 5) (.t 9))]) (.seq (.ord  [.q (.v 11 0),.q (.q 12 (.nc (.t 11))),.q (.q 13 (.fa 0 (.t 12))),.q (.l 14 (.ldn 3 (.t 13))),.q (.q 15 (.fa 2 (.t 3))),.q (.l 16 (.ld1 (.t 15))),.m (.a 17 (.cl 98 [(.t 14),(.t 16)] [])),.q (.v 10 17),.q (.q 18 (.ex (.t 10) 0)),.q (.q 19 (.ex (.t 10) 1)),.m (.e 6 (.al (.agg #[(.string (mk [])),(.slice none 0 0),(.slice none 0 0)]) 92)),.rc (.v 10 17),.rc (.q 18 (.ex (.t 10) 0)),.rc (.q 19 (.ex (.t 10) 1)),.m (.s (.st 3 (.t 6) (.t 18))),.rc (.q 19 (.ex (.t 10) 1)),.m (.v 7 19)]) (AA)))
def aFQ:List RV:=[.ld (.ldn 5 (.t 4))]
theorem aTG:aP Tryz.prog true ⟨fun r k=>if r=4/\k=10 then .own [1] else if r=5/\k=6 then .own [1] else if r=5/\k=8 then .q else if r=7/\k=1 then .own [0,1] else if r=9/\k=4 then .own [1] else .own [],fun r=>[3,6,7,8,9,10,11,5].contains r⟩ Tryz.f59=some (aGQ,aFQ):=by kernel_rfl
def zZ:PC:=.gh (.ord  [.q (.v 22 7),.q (.q 23 (.fa 3 (.t 4))),.q (.l 24 (.ld1 (.t 23))),.q (.l 25 (.ia 4 (.t 24) (.i 0))),.q (.q 26 (.fa 0 (.t 25))),.q (.l 27 (.ld1 (.t 26))),.q (.v 30 0),.q (.q 31 (.fa 3 (.t 4))),.q (.l 32 (.ld1 (.t 31))),.q (.l 33 (.ia 4 (.t 32) (.i 0))),.q (.l 34 (.ldn 4 (.t 33))),.q (.l 35 (.ldn 5 (.t 9))),.m (.a 28 (.cl 24 [(.t 27)] [])),.rc (.v 22 7),.rc (.v 30 0),.rc (.q 31 (.fa 3 (.t 4))),.rc (.l 32 (.ld1 (.t 31))),.rc (.l 33 (.ia 4 (.t 32) (.i 0))),.rc (.l 34 (.ldn 4 (.t 33))),.rc (.l 35 (.ldn 5 (.t 9))),.q (.q 29 (.fld1 0 (.t 28))),.m (.a 36 (.ca (.t 29) [(.t 30),(.t 34),(.t 35)] [0])),.rc (.v 22 7),.q (.q 37 (.bin .add true (.t 22) (.t 36))),.m (.v 7 37)])
@[go_sem ↓] theorem aP0:aT zZ:=aU _
def aCT:PC:=.seq (.reg [.e 4 (.bx 28 (.t 1)),.e 5 (.bx 32 (.t 2)),.q 6 (.mv (.k (.string (mk []))))]) (.seq (.reg [.q 7 (.mv (.k (.string (mk [91]))))]) (.seq (.seq (.reg [.q 10 (.fa 3 (.t 5)),.l 11 (.ld1 (.t 10)),.q 12 (.lnL (.t 11)),.q 13 (.mv (.i 0))]) (.block 0 (.loop (.seq (.reg [.q 14 (.bin .lss true (.t 13) (.t 12))]) (.seq (.cond (.t 14) .skip (.exit 0)) (.seq (.block 1 (.seq (.reg [.v 15 13,.l 16 (.ia 5 (.t 11) (.t 13)),.l 17 (.ldn 5 (.t 16)),.e 9 (.al (.agg #[(.int .i64 0),(.int .i64 0),(.string (mk [])),(.slice none 0 0),(.slice none 0 0)]) 32),.v 8 15,.s (.st 5 (.t 9) (.t 17))]) (.seq (.seq (.reg [.v 18 8,.q 19 (.bin .gtr true (.t 18) (.i 0))]) (.cond (.t 19) (.reg [.v 20 7,.q 21 (.bin .add true (.t 20) (.k (.string (mk [44,32])))),.v 7 21]) .skip)) (zZ)))) (.reg [.q 38 (.bin .add true (.t 13) (.i 1)),.v 13 38]))))))) (.seq (.reg [.v 39 7,.q 40 (.bin .add true (.t 39) (.k (.string (mk [93])))),.v 6 40]) .ret)))
def aI3:List RV:=[.mv (.t 6)]
theorem aPA:aP Tryz.prog true ⟨fun r k=>if r=7/\k=14 then .own [0] else .own [],fun r=>[7].contains r⟩ Tryz.f60=some (aCT,aI3):=by kernel_rfl
def I7:PC:=.seq (.gh (.reg [.l 10 (.ldn 5 (.t 5)),.s (.st 5 (.t 4) (.t 10))])) .ret
@[go_sem ↓] theorem aP6:aT I7:=aU _
def H4:PC:=.seq (.gh (.reg [.l 7 (.ld1 (.t 2)),.q 8 (.mf 102 [(.t 5),(.t 3),(.t 2)]),.a 9 (.cl 101 [(.t 7),(.k (.string (mk [91]))),(.k (.string (mk [93]))),(.t 8)] [0,1,2,3,5,6])])) (I7)
@[go_sem ↓] theorem aS0:aT H4:=aU _
def aDR:PC:=.seq (.reg [.e 2 (.bx 59 (.t 0)),.e 3 (.bx 28 (.t 1)),.e 4 (.al (.agg #[(.int .i64 0),(.int .i64 0),(.string (mk [])),(.slice none 0 0),(.slice none 0 0)]) 32)]) (.seq (.reg [.q 6 (.bd [(.int .i64 0),(.int .i64 0),(.string (mk [])),(.slice none 0 0),(.slice none 0 0)] [(0,1,(.i 5))]),.e 5 (.al (.agg #[(.int .i64 0),(.int .i64 0),(.string (mk [])),(.slice none 0 0),(.slice none 0 0)]) 32),.s (.st 5 (.t 5) (.t 6))]) (H4))
def aDX:List RV:=[.ld (.ldn 5 (.t 4))]
theorem aRM:aP Tryz.prog true ⟨fun r k=>if r=2/\k=2 then .own [0,1,2,3,5,6] else .own [],fun r=>[2,3].contains r⟩ Tryz.f61=some (aDR,aDX):=by kernel_rfl
def BD:PC:=.gh (.ord  [.q (.v 43 9),.q (.q 44 (.fa 1 (.t 12))),.q (.l 45 (.ld1 (.t 44))),.q (.q 46 (.bin .add true (.t 45) (.k (.string (mk [32,61,32]))))),.q (.q 47 (.fa 2 (.t 12))),.q (.q 48 (.fa 0 (.t 47))),.q (.l 49 (.ld1 (.t 48))),.q (.v 52 0),.q (.q 53 (.fa 2 (.t 12))),.q (.l 54 (.ldn 4 (.t 53))),.q (.q 55 (.fa 1 (.t 11))),.q (.l 56 (.ldn 5 (.t 55))),.m (.a 50 (.cl 24 [(.t 49)] [])),.rc (.v 43 9),.rc (.q 44 (.fa 1 (.t 12))),.rc (.l 45 (.ld1 (.t 44))),.rc (.q 46 (.bin .add true (.t 45) (.k (.string (mk [32,61,32]))))),.rc (.v 52 0),.rc (.q 53 (.fa 2 (.t 12))),.rc (.l 54 (.ldn 4 (.t 53))),.rc (.q 55 (.fa 1 (.t 11))),.rc (.l 56 (.ldn 5 (.t 55))),.q (.q 51 (.fld1 0 (.t 50))),.m (.a 57 (.ca (.t 51) [(.t 52),(.t 54),(.t 56)] [0])),.rc (.v 43 9),.rc (.q 44 (.fa 1 (.t 12))),.rc (.l 45 (.ld1 (.t 44))),.rc (.q 46 (.bin .add true (.t 45) (.k (.string (mk [32,61,32]))))),.q (.q 58 (.bin .add true (.t 46) (.t 57))),.q (.q 59 (.bin .add true (.t 43) (.t 58))),.m (.v 9 59)])
@[go_sem ↓] theorem aTM:aT BD:=aU _
def zX:PC:=.seq (.gh (.reg [.l 37 (.ldn 2 (.t 7)),.q 38 (.fa 0 (.t 11)),.l 39 (.ld1 (.t 38)),.a 40 (.cl 104 [(.t 37),(.t 39)] []),.v 36 40,.q 41 (.ex (.t 36) 0),.q 42 (.ex (.t 36) 1),.e 12 (.al (.agg #[(.int .i64 0),(.string (mk [])),(.int .i64 0),(.int .i64 0),(.string (mk [])),(.slice none 0 0),(.bool false)]) 97),.s (.st 7 (.t 12) (.t 41)),.v 13 42])) (BD)
@[go_sem ↓] theorem aTQ:aT zX:=aU _
def y4:PC:=.seq (.seq (.gh (.reg [.v 32 10,.q 33 (.bin .gtr true (.t 32) (.i 0))])) (.cond (.t 33) (.reg [.v 34 9,.q 35 (.bin .add true (.t 34) (.k (.string (mk [44,32])))),.v 9 35]) .skip)) (zX)
@[go_sem ↓] theorem aQC:aT y4:=aU _
def IG:PC:=.seq (.gh (.reg [.q 9 (.mv (.k (.string (mk [123]))))])) (.seq (.seq (.reg [.q 24 (.fa 4 (.t 5)),.l 25 (.ld1 (.t 24)),.q 26 (.lnL (.t 25)),.q 27 (.mv (.i 0))]) (.block 0 (.loop (.seq (.reg [.q 28 (.bin .lss true (.t 27) (.t 26))]) (.seq (.cond (.t 28) .skip (.exit 0)) (.seq (.block 1 (.seq (.reg [.v 29 27,.l 30 (.ia 6 (.t 25) (.t 27)),.l 31 (.ldn 6 (.t 30)),.e 11 (.al (.agg #[(.int .i64 0),(.int .i64 0),(.int .i64 0),(.string (mk [])),(.slice none 0 0),(.slice none 0 0)]) 57),.v 10 29,.s (.st 6 (.t 11) (.t 31))]) (y4))) (.reg [.q 60 (.bin .add true (.t 27) (.i 1)),.v 27 60]))))))) (.seq (.reg [.v 61 9,.q 62 (.bin .add true (.t 61) (.k (.string (mk [125])))),.v 6 62]) .ret))
@[go_sem ↓] theorem aO6:aT IG:=aU _
def aC1:PC:=.seq (.reg [.e 4 (.bx 28 (.t 1)),.e 5 (.bx 32 (.t 2)),.q 6 (.mv (.k (.string (mk []))))]) (.seq (.ord  [.q (.v 15 0),.q (.q 16 (.nc (.t 15))),.q (.q 17 (.fa 0 (.t 16))),.q (.l 18 (.ldn 3 (.t 17))),.q (.q 19 (.fa 2 (.t 4))),.q (.l 20 (.ld1 (.t 19))),.m (.a 21 (.cl 103 [(.t 18),(.t 20)] [])),.q (.v 14 21),.q (.q 22 (.ex (.t 14) 0)),.q (.q 23 (.ex (.t 14) 1)),.m (.e 7 (.al (.agg #[(.string (mk [])),(.slice none 0 0)]) 95)),.rc (.v 14 21),.rc (.q 22 (.ex (.t 14) 0)),.rc (.q 23 (.ex (.t 14) 1)),.m (.s (.st 2 (.t 7) (.t 22))),.rc (.q 23 (.ex (.t 14) 1)),.m (.v 8 23)]) (IG))
def aGG:List RV:=[.mv (.t 6)]
theorem aRA:aP Tryz.prog true ⟨fun r k=>if r=9/\k=14 then .own [0] else .own [],fun r=>[2,6,8,9].contains r⟩ Tryz.f62=some (aC1,aGG):=by kernel_rfl
def JR:PC:=.seq (.gh (.reg [.l 23 (.ldn 5 (.t 5)),.s (.st 5 (.t 4) (.t 23))])) .ret
@[go_sem ↓] theorem aRW:aT JR:=aU _
def IT:PC:=.seq (.gh (.reg [.l 20 (.ld1 (.t 2)),.q 21 (.mf 105 [(.t 2),(.t 6),(.t 8),(.t 5)]),.a 22 (.cl 101 [(.t 20),(.k (.string (mk [123]))),(.k (.string (mk [125]))),(.t 21)] [0,1,2,5,6,7,8])])) (JR)
@[go_sem ↓] theorem aTE:aT IT:=aU _
def G9:PC:=.seq (.gh (.reg [.e 8 (.al (.int .i64 0) 3),.s (.st 1 (.t 8) (.i 0))])) (IT)
@[go_sem ↓] theorem aTK:aT G9:=aU _
def aDU:PC:=.seq (.reg [.e 2 (.bx 59 (.t 0)),.e 3 (.bx 28 (.t 1)),.e 4 (.al (.agg #[(.int .i64 0),(.int .i64 0),(.string (mk [])),(.slice none 0 0),(.slice none 0 0)]) 32)]) (.seq (.reg [.q 9 (.bd [(.int .i64 0),(.int .i64 0),(.string (mk [])),(.slice none 0 0),(.slice none 0 0)] [(0,1,(.i 6))]),.e 5 (.al (.agg #[(.int .i64 0),(.int .i64 0),(.string (mk [])),(.slice none 0 0),(.slice none 0 0)]) 32),.s (.st 5 (.t 5) (.t 9))]) (.seq (.ord  [.q (.l 11 (.ld1 (.t 2))),.q (.q 12 (.nc (.t 11))),.q (.q 13 (.fa 0 (.t 12))),.q (.l 14 (.ldn 3 (.t 13))),.q (.q 15 (.fa 2 (.t 3))),.q (.l 16 (.ld1 (.t 15))),.m (.a 17 (.cl 103 [(.t 14),(.t 16)] [])),.q (.v 10 17),.q (.q 18 (.ex (.t 10) 0)),.q (.q 19 (.ex (.t 10) 1)),.m (.e 6 (.al (.agg #[(.string (mk [])),(.slice none 0 0)]) 95)),.rc (.v 10 17),.rc (.q 18 (.ex (.t 10) 0)),.rc (.q 19 (.ex (.t 10) 1)),.m (.s (.st 2 (.t 6) (.t 18))),.rc (.q 19 (.ex (.t 10) 1)),.m (.v 7 19)]) (G9)))
def aIR:List RV:=[.ld (.ldn 5 (.t 4))]
theorem aON:aP Tryz.prog true ⟨fun r k=>if r=4/\k=2 then .own [0,1,2,5,6,7,8] else .own [],fun r=>[3,4,5].contains r⟩ Tryz.f63=some (aDU,aIR):=by kernel_rfl
def aEM:PC:=.seq (.reg [.e 4 (.bx 28 (.t 1)),.e 5 (.bx 32 (.t 2)),.q 6 (.mv (.k (.string (mk []))))]) (.seq (.reg [.q 7 (.fa 1 (.t 5)),.l 8 (.ld1 (.t 7)),.a 9 (.cq 109 [(.t 8),(.i 10)]),.v 6 9]) .ret)
def aF5:List RV:=[.mv (.t 6)]
theorem aQS:aP Tryz.prog true ⟨fun r k=>if r=1/\k=2 then .q else .own [],fun _=>false⟩ Tryz.f64=some (aEM,aF5):=by kernel_rfl
def aG5:PC:=.seq (.reg [.e 3 (.bx 28 (.t 1)),.e 4 (.al (.agg #[(.int .i64 0),(.int .i64 0),(.string (mk [])),(.slice none 0 0),(.slice none 0 0)]) 32)]) (.seq (.ord  [.q (.q 5 (.fa 0 (.t 3))),.q (.l 6 (.ld1 (.t 5))),.q (.v 7 0),.m (.a 8 (.cl 97 [(.t 7),(.i 2)] [0,1])),.rc (.q 5 (.fa 0 (.t 3))),.rc (.l 6 (.ld1 (.t 5))),.q (.q 9 (.fld1 2 (.t 8))),.q (.q 10 (.bd [(.int .i64 0),(.int .i64 0),(.string (mk [])),(.slice none 0 0),(.slice none 0 0)] [(0,1,(.t 6)),(1,1,(.t 9))])),.m (.s (.st 5 (.t 4) (.t 10)))]) .ret)
def aE6:List RV:=[.ld (.ldn 5 (.t 4))]
theorem aOX:aP Tryz.prog true ⟨fun r k=>if r=1/\k=3 then .own [0,1] else .own [],fun _=>false⟩ Tryz.f65=some (aG5,aE6):=by kernel_rfl
def A0:PC:=.seq (.gh (.reg [.v 19 0,.a 20 (.cl 31 [(.t 19)] [0,1])])) (.seq (.reg [.q 21 (.bd [(.int .i64 0),(.string (mk [])),(.int .i64 0),(.int .i64 0)] []),.s (.st 4 (.t 4) (.t 21))]) .ret)
@[go_sem ↓] theorem aPT:aT A0:=aU _
def HL:PC:=.seq (.gh (.reg [.v 22 0,.q 23 (.nc (.t 22)),.q 24 (.fa 3 (.t 23)),.l 25 (.ld1 (.t 24)),.a 26 (.cl 100 [(.t 25)] [1]),.s (.st 4 (.t 4) (.t 26))])) .ret
@[go_sem ↓] theorem aR7:aT HL:=aU _
def UP:PC:=.seq (.reg [.e 4 (.al (.agg #[(.int .i64 0),(.string (mk [])),(.int .i64 0),(.int .i64 0)]) 71)]) (.seq (.seq (.reg [.v 5 0,.q 6 (.nc (.t 5)),.q 7 (.fa 4 (.t 6)),.l 8 (.ld1 (.t 7)),.v 9 8,⟨some 10,(some (9,false)),.q (.mv (.t 0))⟩,⟨some 11,(some (9,false)),.q (.nc (.t 10))⟩,⟨some 12,(some (9,false)),.q (.fa 3 (.t 11))⟩,⟨some 13,(some (9,false)),.l (.ld1 (.t 12))⟩,⟨some 14,(some (9,false)),.cl 30 [(.t 13)] [1]⟩,⟨some 15,(some (9,false)),.q (.fld1 0 (.t 14))⟩,⟨some 16,(some (9,false)),.q (.mv (.t 1))⟩,⟨some 17,(some (9,false)),.q (.bin .neq true (.t 15) (.t 16))⟩,.a 18 (.pick (.t 9) (.k (.bool true)) (.t 17))]) (.cond (.t 18) (A0) .skip)) (HL))
def TH:List RV:=[.ld (.ldn 4 (.t 4))]
theorem aRQ:aP Tryz.prog true ⟨fun r k=>if r=1/\k=9 then .own [1] else if r=2/\k=1 then .own [0,1] else if r=4/\k=4 then .own [1] else .own [],fun r=>[2,4].contains r⟩ Tryz.f97=some (UP,TH):=by kernel_rfl
def B0:PC:=.gh (.reg [.v 23 0,.a 24 (.cl 128 [(.t 23),(.k (.string (mk [44])))] [0,1]),.v 8 24])
@[go_sem ↓] theorem aN5:aT B0:=aU _
def uT:PC:=.gh (.reg [.v 27 0,.v 28 2,.a 29 (.cl 108 [(.t 27),(.t 28)] [0,1])])
@[go_sem ↓] theorem aN6:aT uT:=aU _
def BX:PC:=.seq (.seq (.gh (.reg [.q 8 (.mv (.k (.bool true)))])) (.block 0 (.loop (.seq (.seq (.reg [.v 15 8,.v 16 15,⟨some 17,(some (16,true)),.q (.mv (.t 0))⟩,⟨some 18,(some (16,true)),.q (.nc (.t 17))⟩,⟨some 19,(some (16,true)),.q (.fa 4 (.t 18))⟩,⟨some 20,(some (16,true)),.l (.ld1 (.t 19))⟩,⟨some 21,(some (16,true)),.q (.not (.t 20))⟩,.a 22 (.pick (.t 16) (.t 21) (.k (.bool false)))]) (.cond (.t 22) .skip (.exit 0))) (.seq (.block 1 (.reg [.v 25 3,.a 26 (.ca (.t 25) [] [0,1,2,3,4,5])])) (B0)))))) (uT)
@[go_sem ↓] theorem aN2:aT BX:=aU _
def CR:PC:=.seq (.seq (.gh (.reg [.v 12 0,.v 13 2,.a 14 (.cl 128 [(.t 12),(.t 13)] [0,1])])) (.cond (.t 14) .ret .skip)) (BX)
@[go_sem ↓] theorem aNJ:aT CR:=aU _
def WG:PC:=.seq (.reg [.v 9 0,.v 10 1,.a 11 (.cl 108 [(.t 9),(.t 10)] [0,1])]) (CR)
def WE:List RV:=[]
theorem aLG:aP Tryz.prog true ⟨fun r k=>if r=0/\k=2 then .own [0,1] else if r=1/\k=2 then .own [0,1] else if r=5/\k=1 then .own [0,1,2,3,4,5] else if r=4/\k=1 then .own [0,1] else if r=6/\k=2 then .own [0,1] else .own [],fun r=>[1,2,4,6].contains r⟩ Tryz.f101=some (WG,WE):=by kernel_rfl
def WB:PC:=.ord  [.q (.q 3 (.fa 3 (.t 0))),.q (.l 4 (.ld1 (.t 3))),.q (.q 5 (.fa 3 (.t 1))),.q (.l 6 (.ld1 (.t 5))),.q (.l 7 (.ia 4 (.t 6) (.i 0))),.q (.q 8 (.fa 0 (.t 7))),.q (.l 9 (.ld1 (.t 8))),.q (.l 12 (.ld1 (.t 2))),.q (.q 13 (.fa 3 (.t 1))),.q (.l 14 (.ld1 (.t 13))),.q (.l 15 (.ia 4 (.t 14) (.i 0))),.q (.l 16 (.ldn 4 (.t 15))),.q (.q 18 (.lnL (.t 4))),.m (.a 10 (.cl 24 [(.t 9)] [])),.rc (.q 3 (.fa 3 (.t 0))),.rc (.l 4 (.ld1 (.t 3))),.rc (.l 12 (.ld1 (.t 2))),.rc (.q 13 (.fa 3 (.t 1))),.rc (.l 14 (.ld1 (.t 13))),.rc (.l 15 (.ia 4 (.t 14) (.i 0))),.rc (.l 16 (.ldn 4 (.t 15))),.rc (.q 18 (.lnL (.t 4))),.q (.q 11 (.fld1 1 (.t 10))),.m (.a 17 (.ca (.t 11) [(.t 12),(.t 16)] [0,1])),.rc (.q 3 (.fa 3 (.t 0))),.rc (.l 4 (.ld1 (.t 3))),.rc (.q 18 (.lnL (.t 4))),.m (.e 19 (.bsl 32 5 [(.k (.agg #[(.int .i64 0),(.int .i64 0),(.string (mk [])),(.slice none 0 0),(.slice none 0 0)]))])),.rc (.q 3 (.fa 3 (.t 0))),.rc (.l 4 (.ld1 (.t 3))),.rc (.q 18 (.lnL (.t 4))),.m (.e 20 (.ap 32 5 80 (.t 4) (.t 19))),.q (.l 21 (.ia 5 (.t 20) (.t 18))),.q (.q 22 (.fa 3 (.t 0))),.fk (.s (.st 5 (.t 21) (.t 17))) (.s (.st 1 (.t 22) (.t 20))) [.q 22 (.fa 3 (.t 0))] [.l 21 (.ia 5 (.t 20) (.t 18))]]
def Z8:List RV:=[]
theorem aLO:aP Tryz.prog true ⟨fun r k=>if r=0/\k=14 then .own [0,1] else .own [],fun _=>false⟩ Tryz.f102=some (WB,Z8):=by kernel_rfl
def p9:PC:=.seq (.gh (.reg [.l 33 (.ld1 (.t 0)),.a 34 (.cl 31 [(.t 33)] [0,1])])) .ret
@[go_sem ↓] theorem aNZ:aT p9:=aU _
def BM:PC:=.gh (.ord  [.q (.q 49 (.fa 4 (.t 3))),.q (.l 50 (.ld1 (.t 49))),.q (.q 51 (.fa 0 (.t 6))),.q (.l 52 (.ld1 (.t 51))),.q (.q 53 (.fa 2 (.t 6))),.q (.q 54 (.fa 0 (.t 53))),.q (.l 55 (.ld1 (.t 54))),.q (.l 58 (.ld1 (.t 0))),.q (.q 59 (.fa 2 (.t 6))),.q (.l 60 (.ldn 4 (.t 59))),.q (.q 63 (.lnL (.t 50))),.m (.a 56 (.cl 24 [(.t 55)] [])),.rc (.q 49 (.fa 4 (.t 3))),.rc (.l 50 (.ld1 (.t 49))),.rc (.q 51 (.fa 0 (.t 6))),.rc (.l 52 (.ld1 (.t 51))),.rc (.l 58 (.ld1 (.t 0))),.rc (.q 59 (.fa 2 (.t 6))),.rc (.l 60 (.ldn 4 (.t 59))),.rc (.q 63 (.lnL (.t 50))),.q (.q 57 (.fld1 1 (.t 56))),.m (.a 61 (.ca (.t 57) [(.t 58),(.t 60)] [0,1])),.rc (.q 49 (.fa 4 (.t 3))),.rc (.l 50 (.ld1 (.t 49))),.rc (.q 51 (.fa 0 (.t 6))),.rc (.l 52 (.ld1 (.t 51))),.rc (.q 63 (.lnL (.t 50))),.q (.q 62 (.bd [(.int .i64 0),(.int .i64 0),(.int .i64 0),(.string (mk [])),(.slice none 0 0),(.slice none 0 0)] [(0,1,(.t 52)),(1,5,(.t 61))])),.m (.e 64 (.bsl 57 6 [(.k (.agg #[(.int .i64 0),(.int .i64 0),(.int .i64 0),(.string (mk [])),(.slice none 0 0),(.slice none 0 0)]))])),.rc (.q 49 (.fa 4 (.t 3))),.rc (.l 50 (.ld1 (.t 49))),.rc (.q 51 (.fa 0 (.t 6))),.rc (.l 52 (.ld1 (.t 51))),.rc (.q 63 (.lnL (.t 50))),.rc (.q 62 (.bd [(.int .i64 0),(.int .i64 0),(.int .i64 0),(.string (mk [])),(.slice none 0 0),(.slice none 0 0)] [(0,1,(.t 52)),(1,5,(.t 61))])),.m (.e 65 (.ap 57 6 88 (.t 50) (.t 64))),.q (.l 66 (.ia 6 (.t 65) (.t 63))),.q (.q 67 (.fa 4 (.t 3))),.fk (.s (.st 6 (.t 66) (.t 62))) (.s (.st 1 (.t 67) (.t 65))) [.q 67 (.fa 4 (.t 3))] [.l 66 (.ia 6 (.t 65) (.t 63))]])
@[go_sem ↓] theorem aOG:aT BM:=aU _
def CJ:PC:=.seq (.gh (.reg [.q 47 (.fa 0 (.t 6)),.l 48 (.ld1 (.t 47)),.s (.st 1 (.t 2) (.t 48))])) (BM)
@[go_sem ↓] theorem aM5:aT CJ:=aU _
def BZ:PC:=.seq (.gh (.reg [.q 42 (.fa 1 (.t 1)),.l 43 (.ld1 (.t 42)),.v 44 5,.l 45 (.ia 7 (.t 43) (.t 44)),.l 46 (.ldn 7 (.t 45)),.e 6 (.al (.agg #[(.int .i64 0),(.string (mk [])),(.int .i64 0),(.int .i64 0),(.string (mk [])),(.slice none 0 0),(.bool false)]) 97),.s (.st 7 (.t 6) (.t 46))])) (CJ)
@[go_sem ↓] theorem aN8:aT BZ:=aU _
def DC:PC:=.seq (.gh (.reg [.l 40 (.ld1 (.t 0)),.a 41 (.cl 108 [(.t 40),(.k (.string (mk [61])))] [0,1])])) (BZ)
@[go_sem ↓] theorem aOL:aT DC:=aU _
def C8:PC:=.seq (.gh (.reg [.l 35 (.ld1 (.t 0)),.q 36 (.nc (.t 35)),.q 37 (.fa 3 (.t 36)),.l 38 (.ld1 (.t 37)),.a 39 (.cl 100 [(.t 38)] [1])])) (DC)
@[go_sem ↓] theorem aMW:aT C8:=aU _
def m9:PC:=.seq (.seq (.gh (.reg [.q 16 (.fa 0 (.t 4)),.l 17 (.ld1 (.t 16)),.q 18 (.bin .neq true (.t 17) (.i 1)),.v 19 18,⟨some 20,(some (19,false)),.q (.mv (.t 5))⟩,⟨some 21,(some (19,false)),.q (.bin .lss true (.t 20) (.i 0))⟩,.a 22 (.pick (.t 19) (.k (.bool true)) (.t 21)),.v 23 22,⟨some 24,(some (23,false)),.q (.fa 1 (.t 1))⟩,⟨some 25,(some (23,false)),.l (.ld1 (.t 24))⟩,⟨some 26,(some (23,false)),.q (.mv (.t 5))⟩,⟨some 27,(some (23,false)),.l (.ia 7 (.t 25) (.t 26))⟩,⟨some 28,(some (23,false)),.q (.fa 0 (.t 27))⟩,⟨some 29,(some (23,false)),.l (.ld1 (.t 28))⟩,⟨some 30,(some (23,false)),.l (.ld1 (.t 2))⟩,⟨some 31,(some (23,false)),.q (.bin .leq true (.t 29) (.t 30))⟩,.a 32 (.pick (.t 23) (.k (.bool true)) (.t 31))])) (.cond (.t 32) (p9) .skip)) (C8)
@[go_sem ↓] theorem aM4:aT m9:=aU _
def C9:PC:=.seq (.gh (.reg [.q 12 (.fa 1 (.t 1)),.l 13 (.ld1 (.t 12)),.q 14 (.mf 107 [(.t 4)]),.a 15 (.cl 106 [(.t 13),(.t 14)] [7]),.v 5 15])) (m9)
@[go_sem ↓] theorem aM2:aT C9:=aU _
def WY:PC:=.seq (.reg [.l 7 (.ld1 (.t 0)),.q 8 (.nc (.t 7)),.q 9 (.fa 3 (.t 8)),.l 10 (.ld1 (.t 9)),.a 11 (.cl 30 [(.t 10)] [1]),.e 4 (.al (.agg #[(.int .i64 0),(.string (mk [])),(.int .i64 0),(.int .i64 0)]) 71),.s (.st 4 (.t 4) (.t 11))]) (C9)
def YN:List RV:=[]
theorem aJ4:aP Tryz.prog true ⟨fun r k=>if r=0/\k=4 then .own [1] else if r=1/\k=3 then .own [7] else if r=3/\k=1 then .own [0,1] else if r=4/\k=4 then .own [1] else if r=5/\k=1 then .own [0,1] else if r=8/\k=12 then .own [0,1] else .own [],fun r=>[1,2,3,4,5,6,7,8].contains r⟩ Tryz.f105=some (WY,YN):=by kernel_rfl
def Z0:PC:=.seq (.reg [.e 2 (.bx 97 (.t 0)),.q 3 (.mv (.k (.bool false)))]) (.seq (.reg [.q 4 (.fa 1 (.t 2)),.l 5 (.ld1 (.t 4)),.q 6 (.fa 1 (.t 1)),.l 7 (.ld1 (.t 6)),.q 8 (.bin .eql true (.t 5) (.t 7)),.v 3 8]) .ret)
def WU:List RV:=[.mv (.t 3)]
theorem aKJ:aP Tryz.prog true ⟨fun _ _=>.own [],fun _=>false⟩ Tryz.f107=some (Z0,WU):=by kernel_rfl
def X5:PC:=.seq (.reg [.v 4 0,.v 5 1,.a 6 (.cl 128 [(.t 4),(.t 5)] [0,1]),.q 7 (.not (.t 6))]) (.cond (.t 7) (.reg [.v 8 0,.a 9 (.cl 31 [(.t 8)] [0,1])]) .skip)
def ZH:List RV:=[]
theorem aKZ:aP Tryz.prog true ⟨fun r k=>if r=0/\k=2 then .own [0,1] else if r=1/\k=1 then .own [0,1] else .own [],fun _=>false⟩ Tryz.f108=some (X5,ZH):=by kernel_rfl
def N0:PC:=.seq (.reg [.q 4 (.mv (.k (.bool false)))]) (.seq (.reg [.v 5 0,.q 6 (.nc (.t 5)),.q 7 (.fa 4 (.t 6)),.l 8 (.ld1 (.t 7)),.q 9 (.not (.t 8)),.v 10 9,⟨some 11,(some (10,true)),.q (.mv (.t 0))⟩,⟨some 12,(some (10,true)),.q (.nc (.t 11))⟩,⟨some 13,(some (10,true)),.q (.fa 3 (.t 12))⟩,⟨some 14,(some (10,true)),.l (.ld1 (.t 13))⟩,⟨some 15,(some (10,true)),.q (.mv (.t 1))⟩,⟨some 16,(some (10,true)),.cl 148 [(.t 14),(.t 15)] [1]⟩,.a 17 (.pick (.t 10) (.t 16) (.k (.bool false))),.v 4 17]) .ret)
def O9:List RV:=[.mv (.t 4)]
theorem aLR:aP Tryz.prog true ⟨fun r k=>if r=1/\k=11 then .own [1] else .own [],fun _=>false⟩ Tryz.f128=some (N0,O9):=by kernel_rfl
end Go.Proofs.YtkpohmhenegkiaaGreatDoor
namespace Go.Proofs
open Go.Shelf
def Tryz.laysM173_ren:Go.Shelf.Ren:=⟨fun | 173=>109 | 246=>131 | 283=>150 | 284=>151 | 285=>152 | 286=>153 | 129=>160 | 317=>159 | 318=>161 | 319=>162 | 320=>163 | 337=>165 | 338=>166 | n=>n,fun | 2=>2 | 3=>3 | 9=>9 | 4=>4 | 171=>169 | 0=>0 | 53=>139 | 37=>43 | 5=>5 | 173=>172 | 212=>184 | 51=>185 | 20=>20 | 213=>186 | 46=>187 | 232=>190 | 233=>191 | n=>n,fun | 17=>0 | 18=>1 | 19=>2 | n=>n⟩
theorem Tryz.lays173:Go.Proofs.Lays.n173 Tryz.prog Tryz.laysM173_ren:={
 mixed:=by kernel_rfl
 f129:=Tryz.func160.trans (congrArg some (by kernel_rfl))
 f173:=Tryz.func109.trans (congrArg some (by kernel_rfl))
 f246:=Tryz.func131.trans (congrArg some (by kernel_rfl))
 f283:=Tryz.func150.trans (congrArg some (by kernel_rfl))
 f284:=Tryz.func151.trans (congrArg some (by kernel_rfl))
 f285:=Tryz.func152.trans (congrArg some (by kernel_rfl))
 f286:=Tryz.func153.trans (congrArg some (by kernel_rfl))
 f317:=Tryz.func159.trans (congrArg some (by kernel_rfl))
 f318:=Tryz.func161.trans (congrArg some (by kernel_rfl))
 f319:=Tryz.func162.trans (congrArg some (by kernel_rfl))
 f320:=Tryz.func163.trans (congrArg some (by kernel_rfl))
 f337:=Tryz.func165.trans (congrArg some (by kernel_rfl))
 f338:=Tryz.func166.trans (congrArg some (by kernel_rfl))
 t0:=Tryz.underlying0
 a0:=Tryz.isAgg0
 z0:=Tryz.sizeOf0
 v0:=Tryz.zeroValue0
 t2:=Tryz.underlying2
 a2:=Tryz.isAgg2
 z2:=Tryz.sizeOf2
 v2:=Tryz.zeroValue2
 t3:=Tryz.underlying3
 a3:=Tryz.isAgg3
 z3:=Tryz.sizeOf3
 v3:=Tryz.zeroValue3
 t4:=Tryz.underlying4
 a4:=Tryz.isAgg4
 z4:=Tryz.sizeOf4
 v4:=Tryz.zeroValue4
 t5:=Tryz.underlying5
 a5:=Tryz.isAgg5
 z5:=Tryz.sizeOf5
 v5:=Tryz.zeroValue5
 t9:=Tryz.underlying9
 a9:=Tryz.isAgg9
 z9:=Tryz.sizeOf9
 v9:=Tryz.zeroValue9
 t20:=Tryz.underlying20
 a20:=Tryz.isAgg20
 z20:=Tryz.sizeOf20
 v20:=Tryz.zeroValue20
 t37:=Tryz.underlying43
 a37:=Tryz.isAgg43
 z37:=Tryz.sizeOf43
 v37:=Tryz.zeroValue43
 t46:=Tryz.underlying187
 a46:=Tryz.isAgg187
 z46:=Tryz.sizeOf187
 v46:=Tryz.zeroValue187
 t51:=Tryz.underlying185
 a51:=Tryz.isAgg185
 z51:=Tryz.sizeOf185
 v51:=Tryz.zeroValue185
 t53:=Tryz.underlying139
 a53:=Tryz.isAgg139
 z53:=Tryz.sizeOf139
 v53:=Tryz.zeroValue139
 t171:=Tryz.underlying169
 a171:=Tryz.isAgg169
 z171:=Tryz.sizeOf169
 v171:=Tryz.zeroValue169
 t173:=Tryz.underlying172
 a173:=Tryz.isAgg172
 z173:=Tryz.sizeOf172
 v173:=Tryz.zeroValue172
 t212:=Tryz.underlying184
 a212:=Tryz.isAgg184
 z212:=Tryz.sizeOf184
 v212:=Tryz.zeroValue184
 t213:=Tryz.underlying186
 a213:=Tryz.isAgg186
 z213:=Tryz.sizeOf186
 t232:=Tryz.underlying190
 a232:=Tryz.isAgg190
 z232:=Tryz.sizeOf190
 v232:=Tryz.zeroValue190
 t233:=Tryz.underlying191
 a233:=Tryz.isAgg191
 z233:=Tryz.sizeOf191
 v233:=Tryz.zeroValue191
 g17:=by kernel_rfl
 g18:=by kernel_rfl
 g19:=by kernel_rfl }
theorem Tryz.laysM173:Go.Proofs.LaysM.n173 Tryz.prog Tryz.laysM173_ren:={ Tryz.lays173 with
 i0:=by kernel_rfl
 i2:=by kernel_rfl
 i3:=by kernel_rfl
 i4:=by kernel_rfl
 i5:=by kernel_rfl
 i9:=by kernel_rfl
 i20:=by kernel_rfl
 i37:=by kernel_rfl
 i46:=by kernel_rfl
 i51:=by kernel_rfl
 i53:=by kernel_rfl
 i171:=by kernel_rfl
 i173:=by kernel_rfl
 i212:=by kernel_rfl
 i232:=by kernel_rfl
 i233:=by kernel_rfl
 m17:=by kernel_rfl
 m18:=by kernel_rfl
 m19:=by kernel_rfl }
open Go.RowKit Go.Sort Go.Lib in
theorem Tryz.strconv_FormatInt_10 (n:Int) (h0:-9223372036854775808<=n) (h1:n<=9223372036854775807) (w:World) (htab:Lib.TabIs Tryz.prog w "internal/strconv.uint64pow10" .u64 Lib.pow10Tab) :
 Calls Tryz.prog 109 #[.int .i64 n,.int .i64 10] w fun e w'=>e=.returned (.string ⟨(Lib.itoa n).toArray⟩)/\∃ k os,w'=grow (w.drewN k) os:=Any.strconv_FormatInt_10 Tryz.laysM173 n h0 h1 w htab
end Go.Proofs
namespace Go.Proofs.YtkpohmhenegkiaaGreatDoor
open Go.W
theorem ER:∀ n:Nat,Lib.decDigits n=digs n:=fun n=>by
 induction n using Nat.strongRecOn with
 | _ n ih=>
  rw [Lib.decDigits,digs]
  by_cases h:n < 10
  · have e:n % 10=n:=Nat.mod_eq_of_lt h
    simp [h,e,Nat.toUInt8]
  · rw [dif_neg h,dif_neg h,ih (n / 10) (by omega)]
theorem SK (n:Int):Lib.itoa n=kO n:=by
 unfold Lib.itoa kO
 by_cases h:n < 0
 · rw [if_pos h,decide_eq_true h,ER]; rfl
 · rw [if_neg h,decide_eq_false h,ER,show n.toNat=n.natAbs by omega]; rfl
def GA:List S->Prop:=fun av=>match av with
 | [.va (.c1 (.vl (.int .i64 n))),.va (.c1 (.vl (.int .i64 b)))]=>b=10/\-9223372036854775808<=n/\n<=9223372036854775807
 | _=>False
theorem BJ {av:List S} (h:GA av):∃ n:Int,av=[iS .i64 n,iS .i64 10]/\-9223372036854775808<=n/\n<=9223372036854775807:=by
 unfold GA at h
 split at h
 · obtain ⟨rfl,h⟩:=h; exact ⟨_,rfl,h⟩
 · exact h.elim
def WO:List S->A:=fun av=>match av with
 | [.va (.c1 (.vl (.int .i64 n))),.va (.c1 (.vl (.int .i64 _)))]=>tA (mk (kO n))
 | _=>.gs []
def fiFn:Fun:=⟨GA,WO,fun av h=>by obtain ⟨_,rfl,_⟩:=BJ h; trivial⟩
attribute [go_sem ↓] GA WO fiFn
theorem aFW {ro:RO} {w:World} (h:GR Tryz.prog ro w):Lib.TabIs Tryz.prog w "internal/strconv.uint64pow10" .u64 Lib.pow10Tab:=by
 have:=(h _ (List.mem_singleton.2 rfl) _ Tryz.laysM173.m17).2
 unfold Lib.TabIs
 rw [this,Lib.pow10Tab,List.map_map]
 rfl
theorem M5:Meets Tryz.prog 109 fiFn.sp:=by
 refine ⟨by kernel_rfl,?_⟩
 rintro xs vs E ro w K hl hrel hr ⟨⟨h,hE⟩,hK⟩ hG
 obtain ⟨n,rfl,h0,h1⟩:=BJ h
 obtain ⟨v0,v1,rfl⟩:∃ v0 v1,vs=[v0,v1]:=by
  match vs,hl with
  | [v0,v1],_=>exact ⟨v0,v1,rfl⟩
 have e0:v0=.int .i64 n:=hrel 0 _ _ rfl rfl
 have e1:v1=.int .i64 10:=hrel 1 _ _ rfl rfl
 subst e0 e1
 refine (Tryz.strconv_FormatInt_10 n h0 h1 w (aFW hG)).mono ?_
 rintro e w' ⟨rfl,k,os,rfl⟩
 refine ⟨tS (mk (kO n)),_,E,ro,rfl,by rw [SK]; rfl,by rw [hE]; exact hK,?_⟩
 have hk:∀ j,j < w.heap.size->(Sort.grow (w.drewN k) os).heap[j]? = w.heap[j]?:=fun j hj=>by
  simp [Sort.grow,World.drewN,Array.getElem?_append_left hj]
 exact hr.grown hk (by simp [Sort.grow,World.drewN]) rfl rfl rfl
def gQ (k:Int):FuncId:=bif k == 1 then 54 else bif k == 4 then 56 else bif k == 7 then 58 else bif k == 5 then 60 else bif k == 6 then 62 else 64
def gU (k:Int):FuncId:=bif k == 1 then 55 else bif k == 4 then 57 else bif k == 7 then 59 else bif k == 5 then 61 else bif k == 6 then 63 else 65
def mF:W.Spec:=fun av H K=>match av with
 | [.va (.c1 (.vl (.int .i64 k)))]=>H=[]/\K (.va (.gs [.fn (gQ k) [],.fn (gU k) []])) []
 | _=>False
attribute [go_sem ↓] mF
theorem mOf:Meets Tryz.prog 24 mF:=by
 refine aE Tryz.func24 aOZ 1 (by rw [Tryz.ntmps24]; decide) (aA _) (fun av H K h=>by
  unfold mF at h
  split at h
  · rfl
  · exact h.elim) ?_
 intro av H K h
 unfold mF at h
 split at h
 · rename_i k
   obtain ⟨rfl,hK⟩:=h
   unfold gQ gU at hK
   have fin:∀ (f g:FuncId) (R:Hp),K (.va (.gs [.fn f [],.fn g []])) []->W.Fin 0 K (.va (.gs [.fn f [],.fn g []])) R:=fun f g R h=>.sel [] (by simp) (by simp) rfl (.done (by simpa [go_sem] using h))
   cases h1:k == 1 with
   | true=>rw [h1] at hK; simp -dsimp only [go_sem,xN,w6,h1]; exact fin _ _ _ hK
   | false=>
   cases h2:k == 4 with
   | true=>rw [h1,h2] at hK; simp -dsimp only [go_sem,xN,w6,h1,h2]; exact fin _ _ _ hK
   | false=>
   cases h3:k == 7 with
   | true=>rw [h1,h2,h3] at hK; simp -dsimp only [go_sem,xN,w6,h1,h2,h3]; exact fin _ _ _ hK
   | false=>
   cases h4:k == 5 with
   | true=>rw [h1,h2,h3,h4] at hK; simp -dsimp only [go_sem,xN,w6,h1,h2,h3,h4]; exact fin _ _ _ hK
   | false=>
   cases h5:k == 6 with
   | true=>rw [h1,h2,h3,h4,h5] at hK; simp -dsimp only [go_sem,xN,w6,h1,h2,h3,h4,h5]; exact fin _ _ _ hK
   | false=>rw [h1,h2,h3,h4,h5] at hK; simp -dsimp only [go_sem,xN,w6,h1,h2,h3,h4,h5]; exact fin _ _ _ hK
 · exact h.elim
structure Fs where
 bad:Bool
 off:Int
 n:Nat
instance:Inhabited Tk:=⟨⟨0,[],0,0⟩⟩
def aO (ts:List Tk) (n:Nat):Tk:=ts.getD n default
abbrev RA (s:Sc) (b:Bool) (o:Int):B:=.cells [.vl (.int .i64 s.ver),.fz (s.es.map bG),.fz (s.ss.map aR),.pt 1 0,.vl (.bool b),.vl (.int .i64 o)] 62
abbrev iW (s:Sc) (ts:List Tk) (z:Fs):Hp:=[RA s z.bad z.off,iY 114 ts z.n]
structure Tks (ts:List Tk):Prop where
 e:Ends ts
 n:∀ t ∈ ts,cD t.n
 x:∀ t ∈ ts,t.x.length<=4000
 a:∀ t ∈ ts,t.a<=4000
def cV (ts:List Tk) (z:Fs):Fs:=bif z.bad then z else ⟨true,(aO ts z.n).a,z.n⟩
def cG (w:List UInt8) (ts:List Tk) (z:Fs):Bool:=!z.bad && bQ 4 w (aO ts z.n)
def cJ (w:List UInt8) (ts:List Tk) (z:Fs):Fs:=bif cG w ts z then ⟨false,z.off,cP ts z.n⟩ else z
def bW (w:List UInt8) (ts:List Tk) (z:Fs):Fs:=bif cG w ts z then ⟨false,z.off,cP ts z.n⟩ else cV ts z
def hZ (k:Int) (ts:List Tk) (z:Fs):Bool:=!z.bad && (aO ts z.n).k == k
def fZ (k:Int) (ts:List Tk) (z:Fs):Tk:=bif hZ k ts z then aO ts z.n else default
def dR (k:Int) (ts:List Tk) (z:Fs):Fs:=bif hZ k ts z then ⟨false,z.off,cP ts z.n⟩ else cV ts z
theorem jG {ts:List Tk} {n:Nat} (h:n < ts.length):ts[n]? = some (aO ts n):=by simp [aO,List.getD_eq_getElem?_getD,a7 h]
theorem lK {T:TypeId} {ts:List Tk} {n:Nat} {K:S->Hp->Prop} (he:Ends ts) (h:n < ts.length) (hK:K (.va (.gs (bE (aO ts n)))) [iY T ts n]):cM T [.va (.c1 (.pt 0 0))] [iY T ts n] K:=
 ⟨rfl,ts,n,rfl,rfl,he,h,fun t ht=>by rw [jG h] at ht; cases ht; exact hK⟩
theorem xX {T:TypeId} {ts:List Tk} {n:Nat} {K:S->Hp->Prop} (he:Ends ts) (h:n < ts.length) (hK:K (.va (.gs (bE (aO ts n)))) [iY T ts (cP ts n)]):cU T [.va (.c1 (.pt 0 0))] [iY T ts n] K:=
 ⟨rfl,ts,n,rfl,rfl,he,h,fun t ht=>by rw [jG h] at ht; cases ht; exact hK⟩
theorem t6 {k:Int} {T:TypeId} {w:ByteArray} {ts:List Tk} {n:Nat} {K:S->Hp->Prop} (he:Ends ts) (h:n < ts.length) (hK:K (bS (bQ k (bl w) (aO ts n))) [iY T ts (n4 k (bl w) ts n (aO ts n))]):cL k T [.va (.c1 (.pt 0 0)),tS w] [iY T ts n] K:=
 ⟨rfl,ts,n,rfl,rfl,he,h,fun t ht=>by rw [jG h] at ht; cases ht; exact hK⟩
def mY:W.Spec:=fun av H K=>∃ s ts z,av=[.va (.c1 (.pt 0 0))]/\H=iW s ts z/\Ends ts/\z.n < ts.length/\K (.tu []) (iW s ts (cV ts z))
theorem eK {s:Sc} {ts:List Tk} {z:Fs} {K:S->Hp->Prop} (h1:Ends ts) (h2:z.n < ts.length) (hK:K (.tu []) (iW s ts (cV ts z))):mY [.va (.c1 (.pt 0 0))] (iW s ts z) K:=⟨s,ts,z,rfl,rfl,h1,h2,hK⟩
attribute [-go_sem] cM cU cL e7
theorem p5:Meets Tryz.prog 31 mY:=by
 refine aE Tryz.func31 aQF 1 (by rw [Tryz.ntmps31]; decide) (aB q9 (aA _)) (fun av H K h=>by obtain ⟨_,_,_,rfl,_⟩:=h; rfl) ?_
 rintro av H K ⟨s,ts,⟨b,o,n⟩,rfl,rfl,he,hn,hK⟩
 unfold cV at hK
 cases b with
 | true=>
  simp (maxSteps:=1000000) -dsimp only [go_sem,VX,S5]
  exact .done hK
 | false=>
  simp (maxSteps:=1000000) -dsimp only [go_sem,VX,S5]
  refine lK he hn ?_
  simp (maxSteps:=1000000) -dsimp only [go_sem]
  exact .done hK
end Go.Proofs.YtkpohmhenegkiaaGreatDoor
namespace Go.Proofs.YtkpohmhenegkiaaGreatDoor
open Go.W
attribute [-go_sem] cM cU cL e7 cZ
theorem gZ (k:Int) (w:List UInt8) (ts:List Tk) (n:Nat) (t:Tk):n4 k w ts n t=bif bQ k w t then cP ts n else n:=rfl
def RU:W.Spec:=fun av H K=>∃ s ts z w,av=[.va (.c1 (.pt 0 0)),tS w]/\H=iW s ts z/\Ends ts/\z.n < ts.length/\K (bS (cG (bl w) ts z)) (iW s ts (cJ (bl w) ts z))
theorem qH {s:Sc} {ts:List Tk} {z:Fs} {w:ByteArray} {K:S->Hp->Prop} (h1:Ends ts) (h2:z.n < ts.length) (hK:K (bS (cG (bl w) ts z)) (iW s ts (cJ (bl w) ts z))):RU [.va (.c1 (.pt 0 0)),tS w] (iW s ts z) K:=⟨s,ts,z,w,rfl,rfl,h1,h2,hK⟩
theorem NH:Meets Tryz.prog 128 RU:=by
 refine aE Tryz.func128 aLR 2 (by rw [Tryz.ntmps128]; decide) (aB aHP (aA _)) (fun av H K h=>by obtain ⟨_,_,_,_,rfl,_⟩:=h; rfl) ?_
 rintro av H K ⟨s,ts,⟨b,o,n⟩,w,rfl,rfl,he,hn,hK⟩
 unfold cJ cG at hK
 cases b with
 | true=>
  simp (maxSteps:=1000000) -dsimp only [go_sem,N0,O9]
  exact .done hK
 | false=>
  simp (maxSteps:=1000000) -dsimp only [go_sem,N0,O9]
  refine t6 he hn ?_
  rw [gZ]
  cases ht:bQ 4 (bl w) (aO ts n)<;>rw [ht] at hK<;>(simp (maxSteps:=1000000) -dsimp only [go_sem]; exact .done hK)
def uH:W.Spec:=fun av H K=>∃ s ts z w,av=[.va (.c1 (.pt 0 0)),tS w]/\H=iW s ts z/\Ends ts/\z.n < ts.length/\K (.tu []) (iW s ts (bW (bl w) ts z))
theorem jF {s:Sc} {ts:List Tk} {z:Fs} {w:ByteArray} {K:S->Hp->Prop} (h1:Ends ts) (h2:z.n < ts.length) (hK:K (.tu []) (iW s ts (bW (bl w) ts z))):uH [.va (.c1 (.pt 0 0)),tS w] (iW s ts z) K:=⟨s,ts,z,w,rfl,rfl,h1,h2,hK⟩
theorem G4:Meets Tryz.prog 108 uH:=by
 refine aE Tryz.func108 aKZ 2 (by rw [Tryz.ntmps108]; decide) (aB NH (aB p5 (aA _))) (fun av H K h=>by obtain ⟨_,_,_,_,rfl,_⟩:=h; rfl) ?_
 rintro av H K ⟨s,ts,z,w,rfl,rfl,he,hn,hK⟩
 simp (maxSteps:=1000000) -dsimp only [go_sem,X5,ZH]
 refine qH he hn ?_
 unfold bW at hK
 cases ht:cG (bl w) ts z with
 | true=>
  have e:cJ (bl w) ts z=⟨false,z.off,cP ts z.n⟩:=by unfold cJ; rw [ht]; rfl
  rw [ht] at hK
  rw [e]
  simp (maxSteps:=1000000) -dsimp only [go_sem]
  exact .done hK
 | false=>
  have e:cJ (bl w) ts z=z:=by unfold cJ; rw [ht]; rfl
  rw [ht] at hK
  rw [e]
  simp (maxSteps:=1000000) -dsimp only [go_sem]
  refine eK he hn ?_
  simp (maxSteps:=1000000) -dsimp only [go_sem]
  exact .done hK
def KS:W.Spec:=fun av H K=>∃ s ts z k,av=[.va (.c1 (.pt 0 0)),iS .i64 k]/\H=iW s ts z/\Ends ts/\z.n < ts.length/\K (.va (.gs (bE (fZ k ts z)))) (iW s ts (dR k ts z))
theorem EN {s:Sc} {ts:List Tk} {z:Fs} {k:Int} {K:S->Hp->Prop} (h1:Ends ts) (h2:z.n < ts.length) (hK:K (.va (.gs (bE (fZ k ts z)))) (iW s ts (dR k ts z))):KS [.va (.c1 (.pt 0 0)),iS .i64 k] (iW s ts z) K:=⟨s,ts,z,k,rfl,rfl,h1,h2,hK⟩
theorem PO:Meets Tryz.prog 97 KS:=by
 refine aE Tryz.func97 aRQ 2 (by rw [Tryz.ntmps97]; decide) (aB q9 (aB FZ (aB p5 (aA _)))) (fun av H K h=>by obtain ⟨_,_,_,_,rfl,_⟩:=h; rfl) ?_
 rintro av H K ⟨s,ts,⟨b,o,n⟩,k,rfl,rfl,he,hn,hK⟩
 unfold fZ dR hZ at hK
 cases b with
 | true=>
  simp (maxSteps:=1000000) -dsimp only [go_sem,UP,TH]
  refine aD rfl (.done ?_)
  simp (maxSteps:=1000000) -dsimp only [go_sem,A0]
  refine eK (z:=⟨true,o,n⟩) he hn ?_
  simp (maxSteps:=1000000) -dsimp only [go_sem]
  refine .sel [0,1] (by simp) (by simp) rfl (.done ?_)
  simp (maxSteps:=1000000) -dsimp only [go_sem]
  exact hK
 | false=>
  simp (maxSteps:=1000000) -dsimp only [go_sem,UP,TH]
  refine lK he hn ?_
  cases ht:(aO ts n).k == k with
  | true=>
   have ht':((aO ts n).k != k)=false:=by rw [bne,ht]; rfl
   rw [ht] at hK
   simp (maxSteps:=1000000) -dsimp only [go_sem,bE,ht']
   refine aD rfl (.done ?_)
   simp (maxSteps:=1000000) -dsimp only [go_sem,HL]
   refine xX he hn ?_
   simp (maxSteps:=1000000) -dsimp only [go_sem]
   refine .sel [0,1] (by simp) (by simp) rfl (.done ?_)
   simp (maxSteps:=1000000) -dsimp only [go_sem]
   exact hK
  | false=>
   have ht':((aO ts n).k != k)=true:=by rw [bne,ht]; rfl
   rw [ht] at hK
   simp (maxSteps:=1000000) -dsimp only [go_sem,bE,ht']
   refine aD rfl (.done ?_)
   simp (maxSteps:=1000000) -dsimp only [go_sem,A0]
   refine eK (z:=⟨false,o,n⟩) he hn ?_
   simp (maxSteps:=1000000) -dsimp only [go_sem]
   refine .sel [0,1] (by simp) (by simp) rfl (.done ?_)
   simp (maxSteps:=1000000) -dsimp only [go_sem]
   exact hK
end Go.Proofs.YtkpohmhenegkiaaGreatDoor
namespace Go.Proofs.YtkpohmhenegkiaaGreatDoor
open Go.W
attribute [-go_sem] cM cU cL e7 cZ
def iF:List UInt8:=[116,114,117,101]
def gI:List UInt8:=[102,97,108,115,101]
def cF (ts:List Tk) (z:Fs):Vl × Fs:=
 bif !z.bad && bQ 1 iF (aO ts z.n) then (.mk 1 1 (mk []) [] [],⟨false,z.off,cP ts z.n⟩)
 else bif !z.bad && bQ 1 gI (aO ts z.n) then (.mk 1 0 (mk []) [] [],⟨false,z.off,cP ts z.n⟩)
 else (.mk 1 0 (mk []) [] [],cV ts z)
def H8 (k:Int) (ts:List Tk) (z:Fs):Vl × Fs:=(.mk k (fZ 2 ts z).n (mk []) [] [],dR 2 ts z)
def F4 (ts:List Tk) (z:Fs):Vl × Fs:=(.mk 4 0 (mk (fZ 3 ts z).x) [] [],dR 3 ts z)
def gL (e:En) (ts:List Tk) (z:Fs):Int:=bif !z.bad && (aO ts z.n).k == 1 then iK e.ns (mk (aO ts z.n).x) 0 else -1
def cE (e:En) (ts:List Tk) (z:Fs):Vl × Fs:=
 bif decide (gL e ts z < 0) || decide ((e.vs.length:Int)<=gL e ts z) then (.mk 7 0 (mk []) [] [],cV ts z)
 else (.mk 7 (e.vs.getD (gL e ts z).toNat 0) (mk []) [] [],⟨false,z.off,cP ts z.n⟩)
def o9 (D:Sc->Ty->Prop) (P:Sc->List Tk->Ty->Fs->Vl × Fs):W.Spec:=fun av H K=>∃ s ts t z,av=[.va (.c1 (.pt 0 0)),.va (.gs (aQ t))]/\H=iW s ts z/\s.fit/\TyOk t/\Tks ts/\z.n < ts.length/\D s t/\K (.va (.gs (a8 (P s ts t z).1))) (iW s ts (P s ts t z).2)
theorem pO {D:Sc->Ty->Prop} {P:Sc->List Tk->Ty->Fs->Vl × Fs}:∀ av H K,o9 D P av H K->av.length=2:=fun av H K h=>by obtain ⟨_,_,_,_,rfl,_⟩:=h; rfl
theorem IL:Meets Tryz.prog 65 (o9 (fun _ _=>True) fun _ ts t z=>H8 t.k ts z):=by
 refine aE Tryz.func65 aOX 2 (by rw [Tryz.ntmps65]; decide) (aB PO (aA _)) pO ?_
 rintro av H K ⟨s,ts,t,z,rfl,rfl,hs,ht,hts,hn,_,hK⟩
 simp (maxSteps:=1000000) -dsimp only [go_sem,aJ t,aG5,aE6]
 refine EN hts.e hn ?_
 simp (maxSteps:=1000000) -dsimp only [go_sem,bE]
 refine .sel [0,1] (by simp) (by simp) rfl (.done ?_)
 simp (maxSteps:=1000000) -dsimp only [go_sem]
 exact hK
theorem O6:Meets Tryz.prog 57 (o9 (fun _ _=>True) fun _ ts _ z=>F4 ts z):=by
 refine aE Tryz.func57 aP1 2 (by rw [Tryz.ntmps57]; decide) (aB PO (aA _)) pO ?_
 rintro av H K ⟨s,ts,t,z,rfl,rfl,hs,ht,hts,hn,_,hK⟩
 simp (maxSteps:=1000000) -dsimp only [go_sem,aJ t,aH8,aFC]
 refine EN hts.e hn ?_
 simp (maxSteps:=1000000) -dsimp only [go_sem,bE]
 refine .sel [0,1] (by simp) (by simp) rfl (.done ?_)
 simp (maxSteps:=1000000) -dsimp only [go_sem]
 exact hK
theorem NE:Meets Tryz.prog 55 (o9 (fun _ _=>True) fun _ ts _ z=>cF ts z):=by
 refine aE Tryz.func55 aO9 2 (by rw [Tryz.ntmps55]; decide) (aB aC9 (aB p5 (aA _))) pO ?_
 rintro av H K ⟨s,ts,t,⟨b,o,n⟩,rfl,rfl,hs,ht,hts,hn,_,hK⟩
 have hK:K (.va (.gs (a8 (cF ts ⟨b,o,n⟩).1))) (iW s ts (cF ts ⟨b,o,n⟩).2):=hK
 cases b with
 | true=>
  simp (maxSteps:=1000000) -dsimp only [go_sem,aJ t,T3,UN]
  refine aD rfl (.done ?_)
  simp (maxSteps:=1000000) -dsimp only [go_sem,A5]
  refine aD rfl (.done ?_)
  simp (maxSteps:=1000000) -dsimp only [go_sem,BA]
  refine eK (z:=⟨true,o,n⟩) hts.e hn ?_
  simp (maxSteps:=1000000) -dsimp only [go_sem]
  refine aD rfl (.done ?_)
  simp (maxSteps:=1000000) -dsimp only [go_sem,pM]
  refine .sel [0,1] (by simp) (by simp) rfl (.done ?_)
  simp (maxSteps:=1000000) -dsimp only [go_sem]
  exact hK
 | false=>
  simp (maxSteps:=1000000) -dsimp only [go_sem,aJ t,T3,UN]
  refine t6 hts.e hn ?_
  rw [gZ]
  rw [show bl (mk [116,114,117,101])=iF from rfl]
  cases h1:bQ 1 iF (aO ts n) with
  | true=>
   rw [show cF ts ⟨false,o,n⟩=(.mk 1 1 (mk []) [] [],⟨false,o,cP ts n⟩) by simp [cF,h1]] at hK
   simp (maxSteps:=1000000) -dsimp only [go_sem]
   refine aD rfl (.done ?_)
   simp (maxSteps:=1000000) -dsimp only [go_sem,GI]
   refine aD rfl (.done ?_)
   simp (maxSteps:=1000000) -dsimp only [go_sem,pM]
   refine .sel [0,1] (by simp) (by simp) rfl (.done ?_)
   simp (maxSteps:=1000000) -dsimp only [go_sem]
   exact hK
  | false=>
   simp (maxSteps:=1000000) -dsimp only [go_sem]
   refine aD rfl (.done ?_)
   simp (maxSteps:=1000000) -dsimp only [go_sem,A5]
   refine t6 hts.e hn ?_
   rw [gZ]
   rw [show bl (mk [102,97,108,115,101])=gI from rfl]
   cases h2:bQ 1 gI (aO ts n) with
   | true=>
    rw [show cF ts ⟨false,o,n⟩=(.mk 1 0 (mk []) [] [],⟨false,o,cP ts n⟩) by simp [cF,h1,h2]] at hK
    simp (maxSteps:=1000000) -dsimp only [go_sem]
    refine aD rfl (.done ?_)
    simp (maxSteps:=1000000) -dsimp only [go_sem,pM]
    refine .sel [0,1] (by simp) (by simp) rfl (.done ?_)
    simp (maxSteps:=1000000) -dsimp only [go_sem]
    exact hK
   | false=>
    rw [show cF ts ⟨false,o,n⟩=(.mk 1 0 (mk []) [] [],cV ts ⟨false,o,n⟩) by simp [cF,h1,h2]] at hK
    simp (maxSteps:=1000000) -dsimp only [go_sem]
    refine aD rfl (.done ?_)
    simp (maxSteps:=1000000) -dsimp only [go_sem,BA]
    refine eK (z:=⟨false,o,n⟩) hts.e hn ?_
    simp (maxSteps:=1000000) -dsimp only [go_sem]
    refine aD rfl (.done ?_)
    simp (maxSteps:=1000000) -dsimp only [go_sem,pM]
    refine .sel [0,1] (by simp) (by simp) rfl (.done ?_)
    simp (maxSteps:=1000000) -dsimp only [go_sem]
    exact hK
theorem QD:∀ (l:List ByteArray) (x:ByteArray) (i:Nat),-1<=iK l x i/\iK l x i < (l.length:Int) + i
 | [],_,_=>⟨by simp [iK],by simp only [iK,List.length_nil]; omega⟩
 | y :: l,x,i=>by
  have:=QD l x (i + 1)
  rw [iK]
  cases decide (x=y) with
  | true=>exact ⟨by simp only [aN]; omega,by simp only [aN,List.length_cons]; omega⟩
  | false=>exact ⟨by simp only [aH]; omega,by simp only [aH,List.length_cons]; omega⟩
theorem O3:Meets Tryz.prog 59 (o9 (fun _ _=>True) fun s ts t z=>cE ((dJ s.es t.n).getD default) ts z):=by
 refine aE Tryz.func59 aTG 2 (by rw [Tryz.ntmps59]; decide) (aB yT (aB q9 (aB FZ (aG aAM (aB p5 (aA _)))))) pO ?_
 rintro av H K ⟨s,ts,t,⟨b,o,n⟩,rfl,rfl,hs,ht,hts,hn,_,hK0⟩
 obtain ⟨e,hE⟩:∃ e,(dJ s.es t.n).getD default=e:=⟨_,rfl⟩
 have he:e.ok:=by
  rw [<-hE]
  cases h:dJ s.es t.n with
  | none=>exact ⟨by decide,by decide,by decide,fun _ h=>(by cases h),fun _ h=>(by cases h)⟩
  | some e=>exact hs.ok.es e (List.mem_of_find?_eq_some h)
 have hK:K (.va (.gs (a8 (cE e ts ⟨b,o,n⟩).1))) (iW s ts (cE e ts ⟨b,o,n⟩).2):=by
  have:=hK0; simp only [hE] at this; exact this
 clear hK0
 have hlv:=he.lv
 have hln:=he.ln
 have hvs:=he.vs
 simp (maxSteps:=1000000) -dsimp only [go_sem,aJ t,aGQ,aFQ]
 refine kC hs ?_
 rw [hE]
 simp (maxSteps:=1000000) -dsimp only [go_sem,bG]
 refine aD rfl (.done ?_)
 have g0:decide ((-1:Int) < 0)=true:=rfl
 cases b with
 | true=>
  simp (maxSteps:=1000000) -dsimp only [go_sem,AA]
  refine aD rfl (.done ?_)
  simp (maxSteps:=1000000) -dsimp only [go_sem,n6,g0]
  refine aD rfl (.done ?_)
  simp (maxSteps:=1000000) -dsimp only [go_sem,qI]
  refine eK (z:=⟨true,o,n⟩) hts.e hn ?_
  simp (maxSteps:=1000000) -dsimp only [go_sem]
  refine aD rfl (.done ?_)
  simp (maxSteps:=1000000) -dsimp only [go_sem,pN]
  refine .sel [0,1] (by simp) (by simp) rfl (.done ?_)
  simp (maxSteps:=1000000) -dsimp only [go_sem]
  rw [show cE e ts ⟨true,o,n⟩=(.mk 7 0 (mk []) [] [],cV ts ⟨true,o,n⟩) by simp [cE,gL]] at hK
  exact hK
 | false=>
  simp (maxSteps:=1000000) -dsimp only [go_sem,AA]
  refine lK hts.e hn ?_
  cases hk:(aO ts n).k == 1 with
  | false=>
   simp (maxSteps:=1000000) -dsimp only [go_sem,bE,hk]
   refine aD rfl (.done ?_)
   simp (maxSteps:=1000000) -dsimp only [go_sem,n6,g0]
   refine aD rfl (.done ?_)
   simp (maxSteps:=1000000) -dsimp only [go_sem,qI]
   refine eK (z:=⟨false,o,n⟩) hts.e hn ?_
   simp (maxSteps:=1000000) -dsimp only [go_sem]
   refine aD rfl (.done ?_)
   simp (maxSteps:=1000000) -dsimp only [go_sem,pN]
   refine .sel [0,1] (by simp) (by simp) rfl (.done ?_)
   simp (maxSteps:=1000000) -dsimp only [go_sem]
   rw [show cE e ts ⟨false,o,n⟩=(.mk 7 0 (mk []) [] [],cV ts ⟨false,o,n⟩) by simp [cE,gL,hk]] at hK
   exact hK
  | true=>
   simp (maxSteps:=1000000) -dsimp only [go_sem,bE,hk]
   refine aD rfl (.done ?_)
   simp (maxSteps:=1000000) -dsimp only [go_sem,H5]
   refine lK hts.e hn ?_
   simp (maxSteps:=1000000) -dsimp only [go_sem,bE,uF hln]
   have hi:gL e ts ⟨false,o,n⟩=iK e.ns (mk (aO ts n).x) 0:=by simp [gL,hk]
   have hlo:=(QD e.ns (mk (aO ts n).x) 0).1
   have hpE:cE e ts ⟨false,o,n⟩=bif decide (iK e.ns (mk (aO ts n).x) 0 < 0) || decide ((e.vs.length:Int)<=iK e.ns (mk (aO ts n).x) 0) then (.mk 7 0 (mk []) [] [],cV ts ⟨false,o,n⟩)
    else (.mk 7 (e.vs.getD (iK e.ns (mk (aO ts n).x) 0).toNat 0) (mk []) [] [],⟨false,o,cP ts n⟩):=by unfold cE; rw [hi]
   rw [hpE] at hK
   clear hpE hi
   obtain ⟨k,hkk⟩:∃ k,iK e.ns (mk (aO ts n).x) 0=k:=⟨_,rfl⟩
   rw [hkk] at hK hlo
   cases h1:decide (k < 0) with
   | true=>
    rw [h1] at hK
    refine aD rfl (.done ?_)
    simp (maxSteps:=1000000) -dsimp only [go_sem,n6,hkk,h1]
    refine aD rfl (.done ?_)
    simp (maxSteps:=1000000) -dsimp only [go_sem,qI]
    refine eK (z:=⟨false,o,n⟩) hts.e hn ?_
    simp (maxSteps:=1000000) -dsimp only [go_sem]
    refine aD rfl (.done ?_)
    simp (maxSteps:=1000000) -dsimp only [go_sem,pN]
    refine .sel [0,1] (by simp) (by simp) rfl (.done ?_)
    simp (maxSteps:=1000000) -dsimp only [go_sem]
    rw [Bool.true_or] at hK
    exact hK
   | false=>
   rw [h1] at hK
   cases h2:decide ((e.vs.length:Int)<=k) with
   | true=>
    rw [h2] at hK
    refine aD rfl (.done ?_)
    simp (maxSteps:=1000000) -dsimp only [go_sem,n6,hkk,h1,h2]
    refine aD rfl (.done ?_)
    simp (maxSteps:=1000000) -dsimp only [go_sem,qI]
    refine eK (z:=⟨false,o,n⟩) hts.e hn ?_
    simp (maxSteps:=1000000) -dsimp only [go_sem]
    refine aD rfl (.done ?_)
    simp (maxSteps:=1000000) -dsimp only [go_sem,pN]
    refine .sel [0,1] (by simp) (by simp) rfl (.done ?_)
    simp (maxSteps:=1000000) -dsimp only [go_sem]
    rw [Bool.or_true] at hK
    exact hK
   | false=>
   rw [h2] at hK
   have h1':0<=k:=by simpa using h1
   have h2':k < (e.vs.length:Int):=by simpa using h2
   obtain ⟨m,rfl⟩:∃ m:Nat,k=m:=⟨k.toNat,by omega⟩
   have hm:m < e.vs.length:=by omega
   have hx:e.vs[m]? = some e.vs[m]:=a7 hm
   have q2:=aV (row:=cH) hx
   have hv:e.vs.getD ((m:Int)).toNat 0=e.vs[m]:=by simp [List.getD_eq_getElem?_getD,hx]
   rw [hv] at hK
   have hin:=hvs _ (List.getElem_mem hm)
   generalize e.vs[m]=y at *
   refine aD rfl (.done ?_)
   simp (maxSteps:=1000000) -dsimp only [go_sem,n6,hkk,h1,h2]
   refine aD rfl (.done ?_)
   simp (maxSteps:=1000000) -dsimp only [go_sem,HO]
   refine xX hts.e hn ?_
   simp (maxSteps:=1000000) -dsimp only [go_sem]
   refine aD rfl (.done ?_)
   simp (maxSteps:=1000000) -dsimp only [go_sem,CC,↓q2]
   refine ⟨⟨by omega,by omega⟩,aD rfl (.done ?_)⟩
   simp (maxSteps:=1000000) -dsimp only [go_sem,BO]
   refine .sel [0,1] (by simp) (by simp) rfl (.done ?_)
   simp (maxSteps:=1000000) -dsimp only [go_sem]
   exact hK
end Go.Proofs.YtkpohmhenegkiaaGreatDoor
namespace Go.Proofs.YtkpohmhenegkiaaGreatDoor
open Go.W
attribute [-go_sem] cM cU cL e7 cZ
abbrev Prs:Type:=Sc->List Tk->Ty->Fs->Vl × Fs
def jJ (D:Sc->Ty->Prop) (P:Prs) (f:FuncId):W.Spec:=o9 (fun s t=>D s t/\gU t.k=f) P
def AJ (D:Sc->Ty->Prop) (P:Prs):cQ:=[(24,.s mF),(55,.s (jJ D P 55)),(57,.s (jJ D P 57)),(59,.s (jJ D P 59)),
 (61,.s (jJ D P 61)),(63,.s (jJ D P 63)),(65,.s (jJ D P 65))]
structure ParsM (D:Sc->Ty->Prop) (P:Prs):Prop where
 b:Meets Tryz.prog 55 (jJ D P 55)
 t:Meets Tryz.prog 57 (jJ D P 57)
 e:Meets Tryz.prog 59 (jJ D P 59)
 l:Meets Tryz.prog 61 (jJ D P 61)
 s:Meets Tryz.prog 63 (jJ D P 63)
 n:Meets Tryz.prog 65 (jJ D P 65)
theorem oZ {D:Sc->Ty->Prop} {P:Prs} (h:ParsM D P):dV Tryz.prog (AJ D P):=
 aB mOf (aB h.b (aB h.t (aB h.e (aB h.l (aB h.s (aB h.n (aA _)))))))
theorem U1 (D:Sc->Ty->Prop) (P:Prs):sp (AJ D P) 24=mF:=rfl
theorem QO (D:Sc->Ty->Prop) (P:Prs) (k:Int):sp (AJ D P) (gU k)=jJ D P (gU k):=by
 unfold gU
 cases k == 1<;>cases k == 4<;>cases k == 7<;>cases k == 5<;>cases k == 6<;>rfl
theorem I5 {D:Sc->Ty->Prop} {P:Prs} {s:Sc} {ts:List Tk} {t:Ty} {z:Fs} {K:S->Hp->Prop} (h1:s.fit) (h2:TyOk t) (h3:Tks ts) (h4:z.n < ts.length) (h5:D s t) (hK:K (.va (.gs (a8 (P s ts t z).1))) (iW s ts (P s ts t z).2)):jJ D P (gU t.k) [.va (.c1 (.pt 0 0)),.va (.gs [.vl (.int .i64 t.k),.vl (.int .i64 t.s),.vl (.string t.n),.fz (t.e.map aQ)])] (iW s ts z) K:=⟨s,ts,t,z,by rw [aJ],rfl,h1,h2,h3,h4,⟨h5,rfl⟩,hK⟩
abbrev wR (s:Sc) (ts:List Tk) (t:Ty) (l:List Vl) (z:Fs):Hp:=[RA s z.bad z.off,iY 114 ts z.n,.cells [.pt 0 0] 59,.cells [.vl (.int .i64 t.k),.vl (.int .i64 t.s),.vl (.string t.n),.fz (t.e.map aQ)] 28,
 .cells [.vl (.int .i64 5),.vl (.int .i64 0),.vl (.string (mk [])),.sl 5 l.length,.vl (.slice none 0 0)] 32,.row (l.map a8) 32 5]
def YY (D:Sc->Ty->Prop) (P:Prs):W.Spec:=fun av H K=>∃ s ts t u l z,av=[.va (.c1 (.pt 4 0)),.va (.c1 (.pt 3 0)),.va (.c1 (.pt 2 0))]/\H=wR s ts t l z/\s.fit/\TyOk u/\Tks ts/\z.n < ts.length/\t.e=[u]/\D s u/\(l.length + 1) * 80<=140737488355328/\
 K (.tu []) (wR s ts t (l ++ [(P s ts u z).1]) (P s ts u z).2)
theorem aA9 {D:Sc->Ty->Prop} {P:Prs} {s:Sc} {ts:List Tk} {t u:Ty} {l:List Vl} {z:Fs} {K:S->Hp->Prop} (h1:s.fit) (h2:TyOk u) (h3:Tks ts) (h4:z.n < ts.length) (h5:t.e=[u]) (h6:D s u) (h7:(l.length + 1) * 80<=140737488355328)
 (hK:K (.tu []) (wR s ts t (l ++ [(P s ts u z).1]) (P s ts u z).2)):YY D P [.va (.c1 (.pt 4 0)),.va (.c1 (.pt 3 0)),.va (.c1 (.pt 2 0))] (wR s ts t l z) K:=⟨s,ts,t,u,l,z,rfl,rfl,h1,h2,h3,h4,h5,h6,h7,hK⟩
theorem aJ2 {D:Sc->Ty->Prop} {P:Prs} (hP:ParsM D P):Meets Tryz.prog 102 (YY D P):=by
 refine aE Tryz.func102 aLO 3 (by rw [Tryz.ntmps102]; decide) (oZ hP) (fun av H K h=>by obtain ⟨_,_,_,_,_,_,rfl,_⟩:=h; rfl) ?_
 rintro av H K ⟨s,ts,t,u,l,z,rfl,rfl,hs,hu,hts,hn,he,hD,hl,hK⟩
 have z0:(0:Int) < ((1:Nat):Int):=by decide
 have z1:(0:Int)<=0:=by decide
 simp (maxSteps:=1000000) -dsimp only [go_sem,he,aJ u,WB,Z8,U1,QO,forall_eq',z0,z1,List.length_cons,List.length_nil,List.take_succ_cons,List.take_zero]
 refine I5 hs hu hts hn hD ?_
 generalize P s ts u z=r at *
 obtain ⟨v,z'⟩:=r
 have ha:∀ {x r:List C},(l.map a8 ++ [x])[l.length]? = some r->r=x:=fun {x r} h=>by
  have h0:l.length=(l.map a8).length:=by simp
  rw [h0,List.getElem?_concat_length] at h
  exact (bN h).symm
 have hb:∀ x:List C,(l.map a8 ++ [x]).set l.length (a8 v)=(l ++ [v]).map a8:=fun x=>by
  rw [List.set_append_right _ _ (by simp)]
  simp
 rw [aM] at hb
 simp (maxSteps:=1000000) -dsimp only [go_sem,aM v]
 have fin:∀ {r x:List C} (y:B),r=[.vl (.int .i64 0),.vl (.int .i64 0),.vl (.string (mk [])),.vl (.slice none 0 0),.vl (.slice none 0 0)]->W.Fin 6 K (.tu []) [RA s z'.bad z'.off,iY 114 ts z'.n,.cells [.pt 0 0] 59,.cells [.vl (.int .i64 t.k),.vl (.int .i64 t.s),.vl (.string t.n),.fz [[.vl (.int .i64 u.k),.vl (.int .i64 u.s),.vl (.string u.n),.fz (u.e.map aQ)]]] 28,
  .cells [.vl (.int .i64 5),.vl (.int .i64 0),.vl (.string (mk [])),.sl 5 (l.length + 1),.vl (.slice none 0 0)] 32,.row ((l.map a8 ++ [x]).set l.length (.vl (.int .i64 v.k) :: .vl (.int .i64 v.n) :: .vl (.string v.s) :: .fz (v.l.map a8) :: .fz (v.f.map bH) :: List.drop 5 r)) 32 5,y]:=fun {r x} y hr=>by
  subst hr
  refine .sel [0,1,2,3,4,5] (by simp) (by simp) rfl (.done ?_)
  rw [show List.drop 5 [C.vl (.int .i64 0),C.vl (.int .i64 0),C.vl (.string (mk [])),C.vl (.slice none 0 0),C.vl (.slice none 0 0)]=[] from rfl,hb x]
  simp (maxSteps:=1000000) -dsimp only [go_sem]
  have e:(l ++ [v]).length=l.length + 1:=by simp
  rw [<-e]
  have:=hK
  unfold wR at this
  rw [he] at this
  simp only [aJ u,List.map_cons,List.map_nil,List.map_append] at this
  exact this
 exact ⟨hl,⟨by omega,by omega⟩,⟨by omega,fun r hr=>fin _ (ha hr)⟩,⟨by omega,by omega⟩,by omega,fun r hr=>fin _ (ha hr)⟩
end Go.Proofs.YtkpohmhenegkiaaGreatDoor
namespace Go.Proofs.YtkpohmhenegkiaaGreatDoor
open Go.W
attribute [-go_sem] cM cU cL e7 cZ
def gX {α:Type} (one:α->Fs->α × Fs) (ts:List Tk):Nat->α->Fs->α × Fs
 | 0,a,z=>(a,z)
 | f + 1,a,z=>bif z.bad then (a,z) else bif cG [44] ts (one a z).2 then gX one ts f (one a z).1 (cJ [44] ts (one a z).2) else one a z
theorem kD {α:Type} (one:α->Fs->α × Fs) (ts:List Tk) (f:Nat) (a:α) (z:Fs):gX one ts (f + 1) a z=bif z.bad then (a,z) else bif cG [44] ts (one a z).2 then gX one ts f (one a z).1 (cJ [44] ts (one a z).2) else one a z:=rfl
def cO {α:Type} (one:α->Fs->α × Fs) (op sh:List UInt8) (ts:List Tk) (a:α) (z:Fs):α × Fs:=
 bif cG sh ts (bW op ts z) then (a,cJ sh ts (bW op ts z))
 else ((gX one ts (ts.length + 1) a (bW op ts z)).1,bW sh ts (gX one ts (ts.length + 1) a (bW op ts z)).2)
theorem LW {w:List UInt8} {ts:List Tk} {z:Fs} (he:Ends ts) (hn:z.n < ts.length) (h:cG w ts z=true):cP ts z.n=z.n + 1/\z.n + 1 < ts.length/\z.bad=false:=by
 unfold cG at h
 rw [Bool.and_eq_true] at h
 obtain ⟨h1,h2⟩:=h
 have hb:z.bad=false:=by cases hb:z.bad with
  | false=>rfl
  | true=>rw [hb] at h1; cases h1
 have hk:(aO ts z.n).k=4:=by
  unfold bQ at h2
  rw [Bool.and_eq_true] at h2
  exact eq_of_beq h2.1
 have hne:¬ (z.n + 1=ts.length):=fun e=>by
  have:=(he.last _ _ (jG hn)).2 e
  rw [hk] at this; cases this
 have hlt:z.n + 1 < ts.length:=by omega
 exact ⟨if_pos hlt,hlt,hb⟩
theorem kI {ts:List Tk} {n:Nat} (h:n < ts.length):n<=cP ts n/\cP ts n < ts.length:=by
 unfold cP; split<;>omega
theorem vB (ts:List Tk) (z:Fs):(cV ts z).n=z.n:=by unfold cV; cases z.bad<;>rfl
theorem gR {w:List UInt8} {ts:List Tk} {z:Fs} (h:z.n < ts.length):z.n<=(bW w ts z).n/\(bW w ts z).n < ts.length:=by
 unfold bW
 cases cG w ts z
 · rw [aH,vB]; exact ⟨Nat.le_refl _,h⟩
 · exact kI h
theorem CN {w:List UInt8} {ts:List Tk} {z:Fs} (h:z.n < ts.length):z.n<=(cJ w ts z).n/\(cJ w ts z).n < ts.length:=by
 unfold cJ
 cases cG w ts z
 · exact ⟨Nat.le_refl _,h⟩
 · exact kI h
def AQ {α:Type} (one:α->Fs->α × Fs) (ts:List Tk):Prop:=∀ a z,z.n < ts.length->z.n<=(one a z).2.n/\(one a z).2.n < ts.length
theorem RW {α:Type} {one:α->Fs->α × Fs} {ts:List Tk} (ho:AQ one ts):∀ (f:Nat) (a:α) (z:Fs),z.n < ts.length->z.n<=(gX one ts f a z).2.n/\(gX one ts f a z).2.n < ts.length
 | 0,a,z,h=>⟨Nat.le_refl _,h⟩
 | f + 1,a,z,h=>by
  rw [kD]
  cases z.bad
  · have h1:=ho a z h
    cases cG [44] ts (one a z).2
    · exact h1
    · have h2:=CN (w:=[44]) h1.2
      have h3:=RW ho f (one a z).1 _ h2.2
      exact ⟨Nat.le_trans h1.1 (Nat.le_trans h2.1 h3.1),h3.2⟩
  · exact ⟨Nat.le_refl _,h⟩
theorem Q9 {α:Type} {one:α->Fs->α × Fs} {ts:List Tk} (ho:AQ one ts) (op sh:List UInt8) (a:α) (z:Fs) (h:z.n < ts.length):z.n<=(cO one op sh ts a z).2.n/\(cO one op sh ts a z).2.n < ts.length:=by
 unfold cO
 have h1:=gR (w:=op) h
 cases cG sh ts (bW op ts z)
 · have h2:=RW ho (ts.length + 1) a _ h1.2
   have h3:=gR (w:=sh) h2.2
   exact ⟨Nat.le_trans h1.1 (Nat.le_trans h2.1 h3.1),h3.2⟩
 · have h2:=CN (w:=sh) h1.2
   exact ⟨Nat.le_trans h1.1 h2.1,h2.2⟩
def eZ (P:Prs) (s:Sc) (ts:List Tk) (u:Ty):List Vl->Fs->List Vl × Fs:=fun l z=>(l ++ [(P s ts u z).1],(P s ts u z).2)
abbrev TQ:S:=.va (.c1 (.fn 102 [(false,[.pt 4 0]),(false,[.pt 3 0]),(false,[.pt 2 0])]))
def W1 (D:Sc->Ty->Prop) (P:Prs):W.Spec:=fun av H K=>∃ s ts t u z op sh,av=[.va (.c1 (.pt 0 0)),tS op,tS sh,TQ]/\H=wR s ts t [] z/\s.fit/\TyOk u/\Tks ts/\z.n < ts.length/\t.e=[u]/\D s u/\
 K (.tu []) (wR s ts t (cO (eZ P s ts u) (bl op) (bl sh) ts [] z).1 (cO (eZ P s ts u) (bl op) (bl sh) ts [] z).2)
theorem aAD {D:Sc->Ty->Prop} {P:Prs} {s:Sc} {ts:List Tk} {t u:Ty} {z:Fs} {op sh:ByteArray} {K:S->Hp->Prop} (h1:s.fit) (h2:TyOk u) (h3:Tks ts) (h4:z.n < ts.length) (h5:t.e=[u]) (h6:D s u)
 (hK:K (.tu []) (wR s ts t (cO (eZ P s ts u) (bl op) (bl sh) ts [] z).1 (cO (eZ P s ts u) (bl op) (bl sh) ts [] z).2)):W1 D P [.va (.c1 (.pt 0 0)),tS op,tS sh,TQ] (wR s ts t [] z) K:=⟨s,ts,t,u,z,op,sh,rfl,rfl,h1,h2,h3,h4,h5,h6,hK⟩
def Prs.onw (P:Prs):Prop:=∀ s ts t z,z.n < ts.length->z.n<=(P s ts t z).2.n/\(P s ts t z).2.n < ts.length
theorem aAR {D:Sc->Ty->Prop} {P:Prs} (hP:ParsM D P) (hO:P.onw):Meets Tryz.prog 101 (W1 D P):=by
 refine aE Tryz.func101 aLG 4 (by rw [Tryz.ntmps101]; decide) (aB G4 (aB NH (aB (aJ2 hP) (aA _)))) (fun av H K h=>by obtain ⟨_,_,_,_,_,_,_,rfl,_⟩:=h; rfl) ?_
 rintro av H K ⟨s,ts,t,u,z,op,sh,rfl,rfl,hs,hu,hts,hn,he,hD,hK⟩
 have onw:AQ (eZ P s ts u) ts:=fun a z h=>hO s ts u z h
 have hl0:=hts.e.le
 unfold cO at hK
 simp (maxSteps:=1000000) -dsimp only [go_sem,WG,WE]
 refine jF hts.e hn ?_
 have hn1:=(gR (w:=bl op) hn).2
 generalize bW (bl op) ts z=z1 at *
 simp (maxSteps:=1000000) -dsimp only [go_sem]
 refine aD rfl (.done ?_)
 simp (maxSteps:=1000000) -dsimp only [go_sem,CR]
 refine qH hts.e hn1 ?_
 cases hh:cG (bl sh) ts z1 with
 | true=>
  rw [hh] at hK
  simp (maxSteps:=1000000) -dsimp only [go_sem]
  refine .sel [0,1,2,3,4,5] (by simp) (by simp) rfl (.done ?_)
  simp (maxSteps:=1000000) -dsimp only [go_sem]
  exact hK
 | false=>
 rw [hh] at hK
 rw [show cJ (bl sh) ts z1=z1 by unfold cJ; rw [hh]; rfl]
 simp (maxSteps:=1000000) -dsimp only [go_sem]
 refine aD rfl (.done ?_)
 simp (maxSteps:=1000000) -dsimp only [go_sem,BX]
 refine aK (α:=Nat × Bool × List Vl × Fs) (fun x=>[(0,.va (.c1 (.pt 0 0))),(2,tS sh),(3,TQ),(8,bS x.2.1)]) (fun x=>wR s ts t x.2.2.1 x.2.2.2)
  (fun x=>x.2.2.2.n < ts.length/\x.2.2.1.length + x.1<=ts.length + 1/\(x.2.1=true->ts.length < x.2.2.2.n + x.1)/\(bif x.2.1 then gX (eZ P s ts u) ts x.1 x.2.2.1 x.2.2.2 else (x.2.2.1,x.2.2.2))=gX (eZ P s ts u) ts (ts.length + 1) [] z1)
  (fun x=>x.1) (ts.length + 1,true,[],z1) 6 ⟨hn1,by simp,fun _=>by omega,rfl⟩ ?_ ?_ ?_
 · simp -dsimp only [go_sem]<;>simp
 · simp -dsimp only [go_sem]<;>simp
 rintro ⟨f,m,l,z⟩ ⟨h1,h2,h3,h4⟩
 simp only at h1 h2 h3 h4
 cases m with
 | false=>
  rw [aH] at h4
  rw [<-h4] at hK
  simp (maxSteps:=1000000) -dsimp only [go_sem]
  refine aD rfl (.done ?_)
  simp (maxSteps:=1000000) -dsimp only [go_sem,uT]
  refine jF (z:=z) hts.e h1 ?_
  simp (maxSteps:=1000000) -dsimp only [go_sem]
  refine .sel [0,1,2,3,4,5] (by simp) (by simp) rfl (.done ?_)
  simp (maxSteps:=1000000) -dsimp only [go_sem]
  exact hK
 | true=>
  rw [aN] at h4
  have h3:=h3 rfl
  obtain ⟨f,rfl⟩:∃ g,f=g + 1:=⟨f - 1,by omega⟩
  rw [kD] at h4
  obtain ⟨b,o,n⟩:=z
  cases b with
  | true=>
   rw [aN] at h4
   rw [<-h4] at hK
   simp (maxSteps:=1000000) -dsimp only [go_sem]
   refine aD rfl (.done ?_)
   simp (maxSteps:=1000000) -dsimp only [go_sem,uT]
   refine jF (z:=⟨true,o,n⟩) hts.e h1 ?_
   simp (maxSteps:=1000000) -dsimp only [go_sem]
   refine .sel [0,1,2,3,4,5] (by simp) (by simp) rfl (.done ?_)
   simp (maxSteps:=1000000) -dsimp only [go_sem]
   exact hK
  | false=>
   rw [aH] at h4
   simp (maxSteps:=1000000) -dsimp only [go_sem]
   refine aA9 (z:=⟨false,o,n⟩) hs hu hts h1 he hD (by omega) ?_
   have h5:=onw l ⟨false,o,n⟩ h1
   have e1:eZ P s ts u l ⟨false,o,n⟩=(l ++ [(P s ts u ⟨false,o,n⟩).1],(P s ts u ⟨false,o,n⟩).2):=rfl
   rw [e1] at h4 h5
   generalize P s ts u ⟨false,o,n⟩=r at *
   obtain ⟨v,z'⟩:=r
   simp only at h4 h5
   simp (maxSteps:=1000000) -dsimp only [go_sem]
   refine aD rfl (.done ?_)
   simp (maxSteps:=1000000) -dsimp only [go_sem,B0]
   refine qH (z:=z') hts.e h5.2 ?_
   cases hc:cG (bl (mk [44])) ts z' with
   | true=>
    obtain ⟨g1,g2,g3⟩:=LW hts.e h5.2 hc
    have hc':cG [44] ts z'=true:=hc
    rw [hc',aN] at h4
    have e2:cJ (bl (mk [44])) ts z'=⟨false,z'.off,cP ts z'.n⟩:=by unfold cJ; rw [hc]; rfl
    have e3:cJ [44] ts z'=⟨false,z'.off,cP ts z'.n⟩:=e2
    rw [e3] at h4
    rw [e2]
    simp (maxSteps:=1000000) -dsimp only [go_sem]
    refine aC (f,true,l ++ [v],⟨false,z'.off,cP ts z'.n⟩) 6 ⟨?_,?_,?_,h4⟩ (by simp) ?_ ?_
    · simp only [g1]; exact g2
    · simp only [List.length_append,List.length_singleton]; omega
    · intro _
      have h6:=h5.1
      simp only at h6 h3 ⊢
      omega
    · simp -dsimp only [go_sem]<;>simp
    · simp -dsimp only [go_sem]<;>simp
   | false=>
    have hc':cG [44] ts z'=false:=hc
    rw [hc',aH] at h4
    rw [show cJ (bl (mk [44])) ts z'=z' by unfold cJ; rw [hc]; rfl]
    simp (maxSteps:=1000000) -dsimp only [go_sem]
    refine aC (f,false,l ++ [v],z') 6 ⟨h5.2,?_,fun h=>(by cases h),h4⟩ (by simp) ?_ ?_
    · simp only [List.length_append,List.length_singleton]; omega
    · simp -dsimp only [go_sem]<;>simp
    · simp -dsimp only [go_sem]<;>simp
end Go.Proofs.YtkpohmhenegkiaaGreatDoor
namespace Go.Proofs.YtkpohmhenegkiaaGreatDoor
open Go.W
attribute [-go_sem] cM cU cL e7 cZ
def kJ (P:Prs) (s:Sc) (ts:List Tk) (u:Ty) (z:Fs):Vl × Fs:=(.mk 5 0 (mk []) (cO (eZ P s ts u) [91] [93] ts [] z).1 [],(cO (eZ P s ts u) [91] [93] ts [] z).2)
theorem NW {D:Sc->Ty->Prop} {P:Prs} (hP:ParsM D P) (hO:P.onw):Meets Tryz.prog 61 (o9 (fun s t=>∃ u,t.e=[u]/\TyOk u/\D s u) fun s ts t z=>kJ P s ts (t.e.headD default) z):=by
 refine aE Tryz.func61 aRM 2 (by rw [Tryz.ntmps61]; decide) (aB (aAR hP hO) (aA _)) pO ?_
 rintro av H K ⟨s,ts,t,z,rfl,rfl,hs,ht,hts,hn,⟨u,he,hu,hD⟩,hK⟩
 have hK:K (.va (.gs (a8 (kJ P s ts u z).1))) (iW s ts (kJ P s ts u z).2):=by
  have:=hK; simp only [he,List.headD_cons] at this; exact this
 unfold kJ at hK
 simp (maxSteps:=1000000) -dsimp only [go_sem,aJ t,aDR,aDX]
 refine aD rfl (.nilc 5 3 32 5 _ _ rfl rfl (.done ?_))
 simp (maxSteps:=1000000) -dsimp only [go_sem,H4]
 refine aAD (t:=t) hs hu hts hn he hD ?_
 rw [show bl (mk [91])=[91] from rfl,show bl (mk [93])=[93] from rfl]
 generalize cO (eZ P s ts u) [91] [93] ts [] z=r at *
 obtain ⟨l,z'⟩:=r
 simp (maxSteps:=1000000) -dsimp only [go_sem]
 refine aD rfl (.done ?_)
 simp (maxSteps:=1000000) -dsimp only [go_sem,I7]
 refine .pub 6 _ _ _ rfl (.sel [0,1] (by simp) (by simp [cT]) rfl (.done ?_))
 simp (maxSteps:=1000000) -dsimp only [go_sem,cT]
 rw [aM] at hK
 exact hK
end Go.Proofs.YtkpohmhenegkiaaGreatDoor
namespace Go.Proofs.YtkpohmhenegkiaaGreatDoor
open Go.W
attribute [-go_sem] cM cU cL e7 cZ
abbrev nmV:S:=.va (.c1 (.fn 107 [(false,[.pt 0 0])]))
def aHB:W.Spec:=fun av H K=>∃ (f:Fl) (t:Tk),av=[.va (.gs (aY f)),.va (.c1 (.pt 0 0))]/\H=[.cells (bE t) 71]/\K (bS (bl f.nm == t.x)) [.cells (bE t) 71]
theorem aEO {f:Fl} {t:Tk} {K:S->Hp->Prop} (hK:K (bS (bl f.nm == t.x)) [.cells (bE t) 71]):aHB [.va (.gs (aY f)),.va (.c1 (.pt 0 0))] [.cells (bE t) 71] K:=⟨f,t,rfl,rfl,hK⟩
theorem aI0:Meets Tryz.prog 107 aHB:=by
 refine aE Tryz.func107 aKJ 2 (by rw [Tryz.ntmps107]; decide) (aA _) (fun av H K h=>by obtain ⟨_,_,rfl,_⟩:=h; rfl) ?_
 rintro av H K ⟨f,t,rfl,rfl,hK⟩
 simp -dsimp only [go_sem,aY,bE,Z0,WU]
 exact .sel [0] (by simp) (by simp) rfl (.done (by simpa [go_sem,bE] using hK))
def fI (n:List UInt8):List Fl->Nat->Int
 | [],_=>-1
 | x :: l,i=>bif bl x.nm == n then (i:Int) else fI n l (i + 1)
def O8:W.Spec:=fun av H K=>∃ (l:List Fl) (t:Tk),av=[.va (.c1 (.fz (l.map aY))),nmV]/\H=[.cells (bE t) 71]/\l.length<=9223372036854775807/\K (iS .i64 (fI t.x l 0)) [.cells (bE t) 71]
theorem aFU {l:List Fl} {t:Tk} {K:S->Hp->Prop} (h:l.length<=9223372036854775807) (hK:K (iS .i64 (fI t.x l 0)) [.cells (bE t) 71]):O8 [.va (.c1 (.fz (l.map aY))),nmV] [.cells (bE t) 71] K:=⟨l,t,rfl,rfl,h,hK⟩
theorem S1:Meets Tryz.prog 106 O8:=by
 refine aE Tryz.func106 aKX 2 (by rw [Tryz.ntmps106]; decide) (aB aI0 (aA _)) (fun av H K h=>by obtain ⟨_,_,rfl,_⟩:=h; rfl) ?_
 rintro av H K ⟨l,t,rfl,rfl,hl,hK⟩
 simp -dsimp only [go_sem,XH,YI]
 refine aK (α:=Nat) (fun i=>[(0,.va (.c1 (.fz (l.map aY)))),(1,nmV),(7,iS .i64 l.length),(8,iS .i64 i)]) (fun _=>[.cells (bE t) 71])
  (fun i=>i<=l.length/\fI t.x (l.drop i) i=fI t.x l 0) (fun i=>l.length - i) 0 1 ⟨Nat.zero_le _,rfl⟩ ?_ ?_ ?_
 · simp -dsimp only [go_sem]<;>simp
 · simp -dsimp only [go_sem,bE]<;>simp
 rintro i ⟨hi,ho⟩
 rcases bF i l.length with hlt | hge
 · have hg:decide ((i:Int) < (l.length:Int))=true:=by simp; omega
   have hx:l[i]? = some l[i]:=a7 hlt
   have q2:=aV (row:=aY) hx
   rw [List.drop_eq_getElem_cons hlt,fI] at ho
   generalize l[i]=y at *
   simp -dsimp only [go_sem,hg,↓q2,aY,List.take_succ_cons,List.take_zero,List.length_cons]
   refine ⟨by omega,aEO ?_⟩
   cases hc:bl y.nm == t.x with
   | true=>
    rw [hc,aN] at ho
    simp -dsimp only [go_sem]
    exact .sel [0] (by simp) (by simp) rfl (.done (by simpa [go_sem,bE,ho] using hK))
   | false=>
    rw [hc,aH] at ho
    simp -dsimp only [go_sem]
    refine ⟨by omega,aC (i + 1) 1 ⟨by omega,ho⟩ (by omega) ?_ ?_⟩
    · simp -dsimp only [go_sem]<;>simp
    · simp -dsimp only [go_sem,bE]<;>simp [bE]
 · have hg:decide ((i:Int) < (l.length:Int))=false:=by simp; omega
   have:l.drop i=[]:=List.drop_eq_nil_iff.2 (by omega)
   rw [this] at ho
   simp -dsimp only [go_sem,hg]
   exact .sel [0] (by simp) (by simp) rfl (.done (by rw [show fI t.x l 0=-1 from ho.symm] at hK; simpa [go_sem,bE] using hK))
theorem CS (n:List UInt8):∀ (l:List Fl) (i:Nat),-1<=fI n l i/\fI n l i < (l.length:Int) + i
 | [],_=>⟨by simp [fI],by simp only [fI,List.length_nil]; omega⟩
 | y :: l,i=>by
  have:=CS n l (i + 1)
  rw [fI]
  cases bl y.nm == n with
  | true=>exact ⟨by simp only [aN]; omega,by simp only [aN,List.length_cons]; omega⟩
  | false=>exact ⟨by simp only [aH]; omega,by simp only [aH,List.length_cons]; omega⟩
end Go.Proofs.YtkpohmhenegkiaaGreatDoor
namespace Go.Proofs.YtkpohmhenegkiaaGreatDoor
open Go.W
attribute [-go_sem] cM cU cL e7 cZ
def oR (D:Sc->Ty->Prop) (P:Prs):cQ:=(30,.s (cM 114)) :: (100,.s (cU 114)) :: (31,.s mY) :: (108,.s uH) :: (106,.s O8) :: AJ D P
theorem KG {D:Sc->Ty->Prop} {P:Prs} (h:ParsM D P):dV Tryz.prog (oR D P):=aB q9 (aB FZ (aB p5 (aB G4 (aB S1 (oZ h)))))
theorem VV (D:Sc->Ty->Prop) (P:Prs):sp (oR D P) 24=mF:=rfl
theorem TE (D:Sc->Ty->Prop) (P:Prs):sp (oR D P) 30=cM 114:=rfl
theorem ST (D:Sc->Ty->Prop) (P:Prs):sp (oR D P) 100=cU 114:=rfl
theorem wU (D:Sc->Ty->Prop) (P:Prs):sp (oR D P) 31=mY:=rfl
theorem SO (D:Sc->Ty->Prop) (P:Prs):sp (oR D P) 108=uH:=rfl
theorem UJ (D:Sc->Ty->Prop) (P:Prs):sp (oR D P) 106=O8:=rfl
theorem RH (D:Sc->Ty->Prop) (P:Prs) (k:Int):sp (oR D P) (gU k)=jJ D P (gU k):=by
 unfold gU
 cases k == 1<;>cases k == 4<;>cases k == 7<;>cases k == 5<;>cases k == 6<;>rfl
abbrev JK:Type:=Int × List (Int × Vl)
abbrev wA (s:Sc) (ts:List Tk) (u:St) (a:JK) (z:Fs):Hp:=[RA s z.bad z.off,iY 114 ts z.n,.cells [.pt 0 0] 59,
 .cells [.vl (.int .i64 6),.vl (.int .i64 0),.vl (.string (mk [])),.vl (.slice none 0 0),.sl 6 a.2.length] 32,.cells [.vl (.string u.nm),.fz (u.fs.map aY)] 95,.cells [.vl (.int .i64 a.1)] 3,.row (a.2.map bH) 57 6]
def dG (ts:List Tk) (u:St) (z:Fs):Int:=fI (aO ts z.n).x u.fs 0
def iJ (ts:List Tk) (u:St) (last:Int) (z:Fs):Bool:=(aO ts z.n).k != 1 || decide (dG ts u z < 0) || decide ((u.fs.getD (dG ts u z).toNat default).num<=last)
def lJ (ts:List Tk) (z:Fs):Fs:=bW [61] ts ⟨z.bad,z.off,cP ts z.n⟩
def cK (P:Prs) (s:Sc) (ts:List Tk) (u:St):JK->Fs->JK × Fs:=fun a z=>
 bif iJ ts u a.1 z then (a,cV ts z)
 else (((u.fs.getD (dG ts u z).toNat default).num,a.2 ++ [((u.fs.getD (dG ts u z).toNat default).num,(P s ts (u.fs.getD (dG ts u z).toNat default).ty (lJ ts z)).1)]),(P s ts (u.fs.getD (dG ts u z).toNat default).ty (lJ ts z)).2)
def QE (D:Sc->Ty->Prop) (P:Prs):W.Spec:=fun av H K=>∃ s ts u a z,av=[.va (.c1 (.pt 2 0)),.va (.c1 (.pt 4 0)),.va (.c1 (.pt 5 0)),.va (.c1 (.pt 3 0))]/\H=wA s ts u a z/\s.fit/\Tks ts/\z.n < ts.length/\u.fs.length<=9223372036854775807/\(∀ f ∈ u.fs,TyOk f.ty/\D s f.ty)/\(a.2.length + 1) * 88<=140737488355328/\
 K (.tu []) (wA s ts u (cK P s ts u a z).1 (cK P s ts u a z).2)
theorem UW {D:Sc->Ty->Prop} {P:Prs} {s:Sc} {ts:List Tk} {u:St} {a:JK} {z:Fs} {K:S->Hp->Prop} (h1:s.fit) (h3:Tks ts) (h4:z.n < ts.length) (h5:u.fs.length<=9223372036854775807) (h6:∀ f ∈ u.fs,TyOk f.ty/\D s f.ty) (h7:(a.2.length + 1) * 88<=140737488355328)
 (hK:K (.tu []) (wA s ts u (cK P s ts u a z).1 (cK P s ts u a z).2)):QE D P [.va (.c1 (.pt 2 0)),.va (.c1 (.pt 4 0)),.va (.c1 (.pt 5 0)),.va (.c1 (.pt 3 0))] (wA s ts u a z) K:=⟨s,ts,u,a,z,rfl,rfl,h1,h3,h4,h5,h6,h7,hK⟩
theorem aJX {D:Sc->Ty->Prop} {P:Prs} (hP:ParsM D P):Meets Tryz.prog 105 (QE D P):=by
 refine aE Tryz.func105 aJ4 4 (by rw [Tryz.ntmps105]; decide) (KG hP) (fun av H K h=>by obtain ⟨_,_,_,_,_,rfl,_⟩:=h; rfl) ?_
 rintro av H K ⟨s,ts,u,⟨last,F⟩,z,rfl,rfl,hs,hts,hn,hul,hD,hl,hK⟩
 unfold cK at hK
 simp only at hK hl
 simp (maxSteps:=1000000) -dsimp only [go_sem,WY,YN,TE]
 refine lK hts.e hn ?_
 simp (maxSteps:=1000000) -dsimp only [go_sem,bE]
 refine aD rfl (.done ?_)
 simp (maxSteps:=1000000) -dsimp only [go_sem,C9,UJ]
 refine aFU (t:=aO ts z.n) hul ?_
 simp (maxSteps:=1000000) -dsimp only [go_sem]
 refine aD rfl (.done ?_)
 rw [show fI (aO ts z.n).x u.fs 0=dG ts u z from rfl]
 have hlo:-1<=dG ts u z/\dG ts u z < (u.fs.length:Int) + (0:Nat):=CS _ _ _
 have hbad:iJ ts u last z=((aO ts z.n).k != 1 || decide (dG ts u z < 0) || decide ((u.fs.getD (dG ts u z).toNat default).num<=last)):=rfl
 obtain ⟨k,hk⟩:∃ k,dG ts u z=k:=⟨_,rfl⟩
 rw [hk] at hK hlo hbad
 have hlt:=hlo.2
 cases h1:(aO ts z.n).k != 1 with
 | true=>
  rw [h1,Bool.true_or,Bool.true_or] at hbad
  rw [hbad,aN] at hK
  simp (maxSteps:=1000000) -dsimp only [go_sem,m9,h1]
  refine aD rfl (.done ?_)
  simp (maxSteps:=1000000) -dsimp only [go_sem,p9,wU]
  refine eK hts.e hn ?_
  simp (maxSteps:=1000000) -dsimp only [go_sem]
  refine .sel [0,1,2,3,4,5,6] (by simp) (by simp) rfl (.done ?_)
  simp (maxSteps:=1000000) -dsimp only [go_sem]
  exact hK
 | false=>
  cases h2:decide (k < 0) with
  | true=>
   rw [h1,h2,Bool.or_true,Bool.true_or] at hbad
   rw [hbad,aN] at hK
   simp (maxSteps:=1000000) -dsimp only [go_sem,m9,h1,hk,h2]
   refine aD rfl (.done ?_)
   simp (maxSteps:=1000000) -dsimp only [go_sem,p9,wU]
   refine eK hts.e hn ?_
   simp (maxSteps:=1000000) -dsimp only [go_sem]
   refine .sel [0,1,2,3,4,5,6] (by simp) (by simp) rfl (.done ?_)
   simp (maxSteps:=1000000) -dsimp only [go_sem]
   exact hK
  | false=>
  have h2':0<=k:=by simpa using h2
  obtain ⟨m,rfl⟩:∃ m:Nat,k=m:=⟨k.toNat,by omega⟩
  have hm:m < u.fs.length:=by omega
  have hx:u.fs[m]? = some u.fs[m]:=a7 hm
  have q1:=qA (row:=aY) hx
  have q2:=aV (row:=aY) hx
  have hv:u.fs.getD ((m:Int)).toNat default=u.fs[m]:=by simp [List.getD_eq_getElem?_getD,hx]
  rw [hv] at hK hbad
  obtain ⟨hto,hDf⟩:=hD _ (List.getElem_mem hm)
  generalize u.fs[m]=d at *
  rw [h1,h2,Bool.false_or,Bool.false_or] at hbad
  cases h3:decide (d.num<=last) with
  | true=>
   rw [h3] at hbad
   rw [hbad,aN] at hK
   simp (maxSteps:=1000000) -dsimp only [go_sem,m9,h1,hk,h2,↓q2,aY,h3]
   refine ⟨⟨by omega,by omega⟩,aD rfl (.done ?_)⟩
   simp (maxSteps:=1000000) -dsimp only [go_sem,p9,wU]
   refine eK hts.e hn ?_
   simp (maxSteps:=1000000) -dsimp only [go_sem]
   refine .sel [0,1,2,3,4,5,6] (by simp) (by simp) rfl (.done ?_)
   simp (maxSteps:=1000000) -dsimp only [go_sem]
   exact hK
  | false=>
   rw [h3] at hbad
   rw [hbad,aH] at hK
   simp (maxSteps:=1000000) -dsimp only [go_sem,m9,h1,hk,h2,↓q2,aY,h3]
   refine ⟨⟨by omega,by omega⟩,aD rfl (.done ?_)⟩
   simp (maxSteps:=1000000) -dsimp only [go_sem,C8,ST]
   refine xX hts.e hn ?_
   simp (maxSteps:=1000000) -dsimp only [go_sem]
   refine aD rfl (.done ?_)
   simp (maxSteps:=1000000) -dsimp only [go_sem,DC,SO]
   refine jF (z:=⟨z.bad,z.off,cP ts z.n⟩) hts.e (kI hn).2 ?_
   rw [show bW (bl (mk [61])) ts ⟨z.bad,z.off,cP ts z.n⟩=lJ ts z from rfl]
   have hn2:(lJ ts z).n < ts.length:=(gR (w:=[61]) (z:=⟨z.bad,z.off,cP ts z.n⟩) (kI hn).2).2
   generalize lJ ts z=z1 at *
   simp (maxSteps:=1000000) -dsimp only [go_sem]
   refine aD rfl (.done ?_)
   simp (maxSteps:=1000000) -dsimp only [go_sem,BZ,↓q2,aY,List.take_succ_cons,List.take_zero,List.length_cons]
   refine ⟨⟨by omega,by omega⟩,?_⟩
   refine aD rfl (.done ?_)
   simp (maxSteps:=1000000) -dsimp only [go_sem,CJ]
   refine aD rfl (.done ?_)
   simp (maxSteps:=1000000) -dsimp only [go_sem,BM,VV,RH]
   refine I5 hs hto hts hn2 hDf ?_
   generalize P s ts d.ty z1=r at *
   obtain ⟨v,z'⟩:=r
   have ha:∀ {x r:List C},(F.map bH ++ [x])[F.length]? = some r->r=x:=fun {x r} h=>by
    have h0:F.length=(F.map bH).length:=by simp
    rw [h0,List.getElem?_concat_length] at h
    exact (bN h).symm
   have hb:∀ x:List C,(F.map bH ++ [x]).set F.length (bH (d.num,v))=(F ++ [(d.num,v)]).map bH:=fun x=>by
    rw [List.set_append_right _ _ (by simp)]
    simp
   unfold bH at hb
   rw [aM] at hb
   simp (maxSteps:=1000000) -dsimp only [go_sem,aM v]
   have fin:∀ {r x:List C} (y1 y2 y3:B),r=[.vl (.int .i64 0),.vl (.int .i64 0),.vl (.int .i64 0),.vl (.string (mk [])),.vl (.slice none 0 0),.vl (.slice none 0 0)]->W.Fin 7 K (.tu []) [RA s z'.bad z'.off,iY 114 ts z'.n,.cells [.pt 0 0] 59,
    .cells [.vl (.int .i64 6),.vl (.int .i64 0),.vl (.string (mk [])),.vl (.slice none 0 0),.sl 6 (F.length + 1)] 32,.cells [.vl (.string u.nm),.fz (u.fs.map aY)] 95,.cells [.vl (.int .i64 d.num)] 3,
    .row ((F.map bH ++ [x]).set F.length (.vl (.int .i64 d.num) :: .vl (.int .i64 v.k) :: .vl (.int .i64 v.n) :: .vl (.string v.s) :: .fz (v.l.map a8) :: .fz (v.f.map bH) :: List.drop 6 r)) 57 6,y1,y2,y3]:=fun {r x} y1 y2 y3 hr=>by
    subst hr
    refine .sel [0,1,2,3,4,5,6] (by simp) (by simp) rfl (.done ?_)
    rw [show List.drop 6 [C.vl (.int .i64 0),C.vl (.int .i64 0),C.vl (.int .i64 0),C.vl (.string (mk [])),C.vl (.slice none 0 0),C.vl (.slice none 0 0)]=[] from rfl]
    have hb:=hb x
    simp (maxSteps:=1000000) -dsimp only [go_sem]
    have e:(F ++ [(d.num,v)]).length=F.length + 1:=by simp
    have:=hK
    unfold wA at this
    simp only [e] at this
    unfold bH at hb this ⊢
    rw [<-hb] at this
    exact this
   exact ⟨hl,⟨by omega,by omega⟩,⟨by omega,fun r hr=>fin _ _ _ (ha hr)⟩,⟨by omega,by omega⟩,by omega,fun r hr=>fin _ _ _ (ha hr)⟩
end Go.Proofs.YtkpohmhenegkiaaGreatDoor
namespace Go.Proofs.YtkpohmhenegkiaaGreatDoor
open Go.W
def wZ:PC:=.gh (.reg [.v 23 0,.a 24 (.cl 128 [(.t 23),(.k (.string (mk [44])))] [0,1]),.v 8 24])
@[go_sem ↓] theorem aLF:aT wZ:=aU _
def rY:PC:=.gh (.reg [.v 27 0,.v 28 2,.a 29 (.cl 108 [(.t 27),(.t 28)] [0,1])])
@[go_sem ↓] theorem aLJ:aT rY:=aU _
def yE:PC:=.seq (.seq (.gh (.reg [.q 8 (.mv (.k (.bool true)))])) (.block 0 (.loop (.seq (.seq (.reg [.v 15 8,.v 16 15,⟨some 17,(some (16,true)),.q (.mv (.t 0))⟩,⟨some 18,(some (16,true)),.q (.nc (.t 17))⟩,⟨some 19,(some (16,true)),.q (.fa 4 (.t 18))⟩,⟨some 20,(some (16,true)),.l (.ld1 (.t 19))⟩,⟨some 21,(some (16,true)),.q (.not (.t 20))⟩,.a 22 (.pick (.t 16) (.t 21) (.k (.bool false)))]) (.cond (.t 22) .skip (.exit 0))) (.seq (.block 1 (.reg [.v 25 3,.a 26 (.ca (.t 25) [] [0,1,2,3,4,5,6])])) (wZ)))))) (rY)
@[go_sem ↓] theorem aJW:aT yE:=aU _
def xF:PC:=.seq (.seq (.gh (.reg [.v 12 0,.v 13 2,.a 14 (.cl 128 [(.t 12),(.t 13)] [0,1])])) (.cond (.t 14) .ret .skip)) (yE)
@[go_sem ↓] theorem aLA:aT xF:=aU _
def SD:PC:=.seq (.reg [.v 9 0,.v 10 1,.a 11 (.cl 108 [(.t 9),(.t 10)] [0,1])]) (xF)
def RL:List RV:=[]
theorem aEL:aP Tryz.prog true ⟨fun r k=>if r=0/\k=2 then .own [0,1] else if r=1/\k=2 then .own [0,1] else if r=5/\k=1 then .own [0,1,2,3,4,5,6] else if r=4/\k=1 then .own [0,1] else if r=6/\k=2 then .own [0,1] else .own [],fun r=>[1,2,4,6].contains r⟩ Tryz.f101=some (SD,RL):=by kernel_rfl
attribute [-go_sem] cM cU cL e7 cZ
abbrev OO:S:=.va (.c1 (.fn 105 [(false,[.pt 2 0]),(false,[.pt 4 0]),(false,[.pt 5 0]),(false,[.pt 3 0])]))
theorem tP {P:Prs} (hO:P.onw) {s:Sc} {ts:List Tk} {u:St}:AQ (cK P s ts u) ts:=fun a z h=>by
 unfold cK
 cases iJ ts u a.1 z
 · have h1:z.n<=(lJ ts z).n/\(lJ ts z).n < ts.length:=by
    have h2:=kI h
    have h3:=gR (w:=[61]) (ts:=ts) (z:=⟨z.bad,z.off,cP ts z.n⟩) h2.2
    exact ⟨Nat.le_trans h2.1 h3.1,h3.2⟩
   have h2:=hO s ts (u.fs.getD (dG ts u z).toNat default).ty (lJ ts z) h1.2
   exact ⟨Nat.le_trans h1.1 h2.1,h2.2⟩
 · rw [aN,vB]; exact ⟨Nat.le_refl _,h⟩
theorem aCR (P:Prs) (s:Sc) (ts:List Tk) (u:St) (a:JK) (z:Fs):(cK P s ts u a z).1.2.length<=a.2.length + 1:=by
 unfold cK
 cases iJ ts u a.1 z
 · rw [aH]; simp
 · rw [aN]; exact Nat.le_succ _
def QH (D:Sc->Ty->Prop) (P:Prs):W.Spec:=fun av H K=>∃ s ts u z op sh,av=[.va (.c1 (.pt 0 0)),tS op,tS sh,OO]/\H=wA s ts u (0,[]) z/\s.fit/\Tks ts/\z.n < ts.length/\u.fs.length<=9223372036854775807/\(∀ f ∈ u.fs,TyOk f.ty/\D s f.ty)/\
 K (.tu []) (wA s ts u (cO (cK P s ts u) (bl op) (bl sh) ts (0,[]) z).1 (cO (cK P s ts u) (bl op) (bl sh) ts (0,[]) z).2)
theorem VT {D:Sc->Ty->Prop} {P:Prs} {s:Sc} {ts:List Tk} {u:St} {z:Fs} {op sh:ByteArray} {K:S->Hp->Prop} (h1:s.fit) (h3:Tks ts) (h4:z.n < ts.length) (h5:u.fs.length<=9223372036854775807) (h6:∀ f ∈ u.fs,TyOk f.ty/\D s f.ty)
 (hK:K (.tu []) (wA s ts u (cO (cK P s ts u) (bl op) (bl sh) ts (0,[]) z).1 (cO (cK P s ts u) (bl op) (bl sh) ts (0,[]) z).2)):QH D P [.va (.c1 (.pt 0 0)),tS op,tS sh,OO] (wA s ts u (0,[]) z) K:=⟨s,ts,u,z,op,sh,rfl,rfl,h1,h3,h4,h5,h6,hK⟩
theorem SQ {D:Sc->Ty->Prop} {P:Prs} (hP:ParsM D P) (hO:P.onw):Meets Tryz.prog 101 (QH D P):=by
 refine aE Tryz.func101 aEL 4 (by rw [Tryz.ntmps101]; decide) (aB G4 (aB NH (aB (aJX hP) (aA _)))) (fun av H K h=>by obtain ⟨_,_,_,_,_,_,rfl,_⟩:=h; rfl) ?_
 rintro av H K ⟨s,ts,u,z,op,sh,rfl,rfl,hs,hts,hn,hul,hD,hK⟩
 have onw:AQ (cK P s ts u) ts:=tP hO
 have hl0:=hts.e.le
 unfold cO at hK
 simp (maxSteps:=1000000) -dsimp only [go_sem,SD,RL]
 refine jF hts.e hn ?_
 have hn1:=(gR (w:=bl op) hn).2
 generalize bW (bl op) ts z=z1 at *
 simp (maxSteps:=1000000) -dsimp only [go_sem]
 refine aD rfl (.done ?_)
 simp (maxSteps:=1000000) -dsimp only [go_sem,xF]
 refine qH hts.e hn1 ?_
 cases hh:cG (bl sh) ts z1 with
 | true=>
  rw [hh] at hK
  simp (maxSteps:=1000000) -dsimp only [go_sem]
  refine .sel [0,1,2,3,4,5,6] (by simp) (by simp) rfl (.done ?_)
  simp (maxSteps:=1000000) -dsimp only [go_sem]
  exact hK
 | false=>
 rw [hh] at hK
 rw [show cJ (bl sh) ts z1=z1 by unfold cJ; rw [hh]; rfl]
 simp (maxSteps:=1000000) -dsimp only [go_sem]
 refine aD rfl (.done ?_)
 simp (maxSteps:=1000000) -dsimp only [go_sem,yE]
 refine aK (α:=Nat × Bool × JK × Fs) (fun x=>[(0,.va (.c1 (.pt 0 0))),(2,tS sh),(3,OO),(8,bS x.2.1)]) (fun x=>wA s ts u x.2.2.1 x.2.2.2)
  (fun x=>x.2.2.2.n < ts.length/\x.2.2.1.2.length + x.1<=ts.length + 1/\(x.2.1=true->ts.length < x.2.2.2.n + x.1)/\(bif x.2.1 then gX (cK P s ts u) ts x.1 x.2.2.1 x.2.2.2 else (x.2.2.1,x.2.2.2))=gX (cK P s ts u) ts (ts.length + 1) (0,[]) z1)
  (fun x=>x.1) (ts.length + 1,true,(0,[]),z1) 7 ⟨hn1,by simp,fun _=>by omega,rfl⟩ ?_ ?_ ?_
 · simp -dsimp only [go_sem]<;>simp
 · simp -dsimp only [go_sem]<;>simp
 rintro ⟨f,m,l,z⟩ ⟨h1,h2,h3,h4⟩
 simp only at h1 h2 h3 h4
 cases m with
 | false=>
  rw [aH] at h4
  rw [<-h4] at hK
  simp (maxSteps:=1000000) -dsimp only [go_sem]
  refine aD rfl (.done ?_)
  simp (maxSteps:=1000000) -dsimp only [go_sem,rY]
  refine jF (z:=z) hts.e h1 ?_
  simp (maxSteps:=1000000) -dsimp only [go_sem]
  refine .sel [0,1,2,3,4,5,6] (by simp) (by simp) rfl (.done ?_)
  simp (maxSteps:=1000000) -dsimp only [go_sem]
  exact hK
 | true=>
  rw [aN] at h4
  have h3:=h3 rfl
  obtain ⟨f,rfl⟩:∃ g,f=g + 1:=⟨f - 1,by omega⟩
  rw [kD] at h4
  obtain ⟨b,o,n⟩:=z
  cases b with
  | true=>
   rw [aN] at h4
   rw [<-h4] at hK
   simp (maxSteps:=1000000) -dsimp only [go_sem]
   refine aD rfl (.done ?_)
   simp (maxSteps:=1000000) -dsimp only [go_sem,rY]
   refine jF (z:=⟨true,o,n⟩) hts.e h1 ?_
   simp (maxSteps:=1000000) -dsimp only [go_sem]
   refine .sel [0,1,2,3,4,5,6] (by simp) (by simp) rfl (.done ?_)
   simp (maxSteps:=1000000) -dsimp only [go_sem]
   exact hK
  | false=>
   rw [aH] at h4
   simp (maxSteps:=1000000) -dsimp only [go_sem]
   refine UW (z:=⟨false,o,n⟩) hs hts h1 hul hD (by omega) ?_
   have h5:=onw l ⟨false,o,n⟩ h1
   have h7:=aCR P s ts u l ⟨false,o,n⟩
   generalize cK P s ts u l ⟨false,o,n⟩=r at *
   obtain ⟨l',z'⟩:=r
   simp only at h7
   simp only at h4 h5
   simp (maxSteps:=1000000) -dsimp only [go_sem]
   refine aD rfl (.done ?_)
   simp (maxSteps:=1000000) -dsimp only [go_sem,wZ]
   refine qH (z:=z') hts.e h5.2 ?_
   cases hc:cG (bl (mk [44])) ts z' with
   | true=>
    obtain ⟨g1,g2,g3⟩:=LW hts.e h5.2 hc
    have hc':cG [44] ts z'=true:=hc
    rw [hc',aN] at h4
    have e2:cJ (bl (mk [44])) ts z'=⟨false,z'.off,cP ts z'.n⟩:=by unfold cJ; rw [hc]; rfl
    have e3:cJ [44] ts z'=⟨false,z'.off,cP ts z'.n⟩:=e2
    rw [e3] at h4
    rw [e2]
    simp (maxSteps:=1000000) -dsimp only [go_sem]
    refine aC (f,true,l',⟨false,z'.off,cP ts z'.n⟩) 7 ⟨?_,?_,?_,h4⟩ (by simp) ?_ ?_
    · simp only [g1]; exact g2
    · simp only; omega
    · intro _
      have h6:=h5.1
      simp only at h6 h3 ⊢
      omega
    · simp -dsimp only [go_sem]<;>simp
    · simp -dsimp only [go_sem]<;>simp
   | false=>
    have hc':cG [44] ts z'=false:=hc
    rw [hc',aH] at h4
    rw [show cJ (bl (mk [44])) ts z'=z' by unfold cJ; rw [hc]; rfl]
    simp (maxSteps:=1000000) -dsimp only [go_sem]
    refine aC (f,false,l',z') 7 ⟨h5.2,?_,fun h=>(by cases h),h4⟩ (by simp) ?_ ?_
    · simp only; omega
    · simp -dsimp only [go_sem]<;>simp
    · simp -dsimp only [go_sem]<;>simp
end Go.Proofs.YtkpohmhenegkiaaGreatDoor
namespace Go.Proofs.YtkpohmhenegkiaaGreatDoor
open Go.W
attribute [-go_sem] cM cU cL e7 cZ
def stOf (s:Sc) (t:Ty):St:=(fS s.ss t.n).getD default
def gA (P:Prs) (s:Sc) (ts:List Tk) (u:St) (z:Fs):Vl × Fs:=(.mk 6 0 (mk []) [] (cO (cK P s ts u) [123] [125] ts (0,[]) z).1.2,(cO (cK P s ts u) [123] [125] ts (0,[]) z).2)
theorem jK {s:Sc} (hs:s.fit) (t:Ty):(stOf s t).ok:=by
 unfold stOf
 cases h:fS s.ss t.n with
 | none=>exact ⟨by decide,by decide,fun _ h=>(by cases h)⟩
 | some u=>exact hs.ok.ss u (List.mem_of_find?_eq_some h)
theorem HH {D:Sc->Ty->Prop} {P:Prs} (hP:ParsM D P) (hO:P.onw):Meets Tryz.prog 63 (o9 (fun s t=>∀ f ∈ (stOf s t).fs,D s f.ty) fun s ts t z=>gA P s ts (stOf s t) z):=by
 refine aE Tryz.func63 aON 2 (by rw [Tryz.ntmps63]; decide) (aB nU (aB (SQ hP hO) (aA _))) pO ?_
 rintro av H K ⟨s,ts,t,z,rfl,rfl,hs,ht,hts,hn,hD,hK⟩
 have hok:=jK hs t
 have hK:K (.va (.gs (a8 (gA P s ts (stOf s t) z).1))) (iW s ts (gA P s ts (stOf s t) z).2):=hK
 simp (maxSteps:=1000000) -dsimp only [go_sem,aJ t,aDU,aIR]
 refine iR hs ?_
 rw [show (fS s.ss t.n).getD default=stOf s t from rfl]
 generalize stOf s t=u at *
 unfold gA at hK
 simp (maxSteps:=1000000) -dsimp only [go_sem,aR]
 refine aD rfl (.done ?_)
 simp (maxSteps:=1000000) -dsimp only [go_sem,G9]
 refine aD rfl (.nilc 5 4 57 6 _ _ rfl rfl (.done ?_))
 simp (maxSteps:=1000000) -dsimp only [go_sem,IT]
 refine VT (u:=u) hs hts hn hok.len (fun f hf=>⟨(hok.fs f hf).ty,hD f hf⟩) ?_
 rw [show bl (mk [123])=[123] from rfl,show bl (mk [125])=[125] from rfl]
 generalize cO (cK P s ts u) [123] [125] ts (0,[]) z=r at *
 obtain ⟨⟨last,F⟩,z'⟩:=r
 simp (maxSteps:=1000000) -dsimp only [go_sem]
 refine aD rfl (.done ?_)
 simp (maxSteps:=1000000) -dsimp only [go_sem,JR]
 refine .pub 8 _ _ _ rfl (.sel [0,1] (by simp) (by simp [cT]) rfl (.done ?_))
 simp (maxSteps:=1000000) -dsimp only [go_sem,cT]
 rw [aM] at hK
 exact hK
end Go.Proofs.YtkpohmhenegkiaaGreatDoor
namespace Go.Proofs.YtkpohmhenegkiaaGreatDoor
open Go.W
def dP:Nat->Sc->Ty->Prop
 | 0,_,_=>False
 | N + 1,s,t=>((t.k == 5)=true->∃ u,t.e=[u]/\TyOk u/\dP N s u)/\((t.k == 6)=true->∀ f ∈ (stOf s t).fs,dP N s f.ty)
def pP:Nat->Prs
 | 0=>fun _ _ _ z=>(default,z)
 | N + 1=>fun s ts t z=>bif t.k == 1 then cF ts z else bif t.k == 4 then F4 ts z else bif t.k == 7 then cE ((dJ s.es t.n).getD default) ts z
  else bif t.k == 5 then kJ (pP N) s ts (t.e.headD default) z else bif t.k == 6 then gA (pP N) s ts (stOf s t) z else H8 t.k ts z
theorem fN (N:Nat) (s:Sc) (ts:List Tk) (t:Ty) (z:Fs):pP (N + 1) s ts t z=bif t.k == 1 then cF ts z else bif t.k == 4 then F4 ts z else bif t.k == 7 then cE ((dJ s.es t.n).getD default) ts z
 else bif t.k == 5 then kJ (pP N) s ts (t.e.headD default) z else bif t.k == 6 then gA (pP N) s ts (stOf s t) z else H8 t.k ts z:=rfl
theorem MA {k:Int} {ts:List Tk} {z:Fs} (h:z.n < ts.length):z.n<=(dR k ts z).n/\(dR k ts z).n < ts.length:=by
 unfold dR
 cases hZ k ts z
 · rw [aH,vB]; exact ⟨Nat.le_refl _,h⟩
 · exact kI h
theorem n3:∀ N,(pP N).onw
 | 0=>fun s ts t z h=>⟨Nat.le_refl _,h⟩
 | N + 1=>fun s ts t z h=>by
  have hf:z.n<=(cV ts z).n/\(cV ts z).n < ts.length:=by rw [vB]; exact ⟨Nat.le_refl _,h⟩
  have hx:=kI h
  rw [fN]
  cases t.k == 1 with
  | true=>
   rw [aN]; unfold cF
   cases (!z.bad && bQ 1 iF (aO ts z.n))<;>cases (!z.bad && bQ 1 gI (aO ts z.n))<;>first | exact hx | exact hf
  | false=>
  cases t.k == 4 with
  | true=>exact MA h
  | false=>
  cases t.k == 7 with
  | true=>
   rw [aH,aH,aN]; unfold cE
   cases (decide (gL ((dJ s.es t.n).getD default) ts z < 0) || decide ((((dJ s.es t.n).getD default).vs.length:Int)<=gL ((dJ s.es t.n).getD default) ts z))<;>first | exact hx | exact hf
  | false=>
  cases t.k == 5 with
  | true=>exact Q9 (one:=eZ (pP N) s ts (t.e.headD default)) (fun a z h=>n3 N s ts _ z h) [91] [93] [] z h
  | false=>
  cases t.k == 6 with
  | true=>exact Q9 (one:=cK (pP N) s ts (stOf s t)) (tP (n3 N)) [123] [125] (0,[]) z h
  | false=>exact MA h
theorem m4 {f:FuncId} {D D':Sc->Ty->Prop} {P P':Prs} (h:Meets Tryz.prog f (o9 D P)) (hd:∀ s t,D' s t->D s t/\∀ ts z,P s ts t z=P' s ts t z):Meets Tryz.prog f (o9 D' P'):=
 eQ (0:Nat) (fun (_:Nat)=>h) fun av H K ⟨s,ts,t,z,h1,h2,h3,h4,h5,h6,h7,h8⟩=>⟨0,s,ts,t,z,h1,h2,h3,h4,h5,h6,(hd s t h7).1,by rw [(hd s t h7).2]; exact h8⟩
theorem mW (k:Int):(gU k=55->(k == 1)=true)/\(gU k=57->(k == 1)=false/\(k == 4)=true)/\(gU k=59->(k == 1)=false/\(k == 4)=false/\(k == 7)=true)/\
 (gU k=61->(k == 1)=false/\(k == 4)=false/\(k == 7)=false/\(k == 5)=true)/\(gU k=63->(k == 1)=false/\(k == 4)=false/\(k == 7)=false/\(k == 5)=false/\(k == 6)=true)/\
 (gU k=65->(k == 1)=false/\(k == 4)=false/\(k == 7)=false/\(k == 5)=false/\(k == 6)=false):=by
 unfold gU
 cases k == 1<;>cases k == 4<;>cases k == 7<;>cases k == 5<;>cases k == 6<;>refine ⟨?_,?_,?_,?_,?_,?_⟩<;>intro h<;>first | (exact absurd h (by decide)) | simp
theorem nA {f:FuncId} {P:Prs} {g:FuncId} (h:nP Tryz.prog f=true):Meets Tryz.prog f (jJ (dP 0) P g):=⟨h,by rintro xs vs E ro w K _ _ _ ⟨_,_,_,_,_,_,_,_,_,_,⟨h,_⟩,_⟩; exact h.elim⟩
theorem WS:∀ N,ParsM (dP N) (pP N)
 | 0=>⟨nA (by kernel_rfl),nA (by kernel_rfl),nA (by kernel_rfl),nA (by kernel_rfl),nA (by kernel_rfl),nA (by kernel_rfl)⟩
 | N + 1=>by
  have ih:=WS N
  have hN:=n3 N
  refine ⟨m4 NE ?_,m4 O6 ?_,m4 O3 ?_,m4 (NW ih hN) ?_,m4 (HH ih hN) ?_,m4 IL ?_⟩
  · rintro s t ⟨hD,hk⟩
    have h1:=(mW t.k).1 hk
    exact ⟨trivial,fun ts z=>by rw [fN,h1,aN]⟩
  · rintro s t ⟨hD,hk⟩
    obtain ⟨h1,h2⟩:=(mW t.k).2.1 hk
    exact ⟨trivial,fun ts z=>by rw [fN,h1,h2]; rfl⟩
  · rintro s t ⟨hD,hk⟩
    obtain ⟨h1,h2,h3⟩:=(mW t.k).2.2.1 hk
    exact ⟨trivial,fun ts z=>by rw [fN,h1,h2,h3]; rfl⟩
  · rintro s t ⟨hD,hk⟩
    obtain ⟨h1,h2,h3,h4⟩:=(mW t.k).2.2.2.1 hk
    exact ⟨hD.1 h4,fun ts z=>by rw [fN,h1,h2,h3,h4]; rfl⟩
  · rintro s t ⟨hD,hk⟩
    obtain ⟨h1,h2,h3,h4,h5⟩:=(mW t.k).2.2.2.2.1 hk
    exact ⟨hD.2 h5,fun ts z=>by rw [fN,h1,h2,h3,h4,h5]; rfl⟩
  · rintro s t ⟨hD,hk⟩
    obtain ⟨h1,h2,h3,h4,h5⟩:=(mW t.k).2.2.2.2.2 hk
    exact ⟨trivial,fun ts z=>by rw [fN,h1,h2,h3,h4,h5]; rfl⟩
attribute [-go_sem] cM cU cL e7 cZ
def zF (s:Sc):Nat->Ty->Vl
 | 0,_=>.mk 0 0 (mk []) [] []
 | n + 1,t=>bif valF s.ss s.es t then (bif t.k == 6 then .mk 6 0 (mk []) [] (((stOf s t).fs.filter fun f=>!f.opt).map fun f=>(f.num,zF s n f.ty)) else .mk t.k 0 (mk []) [] []) else .mk 0 0 (mk []) [] []
def zE (s:Sc) (n:Nat) (l:List Fl):List (Int × Vl):=(l.filter fun f=>!f.opt).map fun f=>(f.num,zF s n f.ty)
theorem m1 (s:Sc) (n:Nat) (t:Ty):zF s (n + 1) t=bif valF s.ss s.es t then (bif t.k == 6 then .mk 6 0 (mk []) [] (zE s n (stOf s t).fs) else .mk t.k 0 (mk []) [] []) else .mk 0 0 (mk []) [] []:=rfl
theorem aBJ {s:Sc} {n i:Nat} {l:List Fl} {f:Fl} (h:l[i]? = some f):zE s n (l.take (i + 1))=bif f.opt then zE s n (l.take i) else zE s n (l.take i) ++ [(f.num,zF s n f.ty)]:=by
 unfold zE
 rw [List.take_add_one,h,List.filter_append,List.map_append]
 cases hf:f.opt<;>simp [hf]
theorem QF (s:Sc) (n:Nat) (l:List Fl):(zE s n l).length<=l.length:=by
 unfold zE; rw [List.length_map]; exact List.length_filter_le _ _
theorem LF {s:Sc} (hs:s.fit) (t:Ty):(stOf s t).fs.length<=1000000000:=by
 unfold stOf
 cases h:fS s.ss t.n with
 | none=>exact Nat.zero_le _
 | some u=>exact (hs.sm u (List.mem_of_find?_eq_some h)).1
def aFE (N:Nat):W.Spec:=fun av H K=>∃ (s:Sc) (t:Ty) (n:Nat),av=[.va (.gs (aF s)),.va (.gs (aQ t)),iS .i64 ((n:Int) - 1)]/\H=[]/\s.fit/\TyOk t/\n < N/\N<=100/\K (.va (.gs (a8 (zF s n t)))) []
theorem Q1 {N:Nat} {s:Sc} {t:Ty} {n:Nat} {K:S->Hp->Prop} (h1:s.fit) (h2:TyOk t) (h3:n < N) (h4:N<=100) (hK:K (.va (.gs (a8 (zF s n t)))) []):aFE N [.va (.gs [.vl (.int .i64 s.ver),.fz (s.es.map bG),.fz (s.ss.map aR)]),.va (.gs [.vl (.int .i64 t.k),.vl (.int .i64 t.s),.vl (.string t.n),.fz (t.e.map aQ)]),iS .i64 ((n:Int) - 1)] [] K:=⟨s,t,n,by rw [aJ]; rfl,rfl,h1,h2,h3,h4,hK⟩
theorem PM:∀ N,Meets Tryz.prog 114 (aFE N)
 | 0=>⟨by kernel_rfl,by rintro xs vs E ro w K _ _ _ ⟨_,_,n,_,_,_,_,h,_⟩; exact absurd h (Nat.not_lt_zero n)⟩
 | N + 1=>by
  refine aE Tryz.func114 aL3 3 (by rw [Tryz.ntmps114]; decide) (aG wC (aB nU (aB (PM N) (aA _)))) (fun av H K h=>by obtain ⟨_,_,_,rfl,_⟩:=h; rfl) ?_
  rintro av H K ⟨s,t,n,rfl,rfl,hs,ht,hn,hN,hK⟩
  have k4:=eJ ht
  have k5:=iV t
  have k6:=fV hs
  have k7:=jS s
  have fin:∀ {v:Vl} (R:Hp),zF s n t=v->W.Fin 0 K (.va (.gs (a8 v))) R:=fun {v} R h=>by
   rw [h] at hK; refine .sel [] (by simp) (by simp) rfl (.done ?_)
   rw [aM] at hK ⊢
   simpa [go_sem] using hK
  cases n with
  | zero=>
   have g:decide (((0:Nat):Int) - 1 < 0)=true:=rfl
   simp (maxSteps:=1000000) -dsimp only [go_sem,aF,aJ t,AM,zK,g,k4,k5,k6,k7]
   exact fin (v:=.mk 0 0 (mk []) [] []) _ rfl
  | succ n=>
   have g:decide (((n + 1:Nat):Int) - 1 < 0)=false:=by rw [decide_eq_false_iff_not]; omega
   have g':((n + 1:Nat):Int) - 1=n:=by omega
   rw [g'] at g ⊢
   rw [m1] at fin
   cases h1:valF s.ss s.es t with
   | false=>
    rw [h1,aH] at fin
    simp (maxSteps:=1000000) -dsimp only [go_sem,aF,aJ t,AM,zK,g,k4,k5,k6,k7,h1]
    exact fin _ rfl
   | true=>
   rw [h1,aN] at fin
   cases h2:t.k == 6 with
   | false=>
    have h2':(t.k != 6)=true:=by rw [bne,h2]; rfl
    rw [h2,aH] at fin
    simp (maxSteps:=1000000) -dsimp only [go_sem,aF,aJ t,AM,zK,g,k4,k5,k6,k7,h1,h2']
    exact fin _ rfl
   | true=>
   have h2':(t.k != 6)=false:=by rw [bne,h2]; rfl
   rw [h2,aN] at fin
   simp (maxSteps:=1000000) -dsimp only [go_sem,aF,aJ t,AM,zK,g,k4,k5,k6,k7,h1,h2']
   refine iR hs ?_
   rw [show (fS s.ss t.n).getD default=stOf s t from rfl]
   have hok:=jK hs t
   have hsm:=LF hs t
   have hz6:zF s (n + 1) t=.mk 6 0 (mk []) [] (zE s n (stOf s t).fs):=by rw [m1,h1,h2]; rfl
   rw [hz6,aM] at hK
   clear hz6 fin
   generalize stOf s t=u at *
   simp (maxSteps:=1000000) -dsimp only [go_sem,aR]
   have hlen:=fun i=>Nat.le_trans (QF s n (u.fs.take i)) (Nat.le_trans (List.length_take_le' i u.fs) hsm)
   refine dW (α:=Nat) (fun i=>[(2,iS .i64 n),(3,.va (.c1 (.pt 0 0))),(4,.va (.c1 (.pt 1 0))),(6,.va (.c1 (.pt 2 0))),(7,.va (.c1 (.pt 3 0))),(37,.va (.c1 (.fz (u.fs.map aY)))),(38,iS .i64 u.fs.length),(39,iS .i64 i)])
    (fun i=>[.cells [.vl (.int .i64 s.ver),.fz (s.es.map bG),.fz (s.ss.map aR)] 105,.cells [.vl (.int .i64 t.k),.vl (.int .i64 t.s),.vl (.string t.n),.fz (t.e.map aQ)] 28,.cells [.vl (.int .i64 0),.vl (.int .i64 0),.vl (.string (mk [])),.vl (.slice none 0 0),.vl (.slice none 0 0)] 32,
      .cells [.vl (.int .i64 t.k),.vl (.int .i64 0),.vl (.string (mk [])),.vl (.slice none 0 0),.sl 5 (zE s n (u.fs.take i)).length] 32,.cells [.vl (.string u.nm),.fz (u.fs.map aY)] 95,.row ((zE s n (u.fs.take i)).map bH) 57 6])
    (fun i=>i<=u.fs.length) (fun i=>u.fs.length - i) (.nilc 3 4 57 6 _ _ rfl rfl (lR 0 6 (Nat.zero_le _) ?_ ?_)) ?_
   · simp -dsimp only [go_sem]<;>simp
   · simp -dsimp only [go_sem]<;>simp [zE]
   intro i hi
   have hli:=hlen i
   rcases bF i u.fs.length with hlt | hge
   · have hg:decide ((i:Int) < (u.fs.length:Int))=true:=by simp; omega
     have hx:u.fs[i]? = some u.fs[i]:=a7 hlt
     have q2:=aV (row:=aY) hx
     have hfo:=(hok.fs _ (List.getElem_mem hlt)).ty
     generalize u.fs[i]=f at *
     have hz:=aBJ (s:=s) (n:=n) hx
     cases ho:f.opt with
     | true=>
      rw [ho,aN] at hz
      simp (maxSteps:=1000000) -dsimp only [go_sem,hg,↓q2,aY,ho,List.take_succ_cons,List.take_zero,List.length_cons]
      refine ⟨by omega,by omega,aC (i + 1) 6 (by omega) (by omega) ?_ ?_⟩
      · simp -dsimp only [go_sem]<;>simp
      · simp -dsimp only [go_sem,hz]<;>simp
     | false=>
      rw [ho,aH] at hz
      simp (maxSteps:=1000000) -dsimp only [go_sem,hg,↓q2,aY,ho,List.take_succ_cons,List.take_zero,List.length_cons]
      refine ⟨⟨by omega,by omega⟩,⟨by omega,by omega⟩,Q1 hs hfo (by omega) (by omega) ?_⟩
      generalize zF s n f.ty=v at *
      simp (maxSteps:=1000000) -dsimp only [go_sem,aM v]
      refine ⟨by omega,by omega,aC (i + 1) 6 (by omega) (by omega) ?_ ?_⟩
      · simp -dsimp only [go_sem]<;>simp
      · simp -dsimp only [go_sem,hz]<;>simp [bH,aM v]
   · have hg:decide ((i:Int) < (u.fs.length:Int))=false:=by simp; omega
     rw [List.take_of_length_le hge] at *
     have h6:t.k=6:=eq_of_beq h2
     simp (maxSteps:=1000000) -dsimp only [go_sem,hg,h6]
     refine .pub 5 _ _ _ rfl (.sel [] (by simp) (by simp [cT]) rfl (.done ?_))
     simp -dsimp only [go_sem,cT]
     exact hK
def aEE:W.Spec:=fun av H K=>∃ (s:Sc) (t:Ty),av=[.va (.gs (aF s)),.va (.gs (aQ t))]/\H=[]/\s.fit/\TyOk t/\K (.va (.gs (a8 (zF s 23 t)))) []
theorem aA5 {s:Sc} {t:Ty} {K:S->Hp->Prop} (h1:s.fit) (h2:TyOk t) (hK:K (.va (.gs (a8 (zF s 23 t)))) []):aEE [.va (.gs [.vl (.int .i64 s.ver),.fz (s.es.map bG),.fz (s.ss.map aR)]),.va (.gs [.vl (.int .i64 t.k),.vl (.int .i64 t.s),.vl (.string t.n),.fz (t.e.map aQ)])] [] K:=⟨s,t,by rw [aJ]; rfl,rfl,h1,h2,hK⟩
theorem aLI:Meets Tryz.prog 71 aEE:=by
 refine aE Tryz.func71 aO7 2 (by rw [Tryz.ntmps71]; decide) (aB (PM 24) (aA _)) (fun av H K h=>by obtain ⟨_,_,rfl,_⟩:=h; rfl) ?_
 rintro av H K ⟨s,t,rfl,rfl,hs,ht,hK⟩
 simp (maxSteps:=1000000) -dsimp only [go_sem,aF,aJ t,aG4,aG9]
 refine Q1 (n:=23) hs ht (by decide) (by decide) ?_
 rw [aM] at hK ⊢
 simp (maxSteps:=1000000) -dsimp only [go_sem]
 refine .sel [] (by simp) (by simp) rfl (.done ?_)
 simp -dsimp only [go_sem]
 exact hK
end Go.Proofs.YtkpohmhenegkiaaGreatDoor
namespace Go.Proofs.YtkpohmhenegkiaaGreatDoor
open Go.W
attribute [-go_sem] cM cU cL e7 cZ
theorem ZS {s:Sc} (hs:s.fit):∀ (n:Nat) (t:Ty),TyOk t->VlOk (zF s n t)
 | 0,t,ht=>.mk ⟨by decide,by decide⟩ ⟨by decide,by decide⟩ (by decide) (by simp) (by simp) (by simp) (by simp) (by simp)
 | n + 1,t,ht=>by
  have hok:=jK hs t
  have hsm:=LF hs t
  rw [m1]
  cases valF s.ss s.es t with
  | false=>exact .mk ⟨by decide,by decide⟩ ⟨by decide,by decide⟩ (by decide) (by simp) (by simp) (by simp) (by simp) (by simp)
  | true=>
   cases t.k == 6 with
   | false=>exact .mk ht.k ⟨by decide,by decide⟩ (by decide) (by simp) (by simp) (by simp) (by simp) (by simp)
   | true=>
    have hl:=QF s n (stOf s t).fs
    have hm:∀ x ∈ zE s n (stOf s t).fs,∃ f ∈ (stOf s t).fs,x=(f.num,zF s n f.ty):=fun x hx=>by
     unfold zE at hx
     obtain ⟨f,hf,rfl⟩:=List.mem_map.1 hx
     exact ⟨f,(List.mem_filter.1 hf).1,rfl⟩
    refine .mk ⟨by decide,by decide⟩ ⟨by decide,by decide⟩ (by decide) (by simp) (by omega) (by simp) (fun x hx=>?_) (fun x hx=>?_)
    · obtain ⟨f,hf,rfl⟩:=hm x hx; exact (hok.fs f hf).num
    · obtain ⟨f,hf,rfl⟩:=hm x hx; exact ZS hs n f.ty (hok.fs f hf).ty
def F8:List S->Prop:=fun av=>match av with
 | [.va (.gs r),.va (.gs q)]=>kU r/\fH q
 | _=>False
theorem rU {av:List S} (h:F8 av):∃ s t,av=[.va (.gs (aF s)),.va (.gs (aQ t))]/\s.fit/\TyOk t:=by
 unfold F8 at h
 split at h
 · obtain ⟨⟨s,rfl,hs⟩,⟨t,rfl,ht⟩⟩:=h
   exact ⟨s,t,rfl,hs,ht⟩
 · exact h.elim
noncomputable def WI (f:Sc->Ty->Value):List S->A:=fun av=>match av with
 | [.va (.gs r),.va (.gs q)]=>.c1 (.vl (f (C.sc r) (C.ty q)))
 | _=>.gs []
noncomputable def xO (f:Sc->Ty->Value):Fun:=⟨F8,WI f,fun av h=>by obtain ⟨_,_,rfl,_⟩:=rU h; trivial⟩
theorem S8 {f:Sc->Ty->Value}:∀ av H K,(xO f).sp av H K->av.length=2:=fun av H K h=>by obtain ⟨_,_,rfl,_⟩:=rU h.1.1; rfl
attribute [go_sem] xO F8 WI
theorem aCI {f:Sc->Ty->Value} {av:List S} {H:Hp} {K:S->Hp->Prop} (h:(xO f).sp av H K):∃ s t,av=[.va (.gs (aF s)),.va (.gs (aQ t))]/\H=[]/\s.fit/\TyOk t/\K (.va (.c1 (.vl (f s t)))) []:=by
 obtain ⟨⟨h,rfl⟩,hK⟩:=h
 obtain ⟨s,t,rfl,hs,ht⟩:=rU h
 have:(xO f).val [.va (.gs (aF s)),.va (.gs (aQ t))]=.c1 (.vl (f s t)):=by
  show A.c1 (.vl (f (C.sc (aF s)) (C.ty (aQ t))))=_
  rw [fB,eT]
 rw [this] at hK
 exact ⟨s,t,rfl,rfl,hs,ht,hK⟩
def sG (s:Sc) (t:Ty):Bool:=f0 s t (zF s 23 t) == 0
theorem KI:Meets Tryz.prog 28 (xO fun s t=>.bool (sG s t)).sp:=by
 refine aE Tryz.func28 aS8 2 (by rw [Tryz.ntmps28]; decide) (aB aLI (aG DA (aA _))) S8 ?_
 intro av H K h
 obtain ⟨s,t,rfl,rfl,hs,ht,hK⟩:=aCI h
 clear h
 have k4:=eJ ht
 have k5:=iV t
 have k6:=fV hs
 have k7:=jS s
 have hv:=ZS hs 23 t ht
 have hK:K (bS (f0 s t (zF s 23 t) == 0)) []:=hK
 simp (maxSteps:=1000000) -dsimp only [go_sem,aF,aJ t,aE8,aHS]
 refine aA5 hs ht ?_
 generalize zF s 23 t=v at *
 have k1:=dB hv
 have k2:=gW v
 simp (maxSteps:=1000000) -dsimp only [go_sem,aM v,k1,k2,k4,k5,k6,k7]
 exact .sel [] (by simp) (by simp) rfl (.done (by simpa [go_sem] using hK))
end Go.Proofs.YtkpohmhenegkiaaGreatDoor
namespace Go.Proofs.YtkpohmhenegkiaaGreatDoor
open Go.W
theorem H9 {α:Type} {one:α->Fs->α × Fs} {ts:List Tk} (ho:AQ one ts) (I:Nat->α->Prop) (hs:∀ k a z,z.n < ts.length->I k a->I (k + 1) (one a z).1):∀ (f k:Nat) (a:α) (z:Fs),z.n < ts.length->I k a->∃ k',k'<=k + f/\I k' (gX one ts f a z).1
 | 0,k,a,z,_,h=>⟨k,Nat.le_refl _,h⟩
 | f + 1,k,a,z,hn,h=>by
  rw [kD]
  cases z.bad
  · have h1:=hs k a z hn h
    have h2:=ho a z hn
    cases cG [44] ts (one a z).2
    · exact ⟨k + 1,by omega,h1⟩
    · obtain ⟨k',h3,h4⟩:=H9 ho I hs f (k + 1) (one a z).1 (cJ [44] ts (one a z).2) (CN h2.2).2 h1
      exact ⟨k',by omega,h4⟩
  · exact ⟨k,by omega,h⟩
theorem q8 {α:Type} {one:α->Fs->α × Fs} {ts:List Tk} (ho:AQ one ts) (I:Nat->α->Prop) (hs:∀ k a z,z.n < ts.length->I k a->I (k + 1) (one a z).1) (op sh:List UInt8) (a:α) (z:Fs) (hn:z.n < ts.length) (h:I 0 a):∃ k',k'<=ts.length + 1/\I k' (cO one op sh ts a z).1:=by
 unfold cO
 have h1:=gR (w:=op) hn
 cases cG sh ts (bW op ts z)
 · obtain ⟨k,h2,h3⟩:=H9 ho I hs (ts.length + 1) 0 a _ h1.2 h
   exact ⟨k,by omega,h3⟩
 · exact ⟨0,Nat.zero_le _,h⟩
theorem sS {k n:Int} {s:ByteArray} (hk:cD k) (hn:cD n) (hs:s.size<=9223372036854775807):VlOk (.mk k n s [] []):=.mk hk hn hs (by simp) (by simp) (by simp) (by simp) (by simp)
theorem R8 {ts:List Tk} (h:Tks ts) (k:Int) (z:Fs) (hn:z.n < ts.length):cD (fZ k ts z).n/\(fZ k ts z).x.length<=4000:=by
 have hm:aO ts z.n ∈ ts:=bT (jG hn)
 unfold fZ
 cases hZ k ts z
 · rw [aH]; exact ⟨⟨by decide,by decide⟩,by decide⟩
 · exact ⟨h.n _ hm,h.x _ hm⟩
theorem yX {s:Sc} (hs:s.fit) {ts:List Tk} (hts:Tks ts):∀ (N:Nat) (t:Ty) (z:Fs),TyOk t->dP N s t->z.n < ts.length->VlOk (pP N s ts t z).1
 | 0,t,z,_,h,_=>h.elim
 | N + 1,t,z,ht,hd,hn=>by
  have hle:=hts.e.le
  have c0:cD 0:=⟨by decide,by decide⟩
  have c1:cD 1:=⟨by decide,by decide⟩
  have c4:cD 4:=⟨by decide,by decide⟩
  have c5:cD 5:=⟨by decide,by decide⟩
  have c6:cD 6:=⟨by decide,by decide⟩
  have c7:cD 7:=⟨by decide,by decide⟩
  rw [fN]
  cases t.k == 1 with
  | true=>
   rw [aN]; unfold cF
   cases (!z.bad && bQ 1 iF (aO ts z.n))<;>cases (!z.bad && bQ 1 gI (aO ts z.n))<;>first | exact sS c1 c1 (by decide) | exact sS c1 c0 (by decide)
  | false=>
  cases t.k == 4 with
  | true=>
   refine sS c4 c0 ?_
   have:=(R8 hts 3 z hn).2
   show (mk (fZ 3 ts z).x).size<=_
   have e:(mk (fZ 3 ts z).x).size=(fZ 3 ts z).x.length:=by simp [mk,ByteArray.size]
   omega
  | false=>
  cases t.k == 7 with
  | true=>
   have he:((dJ s.es t.n).getD default).ok:=by
    cases h:dJ s.es t.n with
    | none=>exact ⟨by decide,by decide,by decide,fun _ h=>(by cases h),fun _ h=>(by cases h)⟩
    | some e=>exact hs.ok.es e (List.mem_of_find?_eq_some h)
   generalize (dJ s.es t.n).getD default=e at he ⊢
   rw [aH,aH,aN]; unfold cE
   cases hc:(decide (gL e ts z < 0) || decide ((e.vs.length:Int)<=gL e ts z)) with
   | true=>exact sS c7 c0 (by decide)
   | false=>
    refine sS c7 ?_ (by decide)
    rw [List.getD_eq_getElem?_getD]
    cases hx:e.vs[(gL e ts z).toNat]? with
    | none=>exact c0
    | some y=>exact he.vs _ (bT hx)
  | false=>
  cases h5:t.k == 5 with
  | true=>
   obtain ⟨u,he,hu,hD⟩:=hd.1 h5
   rw [he,List.headD_cons]
   obtain ⟨k,hk,h1,h2⟩:=q8 (one:=eZ (pP N) s ts u) (fun a z h=>n3 N s ts u z h) (fun k l=>l.length<=k/\∀ v ∈ l,VlOk v) (fun k l z hz ⟨h1,h2⟩=>⟨by simp [eZ]; omega,fun v hv=>by
    rcases List.mem_append.1 hv with hv | hv
    · exact h2 v hv
    · rw [List.mem_singleton.1 hv]; exact yX hs hts N u z hu hD hz⟩) [91] [93] [] z hn ⟨Nat.le_refl _,by simp⟩
   exact .mk c5 c0 (by decide) (by omega) (by simp) h2 (by simp) (by simp)
  | false=>
  cases h6:t.k == 6 with
  | true=>
   have hD:=hd.2 h6
   have hok:=jK hs t
   obtain ⟨k,hk,h1,h2⟩:=q8 (one:=cK (pP N) s ts (stOf s t)) (tP (n3 N)) (fun k a=>a.2.length<=k/\∀ x ∈ a.2,cD x.1/\VlOk x.2) (fun k a z hz ⟨h1,h2⟩=>by
    unfold cK
    cases hb:iJ ts (stOf s t) a.1 z with
    | true=>exact ⟨by rw [aN]; exact Nat.le_succ_of_le h1,h2⟩
    | false=>
     rw [aH]
     refine ⟨by simp; omega,fun x hx=>?_⟩
     rcases List.mem_append.1 hx with hx | hx
     · exact h2 x hx
     · rw [List.mem_singleton.1 hx]
       have hz1:(lJ ts z).n < ts.length:=(gR (w:=[61]) (z:=⟨z.bad,z.off,cP ts z.n⟩) (kI hz).2).2
       have hlt:dG ts (stOf s t) z < ((stOf s t).fs.length:Int):=by have:=(CS (aO ts z.n).x (stOf s t).fs 0).2; unfold dG; omega
       have hge:¬ (dG ts (stOf s t) z < 0):=fun h=>by unfold iJ at hb; rw [decide_eq_true h] at hb; simp at hb
       have hm:(stOf s t).fs.getD (dG ts (stOf s t) z).toNat default ∈ (stOf s t).fs:=by
        have hl:(dG ts (stOf s t) z).toNat < (stOf s t).fs.length:=by omega
        rw [List.getD_eq_getElem?_getD,a7 hl]
        exact List.getElem_mem hl
       exact ⟨(hok.fs _ hm).num,yX hs hts N _ _ (hok.fs _ hm).ty (hD _ hm) hz1⟩) [123] [125] (0,[]) z hn ⟨Nat.le_refl _,by simp⟩
   exact .mk c6 c0 (by decide) (by simp) (by show List.length _ * 88<=_; omega) (by simp) (fun x hx=>(h2 x hx).1) (fun x hx=>(h2 x hx).2)
  | false=>exact sS ht.k (R8 hts 2 z hn).1 (by decide)
attribute [-go_sem] cM cU cL e7 cZ iD
noncomputable def oF (D:Sc->Ty->Prop) (P:Prs):cQ:=(28,.f (xO fun s t=>.bool (sG s t))) :: (23,.f (eL (fun _ _ _=>True) fun s t v=>.int .i64 (f0 s t v))) :: (29,.s iD) :: (30,.s (cM 114)) :: (31,.s mY) :: AJ D P
theorem KL {D:Sc->Ty->Prop} {P:Prs} (h:ParsM D P):dV Tryz.prog (oF D P):=aG KI (aG DA (aB aQZ (aB q9 (aB p5 (oZ h)))))
theorem GN (D:Sc->Ty->Prop) (P:Prs):jT (oF D P) 28=some (xO fun s t=>.bool (sG s t)):=rfl
theorem GO (D:Sc->Ty->Prop) (P:Prs):jT (oF D P) 23=some (eL (fun _ _ _=>True) fun s t v=>.int .i64 (f0 s t v)):=rfl
theorem UM (D:Sc->Ty->Prop) (P:Prs):sp (oF D P) 29=iD:=rfl
theorem S9 (D:Sc->Ty->Prop) (P:Prs):sp (oF D P) 30=cM 114:=rfl
theorem UB (D:Sc->Ty->Prop) (P:Prs):sp (oF D P) 31=mY:=rfl
theorem T5 (D:Sc->Ty->Prop) (P:Prs):sp (oF D P) 24=mF:=rfl
theorem P8 (D:Sc->Ty->Prop) (P:Prs) (k:Int):sp (oF D P) (gU k)=jJ D P (gU k):=by
 unfold gU
 cases k == 1<;>cases k == 4<;>cases k == 7<;>cases k == 5<;>cases k == 6<;>rfl
theorem aI5 {x:ByteArray} {K:S->Hp->Prop} (h:(bD (bl x)).err=0) (hK:K (.tu [.c1 (.pt 0 0),iA .i64 0,iA .i64 0]) [iY 114 (bD (bl x)).toks 0]):iD [tS x] [] K:=⟨fun _=>hK,fun h'=>absurd h h'⟩
theorem aAP {x:ByteArray} {K:S->Hp->Prop} (h:(bD (bl x)).err ≠ 0) (hK:K (.tu [.c1 (.vl (.pointer none)),iA .i64 (bD (bl x)).err,iA .i64 (bD (bl x)).off]) []):iD [tS x] [] K:=⟨fun h'=>absurd h' h,fun _=>hK⟩
def v0:Vl:=.mk 0 0 (mk []) [] []
def GS (ts:List Tk) (z:Fs):Fs:=bif (aO ts z.n).k != 0 then cV ts z else z
def JT (s:Sc) (t:Ty) (ts:List Tk) (r:Vl × Fs):Vl × Int × Int:=
 bif (GS ts r.2).bad then (v0,2,(GS ts r.2).off) else bif f0 s t r.1 != 0 then (v0,f0 s t r.1,0) else (r.1,0,0)
def iT (P:Prs) (s:Sc) (t:Ty) (x:List UInt8):Vl × Int × Int:=
 bif !sG s t then (v0,13,0) else bif (bD x).err != 0 then (v0,(bD x).err,(bD x).off) else JT s t (bD x).toks (P s (bD x).toks t ⟨false,0,0⟩)
def t7 (D:Sc->Ty->Prop) (P:Prs):W.Spec:=fun av H K=>∃ s t x,av=[.va (.gs (aF s)),.va (.gs (aQ t)),tS x]/\H=[]/\s.fit/\TyOk t/\(sG s t=true->D s t)/\((bD (bl x)).err=0->Tks (bD (bl x)).toks)/\
 K (.tu [.gs (a8 (iT P s t (bl x)).1),iA .i64 (iT P s t (bl x)).2.1,iA .i64 (iT P s t (bl x)).2.2]) []
theorem aH5 {D:Sc->Ty->Prop} {P:Prs} (hP:ParsM D P) (hO:P.onw) (hv:∀ s ts t z,s.fit->Tks ts->TyOk t->D s t->z.n < ts.length->VlOk (P s ts t z).1):Meets Tryz.prog 13 (t7 D P):=by
 refine aE Tryz.func13 aPM 3 (by rw [Tryz.ntmps13]; decide) (KL hP) (fun av H K h=>by obtain ⟨_,_,_,rfl,_⟩:=h; rfl) ?_
 rintro av H K ⟨s,t,x,rfl,rfl,hs,ht,hD,hT,hK⟩
 have k4:=eJ ht
 have k5:=iV t
 have k6:=fV hs
 have k7:=jS s
 have fin:∀ (v:Vl) (e a:Int) (R:Hp),iT P s t (bl x)=(v,e,a)->W.Fin 0 K (.tu [.gs (a8 v),iA .i64 e,iA .i64 a]) R:=fun v e a R h=>by
  rw [h] at hK
  refine .sel [] (by simp) (by simp) rfl (.done ?_)
  rw [aM] at hK ⊢
  simpa [go_sem] using hK
 clear hK
 unfold iT at fin
 cases h1:sG s t with
 | false=>
  rw [h1] at fin
  simp (maxSteps:=1000000) -dsimp only [go_sem,aF,aJ t,VY,SZ,GN,k4,k5,k6,k7,h1]
  exact fin v0 13 0 _ rfl
 | true=>
 rw [h1] at fin
 simp (maxSteps:=1000000) -dsimp only [go_sem,aF,aJ t,VY,SZ,GN,k4,k5,k6,k7,h1]
 refine aD rfl (.done ?_)
 simp (maxSteps:=1000000) -dsimp only [go_sem,JN,UM]
 cases h2:(bD (bl x)).err != 0 with
 | true=>
  rw [h2] at fin
  refine aAP (by simpa using h2) ?_
  simp (maxSteps:=1000000) -dsimp only [go_sem]
  refine aD rfl (.done ?_)
  simp (maxSteps:=1000000) -dsimp only [go_sem,zB,h2]
  exact fin v0 _ _ _ rfl
 | false=>
 rw [h2] at fin
 have h2':(bD (bl x)).err=0:=by simpa using h2
 have hts:=hT h2'
 refine aI5 h2' ?_
 have hn0:(⟨false,0,0⟩:Fs).n < (bD (bl x)).toks.length:=hts.e.pos
 generalize (bD (bl x)).toks=ts at *
 simp (maxSteps:=1000000) -dsimp only [go_sem]
 refine aD rfl (.done ?_)
 have g0:((0:Int) != 0)=false:=rfl
 simp (maxSteps:=1000000) -dsimp only [go_sem,zB,g0]
 refine aD rfl (.done ?_)
 simp (maxSteps:=1000000) -dsimp only [go_sem,G8]
 refine aD rfl (.done ?_)
 simp (maxSteps:=1000000) -dsimp only [go_sem,GK,T5,P8]
 refine I5 (z:=⟨false,0,0⟩) hs ht hts hn0 (hD h1) ?_
 have hvk:=hv s ts t ⟨false,0,0⟩ hs hts ht (hD h1) hn0
 have hn1:=(hO s ts t ⟨false,0,0⟩ hn0).2
 generalize P s ts t ⟨false,0,0⟩=r at *
 obtain ⟨v,z⟩:=r
 simp only at hvk hn1
 have k1:=dB hvk
 have k2:=gW v
 simp (maxSteps:=1000000) -dsimp only [go_sem,aM v]
 refine aD rfl (.done ?_)
 simp (maxSteps:=1000000) -dsimp only [go_sem,HJ,S9]
 refine lK hts.e hn1 ?_
 simp only [Bool.not_true,aH,JT,GS] at fin
 cases hk:(aO ts z.n).k != 0 with
 | true=>
  rw [hk,aN] at fin
  simp (maxSteps:=1000000) -dsimp only [go_sem,bE,hk]
  refine aD rfl (.done ?_)
  simp (maxSteps:=1000000) -dsimp only [go_sem,IH,UB]
  refine eK (z:=z) hts.e hn1 ?_
  generalize cV ts z=z2 at *
  simp (maxSteps:=1000000) -dsimp only [go_sem]
  refine aD rfl (.done ?_)
  cases hb:z2.bad with
  | true=>
   rw [hb] at fin
   simp (maxSteps:=1000000) -dsimp only [go_sem,m6]
   exact fin v0 2 z2.off _ rfl
  | false=>
   rw [hb] at fin
   simp (maxSteps:=1000000) -dsimp only [go_sem,m6]
   refine aD rfl (.done ?_)
   simp (maxSteps:=1000000) -dsimp only [go_sem,uJ,GO,k1,k2,k4,k5,k6,k7]
   refine aD rfl (.done ?_)
   cases hc:f0 s t v != 0 with
   | true=>
    rw [hc] at fin
    simp (maxSteps:=1000000) -dsimp only [go_sem,nB,hc]
    exact fin v0 (f0 s t v) 0 _ rfl
   | false=>
    rw [hc] at fin
    simp (maxSteps:=1000000) -dsimp only [go_sem,nB,hc]
    have:=fin v 0 0
    rw [aM] at this
    exact this _ rfl
 | false=>
  rw [hk,aH] at fin
  simp (maxSteps:=1000000) -dsimp only [go_sem,bE,hk]
  have z2:=z
  clear z2
  generalize hz2:z=z2 at *
  refine aD rfl (.done ?_)
  cases hb:z2.bad with
  | true=>
   rw [hb] at fin
   simp (maxSteps:=1000000) -dsimp only [go_sem,m6]
   exact fin v0 2 z2.off _ rfl
  | false=>
   rw [hb] at fin
   simp (maxSteps:=1000000) -dsimp only [go_sem,m6]
   refine aD rfl (.done ?_)
   simp (maxSteps:=1000000) -dsimp only [go_sem,uJ,GO,k1,k2,k4,k5,k6,k7]
   refine aD rfl (.done ?_)
   cases hc:f0 s t v != 0 with
   | true=>
    rw [hc] at fin
    simp (maxSteps:=1000000) -dsimp only [go_sem,nB,hc]
    exact fin v0 (f0 s t v) 0 _ rfl
   | false=>
    rw [hc] at fin
    simp (maxSteps:=1000000) -dsimp only [go_sem,nB,hc]
    have:=fin v 0 0
    rw [aM] at this
    exact this _ rfl
end Go.Proofs.YtkpohmhenegkiaaGreatDoor
namespace Go.Proofs.YtkpohmhenegkiaaGreatDoor
open Go.W
attribute [-go_sem] cM cU cL e7 cZ iD
abbrev sL (s:Sc) (b:Bool):B:=.cells [.vl (.int .i64 s.ver),.fz (s.es.map bG),.fz (s.ss.map aR),.vl (.pointer none),.vl (.bool b),.vl (.int .i64 0)] 62
abbrev fT:Type:=Sc->Ty->Vl->List UInt8 × Bool
def oY (D:Sc->Ty->Vl->Prop) (F:fT):W.Spec:=fun av H K=>∃ s t v b,av=[.va (.c1 (.pt 0 0)),.va (.gs (aQ t)),.va (.gs (a8 v))]/\H=[sL s b]/\s.fit/\TyOk t/\VlOk v/\D s t v/\K (tS (mk (F s t v).1)) [sL s (b || (F s t v).2)]
theorem pY {D:Sc->Ty->Vl->Prop} {F:fT}:∀ av H K,oY D F av H K->av.length=3:=fun av H K h=>by obtain ⟨_,_,_,_,rfl,_⟩:=h; rfl
def W2 (n:Int):List UInt8:=bif n == 1 then iF else gI
theorem KQ:Meets Tryz.prog 54 (oY (fun _ _ _=>True) fun _ _ v=>(W2 v.n,false)):=by
 refine aE Tryz.func54 aR2 3 (by rw [Tryz.ntmps54]; decide) (aA _) pY ?_
 rintro av H K ⟨s,t,v,b,rfl,rfl,hs,ht,hv,_,hK⟩
 unfold W2 at hK
 rw [Bool.or_false] at hK
 cases h:v.n == 1<;>simp only [h,aN,aH] at hK <;>
 · simp (maxSteps:=1000000) -dsimp only [go_sem,aJ t,aM v,aHN,aFG,h]
   refine .sel [0] (by simp) (by simp) rfl (.done ?_)
   simp (maxSteps:=1000000) -dsimp only [go_sem]
   exact hK
theorem FD:Meets Tryz.prog 64 (oY (fun _ _ _=>True) fun _ _ v=>(kO v.n,false)):=by
 refine aE Tryz.func64 aQS 3 (by rw [Tryz.ntmps64]; decide) (aG M5 (aA _)) pY ?_
 rintro av H K ⟨s,t,v,b,rfl,rfl,hs,ht,hv,_,hK⟩
 rw [Bool.or_false] at hK
 have hn:=hv.n
 have hn1:=hn.1
 have hn2:=hn.2
 simp (maxSteps:=1000000) -dsimp only [go_sem,aJ t,aM v,aEM,aF5]
 refine ⟨⟨hn1,hn2⟩,.sel [0] (by simp) (by simp) rfl (.done ?_)⟩
 simp (maxSteps:=1000000) -dsimp only [go_sem]
 exact hK
def s3 (x:List UInt8):List UInt8:=bif decide (x.length<=200) && x.all mJ then xE x else []
theorem aIX (x:List UInt8):lU [⟨3,x,0,0⟩]=s3 x:=by
 unfold lU s3 tE n2 mI
 cases h:(decide (x.length<=200) && x.all mJ)<;>simp [h]
theorem KH:Meets Tryz.prog 56 (oY (fun _ _ v=>(bl v.s).length<=100000) fun _ _ v=>(s3 (bl v.s),s3 (bl v.s) == [])):=by
 refine aE Tryz.func56 aR0 3 (by rw [Tryz.ntmps56]; decide) (aG aDS (aA _)) pY ?_
 rintro av H K ⟨s,t,v,b,rfl,rfl,hs,ht,hv,hD,hK⟩
 have hK:K (tS (mk (s3 (bl v.s)))) [sL s (b || (s3 (bl v.s) == []))]:=hK
 have e:[C.vl (.int .i64 3),.vl (.string v.s),.vl (.int .i64 0),.vl (.int .i64 0)]=FB ⟨3,bl v.s,0,0⟩:=by show _=[_,C.vl (.string (mk (bl v.s))),_,_]; rw [mM]
 have p1:prtFn.val [.va (.c1 (.fz [[.vl (.int .i64 3),.vl (.string v.s),.vl (.int .i64 0),.vl (.int .i64 0)]]))]=tA (mk (s3 (bl v.s))):=by
  rw [e,<-aIX]; exact tV [⟨3,bl v.s,0,0⟩]
 have p2:prtFn.pre [.va (.c1 (.fz [[.vl (.int .i64 3),.vl (.string v.s),.vl (.int .i64 0),.vl (.int .i64 0)]]))]:=by
  rw [e]
  exact ⟨[⟨3,bl v.s,0,0⟩],rfl,by simp,fun t ht=>by rw [List.mem_singleton.1 ht]; exact ⟨show (-9223372036854775808:Int)<=0 by decide,show (0:Int)<=9223372036854775807 by decide,hD⟩⟩
 cases b <;>
 · simp (maxSteps:=1000000) -dsimp only [go_sem,aJ t,aM v,aI2,aGI,p1,p2]
   refine .sel [0] (by simp) (by simp) rfl (.done ?_)
   simp (maxSteps:=1000000) -dsimp only [go_sem]
   exact hK
end Go.Proofs.YtkpohmhenegkiaaGreatDoor
namespace Go.Proofs.YtkpohmhenegkiaaGreatDoor
open Go.W
attribute [-go_sem] cM cU cL e7 cZ iD
def zQ (ns:List ByteArray) (n:Int):List Int->Nat->ByteArray
 | [],_=>mk []
 | m :: l,i=>bif m == n && decide ((i:Int) < (ns.length:Int)) then ns.getD i (mk []) else zQ ns n l (i + 1)
def enOf (s:Sc) (t:Ty):En:=(dJ s.es t.n).getD default
theorem L4 {s:Sc} (hs:s.fit) (t:Ty):(enOf s t).ok:=by
 unfold enOf
 cases h:dJ s.es t.n with
 | none=>exact ⟨by decide,by decide,by decide,fun _ h=>(by cases h),fun _ h=>(by cases h)⟩
 | some e=>exact hs.ok.es e (List.mem_of_find?_eq_some h)
theorem KE:Meets Tryz.prog 58 (oY (fun _ _ _=>True) fun s t v=>(bl (zQ (enOf s t).ns v.n (enOf s t).vs 0),false)):=by
 refine aE Tryz.func58 aQJ 3 (by rw [Tryz.ntmps58]; decide) (aB yT (aA _)) pY ?_
 rintro av H K ⟨s,t,v,b,rfl,rfl,hs,ht,hv,_,hK⟩
 have he:=L4 hs t
 rw [Bool.or_false] at hK
 have hK:K (tS (zQ (enOf s t).ns v.n (enOf s t).vs 0)) [sL s b]:=by have:=hK; rw [mM] at this; exact this
 simp (maxSteps:=1000000) -dsimp only [go_sem,aJ t,aM v,aE4,aC6]
 refine kC hs ?_
 rw [show (dJ s.es t.n).getD default=enOf s t from rfl]
 generalize enOf s t=e at *
 have hlv:=he.lv
 have hln:=he.ln
 simp (maxSteps:=1000000) -dsimp only [go_sem,bG]
 refine aD rfl (.done ?_)
 simp (maxSteps:=1000000) -dsimp only [go_sem,HT]
 refine aK (α:=Nat) (fun i=>[(5,.va (.c1 (.pt 2 0))),(7,.va (.c1 (.pt 3 0))),(22,.va (.c1 (.fz (e.vs.map cH)))),(23,iS .i64 e.vs.length),(24,iS .i64 i)])
  (fun _=>[sL s b,.cells [.vl (.int .i64 t.k),.vl (.int .i64 t.s),.vl (.string t.n),.fz (t.e.map aQ)] 28,.cells [.vl (.int .i64 v.k),.vl (.int .i64 v.n),.vl (.string v.s),.fz (v.l.map a8),.fz (v.f.map bH)] 32,.cells [.vl (.string e.nm),.fz (e.ns.map bM),.fz (e.vs.map cH)] 92])
  (fun i=>i<=e.vs.length/\zQ e.ns v.n (e.vs.drop i) i=zQ e.ns v.n e.vs 0) (fun i=>e.vs.length - i) 0 4 ⟨Nat.zero_le _,rfl⟩ ?_ ?_ ?_
 · simp -dsimp only [go_sem]<;>simp
 · simp -dsimp only [go_sem]<;>simp
 rintro i ⟨hi,ho⟩
 rcases bF i e.vs.length with hlt | hge
 · have hg:decide ((i:Int) < (e.vs.length:Int))=true:=by simp; omega
   have hx:e.vs[i]? = some e.vs[i]:=a7 hlt
   have q2:=aV (row:=cH) hx
   rw [List.drop_eq_getElem_cons hlt,zQ] at ho
   generalize e.vs[i]=m at *
   simp (maxSteps:=1000000) -dsimp only [go_sem,hg,↓q2]
   refine ⟨⟨by omega,by omega⟩,aD rfl (.done ?_)⟩
   cases hc1:m == v.n with
   | false=>
    rw [hc1,Bool.false_and,aH] at ho
    simp (maxSteps:=1000000) -dsimp only [go_sem,tC,hc1]
    refine ⟨by omega,aC (i + 1) 4 ⟨by omega,ho⟩ (by omega) ?_ ?_⟩
    · simp -dsimp only [go_sem]<;>simp
    · simp -dsimp only [go_sem]<;>simp
   | true=>
    cases hc2:decide ((i:Int) < (e.ns.length:Int)) with
    | false=>
     rw [hc1,hc2,Bool.true_and,aH] at ho
     simp (maxSteps:=1000000) -dsimp only [go_sem,tC,hc1,hc2]
     refine ⟨by omega,aC (i + 1) 4 ⟨by omega,ho⟩ (by omega) ?_ ?_⟩
     · simp -dsimp only [go_sem]<;>simp
     · simp -dsimp only [go_sem]<;>simp
    | true=>
     rw [hc1,hc2,Bool.true_and,aN] at ho
     have hlt2:i < e.ns.length:=by simpa using hc2
     have hx2:e.ns[i]? = some e.ns[i]:=a7 hlt2
     have q3:=aV (row:=bM) hx2
     rw [List.getD_eq_getElem?_getD,hx2,Option.getD_some] at ho
     rw [<-ho] at hK
     generalize e.ns[i]=w at *
     simp (maxSteps:=1000000) -dsimp only [go_sem,tC,hc1,hc2,↓q3]
     refine ⟨⟨by omega,by omega⟩,.sel [0] (by simp) (by simp) rfl (.done ?_)⟩
     simp (maxSteps:=1000000) -dsimp only [go_sem]
     exact hK
 · have hg:decide ((i:Int) < (e.vs.length:Int))=false:=by simp; omega
   have:e.vs.drop i=[]:=List.drop_eq_nil_iff.2 (by omega)
   rw [this,zQ] at ho
   rw [<-ho] at hK
   simp (maxSteps:=1000000) -dsimp only [go_sem,hg]
   refine .sel [0] (by simp) (by simp) rfl (.done ?_)
   simp (maxSteps:=1000000) -dsimp only [go_sem]
   exact hK
end Go.Proofs.YtkpohmhenegkiaaGreatDoor
namespace Go.Proofs.YtkpohmhenegkiaaGreatDoor
open Go.W
attribute [-go_sem] cM cU cL e7 cZ iD
def i7 (D:Sc->Ty->Vl->Prop) (F:fT) (f:FuncId):W.Spec:=oY (fun s t v=>D s t v/\gQ t.k=f) F
def IE (D:Sc->Ty->Vl->Prop) (F:fT):cQ:=[(24,.s mF),(54,.s (i7 D F 54)),(56,.s (i7 D F 56)),(58,.s (i7 D F 58)),
 (60,.s (i7 D F 60)),(62,.s (i7 D F 62)),(64,.s (i7 D F 64))]
structure FmtM (D:Sc->Ty->Vl->Prop) (F:fT):Prop where
 b:Meets Tryz.prog 54 (i7 D F 54)
 t:Meets Tryz.prog 56 (i7 D F 56)
 e:Meets Tryz.prog 58 (i7 D F 58)
 l:Meets Tryz.prog 60 (i7 D F 60)
 s:Meets Tryz.prog 62 (i7 D F 62)
 n:Meets Tryz.prog 64 (i7 D F 64)
theorem rF {D:Sc->Ty->Vl->Prop} {F:fT} (h:FmtM D F):dV Tryz.prog (IE D F):=
 aB mOf (aB h.b (aB h.t (aB h.e (aB h.l (aB h.s (aB h.n (aA _)))))))
theorem LV (D:Sc->Ty->Vl->Prop) (F:fT):sp (IE D F) 24=mF:=rfl
theorem GQ (D:Sc->Ty->Vl->Prop) (F:fT) (k:Int):sp (IE D F) (gQ k)=i7 D F (gQ k):=by
 unfold gQ
 cases k == 1<;>cases k == 4<;>cases k == 7<;>cases k == 5<;>cases k == 6<;>rfl
theorem t8 {D:Sc->Ty->Vl->Prop} {F:fT} {s:Sc} {t:Ty} {v:Vl} {b:Bool} {K:S->Hp->Prop} (h1:s.fit) (h2:TyOk t) (h3:VlOk v) (h4:D s t v) (hK:K (tS (mk (F s t v).1)) [sL s (b || (F s t v).2)]) :
 i7 D F (gQ t.k) [.va (.c1 (.pt 0 0)),.va (.gs [.vl (.int .i64 t.k),.vl (.int .i64 t.s),.vl (.string t.n),.fz (t.e.map aQ)]),.va (.gs [.vl (.int .i64 v.k),.vl (.int .i64 v.n),.vl (.string v.s),.fz (v.l.map a8),.fz (v.f.map bH)])] [sL s b] K:=
 ⟨s,t,v,b,by rw [aJ,aM],rfl,h1,h2,h3,⟨h4,rfl⟩,hK⟩
def iU:Bool->List (List UInt8)->List UInt8
 | _,[]=>[]
 | c,x :: r=>(bif c then [44,32] else []) ++ x ++ iU true r
theorem xU:∀ (c:Bool) (xs ys:List (List UInt8)),iU c (xs ++ ys)=iU c xs ++ iU (c || !xs.isEmpty) ys
 | c,[],ys=>by simp [iU]
 | c,x :: r,ys=>by
  rw [List.cons_append,iU,iU,xU true r ys]
  simp [List.append_assoc]
theorem oI {α:Type} (f:α->List UInt8) (l:List α) (i:Nat):(iU false ((l.take i).map f)).length<=(iU false (l.map f)).length:=by
 have h:l.map f=(l.take i).map f ++ (l.drop i).map f:=by rw [<-List.map_append,List.take_append_drop]
 rw [h,xU,List.length_append]; omega
theorem E7 {α:Type} (f:α->List UInt8) {l:List α} {i:Nat} {x:α} (h:l[i]? = some x):iU false ((l.take (i + 1)).map f)=iU false ((l.take i).map f) ++ (bif decide (0 < (i:Int)) then [44,32] else []) ++ f x:=by
 have hl:=(bC.1 h).1
 rw [List.take_add_one,h,List.map_append,xU]
 have e:(false || !((l.take i).map f).isEmpty)=decide (0 < (i:Int)):=by
  cases i with
  | zero=>simp
  | succ i=>
   have:decide (0 < ((i + 1:Nat):Int))=true:=decide_eq_true (by omega)
   rw [this]
   cases l with
   | nil=>simp at hl
   | cons y l=>simp
 rw [e]
 simp [iU,List.append_assoc]
def oO (F:fT) (s:Sc) (u:Ty) (l:List Vl):List UInt8 × Bool:=([91] ++ iU false (l.map fun x=>(F s u x).1) ++ [93],l.any fun x=>(F s u x).2)
theorem KR {D:Sc->Ty->Vl->Prop} {F:fT} (hF:FmtM D F):Meets Tryz.prog 60 (oY (fun s t v=>∃ u,t.e=[u]/\TyOk u/\(∀ x ∈ v.l,D s u x)/\(oO F s u v.l).1.length<=100000000000000) fun s t v=>oO F s (t.e.headD default) v.l):=by
 refine aE Tryz.func60 aPA 3 (by rw [Tryz.ntmps60]; decide) (rF hF) pY ?_
 rintro av H K ⟨s,t,v,b,rfl,rfl,hs,ht,hv,⟨u,he,hu,hD,hlen⟩,hK⟩
 have hK:K (tS (mk (oO F s u v.l).1)) [sL s (b || (oO F s u v.l).2)]:=by have:=hK; simp only [he,List.headD_cons] at this; exact this
 have hll:=hv.ll
 have hvl:=hv.l
 unfold oO at hK hlen
 simp only [List.length_append,List.length_singleton] at hlen
 simp (maxSteps:=1000000) -dsimp only [go_sem,aJ t,aM v,aCT,aI3]
 refine aK (α:=Nat) (fun i=>[(0,.va (.c1 (.pt 0 0))),(4,.va (.c1 (.pt 1 0))),(7,tS (mk ([91] ++ iU false ((v.l.take i).map fun x=>(F s u x).1)))),(11,.va (.c1 (.fz (v.l.map a8)))),(12,iS .i64 v.l.length),(13,iS .i64 i)])
  (fun i=>[sL s (b || (v.l.take i).any fun x=>(F s u x).2),.cells [.vl (.int .i64 t.k),.vl (.int .i64 t.s),.vl (.string t.n),.fz (t.e.map aQ)] 28,.cells [.vl (.int .i64 v.k),.vl (.int .i64 v.n),.vl (.string v.s),.fz (v.l.map a8),.fz (v.f.map bH)] 32])
  (fun i=>i<=v.l.length) (fun i=>v.l.length - i) 0 3 (Nat.zero_le _) ?_ ?_ ?_
 · simp -dsimp only [go_sem]<;>simp [iU]
 · simp -dsimp only [go_sem]<;>simp
 intro i hi
 have hci:=oI (fun x=>(F s u x).1) v.l i
 rcases bF i v.l.length with hlt | hge
 · have hg:decide ((i:Int) < (v.l.length:Int))=true:=by simp; omega
   have hx:v.l[i]? = some v.l[i]:=a7 hlt
   have q2:=aV (row:=a8) hx
   have hxo:=hvl _ (List.getElem_mem hlt)
   have hxD:=hD _ (List.getElem_mem hlt)
   have hcn:=E7 (fun x=>(F s u x).1) hx
   have han:(v.l.take (i + 1)).any (fun x=>(F s u x).2)=((v.l.take i).any (fun x=>(F s u x).2) || (F s u v.l[i]).2):=by rw [List.take_add_one,hx,List.any_append]; simp
   have hc1:=oI (fun x=>(F s u x).1) v.l (i + 1)
   generalize v.l[i]=x at *
   have z0:(0:Int) < ((1:Nat):Int):=by decide
   have z1:(0:Int)<=0:=by decide
   cases hc:decide (0 < (i:Int)) with
   | true=>
    rw [hc,aN] at hcn
    rw [hcn] at hc1
    simp only [List.length_append] at hc1
    simp (maxSteps:=1000000) -dsimp only [go_sem,hg,↓q2,aM x,hc,List.take_succ_cons,List.take_zero,List.length_cons]
    refine ⟨⟨by omega,by omega⟩,by omega,aD rfl (.done ?_)⟩
    simp (maxSteps:=1000000) -dsimp only [go_sem,zZ,he,aJ u,LV,GQ,forall_eq',z0,z1,List.length_cons,List.length_nil,List.take_succ_cons,List.take_zero]
    refine t8 hs hu hxo hxD ?_
    simp (maxSteps:=1000000) -dsimp only [go_sem]
    refine ⟨by simp only [List.length_cons,List.length_nil] at hc1; omega,⟨by omega,by omega⟩,aC (i + 1) 3 (by omega) (by omega) ?_ ?_⟩
    · simp -dsimp only [go_sem,hcn]<;>simp
    · simp -dsimp only [go_sem,han]<;>simp [he,aJ u,Bool.or_assoc]
   | false=>
    rw [hc,aH] at hcn
    rw [hcn] at hc1
    simp only [List.length_append] at hc1
    simp (maxSteps:=1000000) -dsimp only [go_sem,hg,↓q2,aM x,hc,List.take_succ_cons,List.take_zero,List.length_cons]
    refine ⟨⟨by omega,by omega⟩,aD rfl (.done ?_)⟩
    simp (maxSteps:=1000000) -dsimp only [go_sem,zZ,he,aJ u,LV,GQ,forall_eq',z0,z1,List.length_cons,List.length_nil,List.take_succ_cons,List.take_zero]
    refine t8 hs hu hxo hxD ?_
    simp (maxSteps:=1000000) -dsimp only [go_sem]
    refine ⟨by simp only [List.length_nil] at hc1; omega,⟨by omega,by omega⟩,aC (i + 1) 3 (by omega) (by omega) ?_ ?_⟩
    · simp -dsimp only [go_sem,hcn]<;>simp
    · simp -dsimp only [go_sem,han]<;>simp [he,aJ u,Bool.or_assoc]
 · have hg:decide ((i:Int) < (v.l.length:Int))=false:=by simp; omega
   rw [List.take_of_length_le hge] at hci ⊢
   simp (maxSteps:=1000000) -dsimp only [go_sem,hg]
   refine ⟨by omega,.sel [0] (by simp) (by simp) rfl (.done ?_)⟩
   simp (maxSteps:=1000000) -dsimp only [go_sem]
   simpa using hK
end Go.Proofs.YtkpohmhenegkiaaGreatDoor
namespace Go.Proofs.YtkpohmhenegkiaaGreatDoor
open Go.W
attribute [-go_sem] cM cU cL e7 cZ iD
def IF (D:Sc->Ty->Vl->Prop) (F:fT):cQ:=(103,.s kR) :: (104,.s rD) :: IE D F
theorem PG {D:Sc->Ty->Vl->Prop} {F:fT} (h:FmtM D F):dV Tryz.prog (IF D F):=aB nU (aB sU (rF h))
theorem L0 (D:Sc->Ty->Vl->Prop) (F:fT):sp (IF D F) 24=mF:=rfl
theorem aAI (D:Sc->Ty->Vl->Prop) (F:fT):sp (IF D F) 103=kR:=rfl
theorem ML (D:Sc->Ty->Vl->Prop) (F:fT):sp (IF D F) 104=rD:=rfl
theorem GY (D:Sc->Ty->Vl->Prop) (F:fT) (k:Int):sp (IF D F) (gQ k)=i7 D F (gQ k):=by
 unfold gQ
 cases k == 1<;>cases k == 4<;>cases k == 7<;>cases k == 5<;>cases k == 6<;>rfl
def gN (u:St) (n:Int):Fl:=(fF u.fs n).getD default
def LZ (F:fT) (s:Sc) (u:St) (x:Int × Vl):List UInt8:=bl (gN u x.1).nm ++ [32,61,32] ++ (F s (gN u x.1).ty x.2).1
def kB (F:fT) (s:Sc) (u:St) (l:List (Int × Vl)):List UInt8 × Bool:=([123] ++ iU false (l.map (LZ F s u)) ++ [125],l.any fun x=>(F s (gN u x.1).ty x.2).2)
theorem LT {u:St} (hu:u.ok) (n:Int):(gN u n).ok:=by
 unfold gN
 cases h:fF u.fs n with
 | none=>exact ⟨⟨by decide,by decide⟩,by decide,.mk ⟨by decide,by decide⟩ ⟨by decide,by decide⟩ (by decide) (by decide) (fun _ h=>by cases h)⟩
 | some d=>exact hu.fs d (List.mem_of_find?_eq_some h)
theorem J9 {s:Sc} (hs:s.fit) (t:Ty):∀ f ∈ (stOf s t).fs,TySm f.ty:=by
 unfold stOf
 cases h:fS s.ss t.n with
 | none=>exact fun _ h=>(by cases h)
 | some u=>exact (hs.sm u (List.mem_of_find?_eq_some h)).2
theorem qX {t:St} {k:Int} {K:S->Hp->Prop} (h:t.ok) (h2:∀ f ∈ t.fs,TySm f.ty) (hK:K (.tu [.gs (aY (gN t k)),bA (fF t.fs k).isSome]) []):rD [.va (.gs [.vl (.string t.nm),.fz (t.fs.map aY)]),iS .i64 k] [] K:=⟨t,k,rfl,rfl,h,h2,hK⟩
theorem FF {D:Sc->Ty->Vl->Prop} {F:fT} (hF:FmtM D F):Meets Tryz.prog 62 (oY (fun s t v=>(∀ x ∈ v.f,D s (gN (stOf s t) x.1).ty x.2)/\(kB F s (stOf s t) v.f).1.length<=100000000000000) fun s t v=>kB F s (stOf s t) v.f):=by
 refine aE Tryz.func62 aRA 3 (by rw [Tryz.ntmps62]; decide) (PG hF) pY ?_
 rintro av H K ⟨s,t,v,b,rfl,rfl,hs,ht,hv,⟨hD,hlen⟩,hK⟩
 have hK:K (tS (mk (kB F s (stOf s t) v.f).1)) [sL s (b || (kB F s (stOf s t) v.f).2)]:=hK
 have hok:=jK hs t
 have hll:=hv.lf
 have hvl:=hv.f
 have hvn:=hv.fn
 simp (maxSteps:=1000000) -dsimp only [go_sem,aJ t,aM v,aC1,aGG,aAI]
 refine iR hs ?_
 rw [show (fS s.ss t.n).getD default=stOf s t from rfl]
 have hsu:=J9 hs t
 generalize stOf s t=u at *
 unfold kB at hK hlen
 simp only [List.length_append,List.length_singleton] at hlen
 simp (maxSteps:=1000000) -dsimp only [go_sem,aR]
 refine aD rfl (.done ?_)
 simp (maxSteps:=1000000) -dsimp only [go_sem,IG]
 refine aK (α:=Nat) (fun i=>[(0,.va (.c1 (.pt 0 0))),(7,.va (.c1 (.pt 3 0))),(9,tS (mk ([123] ++ iU false ((v.f.take i).map (LZ F s u))))),(25,.va (.c1 (.fz (v.f.map bH)))),(26,iS .i64 v.f.length),(27,iS .i64 i)])
  (fun i=>[sL s (b || (v.f.take i).any fun x=>(F s (gN u x.1).ty x.2).2),.cells [.vl (.int .i64 t.k),.vl (.int .i64 t.s),.vl (.string t.n),.fz (t.e.map aQ)] 28,.cells [.vl (.int .i64 v.k),.vl (.int .i64 v.n),.vl (.string v.s),.fz (v.l.map a8),.fz (v.f.map bH)] 32,.cells [.vl (.string u.nm),.fz (u.fs.map aY)] 95])
  (fun i=>i<=v.f.length) (fun i=>v.f.length - i) 0 4 (Nat.zero_le _) ?_ ?_ ?_
 · simp -dsimp only [go_sem]<;>simp [iU]
 · simp -dsimp only [go_sem]<;>simp
 intro i hi
 have hci:=oI (LZ F s u) v.f i
 rcases bF i v.f.length with hlt | hge
 · have hg:decide ((i:Int) < (v.f.length:Int))=true:=by simp; omega
   have hx:v.f[i]? = some v.f[i]:=a7 hlt
   have q2:=aV (row:=bH) hx
   have hxo:=hvl _ (List.getElem_mem hlt)
   have hxD:=hD _ (List.getElem_mem hlt)
   have hcn:=E7 (LZ F s u) hx
   have han:(v.f.take (i + 1)).any (fun x=>(F s (gN u x.1).ty x.2).2)=((v.f.take i).any (fun x=>(F s (gN u x.1).ty x.2).2) || (F s (gN u v.f[i].1).ty v.f[i].2).2):=by rw [List.take_add_one,hx,List.any_append]; simp
   have hc1:=oI (LZ F s u) v.f (i + 1)
   generalize v.f[i]=x at *
   obtain ⟨n,x⟩:=x
   have hdo:=LT hok n
   have hit:LZ F s u (n,x)=bl (gN u n).nm ++ [32,61,32] ++ (F s (gN u n).ty x).1:=rfl
   simp only at hxo hxD han
   simp (maxSteps:=1000000) -dsimp only [go_sem,hg,↓q2,bH,aM x,List.take_succ_cons,List.take_zero,List.length_cons]
   refine ⟨⟨by omega,by omega⟩,aD rfl (.done ?_)⟩
   cases hc:decide (0 < (i:Int)) with
   | true=>
    rw [hc,aN] at hcn
    rw [hcn,hit] at hc1
    rw [hit] at hcn
    simp only [List.length_append,List.length_cons,List.length_nil] at hc1
    simp (maxSteps:=1000000) -dsimp only [go_sem,y4,hc]
    refine ⟨by omega,aD rfl (.done ?_)⟩
    simp (maxSteps:=1000000) -dsimp only [go_sem,zX,ML]
    refine qX hok hsu ?_
    generalize gN u n=d at *
    simp (maxSteps:=1000000) -dsimp only [go_sem,aY]
    refine aD rfl (.done ?_)
    simp (maxSteps:=1000000) -dsimp only [go_sem,BD,L0,GY,List.length_cons,List.length_nil,List.take_succ_cons,List.take_zero]
    have hnm:(bl d.nm).length<=9223372036854775804:=by omega
    refine ⟨hnm,hnm,t8 hs hdo.ty hxo hxD ?_⟩
    simp (maxSteps:=1000000) -dsimp only [go_sem]
    refine ⟨hnm,by omega,by omega,⟨by omega,by omega⟩,aC (i + 1) 4 (by omega) (by omega) ?_ ?_⟩
    · simp -dsimp only [go_sem,hcn]<;>simp
    · simp -dsimp only [go_sem,han]<;>simp [Bool.or_assoc]
   | false=>
    rw [hc,aH] at hcn
    rw [hcn,hit] at hc1
    rw [hit] at hcn
    simp only [List.length_append,List.length_cons,List.length_nil] at hc1
    simp (maxSteps:=1000000) -dsimp only [go_sem,y4,hc]
    refine aD rfl (.done ?_)
    simp (maxSteps:=1000000) -dsimp only [go_sem,zX,ML]
    refine qX hok hsu ?_
    generalize gN u n=d at *
    simp (maxSteps:=1000000) -dsimp only [go_sem,aY]
    refine aD rfl (.done ?_)
    simp (maxSteps:=1000000) -dsimp only [go_sem,BD,L0,GY,List.length_cons,List.length_nil,List.take_succ_cons,List.take_zero]
    have hnm:(bl d.nm).length<=9223372036854775804:=by omega
    refine ⟨hnm,hnm,t8 hs hdo.ty hxo hxD ?_⟩
    simp (maxSteps:=1000000) -dsimp only [go_sem]
    refine ⟨hnm,by omega,by omega,⟨by omega,by omega⟩,aC (i + 1) 4 (by omega) (by omega) ?_ ?_⟩
    · simp -dsimp only [go_sem,hcn]<;>simp
    · simp -dsimp only [go_sem,han]<;>simp [Bool.or_assoc]
 · have hg:decide ((i:Int) < (v.f.length:Int))=false:=by simp; omega
   rw [List.take_of_length_le hge] at hci ⊢
   simp (maxSteps:=1000000) -dsimp only [go_sem,hg]
   refine ⟨by omega,.sel [0] (by simp) (by simp) rfl (.done ?_)⟩
   simp (maxSteps:=1000000) -dsimp only [go_sem]
   simpa using hK
end Go.Proofs.YtkpohmhenegkiaaGreatDoor
namespace Go.Proofs.YtkpohmhenegkiaaGreatDoor
open Go.W
attribute [-go_sem] cM cU cL e7 cZ iD
def fP:Nat->fT
 | 0=>fun _ _ _=>([],false)
 | N + 1=>fun s t v=>bif t.k == 1 then (W2 v.n,false) else bif t.k == 4 then (s3 (bl v.s),s3 (bl v.s) == []) else bif t.k == 7 then (bl (zQ (enOf s t).ns v.n (enOf s t).vs 0),false)
  else bif t.k == 5 then oO (fP N) s (t.e.headD default) v.l else bif t.k == 6 then kB (fP N) s (stOf s t) v.f else (kO v.n,false)
theorem m8 (N:Nat) (s:Sc) (t:Ty) (v:Vl):fP (N + 1) s t v=bif t.k == 1 then (W2 v.n,false) else bif t.k == 4 then (s3 (bl v.s),s3 (bl v.s) == []) else bif t.k == 7 then (bl (zQ (enOf s t).ns v.n (enOf s t).vs 0),false)
 else bif t.k == 5 then oO (fP N) s (t.e.headD default) v.l else bif t.k == 6 then kB (fP N) s (stOf s t) v.f else (kO v.n,false):=rfl
def dF:Nat->Sc->Ty->Vl->Prop
 | 0,_,_,_=>False
 | N + 1,s,t,v=>((t.k == 4)=true->(bl v.s).length<=100000)/\((t.k == 5)=true->∃ u,t.e=[u]/\TyOk u/\∀ x ∈ v.l,dF N s u x)/\((t.k == 6)=true->∀ x ∈ v.f,dF N s (gN (stOf s t) x.1).ty x.2)/\(fP (N + 1) s t v).1.length<=100000000000000
theorem mX {f:FuncId} {D D':Sc->Ty->Vl->Prop} {F F':fT} (h:Meets Tryz.prog f (oY D F)) (hd:∀ s t v,D' s t v->D s t v/\F s t v=F' s t v):Meets Tryz.prog f (oY D' F'):=
 eQ (0:Nat) (fun (_:Nat)=>h) fun av H K ⟨s,t,v,b,h1,h2,h3,h4,h5,h6,h7⟩=>⟨0,s,t,v,b,h1,h2,h3,h4,h5,(hd s t v h6).1,by rw [(hd s t v h6).2]; exact h7⟩
theorem nC (k:Int):(gQ k=54->(k == 1)=true)/\(gQ k=56->(k == 1)=false/\(k == 4)=true)/\(gQ k=58->(k == 1)=false/\(k == 4)=false/\(k == 7)=true)/\
 (gQ k=60->(k == 1)=false/\(k == 4)=false/\(k == 7)=false/\(k == 5)=true)/\(gQ k=62->(k == 1)=false/\(k == 4)=false/\(k == 7)=false/\(k == 5)=false/\(k == 6)=true)/\
 (gQ k=64->(k == 1)=false/\(k == 4)=false/\(k == 7)=false/\(k == 5)=false/\(k == 6)=false):=by
 unfold gQ
 cases k == 1<;>cases k == 4<;>cases k == 7<;>cases k == 5<;>cases k == 6<;>refine ⟨?_,?_,?_,?_,?_,?_⟩<;>intro h<;>first | (exact absurd h (by decide)) | simp
theorem m2 {f:FuncId} {F:fT} {g:FuncId} (h:nP Tryz.prog f=true):Meets Tryz.prog f (i7 (dF 0) F g):=⟨h,by rintro xs vs E ro w K _ _ _ ⟨_,_,_,_,_,_,_,_,_,⟨h,_⟩,_⟩; exact h.elim⟩
theorem aE3:∀ N,FmtM (dF N) (fP N)
 | 0=>⟨m2 (by kernel_rfl),m2 (by kernel_rfl),m2 (by kernel_rfl),m2 (by kernel_rfl),m2 (by kernel_rfl),m2 (by kernel_rfl)⟩
 | N + 1=>by
  have ih:=aE3 N
  refine ⟨mX KQ ?_,mX KH ?_,mX KE ?_,mX (KR ih) ?_,mX (FF ih) ?_,mX FD ?_⟩
  · rintro s t v ⟨hD,hk⟩
    have h1:=(nC t.k).1 hk
    exact ⟨trivial,by rw [m8,h1,aN]⟩
  · rintro s t v ⟨hD,hk⟩
    obtain ⟨h1,h2⟩:=(nC t.k).2.1 hk
    exact ⟨hD.1 h2,by rw [m8,h1,h2]; rfl⟩
  · rintro s t v ⟨hD,hk⟩
    obtain ⟨h1,h2,h3⟩:=(nC t.k).2.2.1 hk
    exact ⟨trivial,by rw [m8,h1,h2,h3]; rfl⟩
  · rintro s t v ⟨hD,hk⟩
    obtain ⟨h1,h2,h3,h4⟩:=(nC t.k).2.2.2.1 hk
    have e:fP (N + 1) s t v=oO (fP N) s (t.e.headD default) v.l:=by rw [m8,h1,h2,h3,h4]; rfl
    obtain ⟨u,he,hu,hD1⟩:=hD.2.1 h4
    have hl:=hD.2.2.2
    rw [e,he,List.headD_cons] at hl
    exact ⟨⟨u,he,hu,hD1,hl⟩,e.symm⟩
  · rintro s t v ⟨hD,hk⟩
    obtain ⟨h1,h2,h3,h4,h5⟩:=(nC t.k).2.2.2.2.1 hk
    have e:fP (N + 1) s t v=kB (fP N) s (stOf s t) v.f:=by rw [m8,h1,h2,h3,h4,h5]; rfl
    have hl:=hD.2.2.2
    rw [e] at hl
    exact ⟨⟨hD.2.2.1 h5,hl⟩,e.symm⟩
  · rintro s t v ⟨hD,hk⟩
    obtain ⟨h1,h2,h3,h4,h5⟩:=(nC t.k).2.2.2.2.2 hk
    exact ⟨trivial,by rw [m8,h1,h2,h3,h4,h5]; rfl⟩
end Go.Proofs.YtkpohmhenegkiaaGreatDoor
namespace Go.Proofs.YtkpohmhenegkiaaGreatDoor
open Go.W
attribute [-go_sem] cM cU cL e7 cZ iD
noncomputable def M7 (D:Sc->Ty->Vl->Prop) (F:fT):cQ:=(23,.f (eL (fun _ _ _=>True) fun s t v=>.int .i64 (f0 s t v))) :: IE D F
theorem OA {D:Sc->Ty->Vl->Prop} {F:fT} (h:FmtM D F):dV Tryz.prog (M7 D F):=aG DA (rF h)
theorem aA3 (D:Sc->Ty->Vl->Prop) (F:fT):sp (M7 D F) 24=mF:=rfl
theorem LR (D:Sc->Ty->Vl->Prop) (F:fT):jT (M7 D F) 23=some (eL (fun _ _ _=>True) fun s t v=>.int .i64 (f0 s t v)):=rfl
theorem TM (D:Sc->Ty->Vl->Prop) (F:fT) (k:Int):sp (M7 D F) (gQ k)=i7 D F (gQ k):=by
 unfold gQ
 cases k == 1<;>cases k == 4<;>cases k == 7<;>cases k == 5<;>cases k == 6<;>rfl
def IY (F:fT) (s:Sc) (t:Ty) (v:Vl):List UInt8:=bif f0 s t v != 0 then [] else bif (F s t v).2 || decide (4000 < ((F s t v).1.length:Int)) then [] else (F s t v).1
def aRJ (D:Sc->Ty->Vl->Prop) (F:fT):W.Spec:=fun av H K=>∃ s t v,av=[.va (.gs (aF s)),.va (.gs (aQ t)),.va (.gs (a8 v))]/\H=[]/\s.fit/\TyOk t/\VlOk v/\(f0 s t v=0->D s t v)/\K (tS (mk (IY F s t v))) []
theorem aBT {D:Sc->Ty->Vl->Prop} {F:fT} (hF:FmtM D F):Meets Tryz.prog 11 (aRJ D F):=by
 refine aE Tryz.func11 aOS 3 (by rw [Tryz.ntmps11]; decide) (OA hF) (fun av H K h=>by obtain ⟨_,_,_,rfl,_⟩:=h; rfl) ?_
 rintro av H K ⟨s,t,v,rfl,rfl,hs,ht,hv,hD,hK⟩
 have k1:=dB hv
 have k2:=gW v
 have k4:=eJ ht
 have k5:=iV t
 have k6:=fV hs
 have k7:=jS s
 have fin:∀ (x:List UInt8) (R:Hp),IY F s t v=x->W.Fin 0 K (tS (mk x)) R:=fun x R h=>by
  rw [h] at hK
  exact .sel [] (by simp) (by simp) rfl (.done (by simpa [go_sem] using hK))
 clear hK
 unfold IY at fin
 cases h1:f0 s t v != 0 with
 | true=>
  rw [h1] at fin
  simp (maxSteps:=1000000) -dsimp only [go_sem,aF,aJ t,aM v,SU,SS,LR,k1,k2,k4,k5,k6,k7,h1]
  exact fin [] _ rfl
 | false=>
 rw [h1,aH] at fin
 have hD:=hD (by simpa using h1)
 simp (maxSteps:=1000000) -dsimp only [go_sem,aF,aJ t,aM v,SU,SS,LR,k1,k2,k4,k5,k6,k7,h1]
 refine aD rfl (.done ?_)
 simp (maxSteps:=1000000) -dsimp only [go_sem,HC,aA3,TM]
 refine t8 hs ht hv hD ?_
 generalize F s t v=r at *
 obtain ⟨x,b⟩:=r
 simp only at fin
 simp (maxSteps:=1000000) -dsimp only [go_sem]
 refine aD rfl (.done ?_)
 cases b with
 | true=>
  rw [Bool.true_or,aN] at fin
  simp (maxSteps:=1000000) -dsimp only [go_sem,tK,Bool.or_true]
  exact fin [] _ rfl
 | false=>
  rw [Bool.false_or] at fin
  cases h2:decide (4000 < (x.length:Int)) with
  | true=>
   rw [h2,aN] at fin
   simp (maxSteps:=1000000) -dsimp only [go_sem,tK,Bool.or_false,h2]
   exact fin [] _ rfl
  | false=>
   rw [h2,aH] at fin
   simp (maxSteps:=1000000) -dsimp only [go_sem,tK,Bool.or_false,h2]
   exact fin x _ rfl
end Go.Proofs.YtkpohmhenegkiaaGreatDoor
namespace Go.Proofs.YtkpohmhenegkiaaGreatDoor
open Go.W
theorem HD:Meets Tryz.prog 112 kR:=by
 refine aE Tryz.func112 aLC 2 (by rw [Tryz.ntmps112]; decide) (aA _) (fun av H K h=>by obtain ⟨_,_,rfl,_⟩:=h; rfl) ?_
 rintro av H K ⟨s,n,rfl,rfl,hs,hK⟩
 rw [<-tO] at hK
 have hl:=hs.ok.ls
 simp -dsimp only [go_sem,aF,YE,W4]
 refine aK (α:=Nat) (fun i=>[(1,tS n),(2,.va (.c1 (.pt 0 0))),(4,.va (.c1 (.pt 1 0))),(6,iS .i64 i)]) (fun _=>[.cells (aF s) 25,.cells [.vl (.string (mk [])),.vl (.slice none 0 0)] 95])
  (fun i=>i<=s.ss.length/\fS (s.ss.drop i) n=fS s.ss n) (fun i=>s.ss.length - i) 0 2 ⟨Nat.zero_le _,rfl⟩ ?_ ?_ ?_
 · simp [go_sem]
 · simp [go_sem,aF]
 rintro i ⟨hi,ho⟩
 rcases bF i s.ss.length with hlt | hge
 · have hg:decide ((i:Int) < (s.ss.length:Int))=true:=by simp; omega
   obtain ⟨t,hx⟩:∃ e,s.ss[i]? = some e:=⟨_,a7 hlt⟩
   have q2:=aV (row:=aR) hx
   rw [fS,iG hx] at ho
   cases hc:decide (t.nm=n) with
   | true=>
    rw [hc,aN] at ho
    rw [<-ho] at hK
    simp (maxSteps:=1000000) -dsimp only [go_sem,hg,↓q2,aR,aF,dC,hc]
    refine ⟨by omega,by omega,.sel [] (by simp) (by simp) rfl (.done (by simpa [go_sem,aR] using hK))⟩
   | false=>
    rw [hc,aH] at ho
    simp (maxSteps:=1000000) -dsimp only [go_sem,hg,↓q2,aR,aF,dC,hc]
    refine ⟨by omega,by omega,aC (i + 1) 2 ⟨by omega,ho⟩ (by omega) ?_ ?_⟩
    · simp [go_sem]
    · simp [go_sem,aF]
 · have hg:decide ((i:Int) < (s.ss.length:Int))=false:=by simp; omega
   obtain rfl:i=s.ss.length:=by omega
   rw [List.drop_length] at ho
   rw [<-ho] at hK
   simp -dsimp only [go_sem,hg,aF]
   exact .sel [] (by simp) (by simp) rfl (.done (by simpa [go_sem,fS,C0] using hK))
theorem aGK:Meets Tryz.prog 133 qW:=by
 refine aE Tryz.func133 aLB 2 (by rw [Tryz.ntmps133]; decide) (aA _) (fun av H K h=>by obtain ⟨_,_,rfl,_⟩:=h; rfl) ?_
 rintro av H K ⟨s,n,rfl,rfl,hs,hK⟩
 rw [<-uG] at hK
 have hl:=hs.ok.le
 simp -dsimp only [go_sem,aF,ZM,Y7]
 refine aK (α:=Nat) (fun i=>[(1,tS n),(2,.va (.c1 (.pt 0 0))),(4,.va (.c1 (.pt 1 0))),(6,iS .i64 i)]) (fun _=>[.cells (aF s) 25,.cells [.vl (.string (mk [])),.vl (.slice none 0 0),.vl (.slice none 0 0)] 92])
  (fun i=>i<=s.es.length/\dJ (s.es.drop i) n=dJ s.es n) (fun i=>s.es.length - i) 0 2 ⟨Nat.zero_le _,rfl⟩ ?_ ?_ ?_
 · simp [go_sem]
 · simp [go_sem,aF]
 rintro i ⟨hi,ho⟩
 rcases bF i s.es.length with hlt | hge
 · have hg:decide ((i:Int) < (s.es.length:Int))=true:=by simp; omega
   obtain ⟨t,hx⟩:∃ e,s.es[i]? = some e:=⟨_,a7 hlt⟩
   have q2:=aV (row:=bG) hx
   rw [dJ,iG hx] at ho
   cases hc:decide (t.nm=n) with
   | true=>
    rw [hc,aN] at ho
    rw [<-ho] at hK
    simp (maxSteps:=1000000) -dsimp only [go_sem,hg,↓q2,bG,aF,dC,hc]
    refine ⟨by omega,by omega,.sel [] (by simp) (by simp) rfl (.done (by simpa [go_sem,bG] using hK))⟩
   | false=>
    rw [hc,aH] at ho
    simp (maxSteps:=1000000) -dsimp only [go_sem,hg,↓q2,bG,aF,dC,hc]
    refine ⟨by omega,by omega,aC (i + 1) 2 ⟨by omega,ho⟩ (by omega) ?_ ?_⟩
    · simp [go_sem]
    · simp [go_sem,aF]
 · have hg:decide ((i:Int) < (s.es.length:Int))=false:=by simp; omega
   obtain rfl:i=s.es.length:=by omega
   rw [List.drop_length] at ho
   rw [<-ho] at hK
   simp -dsimp only [go_sem,hg,aF]
   exact .sel [] (by simp) (by simp) rfl (.done (by simpa [go_sem,dJ,BW] using hK))
theorem LL:Meets Tryz.prog 113 rD:=by
 refine aE Tryz.func113 aMB 2 (by rw [Tryz.ntmps113]; decide) (aA _) (fun av H K h=>by obtain ⟨_,_,rfl,_⟩:=h; rfl) ?_
 rintro av H K ⟨s,n,rfl,rfl,hs,hsm,hK⟩
 have hl:=hs.len
 simp -dsimp only [go_sem,aR,ZQ,X2]
 refine aK (α:=Nat) (fun i=>[(1,iS .i64 n),(2,.va (.c1 (.pt 0 0))),(4,.va (.c1 (.pt 1 0))),(6,iS .i64 i)]) (fun _=>[.cells (aR s) 95,.cells [.vl (.int .i64 0),.vl (.string (mk [])),.vl (.int .i64 0),.vl (.int .i64 0),.vl (.string (mk [])),.vl (.slice none 0 0),.vl (.bool false)] 97])
  (fun i=>i<=s.fs.length/\fF (s.fs.drop i) n=fF s.fs n) (fun i=>s.fs.length - i) 0 2 ⟨Nat.zero_le _,rfl⟩ ?_ ?_ ?_
 · simp [go_sem]
 · simp [go_sem,aR]
 rintro i ⟨hi,ho⟩
 rcases bF i s.fs.length with hlt | hge
 · have hg:decide ((i:Int) < (s.fs.length:Int))=true:=by simp; omega
   obtain ⟨t,hx⟩:∃ e,s.fs[i]? = some e:=⟨_,a7 hlt⟩
   have q2:=aV (row:=aY) hx
   rw [fF,iG hx] at ho
   have hq:(t.num == n)=decide (t.num=n):=rfl
   cases hc:decide (t.num=n) with
   | true=>
    rw [hc,aN] at ho
    rw [<-ho] at hK
    simp (maxSteps:=1000000) -dsimp only [go_sem,hg,↓q2,aY,aR,hq,hc]
    refine ⟨by omega,by omega,.sel [] (by simp) (by simp) rfl (.done (by simpa [go_sem,aY] using hK))⟩
   | false=>
    rw [hc,aH] at ho
    simp (maxSteps:=1000000) -dsimp only [go_sem,hg,↓q2,aY,aR,hq,hc]
    refine ⟨by omega,by omega,aC (i + 1) 2 ⟨by omega,ho⟩ (by omega) ?_ ?_⟩
    · simp [go_sem]
    · simp [go_sem,aR]
 · have hg:decide ((i:Int) < (s.fs.length:Int))=false:=by simp; omega
   obtain rfl:i=s.fs.length:=by omega
   rw [List.drop_length] at ho
   rw [<-ho] at hK
   simp -dsimp only [go_sem,hg,aR]
   exact .sel [] (by simp) (by simp) rfl (.done (by simpa [go_sem,fF,C2] using hK))
def sD (l:List (Int × Vl)) (k:Int):Option (Int × Vl):=l.find? fun x=>decide (x.1=k)
def aHT:W.Spec:=fun av H K=>∃ (v:Vl) (k:Int),av=[.va (.gs (a8 v)),iS .i64 k]/\H=[]/\VlOk v/\v.k=6/\K (.tu [.gs (a8 (((sD v.f k).map (·.2)).getD default)),bA (sD v.f k).isSome]) []
theorem aFX {v:Vl} {k:Int} {K:S->Hp->Prop} (h:VlOk v) (h6:v.k=6) (hK:K (.tu [.gs (a8 (((sD v.f k).map (·.2)).getD default)),bA (sD v.f k).isSome]) []):aHT [.va (.gs [.vl (.int .i64 v.k),.vl (.int .i64 v.n),.vl (.string v.s),.fz (v.l.map a8),.fz (v.f.map bH)]),iS .i64 k] [] K:=⟨v,k,by rw [aM],rfl,h,h6,hK⟩
theorem aBU:a8 default=[.vl (.int .i64 0),.vl (.int .i64 0),.vl (.string (mk [])),.fz [],.fz []]:=rfl
theorem aCB:Meets Tryz.prog 154 aHT:=by
 refine aE Tryz.func154 aL6 2 (by rw [Tryz.ntmps154]; decide) (aA _) (fun av H K h=>by obtain ⟨_,_,rfl,_⟩:=h; rfl) ?_
 rintro av H K ⟨v,k,rfl,rfl,hv,h6,hK⟩
 have hl:=hv.lf
 simp -dsimp only [go_sem,aM v,XE,ZT]
 refine aK (α:=Nat) (fun i=>[(1,iS .i64 k),(2,.va (.c1 (.pt 0 0))),(4,.va (.c1 (.pt 1 0))),(6,iS .i64 i)]) (fun _=>[.cells [.vl (.int .i64 v.k),.vl (.int .i64 v.n),.vl (.string v.s),.fz (v.l.map a8),.fz (v.f.map bH)] 32,.cells [.vl (.int .i64 0),.vl (.int .i64 0),.vl (.string (mk [])),.vl (.slice none 0 0),.vl (.slice none 0 0)] 32])
  (fun i=>i<=v.f.length/\sD (v.f.drop i) k=sD v.f k) (fun i=>v.f.length - i) 0 2 ⟨Nat.zero_le _,rfl⟩ ?_ ?_ ?_
 · simp -dsimp only [go_sem]<;>simp
 · simp -dsimp only [go_sem]<;>simp
 rintro i ⟨hi,ho⟩
 rcases bF i v.f.length with hlt | hge
 · have hg:decide ((i:Int) < (v.f.length:Int))=true:=by simp; omega
   have g6:(v.k == 6)=true:=by rw [h6]; rfl
   obtain ⟨x,hx⟩:∃ x,v.f[i]? = some x:=⟨_,a7 hlt⟩
   have q2:=aV (row:=bH) hx
   rw [sD,iG hx] at ho
   obtain ⟨n,w⟩:=x
   cases hc:decide (n=k) with
   | true=>
    simp only [hc,aN] at ho
    rw [<-ho] at hK
    have hc':(n == k)=true:=by simpa using hc
    simp (maxSteps:=1000000) -dsimp only [go_sem,hg,g6,↓q2,bH,aM w,hc',List.take_succ_cons,List.take_zero,List.length_cons]
    exact ⟨⟨by omega,by omega⟩,⟨by omega,by omega⟩,.sel [] (by simp) (by simp) rfl (.done (by simpa [go_sem,aM w] using hK))⟩
   | false=>
    simp only [hc,aH] at ho
    have hc':(n == k)=false:=by simpa using hc
    simp (maxSteps:=1000000) -dsimp only [go_sem,hg,g6,↓q2,bH,aM w,hc']
    refine ⟨⟨by omega,by omega⟩,⟨by omega,by omega⟩,aC (i + 1) 2 ⟨by omega,ho⟩ (by omega) ?_ ?_⟩
    · simp -dsimp only [go_sem]<;>simp
    · simp -dsimp only [go_sem]<;>simp
 · have hg:decide ((i:Int) < (v.f.length:Int))=false:=by simp; omega
   obtain rfl:i=v.f.length:=by omega
   rw [List.drop_length] at ho
   rw [<-ho] at hK
   simp (maxSteps:=1000000) -dsimp only [go_sem,hg]
   exact .sel [] (by simp) (by simp) rfl (.done (by simpa [go_sem,sD,aBU] using hK))
def w8:PC:=.seq (.gh (.reg [.l 80 (.ldn 2 (.t 7)),.l 81 (.ldn 5 (.t 5)),.a 82 (.cq 132 [(.t 80),(.t 81)]),.v 6 82])) .ret
@[go_sem ↓] theorem aLW:aT w8:=aU _
def pcN110_7:PC:=.seq (.gh (.reg [.l 74 (.ldn 3 (.t 3)),.q 75 (.fa 2 (.t 4)),.l 76 (.ld1 (.t 75)),.a 77 (.cl 112 [(.t 74),(.t 76)] []),.v 73 77,.q 78 (.ex (.t 73) 0),.q 79 (.ex (.t 73) 1),.e 7 (.al (.agg #[(.string (mk [])),(.slice none 0 0)]) 95),.s (.st 2 (.t 7) (.t 78)),.v 8 79])) (w8)
@[go_sem ↓] theorem aMF:aT pcN110_7:=aU _
def xI:PC:=.seq (.seq (.gh (.reg [.q 70 (.fa 0 (.t 5)),.l 71 (.ld1 (.t 70)),.q 72 (.bin .neq true (.t 71) (.i 6))])) (.cond (.t 72) (.seq (.reg [.q 6 (.mv (.k (.bool true)))]) .ret) .skip)) (pcN110_7)
@[go_sem ↓] theorem aLK:aT xI:=aU _
def pcN110_3:PC:=.seq (.seq (.gh (.reg [.q 52 (.fa 0 (.t 5)),.l 53 (.ld1 (.t 52)),.q 54 (.bin .eql true (.t 53) (.i 4)),.v 55 54,⟨some 56,(some (55,false)),.q (.fa 0 (.t 5))⟩,⟨some 57,(some (55,false)),.l (.ld1 (.t 56))⟩,⟨some 58,(some (55,false)),.q (.bin .eql true (.t 57) (.i 5))⟩,.a 59 (.pick (.t 55) (.k (.bool true)) (.t 58)),.v 60 59,⟨some 61,(some (60,false)),.q (.fa 0 (.t 5))⟩,⟨some 62,(some (60,false)),.l (.ld1 (.t 61))⟩,⟨some 63,(some (60,false)),.q (.bin .eql true (.t 62) (.i 6))⟩,.a 64 (.pick (.t 60) (.k (.bool true)) (.t 63)),.v 65 64,⟨some 66,(some (65,true)),.q (.fa 1 (.t 5))⟩,⟨some 67,(some (65,true)),.l (.ld1 (.t 66))⟩,⟨some 68,(some (65,true)),.q (.bin .neq true (.t 67) (.i 0))⟩,.a 69 (.pick (.t 65) (.t 68) (.k (.bool false)))])) (.cond (.t 69) (.seq (.reg [.q 6 (.mv (.k (.bool false)))]) .ret) .skip)) (xI)
@[go_sem ↓] theorem aLE:aT pcN110_3:=aU _
def tY:PC:=.seq (.reg [.e 3 (.bx 25 (.t 0)),.e 4 (.bx 28 (.t 1)),.e 5 (.bx 32 (.t 2)),.q 6 (.mv (.k (.bool false)))]) (.seq (.seq (.reg [.l 9 (.ldn 3 (.t 3)),.l 10 (.ldn 4 (.t 4)),.a 11 (.cq 32 [(.t 9),(.t 10)]),.q 12 (.not (.t 11)),.v 13 12,⟨some 14,(some (13,false)),.q (.fa 0 (.t 5))⟩,⟨some 15,(some (13,false)),.l (.ld1 (.t 14))⟩,⟨some 16,(some (13,false)),.q (.fa 0 (.t 4))⟩,⟨some 17,(some (13,false)),.l (.ld1 (.t 16))⟩,⟨some 18,(some (13,false)),.q (.bin .neq true (.t 15) (.t 17))⟩,.a 19 (.pick (.t 13) (.k (.bool true)) (.t 18)),.v 20 19,⟨some 21,(some (20,false)),.q (.fa 0 (.t 5))⟩,⟨some 22,(some (20,false)),.l (.ld1 (.t 21))⟩,⟨some 23,(some (20,false)),.q (.bin .neq true (.t 22) (.i 4))⟩,⟨some 24,(some (20,false)),.q (.mv (.t 23))⟩,⟨some 25,(some (24,true)),.q (.fa 2 (.t 5))⟩,⟨some 26,(some (24,true)),.l (.ld1 (.t 25))⟩,⟨some 27,(some (24,true)),.q (.bin .neq true (.t 26) (.k (.string (mk []))))⟩,⟨some 28,(some (20,false)),.pick (.t 24) (.t 27) (.k (.bool false))⟩,.a 29 (.pick (.t 20) (.k (.bool true)) (.t 28)),.v 30 29,⟨some 31,(some (30,false)),.q (.fa 0 (.t 5))⟩,⟨some 32,(some (30,false)),.l (.ld1 (.t 31))⟩,⟨some 33,(some (30,false)),.q (.bin .neq true (.t 32) (.i 5))⟩,⟨some 34,(some (30,false)),.q (.mv (.t 33))⟩,⟨some 35,(some (34,true)),.q (.fa 3 (.t 5))⟩,⟨some 36,(some (34,true)),.l (.ld1 (.t 35))⟩,⟨some 37,(some (34,true)),.q (.lnL (.t 36))⟩,⟨some 38,(some (34,true)),.q (.bin .gtr true (.t 37) (.i 0))⟩,⟨some 39,(some (30,false)),.pick (.t 34) (.t 38) (.k (.bool false))⟩,.a 40 (.pick (.t 30) (.k (.bool true)) (.t 39)),.v 41 40,⟨some 42,(some (41,false)),.q (.fa 0 (.t 5))⟩,⟨some 43,(some (41,false)),.l (.ld1 (.t 42))⟩,⟨some 44,(some (41,false)),.q (.bin .neq true (.t 43) (.i 6))⟩,⟨some 45,(some (41,false)),.q (.mv (.t 44))⟩,⟨some 46,(some (45,true)),.q (.fa 4 (.t 5))⟩,⟨some 47,(some (45,true)),.l (.ld1 (.t 46))⟩,⟨some 48,(some (45,true)),.q (.lnL (.t 47))⟩,⟨some 49,(some (45,true)),.q (.bin .gtr true (.t 48) (.i 0))⟩,⟨some 50,(some (41,false)),.pick (.t 45) (.t 49) (.k (.bool false))⟩,.a 51 (.pick (.t 41) (.k (.bool true)) (.t 50))]) (.cond (.t 51) (.seq (.reg [.q 6 (.mv (.k (.bool false)))]) .ret) .skip)) (pcN110_3))
def kQ:List RV:=[.mv (.t 6)]
theorem aIA:aP Tryz.prog true ⟨fun r k=>if r=1/\k=2 then .q else if r=8/\k=2 then .q else .own [],fun r=>[3,5,7,8].contains r⟩ Tryz.f110=some (tY,kQ):=by kernel_rfl
def lC:PC:=.seq (.gh (.reg [.v 29 7,.q 30 (.not (.t 29)),.v 31 30,⟨some 32,(some (31,false)),.q (.mv (.t 5))⟩,⟨some 33,(some (31,false)),.q (.bin .gtr true (.t 32) (.i 0))⟩,⟨some 34,(some (31,false)),.q (.mv (.t 33))⟩,⟨some 35,(some (34,true)),.q (.fa 4 (.t 3))⟩,⟨some 36,(some (34,true)),.l (.ld1 (.t 35))⟩,⟨some 37,(some (34,true)),.q (.mv (.t 5))⟩,⟨some 38,(some (34,true)),.l (.ia 6 (.t 36) (.t 37))⟩,⟨some 39,(some (34,true)),.q (.fa 0 (.t 38))⟩,⟨some 40,(some (34,true)),.l (.ld1 (.t 39))⟩,⟨some 41,(some (34,true)),.q (.fa 4 (.t 3))⟩,⟨some 42,(some (34,true)),.l (.ld1 (.t 41))⟩,⟨some 43,(some (34,true)),.q (.mv (.t 5))⟩,⟨some 44,(some (34,true)),.q (.bin .sub true (.t 43) (.i 1))⟩,⟨some 45,(some (34,true)),.l (.ia 6 (.t 42) (.t 44))⟩,⟨some 46,(some (34,true)),.q (.fa 0 (.t 45))⟩,⟨some 47,(some (34,true)),.l (.ld1 (.t 46))⟩,⟨some 48,(some (34,true)),.q (.bin .leq true (.t 40) (.t 47))⟩,⟨some 49,(some (31,false)),.pick (.t 34) (.t 48) (.k (.bool false))⟩,.a 50 (.pick (.t 31) (.k (.bool true)) (.t 49))])) (.cond (.t 50) (.seq (.reg [.q 4 (.mv (.k (.bool false)))]) .ret) .skip)
@[go_sem ↓] theorem aK7:aT lC:=aU _
def l9:PC:=.seq (.gh (.reg [.v 69 10,.q 70 (.not (.t 69)),.v 71 70,⟨some 72,(some (71,true)),.q (.fa 1 (.t 2))⟩,⟨some 73,(some (71,true)),.l (.ld1 (.t 72))⟩,⟨some 74,(some (71,true)),.q (.mv (.t 8))⟩,⟨some 75,(some (71,true)),.l (.ia 7 (.t 73) (.t 74))⟩,⟨some 76,(some (71,true)),.q (.fa 6 (.t 75))⟩,⟨some 77,(some (71,true)),.l (.ld1 (.t 76))⟩,⟨some 78,(some (71,true)),.q (.not (.t 77))⟩,.a 79 (.pick (.t 71) (.t 78) (.k (.bool false)))])) (.cond (.t 79) (.seq (.reg [.q 4 (.mv (.k (.bool false)))]) .ret) .skip)
@[go_sem ↓] theorem aI9:aT l9:=aU _
def R9:PC:=.seq (.reg [.e 2 (.bx 95 (.t 0)),.e 3 (.bx 32 (.t 1)),.q 4 (.mv (.k (.bool false)))]) (.seq (.seq (.reg [.q 5 (.mv (.i 0))]) (.block 0 (.loop (.seq (.seq (.reg [.v 11 5,.q 12 (.fa 4 (.t 3)),.l 13 (.ld1 (.t 12)),.q 14 (.lnL (.t 13)),.q 15 (.bin .lss true (.t 11) (.t 14))]) (.cond (.t 15) .skip (.exit 0))) (.seq (.block 1 (.seq (.ord  [.q (.l 19 (.ldn 2 (.t 2))),.q (.q 20 (.fa 4 (.t 3))),.q (.l 21 (.ld1 (.t 20))),.q (.v 22 5),.q (.l 23 (.ia 6 (.t 21) (.t 22))),.q (.q 24 (.fa 0 (.t 23))),.q (.l 25 (.ld1 (.t 24))),.m (.a 26 (.cl 113 [(.t 19),(.t 25)] [])),.q (.v 18 26),.q (.q 27 (.ex (.t 18) 0)),.q (.q 28 (.ex (.t 18) 1)),.m (.e 6 (.al (.agg #[(.int .i64 0),(.string (mk [])),(.int .i64 0),(.int .i64 0),(.string (mk [])),(.slice none 0 0),(.bool false)]) 97)),.rc (.v 18 26),.rc (.q 27 (.ex (.t 18) 0)),.rc (.q 28 (.ex (.t 18) 1)),.m (.s (.st 7 (.t 6) (.t 27))),.rc (.q 28 (.ex (.t 18) 1)),.m (.v 7 28)]) (lC))) (.reg [.v 16 5,.q 17 (.bin .add true (.t 16) (.i 1)),.v 5 17])))))) (.seq (.seq (.reg [.q 8 (.mv (.i 0))]) (.block 2 (.loop (.seq (.seq (.reg [.v 51 8,.q 52 (.fa 1 (.t 2)),.l 53 (.ld1 (.t 52)),.q 54 (.lnL (.t 53)),.q 55 (.bin .lss true (.t 51) (.t 54))]) (.cond (.t 55) .skip (.exit 2))) (.seq (.block 3 (.seq (.ord  [.q (.l 59 (.ldn 5 (.t 3))),.q (.q 60 (.fa 1 (.t 2))),.q (.l 61 (.ld1 (.t 60))),.q (.v 62 8),.q (.l 63 (.ia 7 (.t 61) (.t 62))),.q (.q 64 (.fa 0 (.t 63))),.q (.l 65 (.ld1 (.t 64))),.m (.a 66 (.cl 154 [(.t 59),(.t 65)] [])),.q (.v 58 66),.q (.q 67 (.ex (.t 58) 0)),.q (.q 68 (.ex (.t 58) 1)),.m (.e 9 (.al (.agg #[(.int .i64 0),(.int .i64 0),(.string (mk [])),(.slice none 0 0),(.slice none 0 0)]) 32)),.rc (.v 58 66),.rc (.q 67 (.ex (.t 58) 0)),.rc (.q 68 (.ex (.t 58) 1)),.m (.s (.st 5 (.t 9) (.t 67))),.rc (.q 68 (.ex (.t 58) 1)),.m (.v 10 68)]) (l9))) (.reg [.v 56 8,.q 57 (.bin .add true (.t 56) (.i 1)),.v 8 57])))))) (.seq (.reg [.q 4 (.mv (.k (.bool true)))]) .ret)))
def QS:List RV:=[.mv (.t 4)]
theorem aEB:aP Tryz.prog true ⟨fun _ _=>.own [],fun r=>[5,11].contains r⟩ Tryz.f132=some (R9,QS):=by kernel_rfl
end Go.Proofs.YtkpohmhenegkiaaGreatDoor
