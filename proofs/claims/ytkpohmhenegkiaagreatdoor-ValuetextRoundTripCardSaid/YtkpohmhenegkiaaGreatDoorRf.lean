/- Lemmas and walks for the proof. -/
import Derived.Test.YtkpohmhenegkiaaGreatDoorRe
import Derived.Test.YtkpohmhenegkiaaGreatDoorProg
import Derived.ProofKit
import Derived.OpenShut
import Derived.ChangeStays
import Derived.Deep.Slices
import Derived.JoinedCond
import Derived.KernelRfl
set_option maxRecDepth 100000
set_option maxHeartbeats 8000000
namespace Go.Proofs.YtkpohmhenegkiaaGreatDoor
open Go.W
theorem pM {w:List UInt8} {ts:List Tk} {n:Nat}:cI w ts (bK n)=c9 4 w (bF ts n):=by unfold cI; rw [Bool.not_false,Bool.true_and]
theorem FW {w:List UInt8} {ts:List Tk} {n:Nat} (he:Ends ts) (hn:n < ts.length) (h:c9 4 w (bF ts n)=true):b9 w ts (bK n)=bK (n + 1):=by
 unfold b9; rw [pM,h,aEA he hn (by rw [Q6 h]; decide)]; rfl
structure Ser {α:Type} (one:α->Fs->α × Fs) (sh:List UInt8) (ts:List Tk) (Q:α × Fs) (f:Nat) (m:Bool) (a:α) (n:Nat) (b:Bool):Prop where
 hn:n < ts.length
 go:m=true->b=false/\ts.length < n + f/\kA one ts f a (bK n)=Q
 no:m=false->Vr ts (Q.1,cQ sh ts Q.2) a n b
theorem Ser.next {α:Type} {one:α->Fs->α × Fs} {sh:List UInt8} {ts:List Tk} {Q:α × Fs} {f:Nat} {a a':α} {n n':Nat} {b':Bool} (he:Ends ts) (ho:DC one ts) (h:Ser one sh ts Q (f + 1) true a n false) (hr:Vr ts (one a (bK n)) a' n' b') :
 (b'=true->Ser one sh ts Q f false a' n' true)/\(b'=false->Ser one sh ts Q f (cI [44] ts (bK n')) a' (moN sh ts n').n (moN sh ts n').bad):=by
 obtain ⟨_,h2,h3⟩:=h.go rfl
 rw [j4] at h3
 simp only [aG] at h3
 refine ⟨fun hb=>?_,fun hb=>?_⟩
 · have hbad:(one a (bK n)).2.bad=true:=by rw [hr.hb,hb]
   rw [H6 hbad,aG] at h3
   refine ⟨hr.hn,fun h=>(by cases h),fun _=>?_⟩
   rw [<-h3]
   exact ⟨by rw [C2 hbad,hbad],hr.hn,fun h=>(by cases h),fun _=>by rw [C2 hbad]; exact hr.er hb⟩
 · obtain ⟨e1,e2⟩:=hr.ok hb
   have hn':=hr.hn
   rw [e2] at h3
   unfold moN
   cases hc:cI [44] ts (bK n') with
   | true=>
    have hc':=hc
    rw [pM] at hc'
    have hm:=ZN he hn' (by rw [Q6 hc']; decide)
    rw [hc,aI,FW he hn' hc'] at h3
    rw [aI,FW he hn' hc']
    refine ⟨hm,fun _=>⟨rfl,?_,by rw [e1]; exact h3⟩,fun h=>(by cases h)⟩
    have h5:=(ho a (bK n) h.hn).1
    rw [e2] at h5
    show ts.length < n' + 1 + f
    have h5:n<=n':=h5
    omega
   | false=>
    rw [hc,aG] at h3
    rw [aG]
    have hq:Q=(a',bK n'):=by rw [<-h3,e1,<-e2]
    refine ⟨(gY (w:=sh) hn').2,fun h=>(by cases h),fun _=>?_⟩
    rw [hq]
    exact aIP (SB sh ts n') hn' (gY (w:=sh) hn').2
theorem sO:∀ (m:Nat) (r:List UInt8) (i:Nat) (out:List UInt8) (z:Nat) (o:List UInt8),r.length<=m->out.all gT=true->quoL i r out=(z,some o)->o.all gT=true
 | _,[],i,out,z,o,_,_,h=>by rw [qT] at h; cases h
 | 0,c :: r,i,out,z,o,hm,_,_=>by simp at hm
 | m + 1,c :: r,i,out,z,o,hm,ho,h=>by
  rw [gJ] at h
  have app:∀ d:UInt8,gT d=true->(out ++ [d]).all gT=true:=fun d hd=>by rw [List.all_append,ho]; simp [hd]
  cases c1:decide (c < 32) || decide (126 < c) with
  | true=>rw [c1] at h; cases h
  | false=>
  rw [c1,aG] at h
  have hp:gT c=true:=by
   unfold gT
   simp only [Bool.or_eq_false_iff,decide_eq_false_iff_not,UInt8.not_lt] at c1
   simp [c1.1,c1.2]
  cases c2:c == 34 with
  | true=>
   rw [c2] at h
   simp only [aI,Prod.mk.injEq,aH] at h
   rw [<-h.2]; exact ho
  | false=>
  rw [c2,aG] at h
  cases c3:c == 92 with
  | false=>
   rw [c3,aG] at h
   exact sO m r _ _ z o (by simp at hm; omega) (app c hp) h
  | true=>
   rw [c3,aI] at h
   cases r with
   | nil=>cases h
   | cons d r=>
    simp only at h
    cases c4:d == 34 || d == 92 with
    | false=>rw [c4] at h; cases h
    | true=>
     rw [c4,aI] at h
     refine sO m r _ _ z o (by simp at hm; omega) (app d ?_) h
     rw [Bool.or_eq_true] at c4
     rcases c4 with e | e<;>rw [eq_of_beq e]<;>decide
structure Gtk (k:Int) (x:List UInt8) (n:Int):Prop where
 e:k=0->x=[]/\n=0
 o:k ≠ 0->kM k x n=true
 i:b5 n
theorem RI {l:List UInt8} {p:Nat} {k n:Int} {x:List UInt8} {z:Nat} (h:eH l p=.ok k x n z):Gtk k x n:=by
 have z0:b5 0:=⟨by decide,by decide⟩
 unfold eH at h
 split at h
 · simp only [R.ok.injEq] at h
   obtain ⟨rfl,rfl,rfl,_⟩:=h
   exact ⟨fun _=>⟨rfl,rfl⟩,fun h=>absurd rfl h,z0⟩
 · rename_i c hc
   cases c1:bD c.toNat with
   | true=>
    rw [c1,aI] at h
    unfold jN at h
    simp only at h
    cases d1:decide (16 < bP aX l p - p) with
    | true=>rw [d1] at h; cases h
    | false=>
     rw [d1,aG] at h
     cases d2:l[bP aX l p]? == some 45 with
     | true=>rw [d2] at h; cases h
     | false=>
      rw [d2,aG] at h
      simp only [R.ok.injEq] at h
      obtain ⟨rfl,rfl,rfl,rfl⟩:=h
      refine ⟨fun h=>absurd h (by decide),fun _=>?_,z0⟩
      have hx:cF ((l.take (bP aX l p)).drop p)=true:=by
       have hlt:=(a6.1 hc).1
       have hw:aX c=true:=by
        have:=cE (p:=fun c=>!bD c.toNat || aX c) (by decide +kernel) c
        rw [c1] at this; exact this
       have hg:p + 1<=bP aX l p:=by rw [<-lQ hc hw]; exact CN
       refine (HU _).2 ⟨c,?_,?_,c1,fun d hd=>wQ d hd⟩
       · rw [List.getElem?_drop,Nat.add_zero,List.getElem?_take_of_lt (by omega),hc]
       · have:=of_decide_eq_false d1
         simp only [List.length_drop,List.length_take]; omega
      show ((0:Int) == 0 && cF _)=true
      rw [hx]; rfl
   | false=>
   rw [c1,aG] at h
   cases c2:bH c || c == 45 with
   | true=>
    rw [c2,aI] at h
    unfold kJ at h
    simp only at h
    have hd:∀ d ∈ (l.take (bP bH l (bif l[p]? == some 45 then p + 1 else p))).drop (bif l[p]? == some 45 then p + 1 else p),bH d=true:=fun d hd=>wQ d hd
    generalize (l.take (bP bH l (bif l[p]? == some 45 then p + 1 else p))).drop (bif l[p]? == some 45 then p + 1 else p)=s at *
    generalize (l[p]? == some 45)=neg at *
    cases d1:s == [] || (s[0]? == some 48 && (decide (1 < s.length) || neg)) with
    | true=>rw [d1] at h; cases h
    | false=>
    rw [d1,aG] at h
    cases hv:valL (cZ neg) 0 s with
    | none=>rw [hv] at h; cases h
    | some m=>
    rw [hv] at h
    simp only at h
    have hm:=LX (lim:=cZ neg) (by cases neg<;>decide) (Nat.zero_le _) hd hv
    cases d2:qA l (bP bH l (bif neg then p + 1 else p)) with
    | true=>rw [d2] at h; cases h
    | false=>
     rw [d2,aG] at h
     simp only [R.ok.injEq] at h
     obtain ⟨rfl,rfl,rfl,rfl⟩:=h
     refine ⟨fun h=>absurd h (by decide),fun _=>rfl,?_⟩
     cases neg with
     | true=>have hm:m<=9223372036854775808:=hm; show b5 (-(m:Int)); unfold b5; omega
     | false=>have hm:m<=9223372036854775807:=hm; show b5 (m:Int); unfold b5; omega
   | false=>
   rw [c2,aG] at h
   cases c3:c == 34 with
   | true=>
    rw [c3,aI] at h
    unfold i6 at h
    split at h
    · cases h
    · rename_i z' o ho
      cases d1:decide (200 < o.length) with
      | true=>rw [d1] at h; cases h
      | false=>
       rw [d1,aG] at h
       simp only [R.ok.injEq] at h
       obtain ⟨rfl,rfl,rfl,rfl⟩:=h
       refine ⟨fun h=>absurd h (by decide),fun _=>?_,z0⟩
       have h1:=sO _ _ _ [] _ _ (Nat.le_refl _) rfl ho
       have h2:decide (o.length<=200)=true:=by have:=of_decide_eq_false d1; simp; omega
       show ((0:Int) == 0 && (decide (o.length<=200) && o.all gT))=true
       rw [h1,h2]; rfl
   | false=>
   rw [c3,aG] at h
   cases c4:eF c.toNat with
   | false=>rw [c4] at h; cases h
   | true=>
    rw [c4,aI] at h
    simp only [R.ok.injEq] at h
    obtain ⟨rfl,rfl,rfl,rfl⟩:=h
    refine ⟨fun h=>absurd h (by decide),fun _=>?_,z0⟩
    show ((0:Int) == 0 && eF c.toNat)=true
    rw [c4]; rfl
theorem AL {l:List UInt8}:∀ (f a:Nat) (ts:List Tk),eX f l a=.ok ts->∀ t ∈ ts,Gtk t.k t.x t.n
 | 0,a,ts,h=>by cases h; intro t ht; cases ht
 | f + 1,a,ts,h=>by
  rw [eX] at h
  split at h
  · cases h
  · rename_i k x n z hR
    have hg:=RI hR
    cases hk:k == 0 with
    | true=>
     rw [hk] at h
     simp only [aI,SR.ok.injEq] at h
     subst h
     intro t ht
     rw [List.mem_singleton.1 ht]; exact hg
    | false=>
     rw [hk] at h
     cases hr:eX f l z with
     | bad e t=>rw [hr] at h; cases h
     | ok us=>
      rw [hr] at h
      simp only [aG,SR.cons,SR.ok.injEq] at h
      subst h
      intro t ht
      rcases List.mem_cons.1 ht with rfl | ht
      · exact hg
      · exact AL f z us hr t ht
theorem NU (l:List UInt8):∀ t ∈ (a7 l).toks,Gtk t.k t.x t.n:=by
 unfold a7
 cases h:decide (4000 < l.length) with
 | true=>intro t ht; cases ht
 | false=>
  rw [aG]
  cases hr:eX (l.length + 1) l 0 with
  | bad e t=>intro t ht; cases ht
  | ok ts=>exact AL _ _ _ hr
theorem Z0 {k:Int} {x:List UInt8} {n:Int} (h:kM k x n=true):x.length<=200:=by
 unfold kM at h
 cases c1:k == 1 with
 | true=>rw [c1,aI,Bool.and_eq_true] at h; have:=qE h.2; omega
 | false=>
 rw [c1,aG] at h
 cases c2:k == 2 with
 | true=>rw [c2,aI] at h; rw [eq_of_beq h]; exact Nat.zero_le _
 | false=>
 rw [c2,aG] at h
 cases c3:k == 3 with
 | true=>rw [c3,aI,Bool.and_eq_true,Bool.and_eq_true] at h; exact of_decide_eq_true h.2.1
 | false=>
 rw [c3,aG] at h
 cases c4:k == 4 with
 | false=>rw [c4] at h; cases h
 | true=>
  rw [c4,aI,Bool.and_eq_true] at h
  match x,h with
  | [],_=>exact Nat.zero_le _
  | [_],_=>exact (by decide:1<=200)
  | _ :: _ :: _,h=>exact absurd h.2 (by simp)
theorem Gtk.len {k:Int} {x:List UInt8} {n:Int} (h:Gtk k x n):x.length<=200:=by
 by_cases hk:k=0
 · rw [(h.e hk).1]; exact Nat.zero_le _
 · exact Z0 (h.o hk)
theorem QM {l:List UInt8} {ts:List Tk} (h:sD l 0 ts) (hl:l.length<=4000):Ends ts:=
 ⟨L8 h,by have:=HE h; omega,fun i t ht=>(LW h ht).2.2.2.1⟩
theorem RN {l:List UInt8}:∀ {a:Nat} {ts:List Tk},sD l a ts->∀ t ∈ ts,t.a<=l.length
 | _,[],_=>fun t ht=>by cases ht
 | _,t :: ts,⟨_,h2,z,_,h4,h5⟩=>fun u hu=>by
  rcases List.mem_cons.1 hu with rfl | hu
  · exact h2
  · by_cases h0:t.k=0
    · rw [h4 h0] at hu; cases hu
    · exact RN (h5 h0) u hu
theorem aEE {l:List UInt8} (h:(a7 l).err=0):Tks (a7 l).toks:=by
 rcases M7 l with ⟨h1,_⟩ | ⟨_,_,h3,h4⟩
 · exact absurd h h1
 · have hg:=NU l
   exact ⟨QM h4 h3,fun t ht=>(hg t ht).i,fun t ht=>by have:=(hg t ht).len; omega,fun t ht=>by have:=RN h4 t ht; omega⟩
structure Dg (s:Sc):Prop where
 ni:Nice s
 g:Gd s.ss s.es
 ac:vC s.ss
 d6:∀ u ∈ s.ss,dD s.ss u.nm<=6
 z:∀ e ∈ s.es,e.vs[0]? = some 0
theorem aGQ {s:Sc} (hf:s.fit) (h:eG s=0):Dg s:=by
 obtain ⟨c2,c3,c4,c5⟩:=q9 h
 unfold tO at c5
 obtain ⟨d1,c5⟩:=fX c5 (by decide)
 obtain ⟨d2,c5⟩:=fX c5 (by decide)
 exact ⟨KR h,K7 hf c2 c4,fun t ht=>e7 d1 t ht,fun u hu=>by have:=of_decide_eq_false (e7 d2 u hu); omega,fun e he=>SE h he⟩
abbrev pU (s:Sc) (t:Ty):Int:=b6 (dD s.ss) t
theorem rR (s:Sc) (t:Ty):0<=pU s t:=by
 unfold pU b6
 have:=FG s.ss (cH t).2.n
 cases (cH t).2.k == 6 with
 | true=>rw [aI]; omega
 | false=>rw [aG]; omega
theorem BX {s:Sc} {t u:Ty} (h5:(t.k == 5)=true) (he:t.e=[u]):pU s t=pU s u + 1:=by
 obtain ⟨k,z,n,e⟩:=t
 have hk:k=5:=eq_of_beq h5
 have he:e=[u]:=he
 subst hk he
 unfold pU b6
 rw [cH,show ((5:Int) == 5)=true from rfl,aI,XJ]
 simp only
 omega
theorem yW {s:Sc} {t:Ty} (h6:(t.k == 6)=true):pU s t=dD s.ss t.n:=by
 obtain ⟨k,z,n,e⟩:=t
 have hk:k=6:=eq_of_beq h6
 subst hk
 unfold pU b6
 rw [cH,show ((6:Int) == 5)=false from rfl,aG]
 show ((0:Nat):Int) + (bif (6:Int) == 6 then dD s.ss n else 0)=dD s.ss n
 simp
theorem va6 {s:Sc} {t:Ty} (h:valF s.ss s.es t=true) (h6:(t.k == 6)=true):∃ u,fS s.ss t.n=some u/\stOf s t=u/\u ∈ s.ss/\u.nm=t.n:=by
 have hh:fQ s.ss t.n=true:=by
  obtain ⟨k,z,n,e⟩:=t
  have hk:k=6:=eq_of_beq h6
  subst hk
  rw [valF] at h; simp at h; exact h.1.1
 rw [<-yT] at hh
 obtain ⟨u,hu⟩:=Option.isSome_iff_exists.1 hh
 exact ⟨u,hu,by unfold stOf; rw [hu]; rfl,(gE hu).1,(gE hu).2⟩
theorem va7 {s:Sc} {t:Ty} (h:valF s.ss s.es t=true) (h7:(t.k == 7)=true):enOf s t ∈ s.es:=by
 have hh:fO s.es t.n=true:=by
  obtain ⟨k,z,n,e⟩:=t
  have hk:k=7:=eq_of_beq h7
  subst hk
  rw [valF] at h; simp at h; exact h.1.1
 rw [<-B9] at hh
 obtain ⟨u,hu⟩:=Option.isSome_iff_exists.1 hh
 unfold enOf
 rw [hu]
 exact (MG hu).1
theorem tV {s:Sc} (hd:Dg s) {t:Ty} (h:valF s.ss s.es t=true) (h6:(t.k == 6)=true):1<=dD s.ss t.n/\dD s.ss t.n<=6/\∀ f ∈ (stOf s t).fs,pU s f.ty + 1<=dD s.ss t.n:=by
 obtain ⟨u,h1,h2,h3,h4⟩:=va6 h h6
 have e:=EZ hd.g hd.ac h1
 have h0:=jI (dD s.ss) u.fs
 refine ⟨by omega,by rw [<-h4]; exact hd.d6 u h3,fun f hf=>?_⟩
 rw [h2] at hf
 have:=L4 (dp:=dD s.ss) hf
 show b6 (dD s.ss) f.ty + 1<=_
 omega
theorem M0 {s:Sc} (hs:s.fit) (hd:Dg s):∀ (N:Nat) (t:Ty),TyOk t->valF s.ss s.es t=true->pU s t < N->dP N s t
 | 0,t,_,_,h=>by have:=rR s t; omega
 | N + 1,t,ht,hv,h=>by
  refine ⟨fun h5=>?_,fun h6 f hf=>?_⟩
  · obtain ⟨u,he,hu⟩:=H4 hv h5
    have e:=BX (s:=s) h5 he
    have hto:=ht.e u (by rw [he]; exact List.mem_singleton.2 rfl)
    exact ⟨u,he,hto,M0 hs hd N u hto hu (by omega)⟩
  · have e:=yW (s:=s) h6
    have:=(tV hd hv h6).2.2 f hf
    exact M0 hs hd N f.ty ((kW hs t).fs f hf).ty ((hd.ni.stOf t).v f hf) (by omega)
theorem aGM {ss:List St} {es:List En} {u:St} (hu:NSt ss es u):u.fs.Pairwise fun f g=>f.num < g.num:=by
 have key:∀ (l:List Fl),(∀ k f g,0 < k->l[k - 1]? = some g->l[k]? = some f->g.num < f.num)->l.Pairwise fun f g=>f.num < g.num:=by
  intro l
  induction l with
  | nil=>intro _; exact .nil
  | cons y l ih=>
   intro h
   have hl:=ih fun k f g hk h1 h2=>h (k + 1) f g (by omega) (by rw [show k + 1 - 1=k - 1 + 1 by omega]; simpa using h1) (by simpa using h2)
   refine List.pairwise_cons.2 ⟨fun f hf=>?_,hl⟩
   cases l with
   | nil=>cases hf
   | cons z l=>
    have h1:=h 1 z y (by omega) rfl rfl
    rcases List.mem_cons.1 hf with rfl | hf
    · exact h1
    · exact Int.lt_trans h1 ((List.pairwise_cons.1 hl).1 f hf)
 exact key u.fs hu.a
theorem NE:∀ {fs:List Fl} {f:Fl},fs.Pairwise (fun f g=>f.num < g.num)->f ∈ fs->fF fs f.num=some f
 | y :: l,f,hp,hf=>by
  obtain ⟨h1,h2⟩:=List.pairwise_cons.1 hp
  show List.find? _ _=_
  rw [List.find?_cons]
  rcases List.mem_cons.1 hf with rfl | hf
  · simp
  · have:=h1 f hf
    have e:decide (y.num=f.num)=false:=by simp; omega
    rw [e]
    exact NE h2 hf
theorem YS {fs:List Fl}:∀ (L:List (Int × Vl)) (p:Option Int),(∀ x ∈ L,(fF fs x.1).isSome=true)->L.Pairwise (fun x y=>x.1 < y.1)->(∀ q,p=some q->∀ x ∈ L,q < x.1)->ftA fs p L=true
 | [],_,_,_,_=>by rw [KH]
 | x :: L,p,h1,h2,h3=>by
  obtain ⟨h4,h5⟩:=List.pairwise_cons.1 h2
  rw [jR,h1 x (List.mem_cons_self ..),YS L (some x.1) (fun y hy=>h1 y (List.mem_cons_of_mem _ hy)) h5 fun q hq y hy=>by cases hq; exact h4 y hy]
  cases p with
  | none=>rfl
  | some q=>
   have:=h3 q rfl x (List.mem_cons_self ..)
   show (true && decide (q < x.1) && true)=true
   rw [decide_eq_true this]; rfl
theorem JY {s:Sc} {fs:List Fl}:∀ (L:List (Int × Vl)),(∀ x ∈ L,dZ s ((fF fs x.1).getD default).ty x.2=0)->jL s fs L=0
 | [],_=>by rw [jL]
 | x :: L,h=>by
  rw [vX,h x (List.mem_cons_self ..)]
  exact JY L fun y hy=>h y (List.mem_cons_of_mem _ hy)
theorem O2 {B:Int}:∀ (L:List (Int × Vl)) (d:Int),d<=B->(∀ x ∈ L,dC x.2<=B)->j6 d L<=B
 | [],d,h,_=>by rw [j6]; exact h
 | (i,v) :: L,d,h,hx=>by
  rw [j6]
  have:=hx (i,v) (List.mem_cons_self ..)
  exact O2 L _ (by simp only at this; omega) fun y hy=>hx y (List.mem_cons_of_mem _ hy)
def zl (s:Sc) (t:Ty):Int:=bif t.k == 6 then dD s.ss t.n else bif t.k == 5 then 1 else 0
theorem aG6 {s:Sc} {t:Ty} (hv:valF s.ss s.es t=true):zl s t<=pU s t:=by
 unfold zl
 have h0:=rR s t
 cases h6:t.k == 6 with
 | true=>rw [yW h6]; exact Int.le_refl _
 | false=>
  cases h5:t.k == 5 with
  | true=>
   obtain ⟨u,he,_⟩:=H4 hv h5
   have:=BX (s:=s) h5 he
   have:=rR s u
   rw [aG,aI]; omega
  | false=>exact h0
theorem IT (n:Nat):(0:Int) < 2 ^ n:=Int.pow_pos (by decide)
theorem aCT {s:Sc} {t:Ty} (h:valF s.ss s.es t=true) (hk:(t.k == 4)=true\/(t.k == 5)=true):1<=t.s:=by
 obtain ⟨k,z,n,e⟩:=t
 show 1<=z
 rcases hk with hk | hk
 · have hk:k=4:=eq_of_beq hk
   subst hk
   rw [valF.eq_def] at h
   simp at h
   omega
 · have hk:k=5:=eq_of_beq hk
   subst hk
   rw [valF.eq_def] at h
   simp at h
   omega
theorem JZ {s:Sc} (hd:Dg s) (n:Nat) {t:Ty} (hv:valF s.ss s.es t=true) (h6:(t.k == 6)=false):dZ s t (zF s (n + 1) t)=0/\dC (zF s (n + 1) t)<=zl s t:=by
 have e:zF s (n + 1) t=.mk t.k 0 (mk []) [] []:=by rw [mW,hv,h6]; rfl
 rw [e]
 constructor
 · rw [rO,hv]
   show (bif !true || t.k != t.k then (13:Int) else _)=0
   rw [bne_self_eq_false,Bool.not_true,Bool.or_false,aG]
   cases h4:t.k == 4 with
   | true=>
    have:=aCT hv (.inl h4)
    have d:decide (t.s < (((bl (mk [])).length:Nat):Int))=false:=by rw [mO]; simp; omega
    show mB t 0 (mk []) (([]:List Vl).length:Int) (([]:List (Int × Vl)).length:Int)=0
    unfold mB
    rw [d]; rfl
   | false=>
   rw [aG]
   cases h5:t.k == 5 with
   | true=>
    have:=aCT hv (.inr h5)
    have d:decide (t.s < ((([]:List Vl).length:Nat):Int))=false:=by simp; omega
    show (bif decide (t.s < ((([]:List Vl).length:Nat):Int)) then (3:Int) else j8 s (t.e.headD default) [])=0
    rw [d,j8]; rfl
   | false=>
   rw [aG,h6,aG]
   show mN s t 0 (mk []) ((0:Nat):Int) ((0:Nat):Int)=0
   unfold mN
   have hr:rL s t 0=true:=by
    unfold rL
    rcases Z3 hv with h | h | h | h | h | h | h
    · rw [h]; rfl
    · rw [bZ h (b:=1) (by decide),h,aG,aI]
      have:=IT (t.s.toNat - 1)
      rw [decide_eq_true (show -(2 ^ (t.s.toNat - 1):Int)<=0 by omega),decide_eq_true this,Bool.and_true,Bool.or_true]
    · rw [bZ h (b:=1) (by decide),bZ h (b:=2) (by decide),h,aG,aG,aI]
      have:=IT t.s.toNat
      rw [decide_eq_true this]; rfl
    · rw [h4] at h; cases h
    · rw [h5] at h; cases h
    · rw [h6] at h; cases h
    · rw [bZ h (b:=1) (by decide),bZ h (b:=2) (by decide),bZ h (b:=3) (by decide),h]
      have hm:=hd.z _ (va7 hv h)
      show (enOf s t).vs.any (fun x=>x == 0)=true
      rw [List.any_eq_true]
      exact ⟨0,bM hm,rfl⟩
   rw [hr,mO]; rfl
 · rw [sH]
   unfold zl
   rw [h6,aG]
   cases h5:t.k == 5 with
   | true=>
    have hs:lM (.mk t.k 0 (mk []) [] [])=false:=by
     show (t.k != 5 && t.k != 6 && _ && _)=false
     rw [bne,h5]; rfl
    rw [hs]
    show 1 + j6 (i7 0 []) []<=1
    rw [i7,j6]; decide
   | false=>
    have hs:lM (.mk t.k 0 (mk []) [] [])=true:=by
     show (t.k != 5 && t.k != 6 && _ && _)=true
     rw [bne,bne,h5,h6]; rfl
    rw [hs]; exact Int.le_refl _
theorem aI7 {s:Sc} (hd:Dg s):∀ (n:Nat) (t:Ty),valF s.ss s.es t=true->((t.k == 6)=true->dD s.ss t.n<=n)->dZ s t (zF s (n + 1) t)=0/\dC (zF s (n + 1) t)<=zl s t:=by
 intro n
 induction n with
 | zero=>
  intro t hv h
  cases h6:t.k == 6 with
  | true=>have:=(tV hd hv h6).1; have:=h h6; omega
  | false=>exact JZ hd 0 hv h6
 | succ n ih=>
  intro t hv h
  cases h6:t.k == 6 with
  | false=>exact JZ hd (n + 1) hv h6
  | true=>
   have hdn:=h h6
   obtain ⟨h1,h2,h3⟩:=tV hd hv h6
   have hu:=hd.ni.stOf t
   have hpw:=aGM hu
   have hk:t.k=6:=eq_of_beq h6
   have e:zF s (n + 1 + 1) t=.mk 6 0 (mk []) [] (zE s (n + 1) (stOf s t).fs):=by rw [mW,hv,h6]; rfl
   have hm:∀ x ∈ zE s (n + 1) (stOf s t).fs,∃ f ∈ (stOf s t).fs,x=(f.num,zF s (n + 1) f.ty):=fun x hx=>by
    unfold zE at hx
    obtain ⟨f,hf,rfl⟩:=List.mem_map.1 hx
    exact ⟨f,(List.mem_filter.1 hf).1,rfl⟩
   have hf:∀ f ∈ (stOf s t).fs,dZ s f.ty (zF s (n + 1) f.ty)=0/\dC (zF s (n + 1) f.ty)<=dD s.ss t.n - 1:=fun f hf=>by
    have hvf:=hu.v f hf
    have h4:=h3 f hf
    have h5:=aG6 hvf
    obtain ⟨a,b⟩:=ih f.ty hvf fun h7=>by have:=yW (s:=s) h7; omega
    exact ⟨a,by omega⟩
   rw [e]
   constructor
   · rw [rO,hv]
     show (bif !true || (6:Int) != t.k then (13:Int) else _)=0
     rw [hk]
     show (bif !(c8 (stOf s t).fs (zE s (n + 1) (stOf s t).fs)) then (13:Int) else jL s (stOf s t).fs (zE s (n + 1) (stOf s t).fs))=0
     have hfit:c8 (stOf s t).fs (zE s (n + 1) (stOf s t).fs)=true:=by
      unfold c8
      rw [Bool.and_eq_true,List.all_eq_true]
      refine ⟨YS _ none (fun x hx=>?_) ?_ (fun q h=>by cases h),fun f hf=>?_⟩
      · obtain ⟨f,hf,rfl⟩:=hm x hx
        rw [NE hpw hf]; rfl
      · unfold zE
        rw [List.pairwise_map]
        exact hpw.filter _
      · cases ho:f.opt with
        | true=>rfl
        | false=>
         unfold p6
         rw [Bool.false_or,List.any_eq_true]
         refine ⟨(f.num,zF s (n + 1) f.ty),?_,by simp⟩
         unfold zE
         exact List.mem_map.2 ⟨f,List.mem_filter.2 ⟨hf,by rw [ho]; rfl⟩,rfl⟩
     rw [hfit,Bool.not_true,aG]
     refine JY _ fun x hx=>?_
     obtain ⟨f,hfm,rfl⟩:=hm x hx
     rw [NE hpw hfm]
     exact (hf f hfm).1
   · rw [sH]
     unfold zl
     rw [h6,aI]
     show 1 + j6 (i7 0 []) (zE s (n + 1) (stOf s t).fs)<=dD s.ss t.n
     rw [i7]
     have:=O2 (B:=dD s.ss t.n - 1) (zE s (n + 1) (stOf s t).fs) 0 (by omega) fun x hx=>by
      obtain ⟨f,hfm,rfl⟩:=hm x hx
      exact (hf f hfm).2
     omega
theorem YP {s:Sc} (hd:Dg s) (t:Ty):uX s t=valF s.ss s.es t:=by
 unfold uX gG
 rw [KS]
 cases hv:valF s.ss s.es t with
 | true=>
  obtain ⟨h1,h2⟩:=aI7 hd 22 t hv fun h6=>by have:=(tV hd hv h6).2.1; omega
  have h3:zl s t<=6:=by
   unfold zl
   cases h6:t.k == 6 with
   | true=>exact (tV hd hv h6).2.1
   | false=>
    cases t.k == 5 with
    | true=>exact (by decide:(1:Int)<=6)
    | false=>exact (by decide:(0:Int)<=6)
  rw [decide_eq_false (show ¬ 6 < dC (zF s (22 + 1) t) by omega),h1]; rfl
 | false=>
  have e:zF s 23 t=.mk 0 0 (mk []) [] []:=by rw [mW,hv]; rfl
  rw [e,rO,hv]
  cases decide (6 < dC (.mk 0 0 (mk []) [] []))<;>rfl
def aL3:Ty:=.mk 2 8 (mk []) []
def xTx:Ty:=.mk 4 5 (mk []) []
def xMo:Ty:=.mk 7 0 (mk [77,111,100,101]) []
def xBo:Ty:=.mk 1 0 (mk []) []
def xLi:Ty:=.mk 5 2 (mk []) [xBo]
def xF1:Fl:=⟨1,mk [120],aL3,false⟩
def xF2:Fl:=⟨2,mk [110,97,109,101],xTx,true⟩
def xF4:Fl:=⟨4,mk [109,111,100,101],xMo,false⟩
def xF5:Fl:=⟨5,mk [108],xLi,false⟩
def X9:St:=⟨mk [80,111,115,101],[xF1,xF2,xF4,xF5]⟩
def xEn:En:=⟨mk [77,111,100,101],[mk [105,100,108,101],mk [114,117,110]],[0,3]⟩
def xS:Sc:=⟨1,[xEn],[X9]⟩
def xT:Ty:=.mk 6 0 (mk [80,111,115,101]) []
def xSp:W.Spec:=fun av H K=>av=[]/\H=[]/\K (.tu [.gs (aC xS),.gs (aL xT)]) []
theorem ML:Meets Tryz.prog 22 xSp:=by
 refine aF Tryz.func22 aKL 0 (by rw [Tryz.ntmps22]; decide) (aA _) (fun av H K h=>by obtain ⟨rfl,_⟩:=h; rfl) ?_
 rintro av H K ⟨rfl,rfl,hK⟩
 simp (maxSteps:=1000000) -dsimp only [go_sem,aFB,aC0]
 refine .opn 2 _ _ _ rfl (.nfr 2 _ _ _ rfl (.shu 2 _ _ _ rfl ?_ (.pub 2 _ _ _ rfl ?_)))
 · simp [C.nf,C.shut]
 simp -dsimp only [go_sem,cP,C.nf,C.pub]
 refine .nfr 4 _ _ _ rfl (.shu 4 _ _ _ rfl ?_ (.pub 4 _ _ _ rfl ?_))
 · simp [C.nf,C.shut]
 simp -dsimp only [go_sem,cP,C.nf,C.pub]
 refine .pub 5 _ _ _ rfl (.pub 6 _ _ _ rfl ?_)
 simp -dsimp only [go_sem,cP,C.pub]
 refine .shu 7 _ _ _ rfl ?_ (.pub 7 _ _ _ rfl ?_)
 · simp [C.shut]
 simp -dsimp only [go_sem,cP,C.pub]
 refine .shu 8 _ _ _ rfl ?_ (.pub 8 _ _ _ rfl ?_)
 · simp [C.shut]
 simp -dsimp only [go_sem,cP,C.pub]
 refine .sel [] (by simp) (by simp) rfl (.done ?_)
 simp -dsimp only [go_sem]
 exact hK
def x1:List UInt8:=[123,120,32,61,32,45,53,44,32,109,111,100,101,32,61,32,114,117,110,44,32,108,32,61,32,91,116,114,117,101,44,32,102,97,108,115,101,93,125]
def x2:List UInt8:=[123,120,32,61,32,50,48,48,44,32,109,111,100,101,32,61,32,114,117,110,44,32,108,32,61,32,91,93,125]
def x3:List UInt8:=[123,109,111,100,101,32,61,32,114,117,110,44,32,120,32,61,32,49,125]
def x4:List UInt8:=[123,120,32,61,32,49,44,32,109,111,100,101,32,61,32,115,116,111,112,44,32,108,32,61,32,91,93,125]
def lP (k n:Int):Vl:=.mk k n (mk []) [] []
def xL:Vl:=.mk 5 0 (mk []) [lP 1 1,lP 1 0] []
def xV:Vl:=.mk 6 0 (mk []) [] [(1,lP 2 (-5)),(4,lP 7 3),(5,xL)]
theorem e1:jT (pP 10) xS xT x1=(xV,0,0):=by kernel_rfl
theorem e2:jT (pP 10) xS xT x2=(v0,4,0):=by kernel_rfl
theorem e3:jT (pP 10) xS xT x3=(v0,2,13):=by kernel_rfl
theorem e4:jT (pP 10) xS xT x4=(v0,2,15):=by kernel_rfl
theorem e0:gG xS xT xV=0:=by kernel_rfl
theorem e5:qV (fP 10) xS xT xV=x1:=by kernel_rfl
theorem I6 (k s:Int) (n:ByteArray) (h1:b5 k) (h2:b5 s) (h3:n.size<=9223372036854775807):TyOk (.mk k s n []):=.mk h1 h2 h3 (Nat.zero_le _) (fun t h=>by cases h)
theorem WE:TyOk xT:=I6 _ _ _ ⟨by decide,by decide⟩ ⟨by decide,by decide⟩ (by decide)
theorem aB1:TyOk xLi:=.mk ⟨by decide,by decide⟩ ⟨by decide,by decide⟩ (by decide) (by decide) fun t ht=>by
 rw [List.mem_singleton.1 ht]; exact I6 _ _ _ ⟨by decide,by decide⟩ ⟨by decide,by decide⟩ (by decide)
theorem aIN:xS.ok:=by
 refine ⟨⟨by decide,by decide⟩,by decide,by decide,fun e he=>?_,fun u hu=>?_⟩
 · rw [List.mem_singleton.1 he]
   refine ⟨by decide,by decide,by decide,fun n hn=>?_,fun n hn=>?_⟩
   · have:n=mk [105,100,108,101]\/n=mk [114,117,110]:=by simpa [xEn] using hn
     rcases this with rfl | rfl<;>decide
   · have:n=0\/n=3:=by simpa [xEn] using hn
     rcases this with rfl | rfl<;>exact ⟨by decide,by decide⟩
 · rw [List.mem_singleton.1 hu]
   refine ⟨by decide,by decide,fun f hf=>?_⟩
   have:f=xF1\/f=xF2\/f=xF4\/f=xF5:=by simpa [X9] using hf
   rcases this with rfl | rfl | rfl | rfl
   · exact ⟨⟨by decide,by decide⟩,by decide,I6 _ _ _ ⟨by decide,by decide⟩ ⟨by decide,by decide⟩ (by decide)⟩
   · exact ⟨⟨by decide,by decide⟩,by decide,I6 _ _ _ ⟨by decide,by decide⟩ ⟨by decide,by decide⟩ (by decide)⟩
   · exact ⟨⟨by decide,by decide⟩,by decide,I6 _ _ _ ⟨by decide,by decide⟩ ⟨by decide,by decide⟩ (by decide)⟩
   · exact ⟨⟨by decide,by decide⟩,by decide,aB1⟩
theorem aBH:kV xS=true:=by kernel_rfl
theorem RP:xS.fit:=BG aIN aBH
theorem uM {N:Nat} {s:Sc} {t:Ty} (h5:(t.k == 5)=false) (h6:(t.k == 6)=false):dP (N + 1) s t:=⟨fun h=>(by rw [h5] at h; cases h),fun h=>(by rw [h6] at h; cases h)⟩
theorem QV:stOf xS xT=X9:=by kernel_rfl
theorem xD:dP 10 xS xT:=by
 refine ⟨fun h=>(nomatch h),fun _ f hf=>?_⟩
 rw [QV] at hf
 have:f=xF1\/f=xF2\/f=xF4\/f=xF5:=by simpa [X9] using hf
 rcases this with rfl | rfl | rfl | rfl
 · exact uM rfl rfl
 · exact uM rfl rfl
 · exact uM rfl rfl
 · exact ⟨fun _=>⟨xBo,rfl,I6 _ _ _ ⟨by decide,by decide⟩ ⟨by decide,by decide⟩ (by decide),uM rfl rfl⟩,fun h=>(nomatch h)⟩
theorem xDF:dF 10 xS xT xV:=by
 have hl:∀ N t v,(fP N xS t v).1.length<=1000->(t.k == 5)=false->(t.k == 6)=false->bl v.s=[]->N=N - 1 + 1->dF N xS t v:=fun N t v h1 h2 h3 h4 h5=>by
  rw [h5] at h1 ⊢
  refine ⟨fun _=>by rw [h4]; decide,fun h=>?_,fun h=>?_,Nat.le_trans h1 (by decide)⟩
  · rw [h2] at h; cases h
  · rw [h3] at h; cases h
 refine ⟨fun h=>(nomatch h),fun h=>(nomatch h),fun _ x hx=>?_,by decide +kernel⟩
 have:x=(1,lP 2 (-5))\/x=(4,lP 7 3)\/x=(5,xL):=by simpa [xV,Vl.f] using hx
 rw [QV]
 rcases this with rfl | rfl | rfl
 · exact hl _ _ _ (by decide +kernel) rfl rfl rfl rfl
 · exact hl _ _ _ (by decide +kernel) rfl rfl rfl rfl
 · refine ⟨fun h=>(nomatch h),fun _=>⟨xBo,rfl,I6 _ _ _ ⟨by decide,by decide⟩ ⟨by decide,by decide⟩ (by decide),fun y hy=>?_⟩,fun h=>(nomatch h),by decide +kernel⟩
   have:y=lP 1 1\/y=lP 1 0:=by simpa [xL,Vl.l] using hy
   rcases this with rfl | rfl
   · exact hl _ _ _ (by decide +kernel) rfl rfl rfl rfl
   · exact hl _ _ _ (by decide +kernel) rfl rfl rfl rfl
noncomputable def I0 (N:Nat):Fun:=hS (fun s t v=>gG s t v=0->dF N s t v) fun s t v=>.string (mk (qV (fP N) s t v))
theorem FU (N:Nat):Meets Tryz.prog 11 (I0 N).sp:=eJ (0:Nat) (fun (_:Nat)=>aAL (aD7 N)) fun av H K h=>by
 obtain ⟨s,t,v,rfl,rfl,hs,ht,hv,hp,hK⟩:=iX h
 exact ⟨0,s,t,v,rfl,rfl,hs,ht,hv,hp,hK⟩
theorem MC (N:Nat):Meets Tryz.prog 13 (sC (dP N) (pP N)):=aFH (WW N) (A4 N) fun _s _ts t z hs hts ht hD hn=>NC hs hts N t z ht hD hn
theorem QO {N:Nat} {s:Sc} {t:Ty} {x:ByteArray} {K:S->Hp->Prop} (hs:s.fit) (ht:TyOk t) (hD:uX s t=true->dP N s t) (hK:K (.tu [.gs (a8 (jT (pP N) s t (bl x)).1),iA .i64 (jT (pP N) s t (bl x)).2.1,iA .i64 (jT (pP N) s t (bl x)).2.2]) []) :
 sC (dP N) (pP N) [.va (.gs [.vl (.int .i64 s.ver),.fz (s.es.map bI),.fz (s.ss.map aP)]),.va (.gs [.vl (.int .i64 t.k),.vl (.int .i64 t.s),.vl (.string t.n),.fz (t.e.map aL)]),tS x] [] K:=
 ⟨s,t,x,by rw [aM]; rfl,rfl,hs,ht,hD,aEE,hK⟩
theorem NM {x:List UInt8} {v:Vl} {e a:Int} {K:S->Hp->Prop} (h:jT (pP 10) xS xT x=(v,e,a)) (hK:K (.tu [.gs (a8 v),iA .i64 e,iA .i64 a]) []) :
 sC (dP 10) (pP 10) [.va (.gs [.vl (.int .i64 xS.ver),.fz (xS.es.map bI),.fz (xS.ss.map aP)]),.va (.gs [.vl (.int .i64 xT.k),.vl (.int .i64 xT.s),.vl (.string xT.n),.fz (xT.e.map aL)]),tS (mk x)] [] K:=
 QO RP WE (fun _=>xD) (by rw [mO,h]; exact hK)
noncomputable def X8:cK:=[(22,.s xSp),(13,.s (sC (dP 10) (pP 10))),(11,.f (I0 10))]
theorem aEJ:sp X8 22=xSp:=rfl
theorem yQ:sp X8 13=sC (dP 10) (pP 10):=rfl
theorem aD3:jE X8 11=some (I0 10):=rfl
theorem SM:Meets Tryz.prog 10 qTrue.sp:=by
 refine aF (Γ:=X8) Tryz.func10 aKP 0 (by rw [Tryz.ntmps10]; decide) (aB ML (aB (MC 10) (aJ (FU 10) (aA _)))) QF ?_
 rintro av H K ⟨⟨h,rfl⟩,hK⟩
 obtain rfl:av=[]:=h
 have hK:K (bS true) []:=hK
 have fin:∀ R:Hp,W.Fin 0 K (bS true) R:=fun R=>.sel [] (by simp) (by simp) rfl (.done (by simpa [go_sem] using hK))
 clear hK
 have k1:=fU (show VlOk xV from by
  have hf:∀ k n:Int,b5 k->b5 n->VlOk (lP k n):=fun k n h1 h2=>wE h1 h2 (by decide)
  refine .mk ⟨by decide,by decide⟩ ⟨by decide,by decide⟩ (by decide) (by decide) (by decide) (fun x h=>by cases h) (fun x hx=>?_) (fun x hx=>?_)
  · have:x=(1,lP 2 (-5))\/x=(4,lP 7 3)\/x=(5,xL):=by simpa using hx
    rcases this with rfl | rfl | rfl<;>exact ⟨by decide,by decide⟩
  · have:x=(1,lP 2 (-5))\/x=(4,lP 7 3)\/x=(5,xL):=by simpa using hx
    rcases this with rfl | rfl | rfl
    · exact hf _ _ ⟨by decide,by decide⟩ ⟨by decide,by decide⟩
    · exact hf _ _ ⟨by decide,by decide⟩ ⟨by decide,by decide⟩
    · refine .mk ⟨by decide,by decide⟩ ⟨by decide,by decide⟩ (by decide) (by decide) (by decide) (fun y hy=>?_) (fun x h=>by cases h) (fun x h=>by cases h)
      have:y=lP 1 1\/y=lP 1 0:=by simpa using hy
      rcases this with rfl | rfl<;>exact hf _ _ ⟨by decide,by decide⟩ ⟨by decide,by decide⟩)
 have k2:=kQ xV
 have k4:=iE WE
 have k5:=nT xT
 have k6:=iM RP
 have k7:=nJ xS
 have k8:(gG xS xT xV=0->dF 10 xS xT xV)=True:=eq_true fun _=>xDF
 have g0:(x1 == [123,120,32,61,32,45,53,44,32,109,111,100,101,32,61,32,114,117,110,44,32,108,32,61,32,91,116,114,117,101,44,32,102,97,108,115,101,93,125])=true:=by decide +kernel
 have g1:((xV.f.length:Int) == 3)=true:=rfl
 have q1:=fun p=>QN (l:=xV.f) (n:=1) (x:=(4,lP 7 3)) rfl p
 have g2:((4:Int) == 4)=true:=rfl
 have g3:((3:Int) == 3)=true:=rfl
 have g4:((0:Int) == 0)=true:=rfl
 have g5:((2:Int) == 2)=true:=rfl
 have g6:((13:Int) == 13)=true:=rfl
 have g7:((15:Int) == 15)=true:=rfl
 have g8:(1:Int) < (xV.f.length:Int):=by decide
 have g9:(lP 7 3).n=3:=rfl
 simp (maxSteps:=1000000) -dsimp only [go_sem,aBG,aFM,aEJ]
 refine ⟨rfl,rfl,?_⟩
 simp (maxSteps:=1000000) -dsimp only [go_sem,aC,aM xT]
 refine aD rfl (.done ?_)
 simp (maxSteps:=1000000) -dsimp only [go_sem,G5]
 refine aD rfl (.done ?_)
 simp (maxSteps:=1000000) -dsimp only [go_sem,HW,yQ]
 refine NM e1 ?_
 simp (maxSteps:=1000000) -dsimp only [go_sem,aS xV]
 refine aD rfl (.done ?_)
 simp (maxSteps:=1000000) -dsimp only [go_sem,FM,yQ]
 refine NM e2 ?_
 simp (maxSteps:=1000000) -dsimp only [go_sem,aS v0]
 refine aD rfl (.done ?_)
 simp (maxSteps:=1000000) -dsimp only [go_sem,HD,yQ]
 refine NM e3 ?_
 simp (maxSteps:=1000000) -dsimp only [go_sem,aS v0]
 refine aD rfl (.done ?_)
 simp (maxSteps:=1000000) -dsimp only [go_sem,F6,yQ]
 refine NM e4 ?_
 simp (maxSteps:=1000000) -dsimp only [go_sem,aS v0]
 refine aD rfl (.done ?_)
 simp (maxSteps:=1000000) -dsimp only [go_sem,F3,aD3,I0,k1,k2,k4,k5,k6,k7,k8,e5,g0,g1,g2,g4,g5,g6,g7,↓q1,beq_self_eq_true]
 exact ⟨⟨by omega,by omega⟩,⟨by omega,by omega⟩,fin _⟩
def HR:PC:=.seq (.gh (.reg [.v 36 9,.q 37 (.bin .eql true (.t 36) (.i 0)),.v 38 37,⟨some 39,(some (38,true)),.q (.mv (.t 10))⟩,⟨some 40,(some (38,true)),.q (.bin .eql true (.t 39) (.i 0))⟩,.a 41 (.pick (.t 38) (.t 40) (.k (.bool false))),.v 42 41,⟨some 43,(some (42,true)),.l (.ldn 5 (.t 5))⟩,⟨some 44,(some (42,true)),.l (.ldn 5 (.t 8))⟩,⟨some 45,(some (42,true)),.cq 15 [(.t 43),(.t 44)]⟩,.a 46 (.pick (.t 42) (.t 45) (.k (.bool false))),.v 47 46,⟨some 48,(some (47,true)),.cq 10 []⟩,.a 49 (.pick (.t 47) (.t 48) (.k (.bool false))),.v 6 49])) .ret
@[go_sem ↓] theorem aKE:aY HR:=aZ _
def FJ:PC:=.seq (.gh (.reg [.l 29 (.ldn 3 (.t 3)),.l 30 (.ldn 4 (.t 4)),.v 31 7,.a 32 (.cl 13 [(.t 29),(.t 30),(.t 31)] []),.v 28 32,.q 33 (.ex (.t 28) 0),.q 34 (.ex (.t 28) 1),.q 35 (.ex (.t 28) 2),.e 8 (.al (.agg #[(.int .i64 0),(.int .i64 0),(.string (mk [])),(.slice none 0 0),(.slice none 0 0)]) 32),.s (.st 5 (.t 8) (.t 33)),.v 9 34,.v 10 35])) (HR)
@[go_sem ↓] theorem aOK:aY FJ:=aZ _
def xH:PC:=.seq (.seq (.gh (.reg [.v 25 7,.q 26 (.bin .eql true (.t 25) (.k (.string (mk []))))])) (.cond (.t 26) (.seq (.reg [.a 27 (.cq 10 []),.v 6 27]) .ret) .skip)) (FJ)
@[go_sem ↓] theorem aNV:aY xH:=aZ _
def HX:PC:=.seq (.gh (.reg [.l 21 (.ldn 3 (.t 3)),.l 22 (.ldn 4 (.t 4)),.l 23 (.ldn 5 (.t 5)),.a 24 (.cq 11 [(.t 21),(.t 22),(.t 23)]),.v 7 24])) (xH)
@[go_sem ↓] theorem aMF:aY HX:=aZ _
def N3:PC:=.seq (.reg [.e 3 (.bx 25 (.t 0)),.e 4 (.bx 28 (.t 1)),.e 5 (.bx 32 (.t 2)),.q 6 (.mv (.k (.bool false)))]) (.seq (.seq (.reg [.l 11 (.ldn 3 (.t 3)),.l 12 (.ldn 4 (.t 4)),.a 13 (.cq 8 [(.t 11),(.t 12)]),.q 14 (.not (.t 13)),.v 15 14,⟨some 16,(some (15,false)),.l (.ldn 5 (.t 5))⟩,⟨some 17,(some (15,false)),.cq 9 [(.t 16)]⟩,⟨some 18,(some (15,false)),.q (.not (.t 17))⟩,.a 19 (.pick (.t 15) (.k (.bool true)) (.t 18))]) (.cond (.t 19) (.seq (.reg [.a 20 (.cq 10 []),.v 6 20]) .ret) .skip)) (HX))
def NS:List RV:=[.mv (.t 6)]
theorem aM2:aO Tryz.prog true ⟨fun r k=>if r=1/\k=2 then .q else if r=1/\k=6 then .q else if r=2/\k=0 then .q else if r=3/\k=3 then .q else if r=5/\k=0 then .q else if r=7/\k=9 then .q else if r=7/\k=12 then .q else .own [],fun r=>[3,4,6,7].contains r⟩ Tryz.f5=some (N3,NS):=by kernel_rfl
theorem W4 {s:Sc} (hd:Dg s):∀ (B:Nat) (t:Ty),t.h<=B->valF s.ss s.es t=true->pU s t<=B + 6
 | 0,t,h,_=>by have:=t.h_pos; omega
 | B + 1,t,h,hv=>by
  cases h5:t.k == 5 with
  | true=>
   obtain ⟨u,he,hu⟩:=H4 hv h5
   have hh:u.h<=B:=by
    obtain ⟨k,z,n,e⟩:=t
    have he:e=[u]:=he
    subst he
    rw [Ty.h,Ty.hs,Ty.hs] at h
    omega
   have:=W4 hd B u hh hu
   rw [BX h5 he]; omega
  | false=>
  cases h6:t.k == 6 with
  | true=>have:=(tV hd hv h6).2.1; rw [yW h6]; omega
  | false=>
   have:pU s t=0:=by
    obtain ⟨k,z,n,e⟩:=t
    have h5:(k == 5)=false:=h5
    have h6:(k == 6)=false:=h6
    unfold pU b6
    rw [cH,h5,aG]
    show ((0:Nat):Int) + (bif k == 6 then dD s.ss n else 0)=0
    rw [h6]; rfl
   omega
theorem aFQ {t:Ty} (h:fewT t=true):t.h<=9:=by
 obtain ⟨k,s,n,e⟩:=t
 have h1:=(MZ h).1.2.2
 have:=NW 20 (.mk k s n e) (by omega)
 omega
theorem aFK {s:Sc} {t:Ty} (hs:s.fit) (hd:Dg s) (ht:TyOk t) (hf:fewT t=true) (hv:valF s.ss s.es t=true):dP 16 s t:=
 M0 hs hd 16 t ht hv (by have:=W4 hd 9 t (aFQ hf) hv; omega)
theorem aAV {s:Sc} {t:Ty} (hs:s.ok) (h:tI s t=true):s.fit/\Dg s/\fewT t=true:=by
 have hf:=(aAZ hs h).1
 unfold tI at h
 rw [Bool.and_eq_true,Bool.and_eq_true] at h
 exact ⟨hf,aGQ hf (eq_of_beq h.2),h.1.2⟩
def nI (rest:List UInt8):Prop:=∀ c,rest[0]? = some c->aX c=false/\(c == 45)=false
theorem SA {p:UInt8->Bool} (hp:∀ c,aX c=false->p c=false) {x rest:List UInt8} (hx:∀ c ∈ x,p c=true) (hr:nI rest):(x ++ rest).takeWhile p=x:=by
 induction x with
 | nil=>
  cases rest with
  | nil=>rfl
  | cons c r=>rw [List.nil_append,List.takeWhile_cons,hp c (hr c rfl).1]; rfl
 | cons c x ih=>rw [List.cons_append,List.takeWhile_cons,if_pos (hx c (by simp)),ih fun d hd=>hx d (by simp [hd])]
theorem IU {p:UInt8->Bool} (hp:∀ c,aX c=false->p c=false) {l x rest:List UInt8} {a:Nat} (h:l.drop a=x ++ rest) (hx:∀ c ∈ x,p c=true) (hr:nI rest):bP p l a=a + x.length:=by
 rw [bP,h,SA hp hx hr]
theorem TV (c:UInt8) (h:aX c=false):bH c=false:=by
 have:=cE (p:=fun c=>aX c || !bH c) (by decide +kernel) c
 rw [h] at this
 simpa using this
theorem GC {l x rest:List UInt8} {a:Nat} (h:l.drop a=x ++ rest) (hr:nI rest) (hx:cF x=true):eH l a=.ok 1 x 0 (a + x.length)/\∃ c,l[a]? = some c/\(c == 32 || c == 9 || c == 10)=false/\(c == 35)=false:=by
 obtain ⟨c,h0,h1,h2,h3⟩:=(HU x).1 hx
 have hc:l[a]? = some c:=by
  cases x with
  | nil=>cases h0
  | cons d x=>simp at h0; subst h0; exact sZ h
 have hz:bP aX l a=a + x.length:=IU (fun _ h=>h) h h3 hr
 have hsk:=cE (p:=fun c=>!(bD c.toNat) || (!(c == 32 || c == 9 || c == 10) && !(c == 35))) (by decide +kernel) c
 simp only [h2,Bool.not_true,Bool.false_or,Bool.and_eq_true,Bool.not_eq_true'] at hsk
 refine ⟨?_,c,hc,hsk⟩
 have hn:(l[a + x.length]? == some 45)=false:=by
  have:=FX h 0
  rw [Nat.add_zero] at this
  rw [this]
  cases hq:rest[0]? with
  | none=>rfl
  | some d=>exact (hr d hq).2
 have h16:decide (16 < a + x.length - a)=false:=by simp; omega
 simp only [eH,hc,h2,aI,jN,hz,h16,hn,aG,HO h]
theorem J9 {l rest:List UInt8} {a:Nat} {n:Int} (h:l.drop a=f6 n ++ rest) (hr:nI rest) (h1:-9223372036854775808<=n) (h2:n<=9223372036854775807) :
 eH l a=.ok 2 [] n (a + (f6 n).length)/\∃ c,l[a]? = some c/\(c == 32 || c == 9 || c == 10)=false/\(c == 35)=false:=by
 have hm:n.natAbs < 10 ^ (19 + 1):=by omega
 have hd:=vY 19 n.natAbs hm
 obtain ⟨c0,ds,hds⟩:∃ c ds,digs n.natAbs=c :: ds:=by
  cases hq:digs n.natAbs with
  | nil=>exact absurd hq (B1 _)
  | cons c ds=>exact ⟨c,ds,rfl⟩
 have hc0:=kY.1 (hd c0 (by rw [hds]; simp))
 have hlim:∀ neg,neg=decide (n < 0)->valL (cZ neg) 0 (digs n.natAbs)=some n.natAbs/\signed neg n.natAbs=n:=fun neg hn=>by
  rw [GU (by cases neg<;>decide) _ _ (Nat.zero_le _) hd,rX 19 _ hm]
  have:n.natAbs<=cZ neg:=by subst hn; unfold cZ; cases hh:decide (n < 0)<;>simp at hh ⊢<;>omega
  refine ⟨by simp [this],?_⟩
  subst hn; unfold signed; cases hh:decide (n < 0)<;>simp at hh ⊢<;>omega
 have fin:∀ (f:Nat) (neg:Bool),neg=decide (n < 0)->l.drop f=digs n.natAbs ++ rest->(l[a]? == some 45)=neg->(bif neg then a + 1 else a)=f->kJ l a=.ok 2 [] n (f + (digs n.natAbs).length):=fun f neg hn hf hng hff=>by
  have hz:bP bH l f=f + (digs n.natAbs).length:=IU TV hf hd hr
  have hw:qA l (f + (digs n.natAbs).length)=false:=by
   have:=FX hf 0
   rw [Nat.add_zero] at this
   unfold qA
   rw [this]
   cases hq:rest[0]? with
   | none=>rfl
   | some d=>show (aX d && !bH d || d == 45)=false; rw [(hr d hq).1,(hr d hq).2]; rfl
  have hs:((digs n.natAbs == []) || ((digs n.natAbs)[0]? == some 48 && (decide (1 < (digs n.natAbs).length) || neg)))=false:=by
   rcases bC 0 n.natAbs with h0 | h0
   · have h3:=s9 19 n.natAbs hm h0
     have e1:((digs n.natAbs)[0]? == some 48)=false:=by rw [beq_eq_false_iff_ne]; exact h3
     have e2:(digs n.natAbs == [])=false:=by rw [beq_eq_false_iff_ne]; exact B1 _
     rw [e1,e2]; rfl
   · obtain rfl:n=0:=by omega
     subst hn
     rw [show (0:Int).natAbs=0 from rfl,kR (by omega)]; decide
  simp only [kJ,hng,hff,hz,HO hf,hs,aG,(hlim neg hn).1,hw,(hlim neg hn).2]
 cases hn:decide (n < 0) with
 | true=>
  have e:f6 n=45 :: digs n.natAbs:=by simp only [f6,hn,aI]
  rw [e] at h ⊢
  have hc:=sZ h
  refine ⟨?_,45,hc,by decide,by decide⟩
  have e1:bD ((45:UInt8).toNat:Int)=false:=by decide
  have e2:(bH 45 || (45:UInt8) == 45)=true:=by decide
  simp only [eH,hc,e1,e2,aG,aI]
  rw [fin (a + 1) true hn.symm (LC h) (by rw [hc]; decide) rfl]
  simp; omega
 | false=>
  have e:f6 n=digs n.natAbs:=by simp only [f6,hn,aG]
  rw [e] at h ⊢
  have hc:l[a]? = some c0:=by rw [hds] at h; exact sZ h
  have hsk:=cE (p:=fun c=>!(bH c) || ((!(c == 32 || c == 9 || c == 10) && !(c == 35)) && (!(bD c.toNat) && !(c == 45)))) (by decide +kernel) c0
  have hd0:=hd c0 (by rw [hds]; simp)
  simp only [hd0,Bool.not_true,Bool.false_or,Bool.and_eq_true,Bool.not_eq_true'] at hsk
  obtain ⟨h3,h4,h5⟩:=hsk
  refine ⟨?_,c0,hc,h3⟩
  simp only [eH,hc,h4,hd0,Bool.true_or,aG,aI]
  exact fin a false hn.symm h (by rw [hc]; simpa using h5) rfl
theorem LR {l rest:List UInt8} {a:Nat} {t:Tx} (hf:TkFit t) (ho:kM t.k t.x t.n=true) (h:l.drop a=fM t.k t.x t.n ++ rest) (hr:t.k=1\/t.k=2->nI rest) :
 eH l a=.ok t.k t.x t.n (a + (fM t.k t.x t.n).length)/\t.k ≠ 0/\∃ c,l[a]? = some c/\(c == 32 || c == 9 || c == 10)=false/\(c == 35)=false:=by
 obtain ⟨k,x,n,b⟩:=t
 have hlo:=hf.lo; have hhi:=hf.hi
 simp only at ho h hlo hhi ⊢
 unfold kM at ho
 cases h1:k == 1 with
 | true=>
  obtain rfl:k=1:=by simpa using h1
  simp only [h1,aI,Bool.and_eq_true,beq_iff_eq] at ho
  obtain ⟨rfl,ho⟩:=ho
  have e:fM 1 x 0=x:=rfl
  rw [e] at h ⊢
  exact ⟨(GC h (hr (.inl rfl)) ho).1,by decide,(GC h (hr (.inl rfl)) ho).2⟩
 | false=>
 cases h2:k == 2 with
 | true=>
  obtain rfl:k=2:=by simpa using h2
  simp only [h1,h2,aI,aG,beq_iff_eq] at ho
  subst ho
  have e:fM 2 [] n=f6 n:=rfl
  rw [e] at h ⊢
  exact ⟨(J9 h (hr (.inr rfl)) hlo hhi).1,by decide,(J9 h (hr (.inr rfl)) hlo hhi).2⟩
 | false=>
 cases h3:k == 3 with
 | true=>
  obtain rfl:k=3:=by simpa using h3
  simp only [h1,h2,h3,aI,aG,Bool.and_eq_true,beq_iff_eq,decide_eq_true_eq] at ho
  obtain ⟨rfl,hl,hx⟩:=ho
  have e:fM 3 x 0=jO x:=rfl
  rw [e] at h ⊢
  exact ⟨(CQ h hl hx).1,by decide,(CQ h hl hx).2⟩
 | false=>
 cases h4:k == 4 with
 | false=>simp only [h1,h2,h3,h4,aG] at ho; cases ho
 | true=>
  obtain rfl:k=4:=by simpa using h4
  simp only [h1,h2,h3,h4,aI,aG,Bool.and_eq_true,beq_iff_eq] at ho
  obtain ⟨rfl,ho⟩:=ho
  have e:fM 4 x 0=x:=rfl
  rw [e] at h ⊢
  match x,ho with
  | [c],ho=>exact ⟨(DO h ho).1,by decide,(DO h ho).2⟩
  | [],ho=>cases ho
  | _ :: _ :: _,ho=>cases ho
def xF (g:List UInt8):Prop:=∀ rest,dX false (g ++ rest)=g.length + dX false rest
theorem kT:xF []:=fun rest=>by simp
abbrev jB:Type:=List (List UInt8 × Tx)
def cA:jB->List UInt8
 | []=>[]
 | (g,t) :: r=>g ++ (sI t ++ cA r)
def eL:jB->Prop
 | []=>True
 | (g,t) :: r=>xF g/\TkFit t/\okT t=true/\(t.k=1\/t.k=2->nI (cA r))/\eL r
theorem HA {l:List UInt8}:∀ (us:jB) (f a:Nat),eL us->a<=l.length->l.length < f + a->l.drop a=cA us->
 ∃ ms,eX f l a=.ok ms/\ms.map iO=us.map (fun u=>FV u.2) ++ [(0,[],0)]
 | [],f,a,_,hle,hlt,h=>by
  have ha:l.length<=a:=List.drop_eq_nil_iff.1 h
  obtain ⟨f,rfl⟩:∃ g,f=g + 1:=⟨f - 1,by omega⟩
  have hn:l[a]? = none:=List.getElem?_eq_none ha
  exact ⟨[⟨0,[],0,a⟩],by rw [eX,wM ha]; simp [eH,hn],rfl⟩
 | (g,u) :: us,f,a,⟨hg,hf,ho,hs,hok⟩,hle,hlt,h=>by
  have h':l.drop a=g ++ (sI u ++ cA us):=h
  have h1:l.drop (a + g.length)=sI u ++ cA us:=by rw [<-List.drop_drop,h',List.drop_left]
  obtain ⟨ht,hk,c,hc,hb,hh⟩:=LR hf ho h1 hs
  have hlc:=(a6.1 hc).1
  obtain ⟨f,rfl⟩:∃ g,f=g + 1:=⟨f - 1,by omega⟩
  have hsk:bY l a=a + g.length:=by
   have e:=AQ hc hb hh
   unfold bY at e ⊢
   rw [h',hg,<-h1]
   omega
  have h2:l.drop (a + g.length + (sI u).length)=cA us:=by rw [<-List.drop_drop,h1,List.drop_left]
  have hlen:a + g.length + (sI u).length<=l.length:=by
   have:=congrArg List.length h1
   rw [List.length_drop,List.length_append] at this
   omega
  have hne:0 < (sI u).length:=by
   rcases Nat.eq_zero_or_pos (sI u).length with h0 | h0
   · have e0:sI u=[]:=List.eq_nil_of_length_eq_zero h0
     obtain ⟨_,_,c,hc,_⟩:=LR (l:=sI u) (a:=0) (rest:=[]) hf ho (by simp) (fun _ c hc=>by cases hc)
     rw [e0] at hc; cases hc
   · exact h0
  obtain ⟨ms,hm,hmm⟩:=HA us f (a + g.length + (sI u).length) hok hlen (by omega) h2
  have hk0:(u.k == 0)=false:=by simpa using hk
  refine ⟨⟨u.k,u.x,u.n,a + g.length⟩ :: ms,?_,by simp [hmm]⟩
  rw [eX,hsk,ht]
  simp only [hk0,aG,hm,SR.cons]
theorem TA {us:jB} (hok:eL us) (hl:(cA us).length<=4000):(a7 (cA us)).err=0/\(a7 (cA us)).toks.map iO=us.map (fun u=>FV u.2) ++ [(0,[],0)]:=by
 obtain ⟨ms,h1,h2⟩:=HA (l:=cA us) us ((cA us).length + 1) 0 hok (Nat.zero_le _) (by omega) rfl
 have h4:decide (4000 < (cA us).length)=false:=by simp; omega
 unfold a7
 rw [h4,aG,h1]
 exact ⟨rfl,h2⟩
theorem jV:∀ (a b:jB),cA (a ++ b)=cA a ++ cA b
 | [],b=>rfl
 | (g,t) :: r,b=>by rw [List.cons_append,cA,cA,jV r b]; simp [List.append_assoc]
def fZ (c:UInt8):Tx:=⟨4,[c],0,0⟩
def DR (x:List UInt8):Tx:=⟨1,x,0,0⟩
def kL (F:Vl->List UInt8->jB):Bool->List Vl->jB
 | _,[]=>[]
 | c,x :: r=>(bif c then [([],fZ 44)] else []) ++ (F x (bif c then [32] else []) ++ kL F true r)
def iF (F:Ty->Vl->List UInt8->jB) (u:St):Bool->List (Int × Vl)->jB
 | _,[]=>[]
 | c,x :: r=>(bif c then [([],fZ 44)] else []) ++ (((bif c then [32] else []),DR (bl (bG u x.1).nm)) :: ([32],fZ 61) :: (F (bG u x.1).ty x.2 [32] ++ iF F u true r))
def cW:Nat->Sc->Ty->Vl->List UInt8->jB
 | 0=>fun _ _ _ _=>[]
 | N + 1=>fun s t v g=>bif t.k == 1 then [(g,DR (zS v.n))] else bif t.k == 4 then [(g,⟨3,bl v.s,0,0⟩)] else bif t.k == 7 then [(g,DR (bl (jH (enOf s t).ns v.n (enOf s t).vs 0)))]
  else bif t.k == 5 then (g,fZ 91) :: (kL (cW N s (t.e.headD default)) false v.l ++ [([],fZ 93)])
  else bif t.k == 6 then (g,fZ 123) :: (iF (cW N s) (stOf s t) false v.f ++ [([],fZ 125)])
  else [(g,⟨2,[],v.n,0⟩)]
theorem lA (N:Nat) (s:Sc) (t:Ty) (v:Vl) (g:List UInt8):cW (N + 1) s t v g=bif t.k == 1 then [(g,DR (zS v.n))] else bif t.k == 4 then [(g,⟨3,bl v.s,0,0⟩)] else bif t.k == 7 then [(g,DR (bl (jH (enOf s t).ns v.n (enOf s t).vs 0)))]
 else bif t.k == 5 then (g,fZ 91) :: (kL (cW N s (t.e.headD default)) false v.l ++ [([],fZ 93)])
 else bif t.k == 6 then (g,fZ 123) :: (iF (cW N s) (stOf s t) false v.f ++ [([],fZ 125)])
 else [(g,⟨2,[],v.n,0⟩)]:=rfl
theorem P6 {F:Vl->List UInt8->jB} {f:Vl->List UInt8}:∀ (c:Bool) (l:List Vl),(∀ x ∈ l,∀ g,cA (F x g)=g ++ f x)->cA (kL F c l)=dJ c (l.map f)
 | _,[],_=>rfl
 | c,x :: r,h=>by
  rw [kL,jV,jV,h x (List.mem_cons_self ..),P6 true r fun y hy=>h y (List.mem_cons_of_mem _ hy),List.map_cons,dJ]
  cases c<;>simp [cA,fZ,fM]
theorem RH {F:Ty->Vl->List UInt8->jB} {u:St} {f:Int × Vl->List UInt8}:∀ (c:Bool) (l:List (Int × Vl)),(∀ x ∈ l,∀ g,cA (F (bG u x.1).ty x.2 g)=g ++ f x)->cA (iF F u c l)=dJ c (l.map fun x=>bl (bG u x.1).nm ++ [32,61,32] ++ f x)
 | _,[],_=>rfl
 | c,x :: r,h=>by
  rw [iF,jV,cA,cA,jV,h x (List.mem_cons_self ..),RH true r fun y hy=>h y (List.mem_cons_of_mem _ hy),List.map_cons,dJ]
  cases c<;>simp [cA,fZ,DR,fM]
theorem IH:∀ (N:Nat) (s:Sc) (t:Ty) (v:Vl) (g:List UInt8),0 < N->v.h<=N->(fP N s t v).2=false->cA (cW N s t v g)=g ++ (fP N s t v).1
 | 0,_,_,_,_,h,_,_=>absurd h (by decide)
 | N + 1,s,t,v,g,_,hh,hb=>by
  have one:∀ x:Tx,cA [(g,x)]=g ++ sI x:=fun x=>by simp [cA]
  rw [iV] at hb ⊢
  rw [lA]
  cases c1:t.k == 1 with
  | true=>rw [aI,aI,one]; rfl
  | false=>
  rw [c1,aG] at hb
  cases c4:t.k == 4 with
  | true=>
   rw [c4,aI] at hb
   rw [aG,aI,aG,aI,one]
   unfold nD at hb ⊢
   cases hp:decide ((bl v.s).length<=200) && (bl v.s).all gT with
   | true=>rfl
   | false=>rw [hp] at hb; cases hb
  | false=>
  rw [c4,aG] at hb
  cases c7:t.k == 7 with
  | true=>rw [aG,aG,aI,aG,aG,aI,one]; rfl
  | false=>
  rw [c7,aG] at hb
  cases c5:t.k == 5 with
  | true=>
   rw [c5,aI] at hb
   have hb:=e7 hb
   simp only [aG,aI]
   rw [cA,jV,P6 false v.l (f:=fun x=>(fP N s (t.e.headD default) x).1) fun x hx g=>IH N s _ x g (by have:=Vl.h_l hx; have:=x.h_pos; omega) (by have:=Vl.h_l hx; omega) (hb x hx)]
   simp [mM,cA,fZ,fM]
  | false=>
  rw [c5,aG] at hb
  cases c6:t.k == 6 with
  | true=>
   rw [c6,aI] at hb
   have hb:=e7 hb
   simp only [aG,aI]
   rw [cA,jV,RH false v.f (f:=fun x=>(fP N s (bG (stOf s t) x.1).ty x.2).1) fun x hx g=>IH N s _ x.2 g (by have:=Vl.h_f hx; have:=x.2.h_pos; omega) (by have:=Vl.h_f hx; omega) (hb x hx)]
   have e:u7 (fP N) s (stOf s t)=fun x=>bl (bG (stOf s t) x.1).nm ++ [32,61,32] ++ (fP N s (bG (stOf s t) x.1).ty x.2).1:=rfl
   unfold iR
   rw [e]
   simp [cA,fZ,fM]
  | false=>simp only [aG]; rw [one]; rfl
theorem yX:xF [32]:=fun rest=>by
 rw [List.cons_append,List.nil_append]
 show dX false (32 :: rest)=1 + dX false rest
 rw [Nat.add_comm]
 simp [dX]
theorem nO {c:UInt8} {r:List UInt8} (h1:aX c=false) (h2:(c == 45)=false):nI (c :: r):=fun d hd=>by
 simp at hd; subst hd; exact ⟨h1,h2⟩
theorem jW {c:UInt8} {g:List UInt8} {r:jB} (hg:xF g) (hc:eF c.toNat=true) (hr:eL r):eL ((g,fZ c) :: r):=by
 refine ⟨hg,⟨by show (-9223372036854775808:Int)<=0; decide,by show (0:Int)<=9223372036854775807; decide,by show 1<=100000; decide⟩,?_,fun h=>(by rcases h with h | h<;>cases h),hr⟩
 show ((0:Int) == 0 && eF c.toNat)=true
 rw [hc]; rfl
theorem wI {x g:List UInt8} {r:jB} (hg:xF g) (hx:cF x=true) (hr:eL r) (hs:nI (cA r)):eL ((g,DR x) :: r):=by
 refine ⟨hg,⟨by show (-9223372036854775808:Int)<=0; decide,by show (0:Int)<=9223372036854775807; decide,by show x.length<=100000; have:=qE hx; omega⟩,?_,fun _=>hs,hr⟩
 show ((0:Int) == 0 && cF x)=true
 rw [hx]; rfl
theorem LZ {F:Vl->List UInt8->jB} {rest:jB} (h1:eL rest) (h2:nI (cA rest)):∀ (c:Bool) (l:List Vl),(∀ x ∈ l,∀ g r,xF g->eL r->nI (cA r)->eL (F x g ++ r))->eL (kL F c l ++ rest)/\(c=true->nI (cA (kL F c l ++ rest)))
 | _,[],_=>⟨h1,fun _=>h2⟩
 | c,x :: r,h=>by
  obtain ⟨i1,i2⟩:=LZ h1 h2 true r fun y hy=>h y (List.mem_cons_of_mem _ hy)
  have hx:=fun g hg=>h x (List.mem_cons_self ..) g (kL F true r ++ rest) hg i1 (i2 rfl)
  cases c with
  | false=>
   rw [kL,aG,aG,List.nil_append,List.append_assoc]
   exact ⟨hx [] kT,fun h=>by cases h⟩
  | true=>
   rw [kL,aI,aI,List.singleton_append,List.cons_append,List.append_assoc]
   exact ⟨jW kT (by decide) (hx [32] yX),fun _=>nO (by decide) (by decide)⟩
theorem L5 {F:Ty->Vl->List UInt8->jB} {u:St} {rest:jB} (h1:eL rest) (h2:nI (cA rest)):∀ (c:Bool) (l:List (Int × Vl)),(∀ x ∈ l,cF (bl (bG u x.1).nm)=true/\∀ g r,xF g->eL r->nI (cA r)->eL (F (bG u x.1).ty x.2 g ++ r))->eL (iF F u c l ++ rest)/\(c=true->nI (cA (iF F u c l ++ rest)))
 | _,[],_=>⟨h1,fun _=>h2⟩
 | c,x :: r,h=>by
  obtain ⟨i1,i2⟩:=L5 h1 h2 true r fun y hy=>h y (List.mem_cons_of_mem _ hy)
  obtain ⟨hn,hx⟩:=h x (List.mem_cons_self ..)
  have hx:=hx [32] (iF F u true r ++ rest) yX i1 (i2 rfl)
  have hy:∀ g,xF g->eL ((g,DR (bl (bG u x.1).nm)) :: ([32],fZ 61) :: (F (bG u x.1).ty x.2 [32] ++ (iF F u true r ++ rest))):=fun g hg=>
   wI hg hn (jW yX (by decide) hx) (nO (by decide) (by decide))
  cases c with
  | false=>
   rw [iF,aG,aG,List.nil_append,List.cons_append,List.cons_append,List.append_assoc]
   exact ⟨hy [] kT,fun h=>by cases h⟩
  | true=>
   rw [iF,aI,aI,List.singleton_append,List.cons_append,List.cons_append,List.cons_append,List.append_assoc]
   exact ⟨jW kT (by decide) (hy [32] yX),fun _=>nO (by decide) (by decide)⟩
theorem KJ {ns:List ByteArray} {n:Int}:∀ (l:List Int) (i:Nat),l.length + i=ns.length->(l.any fun x=>x == n)=true->jH ns n l i ∈ ns
 | [],_,_,h=>by cases h
 | m :: l,i,hl,h=>by
  rw [jH]
  rw [List.length_cons] at hl
  have hi:decide ((i:Int) < (ns.length:Int))=true:=by simp; omega
  rw [hi,Bool.and_true]
  cases hc:m == n with
  | true=>
   rw [aI,List.getD_eq_getElem?_getD,aU (show i < ns.length by omega)]
   exact List.getElem_mem _
  | false=>
   rw [List.any_cons,hc,Bool.false_or] at h
   exact KJ l (i + 1) (by omega) h
theorem JC {u:St} {x:Int} (h:(fF u.fs x).isSome=true):bG u x ∈ u.fs:=by
 obtain ⟨f,hf⟩:=Option.isSome_iff_exists.1 h
 unfold bG
 rw [hf]
 exact List.mem_of_find?_eq_some hf
theorem GB {fs:List Fl}:∀ {l:List (Int × Vl)} {p:Option Int},ftA fs p l=true->∀ x ∈ l,(fF fs x.1).isSome=true
 | y :: l,p,h,x,hx=>by
  rw [jR,Bool.and_eq_true,Bool.and_eq_true] at h
  rcases List.mem_cons.1 hx with rfl | hx
  · exact h.1.1
  · exact GB h.2 x hx
theorem OS {u:St} {l:List (Int × Vl)} (h:c8 u.fs l=true):∀ x ∈ l,bG u x.1 ∈ u.fs:=fun x hx=>by
 unfold c8 at h
 rw [Bool.and_eq_true] at h
 exact JC (GB h.1 x hx)
theorem K8:∀ {l:List Vl},vM l=true->∀ x ∈ l,oD x=true
 | y :: l,h,x,hx=>by
  rw [vM,Bool.and_eq_true] at h
  rcases List.mem_cons.1 hx with rfl | hx
  · exact h.1
  · exact K8 h.2 x hx
theorem J2:∀ {l:List (Int × Vl)},rM l=true->∀ x ∈ l,oD x.2=true
 | y :: l,h,x,hx=>by
  rw [IQ,Bool.and_eq_true] at h
  rcases List.mem_cons.1 hx with rfl | hx
  · exact h.1
  · exact J2 h.2 x hx
theorem A5:∀ (N:Nat) (s:Sc) (t:Ty) (v:Vl) (g:List UInt8) (rest:jB),Nice s->VlOk v->v.h<=N->dZ s t v=0->oD v=true->xF g->eL rest->nI (cA rest)->eL (cW N s t v g ++ rest)
 | 0,_,_,v,_,_,_,_,h,_,_,_,_,_=>by have:=v.h_pos; omega
 | N + 1,s,t,v,g,rest,hn,hv,hh,h0,hp,hg,hr,hs=>by
  have hc:=mY h0
  rw [lA]
  rw [xJ,Bool.and_eq_true,Bool.and_eq_true,Bool.and_eq_true] at hp
  obtain ⟨⟨p1,p2⟩,p3,p4⟩:=hp
  cases c1:t.k == 1 with
  | true=>
   refine wI hg ?_ hr hs
   unfold zS; cases v.n == 1<;>decide
  | false=>
  rw [aG]
  cases c4:t.k == 4 with
  | true=>
   refine ⟨hg,⟨by show (-9223372036854775808:Int)<=0; decide,by show (0:Int)<=9223372036854775807; decide,by show (bl v.s).length<=100000; have:=of_decide_eq_true p1; omega⟩,?_,fun h=>(by rcases h with h | h<;>cases h),hr⟩
   show ((0:Int) == 0 && (decide ((bl v.s).length<=200) && (bl v.s).all gT))=true
   rw [p1,p2]; rfl
  | false=>
  rw [aG]
  cases c7:t.k == 7 with
  | true=>
   refine wI hg ?_ hr hs
   have hrg:=(hc.nu c4 (bZ c7 (by decide)) (bZ c7 (by decide))).2.2.2
   unfold rL at hrg
   rw [c1,bZ c7 (b:=2) (by decide),bZ c7 (b:=3) (by decide),c7] at hrg
   have hen:=hn.enOf t
   exact hen.m _ (KJ (enOf s t).vs 0 (by rw [hen.l]; rfl) hrg)
  | false=>
  rw [aG]
  cases c5:t.k == 5 with
  | true=>
   obtain ⟨_,e1,e2,e4,e3⟩:=hc.ls c5
   have h93:eL (([],fZ 93) :: rest):=jW kT (by decide) hr
   have:=(LZ h93 (nO (by decide) (by decide)) false v.l fun x hx g r q1 q2 q3=>A5 N s (t.e.headD default) x g r hn (hv.l x hx) (by have:=Vl.h_l hx; omega) (e3 x hx) (K8 p3 x hx) q1 q2 q3).1
   rw [aI,List.cons_append,List.append_assoc]
   exact jW hg (by decide) this
  | false=>
  rw [aG]
  cases c6:t.k == 6 with
  | true=>
   obtain ⟨_,e1,e2,e4,e3⟩:=hc.st c6
   have h93:eL (([],fZ 125) :: rest):=jW kT (by decide) hr
   have hm:=OS e4
   have:=(L5 h93 (nO (by decide) (by decide)) false v.f fun x hx=>⟨(hn.stOf t).m _ (hm x hx),fun g r q1 q2 q3=>A5 N s _ x.2 g r hn (hv.f x hx) (by have:=Vl.h_f hx; omega) (e3 x hx) (J2 p4 x hx) q1 q2 q3⟩).1
   rw [aI,List.cons_append,List.append_assoc]
   exact jW hg (by decide) this
  | false=>
   refine ⟨hg,⟨hv.n.1,hv.n.2,by show 0<=100000; decide⟩,rfl,fun _=>hs,hr⟩
abbrev n3:Type:=Int × List UInt8 × Int
def cT (l:jB):List n3:=l.map fun u=>FV u.2
theorem hJ (a b:jB):cT (a ++ b)=cT a ++ cT b:=List.map_append
theorem MS (N:Nat) (s:Sc) (t:Ty) (v:Vl) (g:List UInt8):cT (cW N s t v g)=cT (cW N s t v []):=by
 cases N with
 | zero=>rfl
 | succ N=>
  rw [lA,lA]
  cases t.k == 1<;>cases t.k == 4<;>cases t.k == 7<;>cases t.k == 5<;>cases t.k == 6<;>rfl
theorem gU {ts:List Tk} {n:Nat} {k m:Int} {x:List UInt8} {R:List n3} (h:(ts.map iO).drop n=(k,x,m) :: R):n < ts.length/\(bF ts n).k=k/\(bF ts n).x=x/\(bF ts n).n=m/\(ts.map iO).drop (n + 1)=R:=by
 have h1:n < (ts.map iO).length:=by
  rcases bC n (ts.map iO).length with h1 | h1
  · exact h1
  · rw [List.drop_eq_nil_iff.2 h1] at h; cases h
 rw [List.drop_eq_getElem_cons h1] at h
 obtain ⟨h2,h3⟩:=List.cons.inj h
 have hn:n < ts.length:=by simpa using h1
 have e:bF ts n=ts[n]:=by unfold bF; simp [List.getD_eq_getElem?_getD,aU hn]
 rw [List.getElem_map] at h2
 simp only [iO,Prod.mk.injEq] at h2
 exact ⟨hn,by rw [e]; exact h2.1,by rw [e]; exact h2.2.1,by rw [e]; exact h2.2.2,h3⟩
theorem mT {ts:List Tk} {n:Nat} {y:n3} {R:List n3} (h:(ts.map iO).drop n=y :: R) (hR:R ≠ []):n + 1 < ts.length/\cB ts n=n + 1:=by
 have h1:n + 1 < ts.length:=by
  have:=congrArg List.length h
  rw [List.length_drop,List.length_map,List.length_cons] at this
  have:0 < R.length:=List.length_pos_iff.2 hR
  omega
 exact ⟨h1,if_pos h1⟩
theorem yU {ts:List Tk} {n:Nat} {xs R:List n3} (h:(ts.map iO).drop n=xs ++ R):(ts.map iO).drop (n + xs.length)=R:=by
 rw [<-List.drop_drop,h,List.drop_left]
abbrev eO (c:UInt8):n3:=(4,[c],0)
theorem aAS {ts:List Tk} {n:Nat} {c:UInt8} {R:List n3} (h:(ts.map iO).drop n=eO c :: R):c9 4 [c] (bF ts n)=true:=by
 obtain ⟨_,h1,h2,_⟩:=gU h
 unfold c9
 rw [h1,h2]; simp
theorem jZ {ts:List Tk} {n:Nat} {c:UInt8} {R:List n3} (h:(ts.map iO).drop n=eO c :: R) (hR:R ≠ []):cQ [c] ts (bK n)=bK (n + 1)/\cI [c] ts (bK n)=true/\b9 [c] ts (bK n)=bK (n + 1):=by
 have h1:=aAS h
 have h2:=(mT h hR).2
 refine ⟨?_,by rw [pM,h1],?_⟩
 · unfold cQ; rw [pM,h1,h2]; rfl
 · unfold b9; rw [pM,h1,h2]; rfl
theorem IW {ts:List Tk} {n:Nat} {c:UInt8} {k m:Int} {x:List UInt8} {R:List n3} (h:(ts.map iO).drop n=(k,x,m) :: R) (hne:¬ (k=4/\x=[c])):cI [c] ts (bK n)=false:=by
 obtain ⟨_,h1,h2,_⟩:=gU h
 rw [pM]
 unfold c9
 rw [h1,h2,Bool.eq_false_iff]
 intro hh
 rw [Bool.and_eq_true] at hh
 exact hne ⟨eq_of_beq hh.1,eq_of_beq hh.2⟩
theorem tG {α β:Type} {one:α->Fs->α × Fs} {ts:List Tk} {tk:β->List n3} {upd:α->β->α} {I:α->List β->Prop}
 (hs:∀ a x r n R,I a (x :: r)->R ≠ []->(ts.map iO).drop n=tk x ++ R->one a (bK n)=(upd a x,bK (n + (tk x).length))/\I (upd a x) r) {c:UInt8} (hc:c ≠ 44) :
 ∀ (r:List β) (x:β) (a:α) (n f:Nat) (R:List n3),I a (x :: r)->r.length < f->(ts.map iO).drop n=tk x ++ (r.flatMap (fun y=>eO 44 :: tk y) ++ eO c :: R)->R ≠ []->
  kA one ts f a (bK n)=((x :: r).foldl upd a,bK (n + (tk x ++ r.flatMap fun y=>eO 44 :: tk y).length))
 | r,x,a,n,0,R,_,h,_,_=>absurd h (Nat.not_lt_zero _)
 | r,x,a,n,f + 1,R,hI,hf,hd,hR=>by
  obtain ⟨h1,h2⟩:=hs a x r n _ hI (by simp) hd
  have hd2:=yU hd
  rw [j4]
  simp only [aG,h1]
  cases r with
  | nil=>
   rw [List.flatMap_nil,List.nil_append] at hd2
   rw [IW hd2 fun h=>hc (List.cons.inj h.2).1,List.flatMap_nil,List.append_nil]
   rfl
  | cons y r=>
   rw [List.flatMap_cons,List.cons_append,List.cons_append,List.append_assoc] at hd2
   obtain ⟨_,m2,m3⟩:=jZ hd2 (by simp)
   have hd3:=(gU hd2).2.2.2.2
   rw [m2,m3,aI,tG hs hc r y (upd a x) (n + (tk x).length + 1) f R h2 (by simp at hf; omega) hd3 hR]
   rw [List.foldl_cons,show n + (tk x).length + 1 + (tk y ++ r.flatMap fun y=>eO 44 :: tk y).length=n + (tk x ++ (y :: r).flatMap fun y=>eO 44 :: tk y).length by
    simp only [List.flatMap_cons,List.length_append,List.length_cons]
    omega]
   rfl
def D3 (N:Nat) (s:Sc) (u:St) (x:Int × Vl):List n3:=(1,bl (bG u x.1).nm,0) :: eO 61 :: cT (cW N s (bG u x.1).ty x.2 [])
theorem WH (N:Nat) (s:Sc) (u:Ty):∀ l:List Vl,cT (kL (cW N s u) true l)=l.flatMap fun y=>eO 44 :: cT (cW N s u y [])
 | []=>rfl
 | x :: r=>by
  rw [kL,hJ,hJ,WH N s u r,List.flatMap_cons,aI,aI,MS]
  rfl
theorem P8 (N:Nat) (s:Sc) (u:Ty) (x:Vl) (r:List Vl):cT (kL (cW N s u) false (x :: r))=cT (cW N s u x []) ++ r.flatMap fun y=>eO 44 :: cT (cW N s u y []):=by
 rw [kL,hJ,hJ,WH,aG,aG]; rfl
theorem XF (N:Nat) (s:Sc) (u:St):∀ l:List (Int × Vl),cT (iF (cW N s) u true l)=l.flatMap fun y=>eO 44 :: D3 N s u y
 | []=>rfl
 | x :: r=>by
  have e:∀ g y,cT ((g,y) :: (([32],fZ 61) :: (cW N s (bG u x.1).ty x.2 [32] ++ iF (cW N s) u true r)))=FV y :: eO 61 :: (cT (cW N s (bG u x.1).ty x.2 []) ++ cT (iF (cW N s) u true r)):=fun g y=>by
   rw [<-MS N s _ _ [32],<-hJ]; rfl
  rw [iF,hJ,e,XF N s u r,List.flatMap_cons]
  rfl
theorem PZ (N:Nat) (s:Sc) (u:St) (x:Int × Vl) (r:List (Int × Vl)):cT (iF (cW N s) u false (x :: r))=D3 N s u x ++ r.flatMap fun y=>eO 44 :: D3 N s u y:=by
 have e:∀ g y,cT ((g,y) :: (([32],fZ 61) :: (cW N s (bG u x.1).ty x.2 [32] ++ iF (cW N s) u true r)))=FV y :: eO 61 :: (cT (cW N s (bG u x.1).ty x.2 []) ++ cT (iF (cW N s) u true r)):=fun g y=>by
  rw [<-MS N s _ _ [32],<-hJ]; rfl
 rw [iF,hJ,e,XF]
 rfl
theorem S8 {N:Nat} {s:Sc} {t:Ty} {v:Vl} (hN:0 < N):∃ k x m R,cT (cW N s t v [])=(k,x,m) :: R/\∀ c:UInt8,c ≠ 91->c ≠ 123->¬ (k=4/\x=[c]):=by
 obtain ⟨N,rfl⟩:∃ M,N=M + 1:=⟨N - 1,by omega⟩
 rw [lA]
 cases t.k == 1 with
 | true=>exact ⟨1,_,0,[],rfl,fun c _ _ h=>absurd h.1 (by decide)⟩
 | false=>
 cases t.k == 4 with
 | true=>exact ⟨3,_,0,[],rfl,fun c _ _ h=>absurd h.1 (by decide)⟩
 | false=>
 cases t.k == 7 with
 | true=>exact ⟨1,_,0,[],rfl,fun c _ _ h=>absurd h.1 (by decide)⟩
 | false=>
 cases t.k == 5 with
 | true=>exact ⟨4,[91],0,_,rfl,fun c h1 _ h=>h1 (List.cons.inj h.2).1.symm⟩
 | false=>
 cases t.k == 6 with
 | true=>exact ⟨4,[123],0,_,rfl,fun c _ h1 h=>h1 (List.cons.inj h.2).1.symm⟩
 | false=>exact ⟨2,_,_,[],rfl,fun c _ _ h=>absurd h.1 (by decide)⟩
theorem P7 {e:En} (he:NEn e) {n:Int} (h:(e.vs.any fun x=>x == n)=true):∃ i:Nat,e.vs[i]? = some n/\e.ns[i]? = some (jH e.ns n e.vs 0):=by
 have key:∀ (l:List Int) (i:Nat),e.vs.drop i=l->(l.any fun x=>x == n)=true->∃ j:Nat,e.vs[j]? = some n/\e.ns[j]? = some (jH e.ns n l i):=by
  intro l
  induction l with
  | nil=>intro i _ h; cases h
  | cons m l ih=>
   intro i hd h
   have hi:i < e.vs.length:=by
    rcases bC i e.vs.length with h1 | h1
    · exact h1
    · rw [List.drop_eq_nil_iff.2 h1] at hd; cases hd
   have hi2:i < e.ns.length:=by have:=he.l; omega
   rw [List.drop_eq_getElem_cons hi] at hd
   obtain ⟨h1,h2⟩:=List.cons.inj hd
   rw [jH,show decide ((i:Int) < (e.ns.length:Int))=true by simp; omega,Bool.and_true]
   cases hc:m == n with
   | true=>
    refine ⟨i,?_,?_⟩
    · rw [aU hi,h1,eq_of_beq hc]
    · rw [aI,List.getD_eq_getElem?_getD,aU hi2]; rfl
   | false=>
    rw [List.any_cons,hc,Bool.false_or] at h
    exact ih (i + 1) h2 h
 exact key e.vs 0 rfl h
theorem aCK {ns:List ByteArray} (hd:∀ k x,ns[k]? = some x->cU (ns.take k) x=false) {i:Nat} {x:ByteArray} (hi:ns[i]? = some x):gW ns x 0=i:=by
 have key:∀ (j k:Nat),k + j=i->gW (ns.drop k) x k=i:=by
  intro j
  induction j with
  | zero=>
   intro k hk
   obtain rfl:k=i:=by omega
   obtain ⟨h1,h2⟩:=a6.1 hi
   rw [List.drop_eq_getElem_cons h1,gW,h2,decide_eq_true rfl]; rfl
  | succ j ih=>
   intro k hk
   have hl:=(a6.1 hi).1
   have hk1:k < ns.length:=by omega
   rw [List.drop_eq_getElem_cons hk1,gW]
   have hne:decide (x=ns[k])=false:=by
    have h:=hd i x hi
    unfold cU at h
    have:=e7 h ns[k] (bM (i:=k) (by rw [List.getElem?_take_of_lt (by omega),aU hk1]))
    exact this
   rw [hne,aG]
   exact ih (k + 1) (by omega)
 exact key i 0 (by omega)
theorem DF:∀ (l acc:List Vl),l.foldl (fun a x=>a ++ [x]) acc=acc ++ l
 | [],acc=>by simp
 | x :: l,acc=>by rw [List.foldl_cons,DF l]; simp
def N8 (a:xX) (x:Int × Vl):xX:=(x.1,a.2 ++ [x])
theorem AT:∀ (l:List (Int × Vl)) (a:xX),(l.foldl N8 a).2=a.2 ++ l
 | [],a=>by simp
 | x :: l,a=>by rw [List.foldl_cons,AT l]; simp [N8]
theorem jQ {α:Type} (f:α->List n3):∀ l:List α,l.length<=(l.flatMap fun y=>eO 44 :: f y).length
 | []=>Nat.le_refl _
 | x :: l=>by
  have:=jQ f l
  rw [List.flatMap_cons,List.length_append,List.length_cons,List.length_cons]; omega
theorem BB {v:Vl} {k:Int} (hk:v.k=k) (hs:bl v.s=[]) (hl:v.l=[]) (hf:v.f=[]):v=.mk k v.n (mk []) [] []:=by
 obtain ⟨k',n,s,l,f⟩:=v
 have q1:k'=k:=hk
 have q2:l=[]:=hl
 have q3:f=[]:=hf
 have q4:s=mk []:=lY (by rw [mO]; exact hs)
 rw [q1,q2,q3,q4]
 rfl
theorem uP (l:jB):(cT l).length=l.length:=List.length_map ..
theorem YN {ts:List Tk} {n:Nat} {xs:List n3} (h:(ts.map iO).drop n=xs):xs.length<=ts.length:=by
 have:=congrArg List.length h
 rw [List.length_drop,List.length_map] at this
 omega
theorem B6 {s:Sc} (hn:Nice s) {ts:List Tk}:∀ (N:Nat) (t:Ty) (v:Vl) (n:Nat) (R:List n3),v.h<=N->dZ s t v=0->(ts.map iO).drop n=cT (cW N s t v []) ++ R->R ≠ []->
 pP N s ts t (bK n)=(v,bK (n + (cT (cW N s t v [])).length))
 | 0,_,v,_,_,h,_,_,_=>by have:=v.h_pos; omega
 | N + 1,t,v,n,R,hh,h0,hd,hR=>by
  have hc:=mY h0
  rw [iT]
  rw [lA] at hd ⊢
  cases c1:t.k == 1 with
  | true=>
   rw [c1,aI] at hd
   obtain ⟨f1,f2,f3,f4⟩:=hc.nu (bZ c1 (by decide)) (bZ c1 (by decide)) (bZ c1 (by decide))
   have hv:=BB (by rw [hc.kk,eq_of_beq c1]) f1 f2 f3
   unfold rL at f4
   rw [c1,aI] at f4
   obtain ⟨_,a1,a2,_⟩:=gU hd
   obtain ⟨_,a3⟩:=mT hd hR
   rw [aI,aI]
   show gP ts (bK n)=(v,bK (n + 1))
   unfold gP c9
   rw [show (bK n).n=n from rfl,a1,a2,a3]
   rw [Bool.or_eq_true] at f4
   rcases f4 with f4 | f4
   · have e:v.n=0:=eq_of_beq f4
     rw [e] at hv ⊢
     rw [hv]; rfl
   · have e:v.n=1:=eq_of_beq f4
     rw [e] at hv ⊢
     rw [hv]; rfl
  | false=>
  rw [c1,aG] at hd
  rw [aG,aG]
  cases c4:t.k == 4 with
  | true=>
   rw [c4,aI] at hd
   obtain ⟨f1,f2,f3,f4⟩:=hc.tx c4
   obtain ⟨_,a1,a2,_⟩:=gU hd
   obtain ⟨_,a3⟩:=mT hd hR
   rw [aI,aI]
   show xO ts (bK n)=(v,bK (n + 1))
   unfold xO iQ lI iC
   rw [show (bK n).n=n from rfl,a1,a3]
   show (Vl.mk 4 0 (mk (bF ts n).x) [] [],bK (n + 1))=_
   rw [a2,kI]
   have hk:=hc.kk
   rw [eq_of_beq c4] at hk
   obtain ⟨k',m,x,l,f⟩:=v
   have hk:k'=4:=hk
   have f1:m=0:=f1
   have f2:l=[]:=f2
   have f3:f=[]:=f3
   subst hk f1 f2 f3
   rfl
  | false=>
  rw [c4,aG] at hd
  rw [aG,aG]
  cases c7:t.k == 7 with
  | true=>
   rw [c7,aI] at hd
   obtain ⟨f1,f2,f3,f4⟩:=hc.nu c4 (bZ c7 (by decide)) (bZ c7 (by decide))
   have hv:=BB (by rw [hc.kk,eq_of_beq c7]) f1 f2 f3
   unfold rL at f4
   rw [c1,bZ c7 (b:=2) (by decide),bZ c7 (b:=3) (by decide),c7] at f4
   obtain ⟨_,a1,a2,_⟩:=gU hd
   obtain ⟨_,a3⟩:=mT hd hR
   rw [aI,aI]
   show gO (enOf s t) ts (bK n)=(v,bK (n + 1))
   have hen:=hn.enOf t
   obtain ⟨i,i1,i2⟩:=P7 hen (n:=v.n) f4
   have hi:=(a6.1 i1).1
   have ei:kD (enOf s t) ts (bK n)=(i:Int):=by
    unfold kD
    rw [show (bK n).n=n from rfl,a1,a2]
    show gW (enOf s t).ns (mk (bl (jH (enOf s t).ns v.n (enOf s t).vs 0))) 0=i
    rw [kI,aCK hen.d i2]
   unfold gO
   rw [ei,show decide ((i:Int) < 0)=false by simp,show decide (((enOf s t).vs.length:Int)<=(i:Int))=false by simp; omega]
   have e2:(enOf s t).vs.getD ((i:Int)).toNat 0=v.n:=by simp [List.getD_eq_getElem?_getD,i1]
   rw [e2,show (bK n).n=n from rfl,a3,hv]
   rfl
  | false=>
  rw [c7,aG] at hd
  rw [aG,aG]
  cases c5:t.k == 5 with
  | true=>
   rw [c5,aI] at hd
   obtain ⟨f1,f2,f3,f4,f5⟩:=hc.ls c5
   rw [aI,aI]
   have hk:=hc.kk
   rw [eq_of_beq c5] at hk
   have hv:v=.mk 5 0 (mk []) v.l []:=by
    obtain ⟨k',m,x,l,f⟩:=v
    have q1:k'=5:=hk
    have q2:m=0:=f1
    have q3:f=[]:=f3
    have q4:x=mk []:=lY (by rw [mO]; exact f2)
    rw [q1,q2,q3,q4]
    rfl
   have hd0:(ts.map iO).drop n=eO 91 :: (cT (kL (cW N s (t.e.headD default)) false v.l) ++ (eO 93 :: R)):=by
    rw [hd]
    show FV (fZ 91) :: (cT (kL (cW N s (t.e.headD default)) false v.l ++ [([],fZ 93)]) ++ R)=_
    rw [hJ,List.append_assoc]; rfl
   have hN1:∀ x ∈ v.l,x.h<=N:=fun x hx=>by have:=Vl.h_l hx; omega
   have hlen:(cT ((([]:List UInt8),fZ 91) :: (kL (cW N s (t.e.headD default)) false v.l ++ [([],fZ 93)]))).length=(cT (kL (cW N s (t.e.headD default)) false v.l)).length + 2:=by
    rw [uP,uP]; simp
   rw [hlen]
   obtain ⟨m1,_,_⟩:=jZ hd0 (by simp)
   have hd1:=(gU hd0).2.2.2.2
   show mH (pP N) s ts (t.e.headD default) (bK n)=_
   generalize t.e.headD default=u at *
   cases hvl:v.l with
   | nil=>
    rw [hvl] at hd1
    have hd1:(ts.map iO).drop (n + 1)=eO 93 :: R:=hd1
    obtain ⟨_,m2,m3⟩:=jZ hd1 hR
    unfold mH eP
    rw [m1,m2,m3]
    refine Prod.ext ?_ rfl
    rw [hvl] at hv
    exact hv.symm
   | cons x r=>
    rw [hvl] at hd1
    have hx:=hN1 x (by rw [hvl]; exact List.mem_cons_self ..)
    rw [P8,List.append_assoc] at hd1
    obtain ⟨k0,x0,m0,R0,hh0,hh1⟩:=S8 (N:=N) (s:=s) (t:=u) (v:=x) (by have:=x.h_pos; omega)
    have hno:cI [93] ts (bK (n + 1))=false:=by
     have hd1:=hd1
     rw [hh0] at hd1
     exact IW hd1 (hh1 93 (by decide) (by decide))
    have hsr:=tG (one:=jD (pP N) s ts u) (ts:=ts) (tk:=fun y=>cT (cW N s u y [])) (upd:=fun a y=>a ++ [y]) (I:=fun _ l=>∀ y ∈ l,y.h<=N/\dZ s u y=0)
     (fun a y r n' R' hI hR' hd'=>⟨by
       have:=B6 hn N u y n' R' (hI y (List.mem_cons_self ..)).1 (hI y (List.mem_cons_self ..)).2 hd' hR'
       unfold jD
       rw [this],fun z hz=>hI z (List.mem_cons_of_mem _ hz)⟩) (c:=93) (by decide) r x [] (n + 1) (ts.length + 1) R (fun y hy=>⟨hN1 y (by rw [hvl]; exact hy),f5 y (by rw [hvl]; exact hy)⟩) (by
       have h1:=jQ (fun y=>cT (cW N s u y [])) r
       have h2:=YN hd1
       rw [List.length_append,List.length_append] at h2
       omega) hd1 hR
    have hd2:(ts.map iO).drop (n + 1 + (cT (cW N s u x []) ++ r.flatMap fun y=>eO 44 :: cT (cW N s u y [])).length)=eO 93 :: R:=yU (by rw [hd1,List.append_assoc])
    obtain ⟨m4,_,_⟩:=jZ hd2 hR
    unfold mH eP
    rw [m1,hno,aG,hsr,m4,DF,P8,List.nil_append]
    refine Prod.ext ?_ ?_
    · rw [hvl] at hv
      exact hv.symm
    · show bK _=bK _
      congr 1
      omega
  | false=>
  rw [c5,aG] at hd
  rw [aG,aG]
  cases c6:t.k == 6 with
  | true=>
   rw [c6,aI] at hd
   obtain ⟨f1,f2,f3,f4,f5⟩:=hc.st c6
   rw [aI,aI]
   have hk:=hc.kk
   rw [eq_of_beq c6] at hk
   have hv:v=.mk 6 0 (mk []) [] v.f:=by
    obtain ⟨k',m,x,l,f⟩:=v
    have q1:k'=6:=hk
    have q2:m=0:=f1
    have q3:l=[]:=f3
    have q4:x=mk []:=lY (by rw [mO]; exact f2)
    rw [q1,q2,q3,q4]
    rfl
   have hd0:(ts.map iO).drop n=eO 123 :: (cT (iF (cW N s) (stOf s t) false v.f) ++ (eO 125 :: R)):=by
    rw [hd]
    show FV (fZ 123) :: (cT (iF (cW N s) (stOf s t) false v.f ++ [([],fZ 125)]) ++ R)=_
    rw [hJ,List.append_assoc]; rfl
   have hN1:∀ x ∈ v.f,x.2.h<=N:=fun x hx=>by have:=Vl.h_f hx; omega
   have hlen:(cT ((([]:List UInt8),fZ 123) :: (iF (cW N s) (stOf s t) false v.f ++ [([],fZ 125)]))).length=(cT (iF (cW N s) (stOf s t) false v.f)).length + 2:=by
    rw [uP,uP]; simp
   rw [hlen]
   obtain ⟨m1,_,_⟩:=jZ hd0 (by simp)
   have hd1:=(gU hd0).2.2.2.2
   have hu:=hn.stOf t
   show iY (pP N) s ts (stOf s t) (bK n)=_
   generalize stOf s t=u at *
   cases hvf:v.f with
   | nil=>
    rw [hvf] at hd1
    have hd1:(ts.map iO).drop (n + 1)=eO 125 :: R:=hd1
    obtain ⟨_,m2,m3⟩:=jZ hd1 hR
    unfold iY eP
    rw [m1,m2,m3]
    refine Prod.ext ?_ rfl
    rw [hvf] at hv
    exact hv.symm
   | cons x r=>
    rw [hvf] at hd1
    rw [PZ,List.append_assoc] at hd1
    have hno:cI [125] ts (bK (n + 1))=false:=IW (k:=1) hd1 fun h=>absurd h.1 (by decide)
    have hfa:ftA u.fs (some 0) v.f=true:=by
     unfold c8 at f4
     rw [Bool.and_eq_true] at f4
     have h1:=f4.1
     rw [hvf,jR,Bool.and_eq_true,Bool.and_eq_true] at h1
     have hm:=JC h1.1.1
     have hnum:(bG u x.1).num=x.1:=by
      obtain ⟨f,hf⟩:=Option.isSome_iff_exists.1 h1.1.1
      unfold bG
      rw [hf]
      have:=List.find?_some hf
      simpa using this
     have:=(hu.n _ hm).1
     rw [hvf,jR,h1.1.1,h1.2,Bool.true_and,Bool.and_true]
     exact decide_eq_true (by omega)
    have hsr:=tG (one:=eR (pP N) s ts u) (ts:=ts) (tk:=D3 N s u) (upd:=N8) (I:=fun a l=>ftA u.fs (some a.1) l=true/\∀ y ∈ l,y.2.h<=N/\dZ s (bG u y.1).ty y.2=0)
     (fun a y r n' R' hI hR' hd'=>by
       obtain ⟨hI1,hI2⟩:=hI
       rw [jR,Bool.and_eq_true,Bool.and_eq_true] at hI1
       obtain ⟨⟨j1,j2⟩,j3⟩:=hI1
       have hm:=JC j1
       have hnum:(bG u y.1).num=y.1:=by
        obtain ⟨f,hf⟩:=Option.isSome_iff_exists.1 j1
        unfold bG
        rw [hf]
        have:=List.find?_some hf
        simpa using this
       refine ⟨?_,j3,fun z hz=>hI2 z (List.mem_cons_of_mem _ hz)⟩
       unfold D3 at hd' ⊢
       rw [List.cons_append,List.cons_append] at hd'
       obtain ⟨_,b1,b2,_,hd2⟩:=gU hd'
       obtain ⟨_,b3⟩:=mT hd' (by simp)
       obtain ⟨i,hi⟩:=List.mem_iff_getElem?.1 hm
       have hlast:a.1 < (bG u y.1).num:=by rw [hnum]; exact of_decide_eq_true j2
       have hfit:=ZB hu (ts:=ts) (z:=bK n') (last:=a.1) (by show ((bF ts n').k == 1)=true; rw [b1]; rfl) hi (by show (bl (bG u y.1).nm == (bF ts n').x)=true; rw [b2]; simp) hlast
       have hRne:cT (cW N s (bG u y.1).ty y.2 []) ++ R' ≠ []:=by simp [hR']
       have hz:n1 ts (bK n')=bK (n' + 1 + 1):=by
        unfold n1
        rw [show (⟨(bK n').bad,(bK n').off,cB ts (bK n').n⟩:Fs)=bK (n' + 1) from by rw [b3]]
        exact (jZ hd2 hRne).1
       have hd3:=(gU hd2).2.2.2.2
       obtain ⟨g1,g2⟩:=hI2 y (List.mem_cons_self ..)
       have hp:=B6 hn N (bG u y.1).ty y.2 (n' + 1 + 1) R' g1 g2 hd3 hR'
       unfold eR
       rw [hfit.1,hfit.2,aG,hz,hp,hnum]
       refine Prod.ext rfl ?_
       show bK _=bK _
       congr 1
       simp only [List.length_cons]
       omega) (c:=125) (by decide) r x (0,[]) (n + 1) (ts.length + 1) R ⟨by rw [<-hvf]; exact hfa,fun y hy=>⟨hN1 y (by rw [hvf]; exact hy),f5 y (by rw [hvf]; exact hy)⟩⟩ (by
       have h1:=jQ (D3 N s u) r
       have h2:=YN hd1
       rw [List.length_append,List.length_append] at h2
       omega) hd1 hR
    have hd2:(ts.map iO).drop (n + 1 + (D3 N s u x ++ r.flatMap fun y=>eO 44 :: D3 N s u y).length)=eO 125 :: R:=yU (by rw [hd1,List.append_assoc])
    obtain ⟨m4,_,_⟩:=jZ hd2 hR
    unfold iY eP
    rw [m1,hno,aG,hsr,m4,PZ]
    refine Prod.ext ?_ ?_
    · show Vl.mk 6 0 (mk []) [] (List.foldl N8 (0,[]) (x :: r)).2=v
      rw [AT,List.nil_append]
      rw [hvf] at hv
      exact hv.symm
    · show bK _=bK _
      congr 1
      omega
  | false=>
   rw [c6,aG] at hd
   obtain ⟨f1,f2,f3,f4⟩:=hc.nu c4 c5 c6
   have hv:=BB (v:=v) rfl f1 f2 f3
   obtain ⟨_,a1,_,a2,_⟩:=gU hd
   obtain ⟨_,a3⟩:=mT hd hR
   rw [aG,aG]
   show HH t.k ts (bK n)=(v,bK (n + 1))
   unfold HH iQ lI iC
   rw [show (bK n).n=n from rfl,a1,a3]
   show (Vl.mk t.k (bF ts n).n (mk []) [] [],bK (n + 1))=_
   rw [a2,<-hc.kk]
   exact congrArg (·,bK (n + 1)) hv.symm
theorem aCZ {s:Sc} (hd:Dg s) {t:Ty} {v:Vl} (hv:VlOk v) (hh:v.h<=16) (hx:qV (fP 16) s t v ≠ []):jT (pP 16) s t (qV (fP 16) s t v)=(v,0,0):=by
 unfold qV at hx ⊢
 by_cases h0:gG s t v=0
 · rw [h0,show ((0:Int) != 0)=false from rfl,aG] at hx ⊢
   obtain ⟨h1,_⟩:=wA h0
   cases hb:(fP 16 s t v).2 with
   | true=>rw [hb] at hx; exact absurd rfl hx
   | false=>
   cases hl:decide (4000 < ((fP 16 s t v).1.length:Int)) with
   | true=>rw [hb,hl] at hx; exact absurd rfl hx
   | false=>
   rw [Bool.false_or,aG]
   have hl:=of_decide_eq_false hl
   have hp:oD v=true:=by
    have:=NZ 16 s t v hh h1
    rw [hb] at this
    simpa using this.symm
   have hok:=A5 16 s t v [] [] hd.ni hv hh h1 hp kT trivial (fun c hc=>by cases hc)
   have hsx:=IH 16 s t v [] (by decide) hh hb
   rw [List.append_nil] at hok
   rw [List.nil_append] at hsx
   obtain ⟨s1,s2⟩:=TA hok (by rw [hsx]; omega)
   rw [hsx] at s1 s2
   have hva:=(mY h1).va
   have hpb:=B6 hd.ni (ts:=(a7 (fP 16 s t v).1).toks) 16 t v 0 [(0,[],0)] hh h1 (by rw [List.drop_zero,s2]; rfl) (by simp)
   have hend:=yU (ts:=(a7 (fP 16 s t v).1).toks) (n:=0) (xs:=cT (cW 16 s t v [])) (R:=[(0,[],0)]) (by rw [List.drop_zero,s2]; rfl)
   obtain ⟨_,e1,_⟩:=gU hend
   unfold jT TK M3
   rw [YP hd,hva,s1,hpb]
   simp only [Bool.not_true,aG,show ((0:Int) != 0)=false from rfl]
   rw [e1]
   simp only [show ((0:Int) != 0)=false from rfl,aG,h0]
 · rw [show (gG s t v != 0)=true by simpa using h0,aI] at hx
   exact absurd rfl hx
def EY:List S->Prop:=fun av=>match av with
 | [.va (.gs r),.va (.gs q),.va (.gs p)]=>qO r/\eW q/\s3 p
 | _=>False
theorem zM {av:List S} (h:EY av):∃ s t v,av=[.va (.gs (aC s)),.va (.gs (aL t)),.va (.gs (a8 v))]/\s.ok/\TyOk t/\VlOk v:=by
 unfold EY at h
 split at h
 · obtain ⟨⟨s,rfl,h1⟩,⟨t,rfl,h2⟩,⟨v,rfl,h3⟩⟩:=h; exact ⟨s,t,v,rfl,h1,h2,h3⟩
 · exact h.elim
def l3Fn:Fun:=⟨EY,fun _=>bA true,fun _ _=>trivial⟩
attribute [go_sem] l3Fn EY
noncomputable def JH:cK:=[(8,.f feFn),(9,.f liFn),(10,.f qTrue),(11,.f (I0 16)),(13,.s (sC (dP 16) (pP 16))),(15,.f eqFn)]
theorem HM:jE JH 8=some feFn:=rfl
theorem HY:jE JH 9=some liFn:=rfl
theorem sM:jE JH 10=some qTrue:=rfl
theorem aCD:jE JH 11=some (I0 16):=rfl
theorem aBU:sp JH 13=sC (dP 16) (pP 16):=rfl
theorem aCO:jE JH 15=some eqFn:=rfl
theorem EH:Meets Tryz.prog 5 l3Fn.sp:=by
 refine aF (Γ:=JH) Tryz.func5 aM2 3 (by rw [Tryz.ntmps5]; decide) (aJ aDN (aJ aBP (aJ SM (aJ (FU 16) (aB (MC 16) (aJ Z8 (aA _))))))) (fun av H K h=>by obtain ⟨_,_,_,rfl,_⟩:=zM h.1.1; rfl) ?_
 rintro av H K ⟨⟨h,rfl⟩,hK⟩
 obtain ⟨s,t,v,rfl,hs,ht,hv⟩:=zM h
 have hK:K (bS true) []:=hK
 clear h
 have fin:∀ R:Hp,W.Fin 0 K (bS true) R:=fun R=>.sel [] (by simp) (by simp) rfl (.done (by simpa [go_sem] using hK))
 clear hK
 have k1:=fU hv
 have k2:=kQ v
 have k4:=iE ht
 have k5:=nT t
 have k6:=KT hs
 have k7:=nJ s
 cases h1:tI s t with
 | false=>
  simp (maxSteps:=1000000) -dsimp only [go_sem,aC,aM t,aS v,N3,NS,HM,HY,sM,k1,k2,k4,k5,k6,k7,h1]
  exact fin _
 | true=>
 cases h2:DN v with
 | false=>
  simp (maxSteps:=1000000) -dsimp only [go_sem,aC,aM t,aS v,N3,NS,HM,HY,sM,k1,k2,k4,k5,k6,k7,h1,h2]
  exact fin _
 | true=>
  obtain ⟨hf,hd,hft⟩:=aAV hs h1
  have hD:uX s t=true->dP 16 s t:=fun h=>aFK hf hd ht hft (by rw [<-YP hd]; exact h)
  have hh:v.h<=16:=by have:=aIH h2; omega
  have k8:=iM hf
  have k9:(gG s t v=0->dF 16 s t v)=True:=eq_true fun h=>MP 16 s t v hf hd.ni ht hv hh (wA h).1 (wA h).2
  have hrt:=aCZ (s:=s) hd (t:=t) hv hh
  simp (maxSteps:=1000000) -dsimp only [go_sem,aC,aM t,aS v,N3,NS,HM,HY,sM,k1,k2,k4,k5,k6,k7,h1,h2]
  refine aD rfl (.done ?_)
  simp (maxSteps:=1000000) -dsimp only [go_sem,aC,aM t,aS v,HX,aCD,I0,k1,k2,k4,k5,k6,k7,k8,k9]
  generalize qV (fP 16) s t v=x at *
  refine aD rfl (.done ?_)
  cases h3:x == [] with
  | true=>
   obtain rfl:x=[]:=by simpa using h3
   simp (maxSteps:=1000000) -dsimp only [go_sem,xH,sM]
   exact fin _
  | false=>
   have h3:(x == [])=false:=h3
   have hx:x ≠ []:=by simpa using h3
   have hrt:=hrt hx
   simp (maxSteps:=1000000) -dsimp only [go_sem,xH,h3]
   refine aD rfl (.done ?_)
   simp (maxSteps:=1000000) -dsimp only [go_sem,FJ,aBU]
   refine QO hf ht hD ?_
   rw [mO,hrt]
   simp (maxSteps:=1000000) -dsimp only [go_sem,aS v]
   refine aD rfl (.done ?_)
   simp (maxSteps:=1000000) -dsimp only [go_sem,HR,aCO,sM,k1,beq_self_eq_true]
   exact fin _
end Go.Proofs.YtkpohmhenegkiaaGreatDoor
namespace Go.W
open Go.RowKit
structure Stay (w w':World):Prop where
 os:w'.os=w.os
 out:w'.output=w.output
 size:w.heap.size<=w'.heap.size
 keep:∀ b:Nat,b < w.heap.size->w'.heap[b]? = w.heap[b]?
theorem Stay.kept {w w':World} (h:Stay w w') (may:MemPlace->Prop):w.keptBut w' may:=by
 refine ⟨h.os,h.out,fun i hi=>?_⟩
 rw [h.keep i hi]
 split
 · rename_i h1 h2; rw [h1] at h2; cases h2; exact ⟨rfl,rfl,rfl,fun _ _=>rfl⟩
 · rename_i h1 h2; rw [h1] at h2; cases h2; exact Or.inr ⟨rfl,rfl⟩
 · rfl
theorem Stay.frozen {w w':World} (h:Stay w w') {a:Addr} (ha:a.block < w.heap.size):w'.frozen? a=w.frozen? a:=by
 unfold World.frozen?; rw [h.keep _ ha]
theorem Stay.cell {w w':World} (h:Stay w w') {a:Addr} (ha:a.block < w.heap.size):w'.cell? a=w.cell? a:=by
 unfold World.cell?; rw [h.keep _ ha]
theorem aAU {w:World} {ro:RO} (h:∀ (b off:Nat) (v:Value),ro b off=some v->w.cell? ⟨b,off,none⟩=some v):Rel ⟨w,dI [],ro,gm []⟩ [] ro w where
 own:=fun n g blk h=>by simp at h
 inj:=fun n m gn gm bn bm b h=>by simp at h
 apart:=fun b off v _ n g blk h=>by simp at h
 rd:=h
 ro0:=fun _ _ _ h=>h
 rob:=fun b off v h=>.inl h
 par:=fun n b g blk h=>by simp at h
 gx:=.refl _
 sz:=Nat.le_refl _
 keep:=fun b _ _=>rfl
 os:=rfl
 tape:=rfl
 output:=rfl
theorem Meets.run {P:Program} {f:FuncId} {s:Fun} (hm:Meets P f s.sp) {av:List S} {vs:List Value} {ro:RO} {w:World} {x:A} (hpre:s.pre av) (hval:s.val av=x) (hl:av.length=vs.length)
 (hrel:∀ (i:Nat) (x:S) (v:Value),av[i]? = some x->vs[i]? = some v->x.rel (gm []) ro v) (hro:∀ (b off:Nat) (v:Value),ro b off=some v->w.cell? ⟨b,off,none⟩=some v) (hG:GR P ro w) :
 Calls P f vs.toArray w fun e w'=>∃ v γ ro',e=.returned v/\S.rel γ ro' (.va x) v/\Stay w w':=by
 subst hval
 refine (hm.2 av vs [] ro w (fun r H=>r=.va (s.val av)/\H=[]) hl hrel (aAU hro) ⟨⟨hpre,rfl⟩,rfl,rfl⟩ hG).mono ?_
 rintro e w' ⟨r,v,E',ro',rfl,h1,⟨rfl,h2⟩,h3⟩
 exact ⟨v,_,ro',rfl,h1,h3.os,h3.output,h3.sz,fun b hb=>h3.keep b hb (by simp [dI])⟩
theorem Meets.yes {P:Program} {f:FuncId} {s:Fun} (hm:Meets P f s.sp) {av:List S} {vs:List Value} {ro:RO} {w:World} (hpre:s.pre av) (hval:s.val av=.c1 (.vl (.bool true))) (hl:av.length=vs.length)
 (hrel:∀ (i:Nat) (x:S) (v:Value),av[i]? = some x->vs[i]? = some v->x.rel (gm []) ro v) (hro:∀ (b off:Nat) (v:Value),ro b off=some v->w.cell? ⟨b,off,none⟩=some v) (hG:GR P ro w) :
 Calls P f vs.toArray w fun e w'=>e=.returned (.bool true)/\Stay w w':=by
 refine (hm.run hpre hval hl hrel hro hG).mono ?_
 rintro e w' ⟨v,γ,ro',rfl,h1,h2⟩
 have:v=.bool true:=h1
 exact ⟨by rw [this],h2⟩
section
variable {H:Type} {enc:TypeId × Value->H} {P:Program}
theorem GP {f:Func} {s:ChangeSpec} {apart fresh handsOn again:Bool} {W W':World} {args:Array Value} {v:Value} {ds gs:List (DataW H)} {before pa pv:List MemPlace}
 (hW:DataW.Whole enc P f.params.toList s.vars apart W args.toList ds gs before)
 (hres:∀ (b:Nat) (sp:Nat->Bool) (hd:Bool),DataW.TrodAll enc P W' b sp hd f.resultTypes.toList (v.resultList f.resultTypes.size) (s.fn H (ds ++ gs)).results [])
 (hargs:∀ sp:Nat->Bool,(∀ p ∈ before,sp p.block=true)->DataW.TrodAll enc P W' 0 sp true f.params.toList args.toList (s.fn H (ds ++ gs)).args pa)
 (hvars:∀ sp:Nat->Bool,(∀ p ∈ before,sp p.block=true)->DataW.TrodVars enc P W' sp s.vars (s.fn H (ds ++ gs)).vars pv)
 (hps:before=pa ++ pv) (hs:Stay W W')
 (hok:∀ (j:Nat) (t:TypeId) (r:Value),f.resultTypes[j]? = some t->(v.resultList f.resultTypes.size)[j]? = some r->Value.okWide P W' .any 0 t r) :
 s.post enc P f apart fresh handsOn again W args v W':=by
 have hlt:∀ p ∈ before,p.block < W.heap.size:=fun p hp=>hW.lt p hp
 have hsp:∀ p ∈ before,(fun b=>decide (b < W.heap.size)) p.block=true:=fun p hp=>by simpa using hlt p hp
 have hall:∀ p ∈ before,(fun _:Nat=>true) p.block=true:=fun _ _=>rfl
 obtain ⟨_,_,_,_,_,hz,hn⟩:=id hW
 refine ⟨ds,gs,before,[],pa,pv,hW,hres _ _ _,hargs _ hsp,hvars _ hsp,World.keptBut_mono (fun p hp=>⟨hp,.inr ?_⟩) (hs.kept (· ∈ before)),fun _=>⟨hok,_,_,([] ++ pa) ++ pv,
  ⟨[] ++ pa,pv,ChangeShapes.trodAll_append (hargs _ hall) (hres _ _ _),hvars _ hall,rfl,fun b off hp=>?_,fun ha=>?_⟩,fun p hp _=>?_⟩⟩
 · rw [hps,List.mem_append] at hp; exact hp
 · have hb:MemPlace.cell b off ∈ before:=by rw [hps]; simpa using hp
   rw [hs.frozen (hlt _ hb)]
   exact hz b off hb
 · have:=hn ha
   rw [hps] at this
   simpa using this
 · rw [hps]
   simpa using hp
end
open Go.RowKit
def kB (W:World):RO:=fun b off=>W.cell? ⟨b,off,none⟩
theorem aC2 (W:World):∀ (b off:Nat) (v:Value),kB W b off=some v->W.cell? ⟨b,off,none⟩=some v:=fun _ _ _ h=>h
theorem PJ (ro:RO):FzR ro [] (.slice none 0 0):=
 FzR.mk [] 1 none none (fun h=>absurd rfl h) 0 (fun _=>.bool true) (by simp) (by simp) (by simp) (by simp) (by simp) (by simp) (by simp)
def qW (P:Program):Bool:=(List.range P.types.size).all fun t=>match P.underlying t with | some (.slice e)=>decide (0 < P.cellsOf e) | _=>true
section
variable {H:Type} {enc:TypeId × Value->H} {P:Program}
theorem RC {W W':World} (h:Stay W W') {p:MemPlace} (hp:p.block < W.heap.size):W.sameAt W' p:=by
 cases p with
 | cell b off=>exact h.cell (a:=⟨b,off,none⟩) hp
 | map b=>exact h.keep b hp
theorem sS {W W':World} {sp:Nat->Bool} (hl:laidOutB P=true) (hm:mapsRowed P=true) (hs:qW P=true) (hst:Stay W W') :
 ∀ {ts:List TypeId} {vs:List Value} {ds:List (DataW H)} {ps:List MemPlace},(∀ t ∈ ts,t < P.types.size)->DataW.TrodAll enc P W 0 (fun _=>true) true ts vs ds ps->(∀ p ∈ ps,p.block < W.heap.size)->(∀ p ∈ ps,sp p.block=true)->
  DataW.TrodAll enc P W' 0 sp true ts vs ds ps
 | [],[],[],ps,_,h,_,_=>h
 | t :: ts,v :: vs,d :: ds,ps,ht,h,hb,hp=>by
  obtain ⟨p,q,⟨n,h1⟩,h2,rfl⟩:=h
  have hsz:∀ {t e:TypeId},t < P.types.size->P.underlying t=some (.slice e)->0 < P.cellsOf e:=fun {t e} ht hu=>by
   have:=List.all_eq_true.1 hs t (List.mem_range.2 ht)
   rw [hu] at this
   simpa using this
  exact ⟨p,q,⟨n,DataW.trod_stays (T:=(· < P.types.size)) (kids_rows hl hm) hsz (fun h=>by cases h) (ht t (by simp)) h1 (fun x hx=>RC hst (hb x (by simp [hx]))) (fun x hx=>hp x (by simp [hx]))⟩,
   sS hl hm hs hst (fun u hu=>ht u (by simp [hu])) h2 (fun x hx=>hb x (by simp [hx])) (fun x hx=>hp x (by simp [hx])),rfl⟩
 | [],_ :: _,_,_,_,h,_,_=>h.elim
 | [],[],_ :: _,_,_,h,_,_=>h.elim
 | _ :: _,[],_,_,_,h,_,_=>h.elim
 | _ :: _,_ :: _,[],_,_,h,_,_=>h.elim
theorem UG {f:Func} {s:ChangeSpec} {apart fresh handsOn again:Bool} {W W':World} {args:Array Value} {ds gs:List (DataW H)} {before:List MemPlace} {tb:TypeId}
 (hl:laidOutB P=true) (hm:mapsRowed P=true) (hsr:qW P=true) (hps:∀ t ∈ f.params.toList,t < P.types.size) (hrt:f.resultTypes=#[tb]) (htb:P.underlying tb=some .bool)
 (hvars:s.vars=[]) (hW:DataW.Whole enc P f.params.toList s.vars apart W args.toList ds gs before) (hfn:s.fn H (ds ++ gs)={ results:=[.lit (.bool true)],args:=ds,vars:=[] }) (hst:Stay W W') :
 s.post enc P f apart fresh handsOn again W args (.bool true) W':=by
 have hlt:∀ p ∈ before,p.block < W.heap.size:=fun p hp=>hW.lt p hp
 obtain ⟨p,q,hA,hV,hb,_,_⟩:=id hW
 have hq:q=[]:=by
  rw [hvars] at hV
  cases gs with
  | nil=>exact hV
  | cons g gs=>exact hV.elim
 subst hq
 have hbp:before=p:=by rw [hb]; simp
 refine GP (pa:=p) (pv:=[]) hW (fun b sp hd=>?_) (fun sp hsp=>?_) (fun sp hsp=>?_) hb hst ?_
 · rw [hrt,hfn]
   exact ⟨[],[],⟨1,by simp [DataW.trod,Value.cells,htb]⟩,rfl,rfl⟩
 · rw [hfn]
   rw [hbp] at hlt hsp
   exact sS hl hm hsr hst hps hA hlt hsp
 · rw [hfn,hvars]; rfl
 · intro j t r h1 h2
   rw [hrt] at h1 h2
   match j with
   | 0=>
    cases h1
    cases h2
    simp [Value.okWide,Cell.okWide,Cell.ok,htb]
   | j + 1=>cases h1
end
open Go.RowKit
inductive Fit (P:Program):TypeId->List C->Prop
 | int {t:TypeId} {k:IntKind} {n:Int}:P.underlying t=some (.int k)->(Lit.int k n).wf=true->Fit P t [.vl (.int k n)]
 | bool {t:TypeId} {b:Bool}:P.underlying t=some .bool->Fit P t [.vl (.bool b)]
 | str {t:TypeId} {s:ByteArray}:P.underlying t=some .string->s.size<=maxLen->Fit P t [.vl (.string s)]
 | sl {t e:TypeId} {xs:List (List C)}:P.underlying t=some (.slice e)->xs.length<=maxLen->(∀ r ∈ xs,Fit P e r)->Fit P t [.fz xs]
 | st {t:TypeId} {fs:Array Field} {parts:List (List C)}:P.underlying t=some (.struct fs)->parts.length=fs.size->(∀ (i:Nat) (f:Field) (p:List C),fs[i]? = some f->parts[i]? = some p->Fit P f.type p)->Fit P t parts.flatten
section
variable {P:Program} {t e:TypeId} {xs:List C}
theorem Fit.inv_int {k:IntKind} (ht:P.underlying t=some (.int k)) (h:Fit P t xs):∃ n:Int,xs=[.vl (.int k n)]/\(Lit.int k n).wf=true:=by
 cases h with
 | int h1 h2=>rw [ht] at h1; cases h1; exact ⟨_,rfl,h2⟩
 | bool h1=>rw [ht] at h1; cases h1
 | str h1=>rw [ht] at h1; cases h1
 | sl h1=>rw [ht] at h1; cases h1
 | st h1=>rw [ht] at h1; cases h1
theorem Fit.inv_bool (ht:P.underlying t=some .bool) (h:Fit P t xs):∃ b:Bool,xs=[.vl (.bool b)]:=by
 cases h with
 | int h1 h2=>rw [ht] at h1; cases h1
 | bool h1=>exact ⟨_,rfl⟩
 | str h1=>rw [ht] at h1; cases h1
 | sl h1=>rw [ht] at h1; cases h1
 | st h1=>rw [ht] at h1; cases h1
theorem Fit.inv_str (ht:P.underlying t=some .string) (h:Fit P t xs):∃ s:ByteArray,xs=[.vl (.string s)]/\s.size<=maxLen:=by
 cases h with
 | int h1 h2=>rw [ht] at h1; cases h1
 | bool h1=>rw [ht] at h1; cases h1
 | str h1 h2=>exact ⟨_,rfl,h2⟩
 | sl h1=>rw [ht] at h1; cases h1
 | st h1=>rw [ht] at h1; cases h1
theorem Fit.inv_sl (ht:P.underlying t=some (.slice e)) (h:Fit P t xs):∃ ys:List (List C),xs=[.fz ys]/\ys.length<=maxLen/\∀ r ∈ ys,Fit P e r:=by
 cases h with
 | int h1 h2=>rw [ht] at h1; cases h1
 | bool h1=>rw [ht] at h1; cases h1
 | str h1=>rw [ht] at h1; cases h1
 | sl h1 h2 h3=>rw [ht] at h1; cases h1; exact ⟨_,rfl,h2,h3⟩
 | st h1=>rw [ht] at h1; cases h1
theorem Fit.inv_st {fs:Array Field} (ht:P.underlying t=some (.struct fs)) (h:Fit P t xs):∃ parts:List (List C),xs=parts.flatten/\parts.length=fs.size/\∀ (i:Nat) (f:Field) (p:List C),fs[i]? = some f->parts[i]? = some p->Fit P f.type p:=by
 cases h with
 | int h1 h2=>rw [ht] at h1; cases h1
 | bool h1=>rw [ht] at h1; cases h1
 | str h1=>rw [ht] at h1; cases h1
 | sl h1=>rw [ht] at h1; cases h1
 | st h1 h2 h3=>rw [ht] at h1; cases h1; exact ⟨_,rfl,h2,h3⟩
end
theorem Fit.rows {P:Program} {e:TypeId} {α:Type} {row:α->List C} {Q:α->Prop} {ys:List (List C)} (hi:∀ r,Fit P e r->∃ a,r=row a/\Q a) (h:∀ r ∈ ys,Fit P e r):∃ l:List α,ys=l.map row/\∀ a ∈ l,Q a:=by
 induction ys with
 | nil=>exact ⟨[],rfl,fun a h=>by cases h⟩
 | cons r ys ih=>
  obtain ⟨l,h1,h2⟩:=ih fun r hr=>h r (List.mem_cons_of_mem _ hr)
  obtain ⟨a,h3,h4⟩:=hi r (h r (by simp))
  refine ⟨a :: l,by rw [h1,h3]; rfl,fun x hx=>?_⟩
  rcases List.mem_cons.1 hx with rfl | hx
  · exact h4
  · exact h2 x hx
def JI (P:Program):Nat->List Field->Option Nat
 | o,[]=>some o
 | o,f :: r=>if f.offset=o then JI P (o + P.cellsOf f.type) r else none
def AM (P:Program) (ts:List TypeId):Bool:=ts.all fun t=>match P.underlying t with
 | some (.int _) | some .bool | some .string=>true
 | some (.slice e)=>ts.contains e && decide (0 < P.cellsOf e)
 | some (.struct fs)=>fs.toList.all (fun f=>ts.contains f.type) && JI P 0 fs.toList == some (P.cellsOf t)
 | _=>false
theorem TD {P:Program} {R:C->Value->Prop} {Q:Field->List C->Prop} {cs:List Value}:∀ (fs:List Field) (o:Nat),JI P o fs=some cs.length->
 (∀ (i:Nat) (f:Field),fs[i]? = some f->∃ p,Q f p/\All2 R p ((cs.drop f.offset).take (P.cellsOf f.type)))->
 ∃ parts:List (List C),parts.length=fs.length/\(∀ (i:Nat) (f:Field) (p:List C),fs[i]? = some f->parts[i]? = some p->Q f p)/\All2 R parts.flatten (cs.drop o)
 | [],o,ho,_=>by
  simp only [JI,aH] at ho
  subst ho
  exact ⟨[],rfl,fun i f p h=>by simp at h,by simpa using All2.nil⟩
 | f :: fs,o,ho,h=>by
  simp only [JI] at ho
  split at ho
  · rename_i hf
    obtain ⟨parts,h1,h2,h3⟩:=TD fs _ ho fun i f hf=>h (i + 1) f (by simpa using hf)
    obtain ⟨p,h4,h5⟩:=h 0 f rfl
    refine ⟨p :: parts,by simp [h1],fun i g q hg hq=>?_,?_⟩
    · cases i with
      | zero=>simp at hg hq; subst hg hq; exact h4
      | succ i=>exact h2 i g q (by simpa using hg) (by simpa using hq)
    · have:cs.drop o=(cs.drop f.offset).take (P.cellsOf f.type) ++ cs.drop (o + P.cellsOf f.type):=by
       rw [hf,<-List.drop_drop,List.take_append_drop]
      rw [List.flatten_cons,this]
      exact h5.app h3
  · cases ho
section
variable {H:Type} {enc:TypeId × Value->H} {P:Program} {W:World} {ts:List TypeId}
theorem xW {b off len cap sz:Nat} {oa:Option Addr} (hoa:len ≠ 0->oa=some ⟨b,off,none⟩) (hsz:0 < sz) (X:Nat->List C) (hl:∀ i,i < len->(X i).length=sz) (hc:len<=cap)
 (h:∀ i,i < len->∀ j c,(X i)[j]? = some c->∃ v,W.cell? ⟨b,off + (i * sz + j),none⟩=some v/\c.fv (kB W) v/\c.shut=true) :
 FzR (kB W) ((List.range len).map X) (.slice oa len cap):=by
 have hz:∀ x ∈ (List.range len).map X,x.length=sz:=fun x hx=>by
  obtain ⟨i,hi,rfl⟩:=List.mem_map.1 hx
  exact hl i (List.mem_range.1 hi)
 have hfl:∀ k c,((List.range len).map X).flatten[k]? = some c->∃ v,W.cell? ⟨b,off + k,none⟩=some v/\c.fv (kB W) v/\c.shut=true:=fun k c hk=>by
  have hkl:k < len * sz:=by
   have h1:=(a6.1 hk).1
   rw [jQ _ hz] at h1
   simpa using h1
  have hi:k / sz < len:=(Nat.div_lt_iff_lt_mul hsz).2 hkl
  have hj:=Nat.mod_lt k hsz
  have hg:=nZ hz (i:=k / sz) (j:=k % sz) (by simpa using hi) hj
  rw [Nat.mul_comm,Nat.div_add_mod,hk] at hg
  have hxi:((List.range len).map X)[k / sz]? = some (X (k / sz)):=by simp [hi]
  rw [hxi,Option.bind_some] at hg
  have:=h (k / sz) hi (k % sz) c hg.symm
  rwa [Nat.mul_comm,Nat.div_add_mod] at this
 have hr:=FzR.mk (ro:=kB W) ((List.range len).map X) sz (some (b,off)) oa (fun hne=>hoa (fun e=>by subst e; simp at hne)) cap (fun k=>(W.cell? ⟨b,off + k,none⟩).getD undef) hz (by simpa using hc) (fun _=>rfl)
  (fun k c hk=>by
    obtain ⟨v,h2,_⟩:=hfl k c hk
    simp [kB,h2])
  (fun k v hk=>by
    obtain ⟨u,h1,h2,_⟩:=hfl k _ hk
    have:u=v:=h2
    simp [h1,this])
  (fun k ys hk=>by
    obtain ⟨u,h1,h2,_⟩:=hfl k _ hk
    have:FzR (kB W) ys u:=h2
    simpa [h1] using this)
  (fun c hc=>by
    obtain ⟨k,hk⟩:=List.mem_iff_getElem?.1 hc
    obtain ⟨u,_,_,h3⟩:=hfl k c hk
    exact h3)
 simpa using hr
theorem oW (hok:AM P ts=true):∀ (n:Nat) (t:TypeId) (cs:List Value) (y:DataW H × List MemPlace),t ∈ ts->DataW.trod enc P W 0 (fun _=>true) true n t cs=some y->
 ∃ xs,Fit P t xs/\All2 (C.fv (kB W)) xs cs/\∀ c ∈ xs,c.shut=true
 | 0,t,cs,y,_,h=>by simp [DataW.trod] at h
 | n + 1,t,cs,y,ht,h=>by
  have h1:=List.all_eq_true.1 hok t ht
  split at h1
  · rename_i k hu
    obtain ⟨m,rfl,_,hw⟩:=DataW.trod_int hu h
    exact ⟨_,.int hu hw,.cons rfl .nil,fun c hc=>by simp at hc; subst hc; rfl⟩
  · rename_i hu
    obtain ⟨b,rfl,_⟩:=DataW.trod_bool hu h
    exact ⟨_,.bool hu,.cons rfl .nil,fun c hc=>by simp at hc; subst hc; rfl⟩
  · rename_i hu
    obtain ⟨s,rfl,_,hs⟩:=DataW.trod_string hu h
    exact ⟨_,.str hu hs,.cons rfl .nil,fun c hc=>by simp at hc; subst hc; rfl⟩
  · rename_i e hu
    simp only [Bool.and_eq_true,List.contains_iff_mem,decide_eq_true_eq] at h1
    obtain ⟨he,hpos⟩:=h1
    rcases DataW.trod_slice hu h with ⟨rfl,_⟩ | ⟨a,len,cap,elems,rest,n',hn',rfl,_,_,hl,hm,hel,hi,_⟩
    · exact ⟨_,.sl hu (Nat.zero_le _) (fun r hr=>by cases hr),.cons (PJ _) .nil,fun c hc=>by simp at hc; subst hc; rfl⟩
    · obtain rfl:n=n':=by omega
      have hall:∀ i,i < len->∃ x:List C,Fit P e x/\x.length=P.cellsOf e/\(∀ j c,x[j]? = some c->∃ v,W.cell? ((a.add (i * P.cellsOf e)).add j)=some v/\c.fv (kB W) v/\c.shut=true):=fun i hil=>by
       have h1:=hi i hil
       rw [aU (by omega)] at h1
       obtain ⟨cs',h2,h3⟩:=Option.bind_eq_some_iff.1 h1
       obtain ⟨x,h4,h5,h6⟩:=oW hok n e cs' _ he h3
       obtain ⟨_,h7,h8⟩:=World.cells?_some h2
       refine ⟨x,h4,h5.1.trans h7,fun j c hj=>?_⟩
       obtain ⟨v,h9,h10⟩:=h5.get hj
       have hjl:j < P.cellsOf e:=by rw [<-h7,<-h5.1]; exact (a6.1 hj).1
       refine ⟨v,?_,h10,h6 c (bM hj)⟩
       have:=h8 j hjl
       rwa [h9] at this
      by_cases h0:len=0
      · subst h0
        refine ⟨[.fz []],.sl hu (Nat.zero_le _) (fun r hr=>by cases hr),.cons ?_ .nil,fun c hc=>by simp at hc; subst hc; rfl⟩
        exact xW (b:=0) (off:=0) (fun h=>absurd rfl h) hpos (fun _=>[]) (fun i hi=>by omega) (Nat.zero_le _) (fun i hi=>by omega)
      · obtain ⟨x0,_,hx0l,hx0⟩:=hall 0 (by omega)
        have hsp:a.spot=none:=by
         have hx:∃ c,x0[0]? = some c:=⟨_,aU (by omega)⟩
         obtain ⟨c,hc⟩:=hx
         obtain ⟨v,hv,_⟩:=hx0 0 c hc
         unfold World.cell? at hv
         split at hv
         · split at hv
           · cases hv
           · rename_i hs; simpa [Addr.add] using hs
         · cases hv
        obtain ⟨b,off,spot⟩:=a
        obtain rfl:spot=none:=hsp
        haveI:Inhabited (List C):=⟨[]⟩
        obtain ⟨X,hX⟩:=Go.Deep.choose_lt hall
        refine ⟨[.fz ((List.range len).map X)],.sl hu (by simp; omega) (fun r hr=>?_),.cons ?_ .nil,fun c hc=>by simp at hc; subst hc; rfl⟩
        · obtain ⟨i,hi,rfl⟩:=List.mem_map.1 hr
          exact (hX i (List.mem_range.1 hi)).1
        · exact xW (fun _=>rfl) hpos X (fun i hi=>(hX i hi).2.1) hl (fun i hi j c hj=>by
           obtain ⟨v,h2,h3⟩:=(hX i hi).2.2 j c hj
           exact ⟨v,by simpa [Go.WideShapes.add_plain,Nat.add_assoc] using h2,h3⟩)
  · rename_i fs hu
    simp only [Bool.and_eq_true,List.all_eq_true,List.contains_iff_mem,beq_iff_eq] at h1
    obtain ⟨hft,hof⟩:=h1
    obtain ⟨ys,n',hn,_,hcl,hyl,hf⟩:=DataW.trod_struct hu h
    obtain rfl:n=n':=by omega
    obtain ⟨parts,k1,k2,k3⟩:=TD (P:=P) (R:=fun c v=>C.fv (kB W) c v/\c.shut=true) (Q:=fun f p=>Fit P f.type p) (cs:=cs) fs.toList 0 (by rw [hcl]; exact hof) (fun i f hfi=>by
     have hfi':fs[i]? = some f:=by simpa using hfi
     have h2:=hf i f hfi'
     have hil:i < fs.size:=(Array.getElem?_eq_some_iff.1 hfi').1
     rw [aU (by omega)] at h2
     obtain ⟨x,h4,h5,h6⟩:=oW hok n f.type _ _ (hft f (bM hfi)) h2
     exact ⟨x,h4,⟨h5.1,fun j c v hc hv=>⟨h5.2 j c v hc hv,h6 c (bM hc)⟩⟩⟩)
    refine ⟨parts.flatten,.st hu (by simpa using k1) (fun i f p hfi hp=>k2 i f p (by simpa using hfi) hp),?_,fun c hc=>?_⟩
    · simpa using k3.imp (fun _ _ h=>h.1)
    · obtain ⟨j,hj⟩:=List.mem_iff_getElem?.1 hc
      obtain ⟨v,_,_,h3⟩:=k3.get hj
      exact h3
  · cases h1
theorem z7 (hok:AM P ts=true) {t:TypeId} {v:Value} {d:DataW H} {ps:List MemPlace} (ht:t ∈ ts) (h:DataW.Trod enc P W 0 (fun _=>true) true t v d ps):∃ xs,Fit P t xs/\All2 (C.fv (kB W)) xs v.cells.toList/\∀ c ∈ xs,c.shut=true:=by
 obtain ⟨n,h⟩:=h
 exact oW hok n t _ _ ht h
theorem II {cs:List C} {vs:Array Value} (h:All2 (C.fv (kB W)) cs (Value.agg vs).cells.toList) (hs:∀ c ∈ cs,c.shut=true):(S.va (.gs cs)).rel (gm []) (kB W) (.agg vs):=
 ⟨vs.toList,by simp,⟨by simpa [Value.cells] using h.1,fun i c v hc hv=>(C.rel_shut (hs c (bM hc))).2 (h.2 i c v hc (by simpa [Value.cells] using hv))⟩⟩
end
end Go.W
namespace Go.Proofs.YtkpohmhenegkiaaGreatDoor
open Go.W
theorem v3:Tryz.prog.underlying 3=some (.int .i64):=by kernel_rfl
theorem v4:Tryz.prog.underlying 4=some .bool:=by kernel_rfl
theorem v9:Tryz.prog.underlying 9=some .string:=by kernel_rfl
theorem v22:Tryz.prog.underlying 22=some (.slice 92):=by kernel_rfl
theorem v23:Tryz.prog.underlying 23=some (.slice 95):=by kernel_rfl
theorem v30:Tryz.prog.underlying 93=some (.slice 97):=by kernel_rfl
theorem v35:Tryz.prog.underlying 89=some (.slice 9):=by kernel_rfl
theorem QR:Tryz.prog.underlying 26=some (.slice 28):=by kernel_rfl
theorem v45:Tryz.prog.underlying 90=some (.slice 3):=by kernel_rfl
theorem RK:Tryz.prog.underlying 28=some (.struct #[⟨"Kind",3,0,false,"","",0⟩,⟨"Size",3,1,false,"","",8⟩,⟨"Name",9,2,false,"","",16⟩,⟨"Elem",26,3,false,"","",32⟩]):=by kernel_rfl
theorem v53:Tryz.prog.underlying 97=some (.struct #[⟨"Number",3,0,false,"","",0⟩,⟨"Name",9,1,false,"","",8⟩,⟨"Type",28,2,false,"","",24⟩,⟨"Optional",4,6,false,"","",80⟩]):=by kernel_rfl
theorem v32:Tryz.prog.underlying 95=some (.struct #[⟨"Name",9,0,false,"","",0⟩,⟨"Fields",93,1,false,"","",16⟩]):=by kernel_rfl
theorem v47:Tryz.prog.underlying 92=some (.struct #[⟨"Name",9,0,false,"","",0⟩,⟨"Names",89,1,false,"","",16⟩,⟨"Numbers",90,2,false,"","",40⟩]):=by kernel_rfl
theorem v25:Tryz.prog.underlying 25=some (.struct #[⟨"Version",3,0,false,"","",0⟩,⟨"Enums",22,1,false,"","",8⟩,⟨"Structs",23,2,false,"","",32⟩]):=by kernel_rfl
theorem j9 {α:Type} {row:α->List C} {Q:α->Prop} {ys:List (List C)} (h:∀ r ∈ ys,∃ a,r=row a/\Q a):∃ l:List α,ys=l.map row/\∀ a ∈ l,Q a:=by
 induction ys with
 | nil=>exact ⟨[],rfl,fun a h=>by cases h⟩
 | cons r ys ih=>
  obtain ⟨l,h1,h2⟩:=ih fun r hr=>h r (List.mem_cons_of_mem _ hr)
  obtain ⟨a,h3,h4⟩:=h r List.mem_cons_self
  refine ⟨a :: l,by rw [h1,h3]; rfl,fun x hx=>?_⟩
  rcases List.mem_cons.1 hx with rfl | hx
  · exact h4
  · exact h2 x hx
theorem rS {n:Int} (h:(Lit.int .i64 n).wf=true):b5 n:=by simpa [b5,Lit.wf,IntKind.min,IntKind.max,IntKind.signed,IntKind.bits] using h
theorem l6 {n:Nat} (h:n<=maxLen):n<=9223372036854775807:=by unfold maxLen at h; exact h
theorem aOD:∀ {t:TypeId} {cs:List C},Fit Tryz.prog t cs->(t=28->∃ a,cs=aL a/\TyOk a)/\(t=26->∃ l:List Ty,cs=[.fz (l.map aL)]/\l.length<=9223372036854775807/\∀ a ∈ l,TyOk a):=by
 intro t cs h
 induction h with
 | int h1 _=>exact ⟨fun e=>(by rw [e,RK] at h1; cases h1),fun e=>(by rw [e,QR] at h1; cases h1)⟩
 | bool h1=>exact ⟨fun e=>(by rw [e,RK] at h1; cases h1),fun e=>(by rw [e,QR] at h1; cases h1)⟩
 | str h1 _=>exact ⟨fun e=>(by rw [e,RK] at h1; cases h1),fun e=>(by rw [e,QR] at h1; cases h1)⟩
 | @sl t e xs h1 h2 h3 ih=>
  refine ⟨fun e=>(by rw [e,RK] at h1; cases h1),fun e=>?_⟩
  subst e
  rw [QR] at h1
  cases h1
  obtain ⟨l,rfl,hl⟩:=j9 (row:=aL) (Q:=TyOk) fun r hr=>(ih r hr).1 rfl
  exact ⟨l,rfl,by have:=l6 h2; simpa using this,hl⟩
 | @st t fs parts h1 h2 h3 ih=>
  refine ⟨fun e=>?_,fun e=>(by rw [e,QR] at h1; cases h1)⟩
  subst e
  rw [RK] at h1
  cases h1
  match parts,h2 with
  | [p0,p1,p2,p3],_=>
   obtain ⟨k,rfl,hk⟩:=Fit.inv_int v3 (h3 0 _ p0 rfl rfl)
   obtain ⟨s,rfl,hs⟩:=Fit.inv_int v3 (h3 1 _ p1 rfl rfl)
   obtain ⟨n,rfl,hn⟩:=Fit.inv_str v9 (h3 2 _ p2 rfl rfl)
   obtain ⟨l,rfl,hl,ho⟩:=(ih 3 _ p3 rfl rfl).2 rfl
   exact ⟨.mk k s n l,by rw [aL,aT]; rfl,.mk (rS hk) (rS hs) (l6 hn) hl ho⟩
theorem Y3 {cs:List C} (h:Fit Tryz.prog 28 cs):∃ a,cs=aL a/\TyOk a:=(aOD h).1 rfl
theorem aIT {cs:List C} (h:Fit Tryz.prog 97 cs):∃ a:Fl,cs=aW a/\a.ok:=by
 obtain ⟨parts,rfl,h2,h3⟩:=Fit.inv_st v53 h
 match parts,h2 with
 | [p0,p1,p2,p3],_=>
  obtain ⟨k,rfl,hk⟩:=Fit.inv_int v3 (h3 0 _ p0 rfl rfl)
  obtain ⟨n,rfl,hn⟩:=Fit.inv_str v9 (h3 1 _ p1 rfl rfl)
  obtain ⟨t,rfl,ht⟩:=Y3 (h3 2 _ p2 rfl rfl)
  obtain ⟨b,rfl⟩:=Fit.inv_bool v4 (h3 3 _ p3 rfl rfl)
  exact ⟨⟨k,n,t,b⟩,by rw [aM]; rfl,rS hk,l6 hn,ht⟩
theorem aH1 {cs:List C} (h:Fit Tryz.prog 95 cs):∃ a:St,cs=aP a/\a.ok:=by
 obtain ⟨parts,rfl,h2,h3⟩:=Fit.inv_st v32 h
 match parts,h2 with
 | [p0,p1],_=>
  obtain ⟨n,rfl,hn⟩:=Fit.inv_str v9 (h3 0 _ p0 rfl rfl)
  obtain ⟨ys,rfl,hl,hy⟩:=Fit.inv_sl v30 (h3 1 _ p1 rfl rfl)
  obtain ⟨l,rfl,ho⟩:=j9 (row:=aW) (Q:=Fl.ok) fun r hr=>aIT (hy r hr)
  exact ⟨⟨n,l⟩,rfl,l6 hn,by have:=l6 hl; simpa using this,ho⟩
theorem aG3 {cs:List C} (h:Fit Tryz.prog 92 cs):∃ a:En,cs=bI a/\a.ok:=by
 obtain ⟨parts,rfl,h2,h3⟩:=Fit.inv_st v47 h
 match parts,h2 with
 | [p0,p1,p2],_=>
  obtain ⟨n,rfl,hn⟩:=Fit.inv_str v9 (h3 0 _ p0 rfl rfl)
  obtain ⟨ys,rfl,hl,hy⟩:=Fit.inv_sl v35 (h3 1 _ p1 rfl rfl)
  obtain ⟨zs,rfl,hl2,hz⟩:=Fit.inv_sl v45 (h3 2 _ p2 rfl rfl)
  obtain ⟨l,rfl,ho⟩:=j9 (row:=bL) (Q:=fun b=>b.size<=9223372036854775807) fun r hr=>by
   obtain ⟨s,rfl,hs⟩:=Fit.inv_str v9 (hy r hr); exact ⟨s,rfl,l6 hs⟩
  obtain ⟨m,rfl,hm⟩:=j9 (row:=cL) (Q:=b5) fun r hr=>by
   obtain ⟨s,rfl,hs⟩:=Fit.inv_int v3 (hz r hr); exact ⟨s,rfl,rS hs⟩
  exact ⟨⟨n,l,m⟩,rfl,l6 hn,by have:=l6 hl; simpa using this,by have:=l6 hl2; simpa using this,ho,hm⟩
theorem aI0 (cs:List C) (h:Fit Tryz.prog 25 cs):∃ a:Sc,cs=aC a/\a.ok:=by
 obtain ⟨parts,rfl,h2,h3⟩:=Fit.inv_st v25 h
 match parts,h2 with
 | [p0,p1,p2],_=>
  obtain ⟨n,rfl,hn⟩:=Fit.inv_int v3 (h3 0 _ p0 rfl rfl)
  obtain ⟨ys,rfl,hl,hy⟩:=Fit.inv_sl v22 (h3 1 _ p1 rfl rfl)
  obtain ⟨zs,rfl,hl2,hz⟩:=Fit.inv_sl v23 (h3 2 _ p2 rfl rfl)
  obtain ⟨l,rfl,ho⟩:=j9 (row:=bI) (Q:=En.ok) fun r hr=>aG3 (hy r hr)
  obtain ⟨m,rfl,hm⟩:=j9 (row:=aP) (Q:=St.ok) fun r hr=>aH1 (hz r hr)
  exact ⟨⟨n,l,m⟩,rfl,rS hn,by have:=l6 hl; simpa using this,by have:=l6 hl2; simpa using this,ho,hm⟩
theorem aBY (cs:List C) (h:Fit Tryz.prog 28 cs):∃ a,cs=aL a/\TyOk a:=Y3 h
end Go.Proofs.YtkpohmhenegkiaaGreatDoor
namespace Go.W
inductive FitW (P:Program):TypeId->List C->Prop
 | int {t:TypeId} {k:IntKind} {n:Int}:P.underlying t=some (.int k)->(Lit.int k n).wf=true->FitW P t [.vl (.int k n)]
 | bool {t:TypeId} {b:Bool}:P.underlying t=some .bool->FitW P t [.vl (.bool b)]
 | str {t:TypeId} {s:ByteArray}:P.underlying t=some .string->s.size<=maxLen->FitW P t [.vl (.string s)]
 | sl {t e:TypeId} {xs:List (List C)}:P.underlying t=some (.slice e)->xs.length<=maxLen->xs.length * P.bytesOf e<=reachBytes->(∀ r ∈ xs,FitW P e r)->FitW P t [.fz xs]
 | st {t:TypeId} {fs:Array Field} {parts:List (List C)}:P.underlying t=some (.struct fs)->parts.length=fs.size->(∀ (i:Nat) (f:Field) (p:List C),fs[i]? = some f->parts[i]? = some p->FitW P f.type p)->FitW P t parts.flatten
theorem FitW.fit {P:Program} {t:TypeId} {xs:List C} (h:FitW P t xs):Fit P t xs:=by
 induction h with
 | int h1 h2=>exact .int h1 h2
 | bool h1=>exact .bool h1
 | str h1 h2=>exact .str h1 h2
 | sl h1 h2 _ _ ih=>exact .sl h1 h2 ih
 | st h1 h2 _ ih=>exact .st h1 h2 ih
section
variable {P:Program} {t e:TypeId} {xs:List C}
theorem FitW.inv_sl (ht:P.underlying t=some (.slice e)) (h:FitW P t xs):∃ ys:List (List C),xs=[.fz ys]/\ys.length<=maxLen/\ys.length * P.bytesOf e<=reachBytes/\∀ r ∈ ys,FitW P e r:=by
 cases h with
 | int h1 h2=>rw [ht] at h1; cases h1
 | bool h1=>rw [ht] at h1; cases h1
 | str h1=>rw [ht] at h1; cases h1
 | sl h1 h2 h3 h4=>rw [ht] at h1; cases h1; exact ⟨_,rfl,h2,h3,h4⟩
 | st h1 h2 h3=>rw [ht] at h1; cases h1
theorem FitW.inv_st {fs:Array Field} (ht:P.underlying t=some (.struct fs)) (h:FitW P t xs):∃ parts:List (List C),xs=parts.flatten/\parts.length=fs.size/\∀ (i:Nat) (f:Field) (p:List C),fs[i]? = some f->parts[i]? = some p->FitW P f.type p:=by
 cases h with
 | int h1 h2=>rw [ht] at h1; cases h1
 | bool h1=>rw [ht] at h1; cases h1
 | str h1=>rw [ht] at h1; cases h1
 | sl h1=>rw [ht] at h1; cases h1
 | st h1 h2 h3=>rw [ht] at h1; cases h1; exact ⟨_,rfl,h2,h3⟩
end
section
variable {H:Type} {enc:TypeId × Value->H} {P:Program} {W:World} {ts:List TypeId}
theorem vN {e:TypeId}:∀ {l:List (DataW H)} {d:DataW H} {m:Nat},d ∈ l->m ∈ d.weights P e->m ∈ DataW.weightsAll P e l
 | x :: l,d,m,h,hm=>by
  rw [DataW.weightsAll,List.mem_append]
  rcases List.mem_cons.1 h with rfl | h
  · exact .inl hm
  · exact .inr (vN h hm)
theorem nV:∀ {ts:List TypeId} {l:List (DataW H)} {i:Nat} {t:TypeId} {d:DataW H} {m:Nat},ts[i]? = some t->l[i]? = some d->m ∈ d.weights P t->m ∈ DataW.weightsEach P ts l
 | [],_,i,t,d,m,h,_,_=>by simp at h
 | _ :: _,[],i,t,d,m,_,h,_=>by simp at h
 | u :: ts,x :: l,0,t,d,m,h1,h2,hm=>by
  simp at h1 h2
  subst h1 h2
  rw [DataW.weightsEach,List.mem_append]; exact .inl hm
 | u :: ts,x :: l,i + 1,t,d,m,h1,h2,hm=>by
  rw [DataW.weightsEach,List.mem_append]
  exact .inr (nV (i:=i) (by simpa using h1) (by simpa using h2) hm)
theorem nK (hok:AM P ts=true):∀ (n:Nat) (t:TypeId) (cs:List Value) (y:DataW H × List MemPlace),t ∈ ts->DataW.trod enc P W 0 (fun _=>true) true n t cs=some y->(∀ m ∈ y.1.weights P t,m<=reachBytes)->
 ∃ xs,FitW P t xs/\All2 (C.fv (kB W)) xs cs/\∀ c ∈ xs,c.shut=true
 | 0,t,cs,y,_,h,_=>by simp [DataW.trod] at h
 | n + 1,t,cs,y,ht,h,hw0=>by
  have h1:=List.all_eq_true.1 hok t ht
  split at h1
  · rename_i k hu
    obtain ⟨m,rfl,_,hw⟩:=DataW.trod_int hu h
    exact ⟨_,.int hu hw,.cons rfl .nil,fun c hc=>by simp at hc; subst hc; rfl⟩
  · rename_i hu
    obtain ⟨b,rfl,_⟩:=DataW.trod_bool hu h
    exact ⟨_,.bool hu,.cons rfl .nil,fun c hc=>by simp at hc; subst hc; rfl⟩
  · rename_i hu
    obtain ⟨s,rfl,_,hs⟩:=DataW.trod_string hu h
    exact ⟨_,.str hu hs,.cons rfl .nil,fun c hc=>by simp at hc; subst hc; rfl⟩
  · rename_i e hu
    simp only [Bool.and_eq_true,List.contains_iff_mem,decide_eq_true_eq] at h1
    obtain ⟨he,hpos⟩:=h1
    rcases DataW.trod_slice hu h with ⟨rfl,_⟩ | ⟨a,len,cap,elems,rest,n',hn',rfl,hy,_,hl,hm,hel,hi,_⟩
    · exact ⟨_,.sl hu (Nat.zero_le _) (by simp) (fun r hr=>by cases hr),.cons (PJ _) .nil,fun c hc=>by simp at hc; subst hc; rfl⟩
    · obtain rfl:n=n':=by omega
      subst hy
      rw [show DataW.weights P t (DataW.slice (elems.map (·.1)) (rest.map (·.1)))=((elems.map (·.1)).length + (rest.map (·.1)).length) * P.bytesOf e :: (DataW.weightsAll P e (elems.map (·.1)) ++ DataW.weightsAll P e (rest.map (·.1))) from by simp [DataW.weights,hu]] at hw0
      have hwl:len * P.bytesOf e<=reachBytes:=by
       have h1:=hw0 _ (List.mem_cons_self)
       rw [List.length_map,List.length_map,hel] at h1
       exact Nat.le_trans (Nat.mul_le_mul_right _ (Nat.le_add_right _ _)) h1
      have hall:∀ i,i < len->∃ x:List C,FitW P e x/\x.length=P.cellsOf e/\(∀ j c,x[j]? = some c->∃ v,W.cell? ((a.add (i * P.cellsOf e)).add j)=some v/\c.fv (kB W) v/\c.shut=true):=fun i hil=>by
       have h1:=hi i hil
       rw [aU (by omega)] at h1
       obtain ⟨cs',h2,h3⟩:=Option.bind_eq_some_iff.1 h1
       obtain ⟨x,h4,h5,h6⟩:=nK hok n e cs' _ he h3 (fun m hm=>hw0 m (List.mem_cons_of_mem _ (List.mem_append_left _ (vN (List.mem_map_of_mem (List.getElem_mem _)) hm))))
       obtain ⟨_,h7,h8⟩:=World.cells?_some h2
       refine ⟨x,h4,h5.1.trans h7,fun j c hj=>?_⟩
       obtain ⟨v,h9,h10⟩:=h5.get hj
       have hjl:j < P.cellsOf e:=by rw [<-h7,<-h5.1]; exact (a6.1 hj).1
       refine ⟨v,?_,h10,h6 c (bM hj)⟩
       have:=h8 j hjl
       rwa [h9] at this
      by_cases h0:len=0
      · subst h0
        refine ⟨[.fz []],.sl hu (Nat.zero_le _) (by simp) (fun r hr=>by cases hr),.cons ?_ .nil,fun c hc=>by simp at hc; subst hc; rfl⟩
        exact xW (b:=0) (off:=0) (fun h=>absurd rfl h) hpos (fun _=>[]) (fun i hi=>by omega) (Nat.zero_le _) (fun i hi=>by omega)
      · obtain ⟨x0,_,hx0l,hx0⟩:=hall 0 (by omega)
        have hsp:a.spot=none:=by
         have hx:∃ c,x0[0]? = some c:=⟨_,aU (by omega)⟩
         obtain ⟨c,hc⟩:=hx
         obtain ⟨v,hv,_⟩:=hx0 0 c hc
         unfold World.cell? at hv
         split at hv
         · split at hv
           · cases hv
           · rename_i hs; simpa [Addr.add] using hs
         · cases hv
        obtain ⟨b,off,spot⟩:=a
        obtain rfl:spot=none:=hsp
        haveI:Inhabited (List C):=⟨[]⟩
        obtain ⟨X,hX⟩:=Go.Deep.choose_lt hall
        refine ⟨[.fz ((List.range len).map X)],.sl hu (by simp; omega) (by simpa using hwl) (fun r hr=>?_),.cons ?_ .nil,fun c hc=>by simp at hc; subst hc; rfl⟩
        · obtain ⟨i,hi,rfl⟩:=List.mem_map.1 hr
          exact (hX i (List.mem_range.1 hi)).1
        · exact xW (fun _=>rfl) hpos X (fun i hi=>(hX i hi).2.1) hl (fun i hi j c hj=>by
           obtain ⟨v,h2,h3⟩:=(hX i hi).2.2 j c hj
           exact ⟨v,by simpa [Go.WideShapes.add_plain,Nat.add_assoc] using h2,h3⟩)
  · rename_i fs hu
    simp only [Bool.and_eq_true,List.all_eq_true,List.contains_iff_mem,beq_iff_eq] at h1
    obtain ⟨hft,hof⟩:=h1
    obtain ⟨ys,n',hn,hy,hcl,hyl,hf⟩:=DataW.trod_struct hu h
    obtain rfl:n=n':=by omega
    subst hy
    rw [show DataW.weights P t (DataW.agg (ys.map (·.1)))=DataW.weightsEach P (fs.toList.map (·.type)) (ys.map (·.1)) from by simp [DataW.weights,hu]] at hw0
    obtain ⟨parts,k1,k2,k3⟩:=TD (P:=P) (R:=fun c v=>C.fv (kB W) c v/\c.shut=true) (Q:=fun f p=>FitW P f.type p) (cs:=cs) fs.toList 0 (by rw [hcl]; exact hof) (fun i f hfi=>by
     have hfi':fs[i]? = some f:=by simpa using hfi
     have h2:=hf i f hfi'
     have hil:i < fs.size:=(Array.getElem?_eq_some_iff.1 hfi').1
     rw [aU (by omega)] at h2
     obtain ⟨x,h4,h5,h6⟩:=nK hok n f.type _ _ (hft f (bM hfi)) h2 (fun m hm=>hw0 m (nV (i:=i) (by rw [List.getElem?_map,hfi]; rfl) (by rw [List.getElem?_map,aU (by omega)]; rfl) hm))
     exact ⟨x,h4,⟨h5.1,fun j c v hc hv=>⟨h5.2 j c v hc hv,h6 c (bM hc)⟩⟩⟩)
    refine ⟨parts.flatten,.st hu (by simpa using k1) (fun i f p hfi hp=>k2 i f p (by simpa using hfi) hp),?_,fun c hc=>?_⟩
    · simpa using k3.imp (fun _ _ h=>h.1)
    · obtain ⟨j,hj⟩:=List.mem_iff_getElem?.1 hc
      obtain ⟨v,_,_,h3⟩:=k3.get hj
      exact h3
  · cases h1
theorem JR (hok:AM P ts=true) {t:TypeId} {v:Value} {d:DataW H} {ps:List MemPlace} (ht:t ∈ ts) (h:DataW.Trod enc P W 0 (fun _=>true) true t v d ps) (hw:∀ m ∈ d.weights P t,m<=reachBytes):∃ xs,FitW P t xs/\All2 (C.fv (kB W)) xs v.cells.toList/\∀ c ∈ xs,c.shut=true:=by
 obtain ⟨n,h⟩:=h
 exact nK hok n t _ _ ht h hw
end
end Go.W
namespace Go.Proofs.YtkpohmhenegkiaaGreatDoor
open Go.W
theorem yV:Tryz.prog.underlying 32=some (.struct #[⟨"Kind",3,0,false,"","",0⟩,⟨"N",2,1,false,"","",8⟩,⟨"S",9,2,false,"","",16⟩,⟨"L",29,3,false,"","",32⟩,⟨"F",30,4,false,"","",56⟩]):=by kernel_rfl
theorem yE:Tryz.prog.underlying 57=some (.struct #[⟨"Number",3,0,false,"","",0⟩,⟨"Value",32,1,false,"","",8⟩]):=by kernel_rfl
theorem PN:Tryz.prog.underlying 29=some (.slice 32):=by kernel_rfl
theorem P4:Tryz.prog.underlying 30=some (.slice 57):=by kernel_rfl
theorem yI:Tryz.prog.underlying 2=some (.int .i64):=by kernel_rfl
theorem bV:Tryz.prog.bytesOf 32=80:=by kernel_rfl
theorem bE:Tryz.prog.bytesOf 57=88:=by kernel_rfl
theorem aNW:∀ {t:TypeId} {cs:List C},FitW Tryz.prog t cs->(t=32->∃ a,cs=a8 a/\VlOk a)/\(t=29->∃ l:List Vl,cs=[.fz (l.map a8)]/\l.length * 80<=140737488355328/\∀ a ∈ l,VlOk a)/\
 (t=57->∃ x:Int × Vl,cs=bW x/\(b5 x.1/\VlOk x.2))/\(t=30->∃ l:List (Int × Vl),cs=[.fz (l.map bW)]/\l.length * 88<=140737488355328/\∀ x ∈ l,b5 x.1/\VlOk x.2):=by
 intro t cs h
 induction h with
 | int h1 _=>exact ⟨fun e=>(by rw [e,yV] at h1; cases h1),fun e=>(by rw [e,PN] at h1; cases h1),fun e=>(by rw [e,yE] at h1; cases h1),fun e=>(by rw [e,P4] at h1; cases h1)⟩
 | bool h1=>exact ⟨fun e=>(by rw [e,yV] at h1; cases h1),fun e=>(by rw [e,PN] at h1; cases h1),fun e=>(by rw [e,yE] at h1; cases h1),fun e=>(by rw [e,P4] at h1; cases h1)⟩
 | str h1 _=>exact ⟨fun e=>(by rw [e,yV] at h1; cases h1),fun e=>(by rw [e,PN] at h1; cases h1),fun e=>(by rw [e,yE] at h1; cases h1),fun e=>(by rw [e,P4] at h1; cases h1)⟩
 | @sl t e xs h1 h2 h3 h4 ih=>
  refine ⟨fun e=>(by rw [e,yV] at h1; cases h1),fun e=>?_,fun e=>(by rw [e,yE] at h1; cases h1),fun e=>?_⟩
  · subst e
    rw [PN] at h1
    cases h1
    obtain ⟨l,rfl,hl⟩:=j9 (row:=a8) (Q:=VlOk) fun r hr=>(ih r hr).1 rfl
    rw [bV] at h3
    exact ⟨l,rfl,by simp [reachBytes] at h3; omega,hl⟩
  · subst e
    rw [P4] at h1
    cases h1
    obtain ⟨l,rfl,hl⟩:=j9 (row:=bW) (Q:=fun x:Int × Vl=>b5 x.1/\VlOk x.2) fun r hr=>(ih r hr).2.2.1 rfl
    rw [bE] at h3
    exact ⟨l,rfl,by simp [reachBytes] at h3; omega,hl⟩
 | @st t fs parts h1 h2 h3 ih=>
  refine ⟨fun e=>?_,fun e=>(by rw [e,PN] at h1; cases h1),fun e=>?_,fun e=>(by rw [e,P4] at h1; cases h1)⟩
  · subst e
    rw [yV] at h1
    cases h1
    match parts,h2 with
    | [p0,p1,p2,p3,p4],_=>
     obtain ⟨k,rfl,hk⟩:=Fit.inv_int v3 (h3 0 _ p0 rfl rfl).fit
     obtain ⟨n,rfl,hn⟩:=Fit.inv_int yI (h3 1 _ p1 rfl rfl).fit
     obtain ⟨s,rfl,hs⟩:=Fit.inv_str v9 (h3 2 _ p2 rfl rfl).fit
     obtain ⟨l,rfl,hl,ho⟩:=(ih 3 _ p3 rfl rfl).2.1 rfl
     obtain ⟨f,rfl,hf,hp⟩:=(ih 4 _ p4 rfl rfl).2.2.2 rfl
     exact ⟨.mk k n s l f,by rw [a8,wG,v8]; rfl,.mk (rS hk) (rS hn) (l6 hs) hl hf ho (fun x hx=>(hp x hx).1) (fun x hx=>(hp x hx).2)⟩
  · subst e
    rw [yE] at h1
    cases h1
    match parts,h2 with
    | [p0,p1],_=>
     obtain ⟨k,rfl,hk⟩:=Fit.inv_int v3 (h3 0 _ p0 rfl rfl).fit
     obtain ⟨v,rfl,hv⟩:=(ih 1 _ p1 rfl rfl).1 rfl
     exact ⟨(k,v),by simp [bW],rS hk,hv⟩
theorem aHC (cs:List C) (h:FitW Tryz.prog 32 cs):∃ a,cs=a8 a/\VlOk a:=(aNW h).1 rfl
end Go.Proofs.YtkpohmhenegkiaaGreatDoor
