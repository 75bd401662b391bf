/- Lemmas and walks for the proof. -/
import Derived.Test.YthpbnmebjocbeaaGreatCd
import Derived.Test.YthpbnmebjocbeaaGreatProg
import Derived.Shelf.Small.Strs
set_option maxRecDepth 100000
set_option maxHeartbeats 8000000
namespace Go.Proofs.YthpbnmebjocbeaaGreat
open Go.W
structure Dg (s:Sc):Prop where
 ni:Nice s
 g:Gd s.ss s.es
 ac:BU s.ss
 d6:∀ u ∈ s.ss,dD s.ss u.nm<=6
 z:∀ e ∈ s.es,e.vs[0]? = some 0
theorem CV {s:Sc} (hf:s.fit) (h:bP s=0):Dg s:=by
 obtain ⟨c2,c3,c4,c5⟩:=qC h
 unfold kL at c5
 obtain ⟨d1,c5⟩:=eS c5 (by decide)
 obtain ⟨d2,c5⟩:=eS c5 (by decide)
 exact ⟨WW h,IM hf c2 c4,fun t ht=>jA d1 t ht,fun u hu=>by have:=of_decide_eq_false (jA d2 u hu); omega,fun e he=>ON h he⟩
abbrev hS (s:Sc) (t:Ty):Int:=cF (dD s.ss) t
theorem fJ (s:Sc) (t:Ty):0<=hS s t:=by
 unfold hS cF
 have:=LF s.ss (bO t).2.n
 cases (bO t).2.k == 6 with
 | true=>rw [bD]; omega
 | false=>rw [aV]; omega
theorem s7 {s:Sc} {t u:Ty} (h5:(t.k == 5)=true) (he:t.e=[u]):hS s t=hS s u + 1:=by
 obtain ⟨k,z,n,e⟩:=t
 have hk:k=5:=eq_of_beq h5
 have he:e=[u]:=he
 subst hk he
 unfold hS cF
 rw [bO,show ((5:Int) == 5)=true from rfl,bD,B0]
 simp only
 omega
theorem oA {s:Sc} {t:Ty} (h6:(t.k == 6)=true):hS s t=dD s.ss t.n:=by
 obtain ⟨k,z,n,e⟩:=t
 have hk:k=6:=eq_of_beq h6
 subst hk
 unfold hS cF
 rw [bO,show ((6:Int) == 5)=false from rfl,aV]
 show ((0:Nat):Int) + (bif (6:Int) == 6 then dD s.ss n else 0)=dD s.ss n
 simp
theorem va6 {s:Sc} {t:Ty} (h:valF s.ss s.es t=true) (h6:(t.k == 6)=true):∃ u,fS s.ss t.n=some u/\stOf s t=u/\u ∈ s.ss/\u.nm=t.n:=by
 have hh:cJ s.ss t.n=true:=by
  obtain ⟨k,z,n,e⟩:=t
  have hk:k=6:=eq_of_beq h6
  subst hk
  rw [valF] at h; simp at h; exact h.1.1
 rw [<-n9] at hh
 obtain ⟨u,hu⟩:=Option.isSome_iff_exists.1 hh
 exact ⟨u,hu,by unfold stOf; rw [hu]; rfl,(gO hu).1,(gO hu).2⟩
theorem va7 {s:Sc} {t:Ty} (h:valF s.ss s.es t=true) (h7:(t.k == 7)=true):enOf s t ∈ s.es:=by
 have hh:dE s.es t.n=true:=by
  obtain ⟨k,z,n,e⟩:=t
  have hk:k=7:=eq_of_beq h7
  subst hk
  rw [valF] at h; simp at h; exact h.1.1
 rw [<-oU] at hh
 obtain ⟨u,hu⟩:=Option.isSome_iff_exists.1 hh
 unfold enOf
 rw [hu]
 exact (A4 hu).1
theorem lW {s:Sc} (hd:Dg s) {t:Ty} (h:valF s.ss s.es t=true) (h6:(t.k == 6)=true):1<=dD s.ss t.n/\dD s.ss t.n<=6/\∀ f ∈ (stOf s t).fs,hS s f.ty + 1<=dD s.ss t.n:=by
 obtain ⟨u,h1,h2,h3,h4⟩:=va6 h h6
 have e:=KO hd.g hd.ac h1
 have h0:=kP (dD s.ss) u.fs
 refine ⟨by omega,by rw [<-h4]; exact hd.d6 u h3,fun f hf=>?_⟩
 rw [h2] at hf
 have:=JD (dp:=dD s.ss) hf
 show cF (dD s.ss) f.ty + 1<=_
 omega
theorem CT {ss:List St} {es:List En} {u:St} (hu:NSt ss es u):u.fs.Pairwise fun f g=>f.num < g.num:=by
 have key:∀ (l:List Fl),(∀ k f g,0 < k->l[k - 1]? = some g->l[k]? = some f->g.num < f.num)->l.Pairwise fun f g=>f.num < g.num:=by
  intro l
  induction l with
  | nil=>intro _; exact .nil
  | cons y l ih=>
   intro h
   have hl:=ih fun k f g hk h1 h2=>h (k + 1) f g (by omega) (by rw [show k + 1 - 1=k - 1 + 1 by omega]; simpa using h1) (by simpa using h2)
   refine List.pairwise_cons.2 ⟨fun f hf=>?_,hl⟩
   cases l with
   | nil=>cases hf
   | cons z l=>
    have h1:=h 1 z y (by omega) rfl rfl
    rcases List.mem_cons.1 hf with rfl | hf
    · exact h1
    · exact Int.lt_trans h1 ((List.pairwise_cons.1 hl).1 f hf)
 exact key u.fs hu.a
theorem pL:∀ {fs:List Fl} {f:Fl},fs.Pairwise (fun f g=>f.num < g.num)->f ∈ fs->fF fs f.num=some f
 | y :: l,f,hp,hf=>by
  obtain ⟨h1,h2⟩:=List.pairwise_cons.1 hp
  show List.find? _ _=_
  rw [List.find?_cons]
  rcases List.mem_cons.1 hf with rfl | hf
  · simp
  · have:=h1 f hf
    have e:decide (y.num=f.num)=false:=by simp; omega
    rw [e]
    exact pL h2 hf
theorem LC {fs:List Fl}:∀ (L:List (Int × Vl)) (p:Option Int),(∀ x ∈ L,(fF fs x.1).isSome=true)->L.Pairwise (fun x y=>x.1 < y.1)->(∀ q,p=some q->∀ x ∈ L,q < x.1)->ftA fs p L=true
 | [],_,_,_,_=>by rw [y6]
 | x :: L,p,h1,h2,h3=>by
  obtain ⟨h4,h5⟩:=List.pairwise_cons.1 h2
  rw [mH,h1 x (List.mem_cons_self ..),LC L (some x.1) (fun y hy=>h1 y (List.mem_cons_of_mem _ hy)) h5 fun q hq y hy=>by cases hq; exact h4 y hy]
  cases p with
  | none=>rfl
  | some q=>
   have:=h3 q rfl x (List.mem_cons_self ..)
   show (true && decide (q < x.1) && true)=true
   rw [decide_eq_true this]; rfl
theorem yJ {s:Sc} {fs:List Fl}:∀ (L:List (Int × Vl)),(∀ x ∈ L,cH s ((fF fs x.1).getD default).ty x.2=0)->hY s fs L=0
 | [],_=>by rw [hY]
 | x :: L,h=>by
  rw [uI,h x (List.mem_cons_self ..)]
  exact yJ L fun y hy=>h y (List.mem_cons_of_mem _ hy)
theorem EC {B:Int}:∀ (L:List (Int × Vl)) (d:Int),d<=B->(∀ x ∈ L,bT x.2<=B)->eE d L<=B
 | [],d,h,_=>by rw [eE]; exact h
 | (i,v) :: L,d,h,hx=>by
  rw [eE]
  have:=hx (i,v) (List.mem_cons_self ..)
  exact EC L _ (by simp only at this; omega) fun y hy=>hx y (List.mem_cons_of_mem _ hy)
def zl (s:Sc) (t:Ty):Int:=bif t.k == 6 then dD s.ss t.n else bif t.k == 5 then 1 else 0
theorem SH {s:Sc} {t:Ty} (hv:valF s.ss s.es t=true):zl s t<=hS s t:=by
 unfold zl
 have h0:=fJ s t
 cases h6:t.k == 6 with
 | true=>rw [oA h6]; exact Int.le_refl _
 | false=>
  cases h5:t.k == 5 with
  | true=>
   obtain ⟨u,he,_⟩:=rR hv h5
   have:=s7 (s:=s) h5 he
   have:=fJ s u
   rw [aV,bD]; omega
  | false=>exact h0
theorem GL (n:Nat):(0:Int) < 2 ^ n:=Int.pow_pos (by decide)
theorem O2 {s:Sc} {t:Ty} (h:valF s.ss s.es t=true) (hk:(t.k == 4)=true\/(t.k == 5)=true):1<=t.s:=by
 obtain ⟨k,z,n,e⟩:=t
 show 1<=z
 rcases hk with hk | hk
 · have hk:k=4:=eq_of_beq hk
   subst hk
   rw [valF.eq_def] at h
   simp at h
   omega
 · have hk:k=5:=eq_of_beq hk
   subst hk
   rw [valF.eq_def] at h
   simp at h
   omega
theorem HH {s:Sc} (hd:Dg s) (n:Nat) {t:Ty} (hv:valF s.ss s.es t=true) (h6:(t.k == 6)=false):cH s t (zF s (n + 1) t)=0/\bT (zF s (n + 1) t)<=zl s t:=by
 have e:zF s (n + 1) t=.mk t.k 0 (mk []) [] []:=by rw [n6,hv,h6]; rfl
 rw [e]
 constructor
 · rw [kU,hv]
   show (bif !true || t.k != t.k then (13:Int) else _)=0
   rw [bne_self_eq_false,Bool.not_true,Bool.or_false,aV]
   cases h4:t.k == 4 with
   | true=>
    have:=O2 hv (.inl h4)
    have d:decide (t.s < (((bl (mk [])).length:Nat):Int))=false:=by rw [iM]; simp; omega
    show iI t 0 (mk []) (([]:List Vl).length:Int) (([]:List (Int × Vl)).length:Int)=0
    unfold iI
    rw [d]; rfl
   | false=>
   rw [aV]
   cases h5:t.k == 5 with
   | true=>
    have:=O2 hv (.inr h5)
    have d:decide (t.s < ((([]:List Vl).length:Nat):Int))=false:=by simp; omega
    show (bif decide (t.s < ((([]:List Vl).length:Nat):Int)) then (3:Int) else f7 s (t.e.headD default) [])=0
    rw [d,f7]; rfl
   | false=>
   rw [aV,h6,aV]
   show jM s t 0 (mk []) ((0:Nat):Int) ((0:Nat):Int)=0
   unfold jM
   have hr:fA s t 0=true:=by
    unfold fA
    rcases sP hv with h | h | h | h | h | h | h
    · rw [h]; rfl
    · rw [bK h (b:=1) (by decide),h,aV,bD]
      have:=GL (t.s.toNat - 1)
      rw [decide_eq_true (show -(2 ^ (t.s.toNat - 1):Int)<=0 by omega),decide_eq_true this,Bool.and_true,Bool.or_true]
    · rw [bK h (b:=1) (by decide),bK h (b:=2) (by decide),h,aV,aV,bD]
      have:=GL t.s.toNat
      rw [decide_eq_true this]; rfl
    · rw [h4] at h; cases h
    · rw [h5] at h; cases h
    · rw [h6] at h; cases h
    · rw [bK h (b:=1) (by decide),bK h (b:=2) (by decide),bK h (b:=3) (by decide),h]
      have hm:=hd.z _ (va7 hv h)
      show (enOf s t).vs.any (fun x=>x == 0)=true
      rw [List.any_eq_true]
      exact ⟨0,cC hm,rfl⟩
   rw [hr,iM]; rfl
 · rw [lA]
   unfold zl
   rw [h6,aV]
   cases h5:t.k == 5 with
   | true=>
    have hs:jO (.mk t.k 0 (mk []) [] [])=false:=by
     show (t.k != 5 && t.k != 6 && _ && _)=false
     rw [bne,h5]; rfl
    rw [hs]
    show 1 + eE (cX 0 []) []<=1
    rw [cX,eE]; decide
   | false=>
    have hs:jO (.mk t.k 0 (mk []) [] [])=true:=by
     show (t.k != 5 && t.k != 6 && _ && _)=true
     rw [bne,bne,h5,h6]; rfl
    rw [hs]; exact Int.le_refl _
theorem aHZ {s:Sc} (hd:Dg s):∀ (n:Nat) (t:Ty),valF s.ss s.es t=true->((t.k == 6)=true->dD s.ss t.n<=n)->cH s t (zF s (n + 1) t)=0/\bT (zF s (n + 1) t)<=zl s t:=by
 intro n
 induction n with
 | zero=>
  intro t hv h
  cases h6:t.k == 6 with
  | true=>have:=(lW hd hv h6).1; have:=h h6; omega
  | false=>exact HH hd 0 hv h6
 | succ n ih=>
  intro t hv h
  cases h6:t.k == 6 with
  | false=>exact HH hd (n + 1) hv h6
  | true=>
   have hdn:=h h6
   obtain ⟨h1,h2,h3⟩:=lW hd hv h6
   have hu:=hd.ni.stOf t
   have hpw:=CT hu
   have hk:t.k=6:=eq_of_beq h6
   have e:zF s (n + 1 + 1) t=.mk 6 0 (mk []) [] (zE s (n + 1) (stOf s t).fs):=by rw [n6,hv,h6]; rfl
   have hm:∀ x ∈ zE s (n + 1) (stOf s t).fs,∃ f ∈ (stOf s t).fs,x=(f.num,zF s (n + 1) f.ty):=fun x hx=>by
    unfold zE at hx
    obtain ⟨f,hf,rfl⟩:=List.mem_map.1 hx
    exact ⟨f,(List.mem_filter.1 hf).1,rfl⟩
   have hf:∀ f ∈ (stOf s t).fs,cH s f.ty (zF s (n + 1) f.ty)=0/\bT (zF s (n + 1) f.ty)<=dD s.ss t.n - 1:=fun f hf=>by
    have hvf:=hu.v f hf
    have h4:=h3 f hf
    have h5:=SH hvf
    obtain ⟨a,b⟩:=ih f.ty hvf fun h7=>by have:=oA (s:=s) h7; omega
    exact ⟨a,by omega⟩
   rw [e]
   constructor
   · rw [kU,hv]
     show (bif !true || (6:Int) != t.k then (13:Int) else _)=0
     rw [hk]
     show (bif !(bY (stOf s t).fs (zE s (n + 1) (stOf s t).fs)) then (13:Int) else hY s (stOf s t).fs (zE s (n + 1) (stOf s t).fs))=0
     have hfit:bY (stOf s t).fs (zE s (n + 1) (stOf s t).fs)=true:=by
      unfold bY
      rw [Bool.and_eq_true,List.all_eq_true]
      refine ⟨LC _ none (fun x hx=>?_) ?_ (fun q h=>by cases h),fun f hf=>?_⟩
      · obtain ⟨f,hf,rfl⟩:=hm x hx
        rw [pL hpw hf]; rfl
      · unfold zE
        rw [List.pairwise_map]
        exact hpw.filter _
      · cases ho:f.opt with
        | true=>rfl
        | false=>
         unfold iN
         rw [Bool.false_or,List.any_eq_true]
         refine ⟨(f.num,zF s (n + 1) f.ty),?_,by simp⟩
         unfold zE
         exact List.mem_map.2 ⟨f,List.mem_filter.2 ⟨hf,by rw [ho]; rfl⟩,rfl⟩
     rw [hfit,Bool.not_true,aV]
     refine yJ _ fun x hx=>?_
     obtain ⟨f,hfm,rfl⟩:=hm x hx
     rw [pL hpw hfm]
     exact (hf f hfm).1
   · rw [lA]
     unfold zl
     rw [h6,bD]
     show 1 + eE (cX 0 []) (zE s (n + 1) (stOf s t).fs)<=dD s.ss t.n
     rw [cX]
     have:=EC (B:=dD s.ss t.n - 1) (zE s (n + 1) (stOf s t).fs) 0 (by omega) fun x hx=>by
      obtain ⟨f,hfm,rfl⟩:=hm x hx
      exact (hf f hfm).2
     omega
mutual
def dG:Vl->Vl->Bool
 | .mk k n s l f,.mk k' n' s' l' f'=>k == k' && (n == n' && (bl s == bl s' && (fM l l' && eX f f')))
def fM:List Vl->List Vl->Bool
 | [],[]=>true
 | x :: a,y :: b=>dG x y && fM a b
 | [],_ :: _=>false
 | _ :: _,[]=>false
def eX:List (Int × Vl)->List (Int × Vl)->Bool
 | [],[]=>true
 | (i,x) :: a,(j,y) :: b=>i == j && (dG x y && eX a b)
 | [],_ :: _=>false
 | _ :: _,[]=>false
end
mutual
theorem sY:∀ {a b:Vl},dG a b=true ↔ a=b
 | .mk k n s l f,.mk k' n' s' l' f'=>by
  rw [dG]
  simp only [Bool.and_eq_true,beq_iff_eq,I9,ID,Vl.mk.injEq]
  exact ⟨fun ⟨h1,h2,h3,h4,h5⟩=>⟨h1,h2,jL h3,h4,h5⟩,fun ⟨h1,h2,h3,h4,h5⟩=>⟨h1,h2,by rw [h3],h4,h5⟩⟩
theorem I9:∀ {a b:List Vl},fM a b=true ↔ a=b
 | [],[]=>by rw [fM]; simp
 | [],_ :: _=>by rw [fM]; simp
 | _ :: _,[]=>by rw [fM]; simp
 | x :: a,y :: b=>by rw [fM,Bool.and_eq_true,sY,I9]; simp
theorem ID:∀ {a b:List (Int × Vl)},eX a b=true ↔ a=b
 | [],[]=>by rw [eX]; simp
 | [],_ :: _=>by rw [eX]; simp
 | (_,_) :: _,[]=>by rw [eX]; simp
 | (i,x) :: a,(j,y) :: b=>by rw [eX,Bool.and_eq_true,Bool.and_eq_true,sY,ID]; simp [and_assoc]
end
theorem pA (a:Vl):dG a a=true:=sY.2 rfl
theorem MC (a b:Vl):dG a b=(a.k == b.k && (a.n == b.n && (bl a.s == bl b.s && (fM a.l b.l && eX a.f b.f)))):=by
 cases a; cases b; rw [dG]; rfl
theorem GP (x y:Int × Vl) (a b:List (Int × Vl)):eX (x :: a) (y :: b)=(x.1 == y.1 && (dG x.2 y.2 && eX a b)):=by
 obtain ⟨i,x⟩:=x; obtain ⟨j,y⟩:=y; rw [eX]
def rD (R:Ty->Vl->List UInt8) (s:Sc) (f:List (Int × Vl)) (g:Fl):List UInt8:=
 bif !(bX f g.num).isSome || (!g.opt && dG (((bX f g.num).map (·.2)).getD default) (zF s 23 g.ty)) then [] else fW g.num ++ mS (R g.ty (((bX f g.num).map (·.2)).getD default))
def dY (R:Ty->Vl->List UInt8) (s:Sc) (fs:List Fl) (f:List (Int × Vl)):List UInt8:=fs.flatMap (rD R s f)
def iY (R:Ty->Vl->List UInt8) (t:Ty) (l:List Vl):List UInt8:=l.flatMap fun x=>mS (R t x)
def cA (s:Sc):Nat->Ty->Vl->List UInt8
 | 0,_,_=>[]
 | N + 1,t,v=>bif t.k == 1 || (t.k == 3 || t.k == 7) then fW v.n else bif t.k == 2 then vi (mY v.n) else bif t.k == 4 then bl v.s else bif t.k == 5 then fW v.l.length ++ iY (cA s N) (t.e.headD default) v.l else dY (cA s N) s (stOf s t).fs v.f
theorem d8 (s:Sc) (N:Nat) (t:Ty) (v:Vl):cA s (N + 1) t v=bif t.k == 1 || (t.k == 3 || t.k == 7) then fW v.n else bif t.k == 2 then vi (mY v.n) else bif t.k == 4 then bl v.s else bif t.k == 5 then fW v.l.length ++ iY (cA s N) (t.e.headD default) v.l else dY (cA s N) s (stOf s t).fs v.f:=rfl
theorem oQ {α:Type} {f:α->List UInt8} {B:Nat}:∀ {l:List α},(∀ x ∈ l,(f x).length<=B)->(l.flatMap f).length<=l.length * B
 | [],_=>Nat.zero_le _
 | x :: l,h=>by
  have h1:=h x (List.mem_cons_self ..)
  have h2:=oQ fun y hy=>h y (List.mem_cons_of_mem _ hy)
  rw [List.flatMap_cons,List.length_append,List.length_cons,Nat.add_mul,Nat.one_mul]; omega
theorem oE (l:List UInt8):(mS l).length<=10 + l.length:=by
 unfold mS; have:=kH l.length; rw [List.length_append]; omega
def eB (N:Nat):Nat:=4000 * 40 ^ N
theorem XQ (N:Nat):eB (N + 1)=40 * eB N:=by unfold eB; rw [Nat.pow_succ]; omega
theorem ZJ (N:Nat):4000<=eB N:=by unfold eB; have:0 < 40 ^ N:=Nat.pow_pos (by decide); omega
theorem kV {N:Nat} (h:N<=8):eB N<=27000000000000000:=by
 have:40 ^ N<=40 ^ 8:=Nat.pow_le_pow_right (by decide) h
 have h2:(40:Nat) ^ 8=6553600000000:=by decide
 unfold eB; omega
theorem oO {l:List (Int × Vl)} {k:Int} {x:Int × Vl} (h:bX l k=some x):x ∈ l/\x.1=k:=by
 unfold bX at h
 exact ⟨List.mem_of_find?_eq_some h,by have:=List.find?_some h; simpa using this⟩
theorem j7 {s:Sc} (hd:Dg s) {t:Ty} {g:Fl} (hg:g ∈ (stOf s t).fs):gQ (stOf s t) g.num=g:=by
 unfold gQ
 rw [pL (CT (hd.ni.stOf t)) hg]; rfl
theorem JF {s:Sc} (hd:Dg s) {R:Ty->Vl->List UInt8} {t:Ty} {f:List (Int × Vl)} {g:Fl} {B:Nat} (hg:g ∈ (stOf s t).fs) (hR:∀ x ∈ f,(R (gQ (stOf s t) x.1).ty x.2).length<=B):(rD R s f g).length<=20 + B:=by
 unfold rD
 cases hv:bX f g.num with
 | none=>exact Nat.zero_le _
 | some x=>
  obtain ⟨hm,he⟩:=oO hv
  have h1:=hR x hm
  rw [he,j7 hd hg] at h1
  have h2:=kH g.num
  have h3:=oE (R g.ty x.2)
  show (bif !true || (!g.opt && dG x.2 (zF s 23 g.ty)) then [] else fW g.num ++ mS (R g.ty x.2)).length<=_
  cases !true || (!g.opt && dG x.2 (zF s 23 g.ty)) with
  | true=>exact Nat.zero_le _
  | false=>rw [cond_false,List.length_append]; omega
theorem mA {s:Sc} {t:Ty} (h:valF s.ss s.es t=true):((t.k == 4)=true->t.s<=2000)/\((t.k == 5)=true->t.s<=32):=by
 obtain ⟨k,z,n,e⟩:=t
 refine ⟨fun hk=>?_,fun hk=>?_⟩
 · have hk:k=4:=eq_of_beq hk
   subst hk
   rw [valF.eq_def] at h
   simp at h
   show z<=2000
   omega
 · have hk:k=5:=eq_of_beq hk
   subst hk
   rw [valF.eq_def] at h
   simp at h
   show z<=32
   omega
theorem gA {s:Sc} (hd:Dg s):∀ (N:Nat) (t:Ty) (v:Vl),v.h<=N->cH s t v=0->(cA s N t v).length<=eB N
 | 0,_,v,h,_=>by have:=v.h_pos; omega
 | N + 1,t,v,hh,h0=>by
  have hc:=jY h0
  have hB:=XQ N
  have hp:=ZJ N
  have hvz:=mA hc.va
  rw [d8]
  cases c1:t.k == 1 || (t.k == 3 || t.k == 7) with
  | true=>rw [cond_true]; have:=kH v.n; omega
  | false=>
  rw [cond_false]
  cases c2:t.k == 2 with
  | true=>rw [cond_true]; have:=L0 (mY v.n); omega
  | false=>
  rw [cond_false]
  cases c4:t.k == 4 with
  | true=>
   rw [cond_true]
   obtain ⟨_,_,_,h1⟩:=hc.tx c4
   have:=hvz.1 c4
   omega
  | false=>
  rw [cond_false]
  cases c5:t.k == 5 with
  | true=>
   rw [cond_true,List.length_append]
   obtain ⟨_,_,_,h1,h2⟩:=hc.ls c5
   have h3:=hvz.2 c5
   have h4:=kH v.l.length
   have h5:(iY (cA s N) (t.e.headD default) v.l).length<=v.l.length * (10 + eB N):=oQ fun x hx=>by
    have:=gA hd N _ x (by have:=Vl.h_l hx; omega) (h2 x hx)
    have:=oE (cA s N (t.e.headD default) x)
    omega
   have h6:v.l.length * (10 + eB N)<=32 * (10 + eB N):=Nat.mul_le_mul_right _ (by omega)
   omega
  | false=>
   rw [cond_false]
   have c6:(t.k == 6)=true:=by
    rcases sP hc.va with h | h | h | h | h | h | h
    · rw [h] at c1; cases c1
    · rw [h] at c2; cases c2
    · rw [h,Bool.true_or,Bool.or_true] at c1; cases c1
    · rw [h] at c4; cases c4
    · rw [h] at c5; cases c5
    · exact h
    · rw [h,Bool.or_true,Bool.or_true] at c1; cases c1
   obtain ⟨_,_,_,_,h2⟩:=hc.st c6
   have hl:=(hd.ni.stOf t).l
   have h5:(dY (cA s N) s (stOf s t).fs v.f).length<=(stOf s t).fs.length * (20 + eB N):=oQ fun g hg=>JF hd hg fun x hx=>gA hd N _ x.2 (by have:=Vl.h_f hx; omega) (h2 x hx)
   have h6:(stOf s t).fs.length * (20 + eB N)<=16 * (20 + eB N):=Nat.mul_le_mul_right _ hl
   omega
def nC (s:Sc) (nm:ByteArray) (v:Vl):List UInt8 × Int:=
 bif bP s != 0 then ([],bP s) else bif !(cJ s.ss nm) then ([],6) else bif gH s (.mk 6 0 nm []) v != 0 then ([],gH s (.mk 6 0 nm []) v) else bif decide (2000 < ((dY (cA s 8) s (stOf s (.mk 6 0 nm [])).fs v.f).length:Int)) then ([],3) else (dY (cA s 8) s (stOf s (.mk 6 0 nm [])).fs v.f,0)
mutual
theorem QZ:∀ v:Vl,(v.h:Int)<=bT v + 1
 | .mk k n s l f=>by
  have h1:=TI l 0 (Int.le_refl _)
  have h0:=oF l 0
  have h2:=U1 f (cX 0 l) h0
  have h3:=nV f (cX 0 l)
  rw [bT,Vl.h]
  cases hs:jO (.mk k n s l f) with
  | true=>
   rw [cond_true]
   unfold jO at hs
   simp only [Bool.and_eq_true] at hs
   have e1:l=[]:=by have:=hs.1.2; simpa [Vl.l] using this
   have e2:f=[]:=by have:=hs.2; simpa [Vl.f] using this
   rw [e1,e2,Vl.hl,Vl.hf]; decide
  | false=>rw [cond_false]; omega
theorem TI:∀ (l:List Vl) (d:Int),0<=d->(Vl.hl l:Int)<=cX d l + 1
 | [],d,hd=>by rw [Vl.hl,cX]; omega
 | v :: r,d,hd=>by
  have h1:=QZ v
  have h2:=TI r (max d (bT v)) (by omega)
  have h3:=oF r (max d (bT v))
  rw [Vl.hl,cX]; omega
theorem U1:∀ (l:List (Int × Vl)) (d:Int),0<=d->(Vl.hf l:Int)<=eE d l + 1
 | [],d,hd=>by rw [Vl.hf,eE]; omega
 | (_,v) :: r,d,hd=>by
  have h1:=QZ v
  have h2:=U1 r (max d (bT v)) (by omega)
  have h3:=nV r (max d (bT v))
  rw [Vl.hf,eE]; omega
end
theorem KI {s:Sc} {t:Ty} {v:Vl} (h:gH s t v=0):v.h<=7:=by
 have h1:=(uS h).2
 have h2:=QZ v
 omega
def xA:PC:=.seq (.seq (.gh (.reg [.v 10 6,.q 11 (.bin .lss true (.t 10) (.i 0))])) (.cond (.t 11) (.seq (.reg [.q 12 (.bd [(.int .i64 0),(.int .i64 0),(.string (mk [])),(.slice none 0 0),(.slice none 0 0)] []),.s (.st 5 (.t 4) (.t 12)),.q 5 (.mv (.k (.bool false)))]) .ret) .skip)) (.seq (.reg [.q 13 (.fa 4 (.t 2)),.l 14 (.ld1 (.t 13)),.v 15 6,.l 16 (.ia 6 (.t 14) (.t 15)),.q 17 (.fa 1 (.t 16)),.l 18 (.ldn 5 (.t 17)),.a 19 (.cl 81 [(.t 18)] []),.s (.st 5 (.t 4) (.t 19)),.q 5 (.mv (.k (.bool true)))]) .ret)
@[go_sem ↓] theorem aMQ:aO xA:=aP _
def PM:PC:=.seq (.reg [.e 2 (.bx 29 (.t 0)),.e 4 (.al (.agg #[(.int .i64 0),(.int .i64 0),(.string (mk [])),(.slice none 0 0),(.slice none 0 0)]) 29),.q 5 (.mv (.k (.bool false)))]) (.seq (.reg [.l 7 (.ldn 5 (.t 2)),.v 8 1,.a 9 (.cq 80 [(.t 7),(.t 8)]),.v 6 9]) (xA))
def PP:List RV:=[.ld (.ldn 5 (.t 4)),.mv (.t 5)]
theorem aNX:aR Tryz.prog true ⟨fun r k=>if r=1/\k=2 then .q else .own [],fun r=>[2].contains r⟩ Tryz.f43=some (PM,PP):=by kernel_rfl
def YG:PC:=.seq (.reg [.e 2 (.bx 29 (.t 0)),.e 3 (.bx 29 (.t 1)),.q 4 (.mv (.k (.bool false)))]) (.seq (.reg [.l 5 (.ldn 5 (.t 2)),.l 6 (.ldn 5 (.t 3)),.a 7 (.cl 82 [(.t 5),(.t 6)] []),.q 8 (.bin .eql true (.t 7) (.i 0)),.v 4 8]) .ret)
def aCZ:List RV:=[.mv (.t 4)]
theorem aMW:aR Tryz.prog true ⟨fun r k=>if r=1/\k=2 then .own [] else .own [],fun _=>false⟩ Tryz.f44=some (YG,aCZ):=by kernel_rfl
def aA5:PC:=.seq (.reg [.e 2 (.bx 29 (.t 0)),.e 3 (.bx 3 (.t 1)),.q 4 (.mv (.i 0))]) (.seq (.seq (.reg [.q 5 (.fa 0 (.t 2)),.l 6 (.ld1 (.t 5)),.q 7 (.bin .neq true (.t 6) (.i 6))]) (.cond (.t 7) (.seq (.reg [.q 4 (.mv (.i (-1)))]) .ret) .skip)) (.seq (.reg [.q 8 (.fa 4 (.t 2)),.l 9 (.ld1 (.t 8)),.q 10 (.mf 118 [(.t 3)]),.a 11 (.cl 117 [(.t 9),(.t 10)] [1]),.v 4 11]) .ret))
def Z5:List RV:=[.mv (.t 4)]
theorem aLE:aR Tryz.prog true ⟨fun r k=>if r=3/\k=3 then .own [1] else .own [],fun _=>false⟩ Tryz.f80=some (aA5,Z5):=by kernel_rfl
def aC7:PC:=.seq (.reg [.e 1 (.bx 29 (.t 0)),.e 2 (.al (.agg #[(.int .i64 0),(.int .i64 0),(.string (mk [])),(.slice none 0 0),(.slice none 0 0)]) 29)]) (.seq (.reg [.q 9 (.fa 3 (.t 1)),.l 10 (.ld1 (.t 9)),.q 11 (.fa 4 (.t 1)),.l 12 (.ld1 (.t 11)),.v 3 10,.v 4 12]) (.seq (.reg [.q 13 (.fa 3 (.t 1)),.s (.st 1 (.t 13) (.k (.slice none 0 0))),.q 14 (.fa 4 (.t 1)),.s (.st 1 (.t 14) (.k (.slice none 0 0)))]) (.seq (.seq (.reg [.v 15 3,.q 16 (.lnL (.t 15)),.q 17 (.mv (.i 0))]) (.block 0 (.loop (.seq (.reg [.q 18 (.bin .lss true (.t 17) (.t 16))]) (.seq (.cond (.t 18) .skip (.exit 0)) (.seq (.block 1 (.seq (.reg [.l 19 (.ia 5 (.t 15) (.t 17)),.l 20 (.ldn 5 (.t 19)),.e 6 (.al (.agg #[(.int .i64 0),(.int .i64 0),(.string (mk [])),(.slice none 0 0),(.slice none 0 0)]) 29),.s (.st 5 (.t 6) (.t 20))]) (.ord  [.q (.q 21 (.fa 3 (.t 1))),.q (.l 22 (.ld1 (.t 21))),.q (.l 23 (.ldn 5 (.t 6))),.m (.a 24 (.cl 81 [(.t 23)] [])),.rc (.q 21 (.fa 3 (.t 1))),.rc (.l 22 (.ld1 (.t 21))),.m (.e 25 (.bsl 29 5 [(.t 24)])),.rc (.q 21 (.fa 3 (.t 1))),.rc (.l 22 (.ld1 (.t 21))),.m (.e 26 (.ap 29 5 80 (.t 22) (.t 25))),.q (.q 27 (.fa 3 (.t 1))),.m (.s (.st 1 (.t 27) (.t 26)))]))) (.reg [.q 28 (.bin .add true (.t 17) (.i 1)),.v 17 28]))))))) (.seq (.seq (.reg [.v 29 4,.q 30 (.lnL (.t 29)),.q 31 (.mv (.i 0))]) (.block 2 (.loop (.seq (.reg [.q 32 (.bin .lss true (.t 31) (.t 30))]) (.seq (.cond (.t 32) .skip (.exit 2)) (.seq (.block 3 (.seq (.reg [.l 33 (.ia 6 (.t 29) (.t 31)),.l 34 (.ldn 6 (.t 33)),.e 8 (.al (.agg #[(.int .i64 0),(.int .i64 0),(.int .i64 0),(.string (mk [])),(.slice none 0 0),(.slice none 0 0)]) 76),.s (.st 6 (.t 8) (.t 34))]) (.ord  [.q (.q 35 (.fa 4 (.t 1))),.q (.l 36 (.ld1 (.t 35))),.q (.q 37 (.fa 0 (.t 8))),.q (.l 38 (.ld1 (.t 37))),.q (.q 39 (.fa 1 (.t 8))),.q (.l 40 (.ldn 5 (.t 39))),.m (.a 41 (.cl 81 [(.t 40)] [])),.rc (.q 35 (.fa 4 (.t 1))),.rc (.l 36 (.ld1 (.t 35))),.rc (.q 37 (.fa 0 (.t 8))),.rc (.l 38 (.ld1 (.t 37))),.q (.q 42 (.bd [(.int .i64 0),(.int .i64 0),(.int .i64 0),(.string (mk [])),(.slice none 0 0),(.slice none 0 0)] [(0,1,(.t 38)),(1,5,(.t 41))])),.m (.e 43 (.bsl 76 6 [(.t 42)])),.rc (.q 35 (.fa 4 (.t 1))),.rc (.l 36 (.ld1 (.t 35))),.m (.e 44 (.ap 76 6 88 (.t 36) (.t 43))),.q (.q 45 (.fa 4 (.t 1))),.m (.s (.st 1 (.t 45) (.t 44)))]))) (.reg [.q 46 (.bin .add true (.t 31) (.i 1)),.v 31 46]))))))) (.seq (.reg [.l 47 (.ldn 5 (.t 1)),.s (.st 5 (.t 2) (.t 47))]) .ret)))))
def aCJ:List RV:=[.ld (.ldn 5 (.t 2))]
theorem aK1:aR Tryz.prog true ⟨fun _ _=>.own [],fun _=>false⟩ Tryz.f81=some (aC7,aCJ):=by kernel_rfl
def yL:PC:=.seq (.gh (.reg [.q 41 (.fa 4 (.t 2)),.l 42 (.ld1 (.t 41)),.q 43 (.fa 4 (.t 3)),.l 44 (.ld1 (.t 43)),.a 45 (.cl 123 [(.t 42),(.t 44),(.f 124)] []),.v 4 45])) .ret
@[go_sem ↓] theorem aIA:aO yL:=aP _
def AF:PC:=.seq (.seq (.gh (.reg [.q 33 (.fa 3 (.t 2)),.l 34 (.ld1 (.t 33)),.q 35 (.fa 3 (.t 3)),.l 36 (.ld1 (.t 35)),.a 37 (.cl 122 [(.t 34),(.t 36),(.f 82)] []),.v 8 37])) (.seq (.reg [.v 38 8,.q 39 (.bin .neq true (.t 38) (.i 0))]) (.cond (.t 39) (.seq (.reg [.v 40 8,.v 4 40]) .ret) .skip))) (yL)
@[go_sem ↓] theorem aIM:aO AF:=aP _
def DV:PC:=.seq (.seq (.gh (.reg [.q 25 (.fa 2 (.t 2)),.l 26 (.ld1 (.t 25)),.q 27 (.fa 2 (.t 3)),.l 28 (.ld1 (.t 27)),.a 29 (.cq 121 [(.t 26),(.t 28)]),.v 7 29])) (.seq (.reg [.v 30 7,.q 31 (.bin .neq true (.t 30) (.i 0))]) (.cond (.t 31) (.seq (.reg [.v 32 7,.v 4 32]) .ret) .skip))) (AF)
@[go_sem ↓] theorem aNL:aO DV:=aP _
def GY:PC:=.seq (.seq (.gh (.reg [.q 17 (.fa 1 (.t 2)),.l 18 (.ld1 (.t 17)),.q 19 (.fa 1 (.t 3)),.l 20 (.ld1 (.t 19)),.a 21 (.cq 120 [(.t 18),(.t 20)]),.v 6 21])) (.seq (.reg [.v 22 6,.q 23 (.bin .neq true (.t 22) (.i 0))]) (.cond (.t 23) (.seq (.reg [.v 24 6,.v 4 24]) .ret) .skip))) (DV)
@[go_sem ↓] theorem aL0:aO GY:=aP _
def aEI:PC:=.seq (.reg [.e 2 (.bx 29 (.t 0)),.e 3 (.bx 29 (.t 1)),.q 4 (.mv (.i 0))]) (.seq (.seq (.reg [.q 9 (.fa 0 (.t 2)),.l 10 (.ld1 (.t 9)),.q 11 (.fa 0 (.t 3)),.l 12 (.ld1 (.t 11)),.a 13 (.cq 119 [(.t 10),(.t 12)]),.v 5 13]) (.seq (.reg [.v 14 5,.q 15 (.bin .neq true (.t 14) (.i 0))]) (.cond (.t 15) (.seq (.reg [.v 16 5,.v 4 16]) .ret) .skip))) (GY))
def aA0:List RV:=[.mv (.t 4)]
theorem aJ8:aR Tryz.prog true ⟨fun r k=>if r=1/\k=4 then .q else if r=4/\k=4 then .q else if r=7/\k=4 then .q else .own [],fun r=>[4,7,10,13].contains r⟩ Tryz.f82=some (aEI,aA0):=by kernel_rfl
def R6:PC:=.seq (.reg [.e 2 (.bx 76 (.t 0)),.q 3 (.mv (.k (.bool false)))]) (.seq (.reg [.q 4 (.fa 0 (.t 2)),.l 5 (.ld1 (.t 4)),.l 6 (.ld1 (.t 1)),.q 7 (.bin .eql true (.t 5) (.t 6)),.v 3 7]) .ret)
def UH:List RV:=[.mv (.t 3)]
theorem aGD:aR Tryz.prog true ⟨fun _ _=>.own [],fun _=>false⟩ Tryz.f118=some (R6,UH):=by kernel_rfl
def VC:PC:=.seq (.reg [.q 4 (.mv (.i 0))]) (.seq (.block 0 (.seq (.reg [.v 6 0,.v 7 1,.q 8 (.bin .lss true (.t 6) (.t 7)),.v 5 8]) (.cond (.t 5) (.seq (.reg [.q 4 (.mv (.i (-1)))]) .ret) (.seq (.reg [.v 10 0,.v 11 1,.q 12 (.bin .gtr true (.t 10) (.t 11)),.v 9 12]) (.cond (.t 9) (.seq (.reg [.q 4 (.mv (.i 1))]) .ret) .skip))))) (.seq (.reg [.q 4 (.mv (.i 0))]) .ret))
def UR:List RV:=[.mv (.t 4)]
theorem aHN:aR Tryz.prog true ⟨fun _ _=>.own [],fun _=>false⟩ Tryz.f119=some (VC,UR):=by kernel_rfl
def VP:PC:=.seq (.reg [.q 4 (.mv (.i 0))]) (.seq (.block 0 (.seq (.reg [.v 6 0,.v 7 1,.q 8 (.bin .lss true (.t 6) (.t 7)),.v 5 8]) (.cond (.t 5) (.seq (.reg [.q 4 (.mv (.i (-1)))]) .ret) (.seq (.reg [.v 10 0,.v 11 1,.q 12 (.bin .gtr true (.t 10) (.t 11)),.v 9 12]) (.cond (.t 9) (.seq (.reg [.q 4 (.mv (.i 1))]) .ret) .skip))))) (.seq (.reg [.q 4 (.mv (.i 0))]) .ret))
def SU:List RV:=[.mv (.t 4)]
theorem aHJ:aR Tryz.prog true ⟨fun _ _=>.own [],fun _=>false⟩ Tryz.f120=some (VP,SU):=by kernel_rfl
def TD:PC:=.seq (.reg [.q 6 (.mv (.i 0))]) (.seq (.seq (.reg [.v 11 0,.q 12 (.lnL (.t 11)),.q 13 (.mv (.i 0))]) (.block 0 (.loop (.seq (.reg [.q 14 (.bin .lss true (.t 13) (.t 12))]) (.seq (.cond (.t 14) .skip (.exit 0)) (.seq (.block 1 (.seq (.reg [.v 15 13,.l 16 (.ia 5 (.t 11) (.t 13)),.l 17 (.ldn 5 (.t 16)),.e 8 (.al (.agg #[(.int .i64 0),(.int .i64 0),(.string (mk [])),(.slice none 0 0),(.slice none 0 0)]) 29),.v 7 15,.s (.st 5 (.t 8) (.t 17))]) (.seq (.seq (.reg [.v 18 7,.v 19 1,.q 20 (.lnL (.t 19)),.q 21 (.bin .geq true (.t 18) (.t 20))]) (.cond (.t 21) (.seq (.reg [.q 6 (.mv (.i 1))]) .ret) .skip)) (.seq (.reg [.v 22 1,.v 23 7,.l 24 (.ia 5 (.t 22) (.t 23)),.l 25 (.ldn 5 (.t 24)),.e 9 (.al (.agg #[(.int .i64 0),(.int .i64 0),(.string (mk [])),(.slice none 0 0),(.slice none 0 0)]) 29),.s (.st 5 (.t 9) (.t 25))]) (.seq (.reg [.v 26 2,.l 27 (.ldn 5 (.t 8)),.l 28 (.ldn 5 (.t 9)),.a 29 (.ca (.t 26) [(.t 27),(.t 28)] []),.v 10 29]) (.seq (.reg [.v 30 10,.q 31 (.bin .neq true (.t 30) (.i 0))]) (.cond (.t 31) (.seq (.reg [.v 32 10,.v 6 32]) .ret) .skip))))))) (.reg [.q 33 (.bin .add true (.t 13) (.i 1)),.v 13 33]))))))) (.seq (.seq (.reg [.v 34 0,.q 35 (.lnL (.t 34)),.v 36 1,.q 37 (.lnL (.t 36)),.q 38 (.bin .lss true (.t 35) (.t 37))]) (.cond (.t 38) (.seq (.reg [.q 6 (.mv (.i (-1)))]) .ret) .skip)) (.seq (.reg [.q 6 (.mv (.i 0))]) .ret)))
def RF:List RV:=[.mv (.t 6)]
theorem aHX:aR Tryz.prog true ⟨fun _ _=>.own [],fun _=>false⟩ Tryz.f122=some (TD,RF):=by kernel_rfl
def U7:PC:=.seq (.reg [.q 6 (.mv (.i 0))]) (.seq (.seq (.reg [.v 11 0,.q 12 (.lnL (.t 11)),.q 13 (.mv (.i 0))]) (.block 0 (.loop (.seq (.reg [.q 14 (.bin .lss true (.t 13) (.t 12))]) (.seq (.cond (.t 14) .skip (.exit 0)) (.seq (.block 1 (.seq (.reg [.v 15 13,.l 16 (.ia 6 (.t 11) (.t 13)),.l 17 (.ldn 6 (.t 16)),.e 8 (.al (.agg #[(.int .i64 0),(.int .i64 0),(.int .i64 0),(.string (mk [])),(.slice none 0 0),(.slice none 0 0)]) 76),.v 7 15,.s (.st 6 (.t 8) (.t 17))]) (.seq (.seq (.reg [.v 18 7,.v 19 1,.q 20 (.lnL (.t 19)),.q 21 (.bin .geq true (.t 18) (.t 20))]) (.cond (.t 21) (.seq (.reg [.q 6 (.mv (.i 1))]) .ret) .skip)) (.seq (.reg [.v 22 1,.v 23 7,.l 24 (.ia 6 (.t 22) (.t 23)),.l 25 (.ldn 6 (.t 24)),.e 9 (.al (.agg #[(.int .i64 0),(.int .i64 0),(.int .i64 0),(.string (mk [])),(.slice none 0 0),(.slice none 0 0)]) 76),.s (.st 6 (.t 9) (.t 25))]) (.seq (.reg [.v 26 2,.l 27 (.ldn 6 (.t 8)),.l 28 (.ldn 6 (.t 9)),.a 29 (.ca (.t 26) [(.t 27),(.t 28)] []),.v 10 29]) (.seq (.reg [.v 30 10,.q 31 (.bin .neq true (.t 30) (.i 0))]) (.cond (.t 31) (.seq (.reg [.v 32 10,.v 6 32]) .ret) .skip))))))) (.reg [.q 33 (.bin .add true (.t 13) (.i 1)),.v 13 33]))))))) (.seq (.seq (.reg [.v 34 0,.q 35 (.lnL (.t 34)),.v 36 1,.q 37 (.lnL (.t 36)),.q 38 (.bin .lss true (.t 35) (.t 37))]) (.cond (.t 38) (.seq (.reg [.q 6 (.mv (.i (-1)))]) .ret) .skip)) (.seq (.reg [.q 6 (.mv (.i 0))]) .ret)))
def VI:List RV:=[.mv (.t 6)]
theorem aE7:aR Tryz.prog true ⟨fun _ _=>.own [],fun _=>false⟩ Tryz.f123=some (U7,VI):=by kernel_rfl
def z6:PC:=.seq (.gh (.reg [.q 14 (.fa 1 (.t 2)),.l 15 (.ldn 5 (.t 14)),.q 16 (.fa 1 (.t 3)),.l 17 (.ldn 5 (.t 16)),.a 18 (.cl 82 [(.t 15),(.t 17)] []),.v 4 18])) .ret
@[go_sem ↓] theorem aJE:aO z6:=aP _
def S5:PC:=.seq (.reg [.e 2 (.bx 76 (.t 0)),.e 3 (.bx 76 (.t 1)),.q 4 (.mv (.i 0))]) (.seq (.seq (.reg [.q 6 (.fa 0 (.t 2)),.l 7 (.ld1 (.t 6)),.q 8 (.fa 0 (.t 3)),.l 9 (.ld1 (.t 8)),.a 10 (.cq 119 [(.t 7),(.t 9)]),.v 5 10]) (.seq (.reg [.v 11 5,.q 12 (.bin .neq true (.t 11) (.i 0))]) (.cond (.t 12) (.seq (.reg [.v 13 5,.v 4 13]) .ret) .skip))) (z6))
def UO:List RV:=[.mv (.t 4)]
theorem aFO:aR Tryz.prog true ⟨fun r k=>if r=1/\k=4 then .q else if r=4/\k=4 then .own [] else .own [],fun r=>[4].contains r⟩ Tryz.f124=some (S5,UO):=by kernel_rfl
end Go.Proofs.YthpbnmebjocbeaaGreat
namespace Go.Proofs
open Go.Shelf
def Tryz.lays106_ren:Go.Shelf.Ren:=⟨fun | 106=>121 | 213=>152 | 265=>160 | n=>n,fun | 9=>9 | 3=>3 | n=>n,fun | n=>n⟩
theorem Tryz.lays106:Go.Proofs.Lays.n106 Tryz.prog Tryz.lays106_ren:={
 mixed:=by kernel_rfl
 f106:=Tryz.func121.trans (congrArg some (by kernel_rfl))
 f213:=Tryz.func152.trans (congrArg some (by kernel_rfl))
 f265:=Tryz.func160.trans (congrArg some (by kernel_rfl))
 t3:=Tryz.underlying3
 a3:=Tryz.isAgg3
 z3:=Tryz.sizeOf3
 v3:=Tryz.zeroValue3
 t9:=Tryz.underlying9
 a9:=Tryz.isAgg9
 z9:=Tryz.sizeOf9
 v9:=Tryz.zeroValue9 }
end Go.Proofs
namespace Go.Proofs.YthpbnmebjocbeaaGreat
open Go.W
theorem VU (a b:ByteArray) (w:World):Calls Tryz.prog 121 #[.string a,.string b] w fun e w'=>e=.returned (.int .i64 (Lib.compareBytes a.data.toList b.data.toList))/\w'=w:=Any.strings_Compare Tryz.lays106 a b w
def C8:List S->Prop:=fun av=>match av with
 | [.va (.c1 (.vl (.string _))),.va (.c1 (.vl (.string _)))]=>True
 | _=>False
theorem w6 {av:List S} (h:C8 av):∃ a b:ByteArray,av=[tS a,tS b]:=by
 unfold C8 at h
 split at h
 · exact ⟨_,_,rfl⟩
 · exact h.elim
def KV:List S->A:=fun av=>match av with
 | [.va (.c1 (.vl (.string a))),.va (.c1 (.vl (.string b)))]=>iA .i64 (Lib.compareBytes (bl a) (bl b))
 | _=>.gs []
def scFn:Fun:=⟨C8,KV,fun av h=>by obtain ⟨a,b,rfl⟩:=w6 h; trivial⟩
attribute [go_sem] scFn C8 KV
theorem XU:Meets Tryz.prog 121 scFn.sp:=by
 refine ⟨by kernel_rfl,?_⟩
 rintro av vs E ro w K hlen hrel hR ⟨⟨h,hE⟩,hK⟩ _
 obtain ⟨a,b,rfl⟩:=w6 h
 obtain ⟨v0,v1,rfl⟩:∃ v0 v1,vs=[v0,v1]:=by
  match vs,hlen with
  | [v0,v1],_=>exact ⟨v0,v1,rfl⟩
 have h0:v0=.string a:=hrel 0 _ _ rfl rfl
 have h1:v1=.string b:=hrel 1 _ _ rfl rfl
 subst h0 h1
 refine (VU a b w).mono ?_
 rintro e w' ⟨rfl,rfl⟩
 exact ⟨iS .i64 (Lib.compareBytes (bl a) (bl b)),_,E,ro,rfl,rfl,by rw [hE]; exact hK,hR⟩
theorem EK:∀ (a b:List UInt8),(Lib.compareBytes a b == 0)=(a == b)
 | [],[]=>rfl
 | [],_ :: _=>rfl
 | _ :: _,[]=>rfl
 | x :: a,y :: b=>by
  rw [Lib.compareBytes]
  split
  · rename_i h
    have:(x :: a == y :: b)=false:=by
     rw [beq_eq_false_iff_ne]; intro e; cases e; exact UInt8.lt_irrefl _ h
    rw [this]; rfl
  · split
    · rename_i h
      have:(x :: a == y :: b)=false:=by
       rw [beq_eq_false_iff_ne]; intro e; cases e; exact UInt8.lt_irrefl _ h
      rw [this]; rfl
    · rename_i h1 h2
      have e:x=y:=UInt8.le_antisymm (UInt8.not_lt.1 h2) (UInt8.not_lt.1 h1)
      rw [e,EK a b]
      simp
theorem mU (a b:Int):(lH a b == 0)=(a == b):=by
 unfold lH
 cases h1:decide (a < b) with
 | true=>
  have:=of_decide_eq_true h1
  rw [cond_true,show (a == b)=false by simp; omega]; rfl
 | false=>
  have h1:=of_decide_eq_false h1
  rw [cond_false]
  cases h2:decide (b < a) with
  | true=>
   have:=of_decide_eq_true h2
   rw [cond_true,show (a == b)=false by simp; omega]; rfl
  | false=>
   have h2:=of_decide_eq_false h2
   rw [cond_false,show (a == b)=true by simp; omega]; rfl
theorem U5:Meets Tryz.prog 119 sgFn.sp:=by
 refine aD Tryz.func119 aHN 2 (by rw [Tryz.ntmps119]; decide) (aA _) vQ ?_
 rintro av H K ⟨⟨h,rfl⟩,hK⟩
 obtain ⟨a,b,rfl⟩:=jD h
 have hK:K (iS .i64 (lH a b)) []:=hK
 clear h
 unfold lH at hK
 simp (maxSteps:=1000000) -dsimp only [go_sem,VC,UR]
 refine ⟨fun h1=>?_,fun h1=>⟨fun h2=>?_,fun h2=>?_⟩⟩
 · rw [h1] at hK; exact .done hK
 · rw [h1,h2] at hK; exact .done hK
 · rw [h1,h2] at hK; exact .done hK
theorem aG6:Meets Tryz.prog 120 sgFn.sp:=by
 refine aD Tryz.func120 aHJ 2 (by rw [Tryz.ntmps120]; decide) (aA _) vQ ?_
 rintro av H K ⟨⟨h,rfl⟩,hK⟩
 obtain ⟨a,b,rfl⟩:=jD h
 have hK:K (iS .i64 (lH a b)) []:=hK
 clear h
 unfold lH at hK
 simp (maxSteps:=1000000) -dsimp only [go_sem,VP,SU]
 refine ⟨fun h1=>?_,fun h1=>⟨fun h2=>?_,fun h2=>?_⟩⟩
 · rw [h1] at hK; exact .done hK
 · rw [h1,h2] at hK; exact .done hK
 · rw [h1,h2] at hK; exact .done hK
def A0 (N:Nat):W.Spec:=fun av H K=>∃ a b:Vl,av=[.va (.gs (aM a)),.va (.gs (aM b))]/\H=[]/\VlOk a/\VlOk b/\a.h<=N/\∀ r:Int,(r == 0)=dG a b->K (iS .i64 r) []
theorem n5 {N:Nat} {a b:Vl} {K:S->Hp->Prop} (h1:VlOk a) (h2:VlOk b) (h3:a.h<=N) (hK:∀ r:Int,(r == 0)=dG a b->K (iS .i64 r) []) :
 A0 N [.va (.gs [.vl (.int .i64 a.k),.vl (.int .i64 a.n),.vl (.string a.s),.fz (a.l.map aM),.fz (a.f.map bC)]),.va (.gs [.vl (.int .i64 b.k),.vl (.int .i64 b.n),.vl (.string b.s),.fz (b.l.map aM),.fz (b.f.map bC)])] [] K:=
 ⟨a,b,by rw [aJ,aJ],rfl,h1,h2,h3,hK⟩
abbrev cmV:S:=.va (.c1 (.fn 82 []))
abbrev cnV:S:=.va (.c1 (.fn 124 []))
def ZC (N:Nat):W.Spec:=fun av H K=>∃ a b:List Vl,av=[.va (.c1 (.fz (a.map aM))),.va (.c1 (.fz (b.map aM))),cmV]/\H=[]/\(∀ x ∈ a,VlOk x/\x.h<=N)/\(∀ x ∈ b,VlOk x)/\a.length<=1000000000000000/\b.length<=1000000000000000/\∀ r:Int,(r == 0)=fM a b->K (iS .i64 r) []
theorem aCF {N:Nat} {a b:List Vl} {K:S->Hp->Prop} (h1:∀ x ∈ a,VlOk x/\x.h<=N) (h2:∀ x ∈ b,VlOk x) (h3:a.length<=1000000000000000) (h4:b.length<=1000000000000000) (hK:∀ r:Int,(r == 0)=fM a b->K (iS .i64 r) []) :
 ZC N [.va (.c1 (.fz (a.map aM))),.va (.c1 (.fz (b.map aM))),cmV] [] K:=⟨a,b,rfl,rfl,h1,h2,h3,h4,hK⟩
theorem GD (x y:Vl) (a b:List Vl):fM (x :: a) (y :: b)=(dG x y && fM a b):=by rw [fM]
theorem aE9 {N:Nat} (hC:Meets Tryz.prog 82 (A0 N)):Meets Tryz.prog 122 (ZC N):=by
 refine aD Tryz.func122 aHX 3 (by rw [Tryz.ntmps122]; decide) (aC hC (aA _)) (fun av H K h=>by obtain ⟨_,_,rfl,_⟩:=h; rfl) ?_
 rintro av H K ⟨a,b,rfl,rfl,ha,hb,hla,hlb,hK⟩
 have fin:∀ (r:Int) (R:Hp),(r == 0)=fM a b->W.Fin 0 K (iS .i64 r) R:=fun r R h=>.sel [] (by simp) (by simp) rfl (.done (by simpa [go_sem] using hK r h))
 simp (maxSteps:=1000000) -dsimp only [go_sem,TD,RF]
 refine aS (α:=Nat) (fun i=>[(0,.va (.c1 (.fz (a.map aM)))),(1,.va (.c1 (.fz (b.map aM)))),(2,cmV),(11,.va (.c1 (.fz (a.map aM)))),(12,iS .i64 a.length),(13,iS .i64 i)]) (fun _=>[])
  (fun i=>i<=a.length/\i<=b.length/\fM (a.drop i) (b.drop i)=fM a b) (fun i=>a.length - i) 0 0 ⟨Nat.zero_le _,Nat.zero_le _,rfl⟩ ?_ ?_ ?_
 · simp -dsimp only [go_sem]<;>simp
 · simp -dsimp only [go_sem]<;>simp
 rintro i ⟨hi,hib,ho⟩
 rcases bE i a.length with hlt | hge
 · have hg:decide ((i:Int) < (a.length:Int))=true:=by simp; omega
   have hx:a[i]? = some a[i]:=aW hlt
   have q1:=nJ hx
   have hxo:=ha _ (List.getElem_mem hlt)
   rw [List.drop_eq_getElem_cons hlt] at ho
   generalize a[i]=x at *
   rcases bE i b.length with hlt2 | hge2
   · have hg2:decide ((b.length:Int)<=(i:Int))=false:=by simp; omega
     have hy:b[i]? = some b[i]:=aW hlt2
     have q2:=nJ hy
     have hyo:=hb _ (List.getElem_mem hlt2)
     rw [List.drop_eq_getElem_cons hlt2,GD] at ho
     generalize b[i]=y at *
     simp (maxSteps:=1000000) -dsimp only [go_sem,hg,hg2,↓q1,↓q2]
     refine ⟨by omega,by omega,n5 hxo.1 hyo hxo.2 fun r hr=>?_⟩
     simp (maxSteps:=1000000) -dsimp only [go_sem]
     refine ⟨fun h1=>fin r _ ?_,fun h1=>?_⟩
     · have h2:(r == 0)=false:=by simpa using h1
       rw [h2] at hr ⊢
       rw [<-ho,<-hr]; rfl
     · have h2:(r == 0)=true:=by simpa using h1
       rw [h2] at hr
       rw [<-hr,Bool.true_and] at ho
       refine ⟨by omega,aE (i + 1) 0 ⟨by omega,by omega,ho⟩ (by omega) ?_ ?_⟩
       · simp -dsimp only [go_sem]<;>simp
       · simp -dsimp only [go_sem]<;>simp
   · have hg2:decide ((b.length:Int)<=(i:Int))=true:=by simp; omega
     have hd:b.drop i=[]:=List.drop_eq_nil_iff.2 hge2
     rw [hd,fM] at ho
     simp (maxSteps:=1000000) -dsimp only [go_sem,hg,hg2,↓q1]
     exact ⟨by omega,fin 1 _ ho⟩
 · have hg:decide ((i:Int) < (a.length:Int))=false:=by simp; omega
   have hd:a.drop i=[]:=List.drop_eq_nil_iff.2 hge
   rw [hd] at ho
   simp (maxSteps:=1000000) -dsimp only [go_sem,hg]
   refine ⟨fun h1=>fin (-1) _ ?_,fun h1=>fin 0 _ ?_⟩
   · have h1:=of_decide_eq_true h1
     have hlt2:i < b.length:=by omega
     rw [List.drop_eq_getElem_cons hlt2,fM] at ho
     exact ho
   · have h1:=of_decide_eq_false h1
     have hd2:b.drop i=[]:=List.drop_eq_nil_iff.2 (by omega)
     rw [hd2,fM] at ho
     exact ho
def aBI (N:Nat):W.Spec:=fun av H K=>∃ x y:Int × Vl,av=[.va (.gs (bC x)),.va (.gs (bC y))]/\H=[]/\VlOk x.2/\VlOk y.2/\x.2.h<=N/\∀ r:Int,(r == 0)=(x.1 == y.1 && dG x.2 y.2)->K (iS .i64 r) []
theorem ZI {N:Nat} {x y:Int × Vl} {K:S->Hp->Prop} (h1:VlOk x.2) (h2:VlOk y.2) (h3:x.2.h<=N) (hK:∀ r:Int,(r == 0)=(x.1 == y.1 && dG x.2 y.2)->K (iS .i64 r) []) :
 aBI N [.va (.gs [.vl (.int .i64 x.1),.vl (.int .i64 x.2.k),.vl (.int .i64 x.2.n),.vl (.string x.2.s),.fz (x.2.l.map aM),.fz (x.2.f.map bC)]),.va (.gs [.vl (.int .i64 y.1),.vl (.int .i64 y.2.k),.vl (.int .i64 y.2.n),.vl (.string y.2.s),.fz (y.2.l.map aM),.fz (y.2.f.map bC)])] [] K:=
 ⟨x,y,by rw [jN,jN],rfl,h1,h2,h3,hK⟩
theorem aEQ {N:Nat} (hC:Meets Tryz.prog 82 (A0 N)):Meets Tryz.prog 124 (aBI N):=by
 refine aD Tryz.func124 aFO 2 (by rw [Tryz.ntmps124]; decide) (aG U5 (aC hC (aA _))) (fun av H K h=>by obtain ⟨_,_,rfl,_⟩:=h; rfl) ?_
 rintro av H K ⟨x,y,rfl,rfl,hx,hy,hh,hK⟩
 have fin:∀ (r:Int) (R:Hp),(r == 0)=(x.1 == y.1 && dG x.2 y.2)->W.Fin 0 K (iS .i64 r) R:=fun r R h=>.sel [] (by simp) (by simp) rfl (.done (by simpa [go_sem] using hK r h))
 have hs:=mU x.1 y.1
 simp (maxSteps:=1000000) -dsimp only [go_sem,jN x,jN y,S5,UO]
 refine ⟨fun h1=>fin _ _ ?_,fun h1=>aB rfl (.done ?_)⟩
 · have h2:(lH x.1 y.1 == 0)=false:=by simpa using h1
   rw [h2] at hs ⊢
   rw [<-hs]; rfl
 · have h2:(lH x.1 y.1 == 0)=true:=by simpa using h1
   rw [h2] at hs
   simp (maxSteps:=1000000) -dsimp only [go_sem,z6,List.take_succ_cons,List.take_zero,List.length_cons,List.length_nil]
   refine n5 hx hy hh fun r hr=>?_
   simp (maxSteps:=1000000) -dsimp only [go_sem]
   exact fin r _ (by rw [hr,<-hs]; rfl)
def SE (N:Nat):W.Spec:=fun av H K=>∃ a b:List (Int × Vl),av=[.va (.c1 (.fz (a.map bC))),.va (.c1 (.fz (b.map bC))),cnV]/\H=[]/\(∀ x ∈ a,VlOk x.2/\x.2.h<=N)/\(∀ x ∈ b,VlOk x.2)/\a.length<=1000000000000000/\b.length<=1000000000000000/\∀ r:Int,(r == 0)=eX a b->K (iS .i64 r) []
theorem X4 {N:Nat} {a b:List (Int × Vl)} {K:S->Hp->Prop} (h1:∀ x ∈ a,VlOk x.2/\x.2.h<=N) (h2:∀ x ∈ b,VlOk x.2) (h3:a.length<=1000000000000000) (h4:b.length<=1000000000000000) (hK:∀ r:Int,(r == 0)=eX a b->K (iS .i64 r) []) :
 SE N [.va (.c1 (.fz (a.map bC))),.va (.c1 (.fz (b.map bC))),cnV] [] K:=⟨a,b,rfl,rfl,h1,h2,h3,h4,hK⟩
theorem aE5 {N:Nat} (hC:Meets Tryz.prog 82 (A0 N)):Meets Tryz.prog 123 (SE N):=by
 refine aD Tryz.func123 aE7 3 (by rw [Tryz.ntmps123]; decide) (aC (aEQ hC) (aA _)) (fun av H K h=>by obtain ⟨_,_,rfl,_⟩:=h; rfl) ?_
 rintro av H K ⟨a,b,rfl,rfl,ha,hb,hla,hlb,hK⟩
 have fin:∀ (r:Int) (R:Hp),(r == 0)=eX a b->W.Fin 0 K (iS .i64 r) R:=fun r R h=>.sel [] (by simp) (by simp) rfl (.done (by simpa [go_sem] using hK r h))
 simp (maxSteps:=1000000) -dsimp only [go_sem,U7,VI]
 refine aS (α:=Nat) (fun i=>[(0,.va (.c1 (.fz (a.map bC)))),(1,.va (.c1 (.fz (b.map bC)))),(2,cnV),(11,.va (.c1 (.fz (a.map bC)))),(12,iS .i64 a.length),(13,iS .i64 i)]) (fun _=>[])
  (fun i=>i<=a.length/\i<=b.length/\eX (a.drop i) (b.drop i)=eX a b) (fun i=>a.length - i) 0 0 ⟨Nat.zero_le _,Nat.zero_le _,rfl⟩ ?_ ?_ ?_
 · simp -dsimp only [go_sem]<;>simp
 · simp -dsimp only [go_sem]<;>simp
 rintro i ⟨hi,hib,ho⟩
 rcases bE i a.length with hlt | hge
 · have hg:decide ((i:Int) < (a.length:Int))=true:=by simp; omega
   have hx:a[i]? = some a[i]:=aW hlt
   have q1:=gG hx
   have hxo:=ha _ (List.getElem_mem hlt)
   rw [List.drop_eq_getElem_cons hlt] at ho
   generalize a[i]=x at *
   rcases bE i b.length with hlt2 | hge2
   · have hg2:decide ((b.length:Int)<=(i:Int))=false:=by simp; omega
     have hy:b[i]? = some b[i]:=aW hlt2
     have q2:=gG hy
     have hyo:=hb _ (List.getElem_mem hlt2)
     rw [List.drop_eq_getElem_cons hlt2,GP] at ho
     generalize b[i]=y at *
     simp (maxSteps:=1000000) -dsimp only [go_sem,hg,hg2,↓q1,↓q2]
     refine ⟨by omega,by omega,ZI hxo.1 hyo hxo.2 fun r hr=>?_⟩
     rw [<-Bool.and_assoc,<-hr] at ho
     simp (maxSteps:=1000000) -dsimp only [go_sem]
     refine ⟨fun h1=>fin r _ ?_,fun h1=>?_⟩
     · have h2:(r == 0)=false:=by simpa using h1
       rw [h2,Bool.false_and] at ho
       rw [h2]; exact ho
     · have h2:(r == 0)=true:=by simpa using h1
       rw [h2,Bool.true_and] at ho
       refine ⟨by omega,aE (i + 1) 0 ⟨by omega,by omega,ho⟩ (by omega) ?_ ?_⟩
       · simp -dsimp only [go_sem]<;>simp
       · simp -dsimp only [go_sem]<;>simp
   · have hg2:decide ((b.length:Int)<=(i:Int))=true:=by simp; omega
     have hd:b.drop i=[]:=List.drop_eq_nil_iff.2 hge2
     have he:eX (x :: a.drop (i + 1)) []=false:=by obtain ⟨j,x⟩:=x; rw [eX]
     rw [hd,he] at ho
     simp (maxSteps:=1000000) -dsimp only [go_sem,hg,hg2,↓q1]
     exact ⟨by omega,fin 1 _ ho⟩
 · have hg:decide ((i:Int) < (a.length:Int))=false:=by simp; omega
   have hd:a.drop i=[]:=List.drop_eq_nil_iff.2 hge
   rw [hd] at ho
   simp (maxSteps:=1000000) -dsimp only [go_sem,hg]
   refine ⟨fun h1=>fin (-1) _ ?_,fun h1=>fin 0 _ ?_⟩
   · have h1:=of_decide_eq_true h1
     have hlt2:i < b.length:=by omega
     rw [List.drop_eq_getElem_cons hlt2] at ho
     have he:∀ y:Int × Vl,eX [] (y :: b.drop (i + 1))=false:=fun y=>by obtain ⟨j,y⟩:=y; rw [eX]
     rw [he] at ho
     exact ho
   · have h1:=of_decide_eq_false h1
     have hd2:b.drop i=[]:=List.drop_eq_nil_iff.2 (by omega)
     rw [hd2,eX] at ho
     exact ho
theorem rL:∀ N,Meets Tryz.prog 82 (A0 N)
 | 0=>⟨by kernel_rfl,by rintro xs vs E ro w K _ _ _ ⟨a,_,_,_,_,_,h,_⟩; have:=a.h_pos; omega⟩
 | N + 1=>by
  refine aD Tryz.func82 aJ8 2 (by rw [Tryz.ntmps82]; decide) (aG U5 (aG aG6 (aG XU (aC (aE9 (rL N)) (aC (aE5 (rL N)) (aA _)))))) (fun av H K h=>by obtain ⟨_,_,rfl,_⟩:=h; rfl) ?_
  rintro av H K ⟨a,b,rfl,rfl,ha,hb,hh,hK⟩
  have hE:=MC a b
  have fin:∀ (r:Int) (R:Hp),(r == 0)=dG a b->W.Fin 0 K (iS .i64 r) R:=fun r R h=>.sel [] (by simp) (by simp) rfl (.done (by simpa [go_sem] using hK r h))
  have hs1:=mU a.k b.k
  have hs2:=mU a.n b.n
  have hs3:=EK (bl a.s) (bl b.s)
  have hla:=ha.ll
  have hlb:=hb.ll
  have hfa:=ha.lf
  have hfb:=hb.lf
  simp (maxSteps:=1000000) -dsimp only [go_sem,aJ a,aJ b,aEI,aA0]
  refine ⟨fun h1=>fin _ _ ?_,fun h1=>aB rfl (.done ?_)⟩
  · have h2:(lH a.k b.k == 0)=false:=by simpa using h1
    rw [h2] at hs1 ⊢
    rw [hE,<-hs1]; rfl
  have h2:(lH a.k b.k == 0)=true:=by simpa using h1
  rw [h2] at hs1
  rw [<-hs1,Bool.true_and] at hE
  simp (maxSteps:=1000000) -dsimp only [go_sem,GY]
  refine ⟨fun h1=>fin _ _ ?_,fun h1=>aB rfl (.done ?_)⟩
  · have h2:(lH a.n b.n == 0)=false:=by simpa using h1
    rw [h2] at hs2 ⊢
    rw [hE,<-hs2]; rfl
  have h2:(lH a.n b.n == 0)=true:=by simpa using h1
  rw [h2] at hs2
  rw [<-hs2,Bool.true_and] at hE
  simp (maxSteps:=1000000) -dsimp only [go_sem,DV]
  refine ⟨fun h1=>fin _ _ ?_,fun h1=>aB rfl (.done ?_)⟩
  · have h2:(Lib.compareBytes (bl a.s) (bl b.s) == 0)=false:=by simpa using h1
    rw [h2] at hs3 ⊢
    rw [hE,<-hs3]; rfl
  have h2:(Lib.compareBytes (bl a.s) (bl b.s) == 0)=true:=by simpa using h1
  rw [h2] at hs3
  rw [<-hs3,Bool.true_and] at hE
  simp (maxSteps:=1000000) -dsimp only [go_sem,AF]
  refine aCF (fun x hx=>⟨ha.l x hx,by have:=Vl.h_l hx; omega⟩) hb.l (by omega) (by omega) fun r hr=>?_
  simp (maxSteps:=1000000) -dsimp only [go_sem]
  refine ⟨fun h1=>fin _ _ ?_,fun h1=>aB rfl (.done ?_)⟩
  · have h2:(r == 0)=false:=by simpa using h1
    rw [h2] at hr ⊢
    rw [hE,<-hr]; rfl
  have h2:(r == 0)=true:=by simpa using h1
  rw [h2] at hr
  rw [<-hr,Bool.true_and] at hE
  simp (maxSteps:=1000000) -dsimp only [go_sem,yL]
  refine X4 (fun x hx=>⟨ha.f x hx,by have:=Vl.h_f hx; omega⟩) hb.f (by omega) (by omega) fun r hr=>?_
  simp (maxSteps:=1000000) -dsimp only [go_sem]
  exact fin r _ (by rw [hr,hE])
def C1:List S->Prop:=fun av=>match av with
 | [.va (.gs r),.va (.gs q)]=>kD r/\kD q
 | _=>False
theorem pE {av:List S} (h:C1 av):∃ a b:Vl,av=[.va (.gs (aM a)),.va (.gs (aM b))]/\VlOk a/\VlOk b:=by
 unfold C1 at h
 split at h
 · obtain ⟨⟨a,rfl,h1⟩,⟨b,rfl,h2⟩⟩:=h; exact ⟨a,b,rfl,h1,h2⟩
 · exact h.elim
noncomputable def T6:List S->A:=fun av=>match av with
 | [.va (.gs r),.va (.gs q)]=>bA (dG (C.vv r) (C.vv q))
 | _=>.gs []
noncomputable def eqFn2:Fun:=⟨C1,T6,fun av h=>by obtain ⟨a,b,rfl,_⟩:=pE h; trivial⟩
attribute [go_sem] eqFn2 C1 T6
theorem Q7 (N:Nat):Meets Tryz.prog 44 (fun av H K=>∃ a b:Vl,av=[.va (.gs (aM a)),.va (.gs (aM b))]/\H=[]/\VlOk a/\VlOk b/\a.h<=N/\K (bS (dG a b)) []):=by
 refine aD Tryz.func44 aMW 2 (by rw [Tryz.ntmps44]; decide) (aC (rL N) (aA _)) (fun av H K h=>by obtain ⟨_,_,rfl,_⟩:=h; rfl) ?_
 rintro av H K ⟨a,b,rfl,rfl,ha,hb,hh,hK⟩
 simp (maxSteps:=1000000) -dsimp only [go_sem,aJ a,aJ b,YG,aCZ]
 refine n5 ha hb hh fun r hr=>?_
 simp (maxSteps:=1000000) -dsimp only [go_sem]
 exact .sel [] (by simp) (by simp) rfl (.done (by rw [hr]; simpa [go_sem] using hK))
theorem HL:Meets Tryz.prog 44 eqFn2.sp:=dX (0:Nat) Q7 fun av H K h=>by
 obtain ⟨⟨h,e⟩,hK⟩:=h
 obtain ⟨a,b,rfl,ha,hb⟩:=pE h
 have hK:K (bS (dG (C.vv (aM a)) (C.vv (aM b)))) []:=hK
 rw [fG,fG] at hK
 exact ⟨a.h,a,b,rfl,e,ha,hb,Nat.le_refl _,hK⟩
def VH:PC:=.seq (.reg [.e 2 (.bx 29 (.t 0)),.e 3 (.bx 29 (.t 1)),.q 4 (.mv (.k (.bool false)))]) (.seq (.reg [.l 5 (.ldn 5 (.t 2)),.l 6 (.ldn 5 (.t 3)),.a 7 (.cl 32 [(.t 5),(.t 6)] []),.q 8 (.bin .eql true (.t 7) (.i 0)),.v 4 8]) .ret)
def SM:List RV:=[.mv (.t 4)]
theorem aF9:aR Tryz.prog true ⟨fun r k=>if r=1/\k=2 then .own [] else .own [],fun _=>false⟩ Tryz.f14=some (VH,SM):=by kernel_rfl
def pC:PC:=.seq (.gh (.reg [.q 136 (.fa 4 (.t 2)),.l 137 (.ld1 (.t 136)),.q 138 (.lnL (.t 137)),.q 139 (.fa 4 (.t 3)),.l 140 (.ld1 (.t 139)),.q 141 (.lnL (.t 140)),.a 142 (.cq 58 [(.t 138),(.t 141)]),.v 4 142])) .ret
@[go_sem ↓] theorem aGX:aO pC:=aP _
def uT:PC:=.seq (.seq (.gh (.reg [.q 8 (.mv (.i 0))])) (.block 2 (.loop (.seq (.seq (.reg [.v 80 8,.q 81 (.fa 4 (.t 2)),.l 82 (.ld1 (.t 81)),.q 83 (.lnL (.t 82)),.q 84 (.bin .lss true (.t 80) (.t 83)),.v 85 84,⟨some 86,(some (85,true)),.q (.mv (.t 8))⟩,⟨some 87,(some (85,true)),.q (.fa 4 (.t 3))⟩,⟨some 88,(some (85,true)),.l (.ld1 (.t 87))⟩,⟨some 89,(some (85,true)),.q (.lnL (.t 88))⟩,⟨some 90,(some (85,true)),.q (.bin .lss true (.t 86) (.t 89))⟩,.a 91 (.pick (.t 85) (.t 90) (.k (.bool false)))]) (.cond (.t 91) .skip (.exit 2))) (.seq (.block 3 (.seq (.seq (.reg [.q 94 (.fa 4 (.t 2)),.l 95 (.ld1 (.t 94)),.v 96 8,.l 97 (.ia 6 (.t 95) (.t 96)),.q 98 (.fa 0 (.t 97)),.l 99 (.ld1 (.t 98)),.q 100 (.fa 4 (.t 3)),.l 101 (.ld1 (.t 100)),.v 102 8,.l 103 (.ia 6 (.t 101) (.t 102)),.q 104 (.fa 0 (.t 103)),.l 105 (.ld1 (.t 104)),.q 106 (.bin .neq true (.t 99) (.t 105))]) (.cond (.t 106) (.seq (.reg [.q 107 (.fa 4 (.t 2)),.l 108 (.ld1 (.t 107)),.v 109 8,.l 110 (.ia 6 (.t 108) (.t 109)),.q 111 (.fa 0 (.t 110)),.l 112 (.ld1 (.t 111)),.q 113 (.fa 4 (.t 3)),.l 114 (.ld1 (.t 113)),.v 115 8,.l 116 (.ia 6 (.t 114) (.t 115)),.q 117 (.fa 0 (.t 116)),.l 118 (.ld1 (.t 117)),.a 119 (.cq 58 [(.t 112),(.t 118)]),.v 4 119]) .ret) .skip)) (.seq (.reg [.q 120 (.fa 4 (.t 2)),.l 121 (.ld1 (.t 120)),.v 122 8,.l 123 (.ia 6 (.t 121) (.t 122)),.q 124 (.fa 1 (.t 123)),.l 125 (.ldn 5 (.t 124)),.q 126 (.fa 4 (.t 3)),.l 127 (.ld1 (.t 126)),.v 128 8,.l 129 (.ia 6 (.t 127) (.t 128)),.q 130 (.fa 1 (.t 129)),.l 131 (.ldn 5 (.t 130)),.a 132 (.cl 32 [(.t 125),(.t 131)] []),.v 9 132]) (.seq (.reg [.v 133 9,.q 134 (.bin .neq true (.t 133) (.i 0))]) (.cond (.t 134) (.seq (.reg [.v 135 9,.v 4 135]) .ret) .skip))))) (.reg [.v 92 8,.q 93 (.bin .add true (.t 92) (.i 1)),.v 8 93])))))) (pC)
@[go_sem ↓] theorem aGB:aO uT:=aP _
def m0:PC:=.seq (.seq (.gh (.reg [.q 66 (.fa 3 (.t 2)),.l 67 (.ld1 (.t 66)),.q 68 (.lnL (.t 67)),.q 69 (.fa 3 (.t 3)),.l 70 (.ld1 (.t 69)),.q 71 (.lnL (.t 70)),.q 72 (.bin .neq true (.t 68) (.t 71))])) (.cond (.t 72) (.seq (.reg [.q 73 (.fa 3 (.t 2)),.l 74 (.ld1 (.t 73)),.q 75 (.lnL (.t 74)),.q 76 (.fa 3 (.t 3)),.l 77 (.ld1 (.t 76)),.q 78 (.lnL (.t 77)),.a 79 (.cq 58 [(.t 75),(.t 78)]),.v 4 79]) .ret) .skip)) (uT)
@[go_sem ↓] theorem aGS:aO m0:=aP _
def u3:PC:=.seq (.seq (.gh (.reg [.q 6 (.mv (.i 0))])) (.block 0 (.loop (.seq (.seq (.reg [.v 38 6,.q 39 (.fa 3 (.t 2)),.l 40 (.ld1 (.t 39)),.q 41 (.lnL (.t 40)),.q 42 (.bin .lss true (.t 38) (.t 41)),.v 43 42,⟨some 44,(some (43,true)),.q (.mv (.t 6))⟩,⟨some 45,(some (43,true)),.q (.fa 3 (.t 3))⟩,⟨some 46,(some (43,true)),.l (.ld1 (.t 45))⟩,⟨some 47,(some (43,true)),.q (.lnL (.t 46))⟩,⟨some 48,(some (43,true)),.q (.bin .lss true (.t 44) (.t 47))⟩,.a 49 (.pick (.t 43) (.t 48) (.k (.bool false)))]) (.cond (.t 49) .skip (.exit 0))) (.seq (.block 1 (.seq (.reg [.q 52 (.fa 3 (.t 2)),.l 53 (.ld1 (.t 52)),.v 54 6,.l 55 (.ia 5 (.t 53) (.t 54)),.l 56 (.ldn 5 (.t 55)),.q 57 (.fa 3 (.t 3)),.l 58 (.ld1 (.t 57)),.v 59 6,.l 60 (.ia 5 (.t 58) (.t 59)),.l 61 (.ldn 5 (.t 60)),.a 62 (.cl 32 [(.t 56),(.t 61)] []),.v 7 62]) (.seq (.reg [.v 63 7,.q 64 (.bin .neq true (.t 63) (.i 0))]) (.cond (.t 64) (.seq (.reg [.v 65 7,.v 4 65]) .ret) .skip)))) (.reg [.v 50 6,.q 51 (.bin .add true (.t 50) (.i 1)),.v 6 51])))))) (m0)
@[go_sem ↓] theorem aHG:aO u3:=aP _
def s6:PC:=.seq (.seq (.gh (.reg [.q 30 (.fa 2 (.t 2)),.l 31 (.ld1 (.t 30)),.q 32 (.fa 2 (.t 3)),.l 33 (.ld1 (.t 32)),.a 34 (.cq 59 [(.t 31),(.t 33)]),.v 5 34])) (.seq (.reg [.v 35 5,.q 36 (.bin .neq true (.t 35) (.i 0))]) (.cond (.t 36) (.seq (.reg [.v 37 5,.v 4 37]) .ret) .skip))) (u3)
@[go_sem ↓] theorem aI1:aO s6:=aP _
def nT:PC:=.seq (.seq (.gh (.reg [.q 20 (.fa 1 (.t 2)),.l 21 (.ld1 (.t 20)),.q 22 (.fa 1 (.t 3)),.l 23 (.ld1 (.t 22)),.q 24 (.bin .lss true (.t 21) (.t 23))])) (.cond (.t 24) (.seq (.reg [.q 4 (.mv (.i (-1)))]) .ret) .skip)) (.seq (.seq (.reg [.q 25 (.fa 1 (.t 2)),.l 26 (.ld1 (.t 25)),.q 27 (.fa 1 (.t 3)),.l 28 (.ld1 (.t 27)),.q 29 (.bin .gtr true (.t 26) (.t 28))]) (.cond (.t 29) (.seq (.reg [.q 4 (.mv (.i 1))]) .ret) .skip)) (s6))
@[go_sem ↓] theorem aH3:aO nT:=aP _
def KU:PC:=.seq (.reg [.e 2 (.bx 29 (.t 0)),.e 3 (.bx 29 (.t 1)),.q 4 (.mv (.i 0))]) (.seq (.seq (.reg [.q 10 (.fa 0 (.t 2)),.l 11 (.ld1 (.t 10)),.q 12 (.fa 0 (.t 3)),.l 13 (.ld1 (.t 12)),.q 14 (.bin .neq true (.t 11) (.t 13))]) (.cond (.t 14) (.seq (.reg [.q 15 (.fa 0 (.t 2)),.l 16 (.ld1 (.t 15)),.q 17 (.fa 0 (.t 3)),.l 18 (.ld1 (.t 17)),.a 19 (.cq 58 [(.t 16),(.t 18)]),.v 4 19]) .ret) .skip)) (nT))
def JT:List RV:=[.mv (.t 4)]
theorem aHK:aR Tryz.prog true ⟨fun r k=>if r=2/\k=4 then .q else if r=7/\k=4 then .q else if r=13/\k=10 then .own [] else if r=17/\k=6 then .q else if r=22/\k=12 then .q else if r=23/\k=12 then .own [] else if r=26/\k=6 then .q else .own [],fun r=>[3,7,10,16,18,26].contains r⟩ Tryz.f32=some (KU,JT):=by kernel_rfl
def CY:List S->Prop:=fun av=>match av with
 | [.va (.c1 (.vl (.string a))),.va (.c1 (.vl (.string b)))]=>a.size<=9223372036854775807/\b.size<=9223372036854775807
 | _=>False
theorem qG {av:List S} (h:CY av):∃ a b:List UInt8,av=[tS (mk a),tS (mk b)]/\a.length<=9223372036854775807/\b.length<=9223372036854775807:=by
 unfold CY at h
 split at h
 · rename_i a b
   rw [dC,dC] at h
   exact ⟨bl a,bl b,by rw [gI,gI],h.1,h.2⟩
 · exact h.elim
def soFn:Fun:=⟨CY,KV,fun av h=>by obtain ⟨a,b,rfl,_⟩:=qG h; trivial⟩
theorem PW:∀ av H K,soFn.sp av H K->av.length=2:=fun av H K h=>by obtain ⟨a,b,rfl,_⟩:=qG h.1.1; rfl
attribute [go_sem] soFn CY
theorem N5 (x y:UInt8) (a b:List UInt8):Lib.compareBytes (x :: a) (y :: b)=if x < y then -1 else if y < x then 1 else Lib.compareBytes a b:=by rw [Lib.compareBytes]
theorem aA2 (x y:UInt8):decide ((x.toNat:Int) < (y.toNat:Int))=decide (x < y):=by
 rw [Bool.eq_iff_iff,decide_eq_true_iff,decide_eq_true_iff,UInt8.lt_iff_toNat_lt]; omega
theorem XJ:Meets Tryz.prog 59 soFn.sp:=by
 refine aD Tryz.func59 aNA 2 (by rw [Tryz.ntmps59]; decide) (aG TH (aA _)) PW ?_
 rintro av H K ⟨⟨h,rfl⟩,hK⟩
 obtain ⟨a,b,rfl,ha,hb⟩:=qG h
 have hK:K (iS .i64 (Lib.compareBytes a b)) []:=hK
 clear h
 have fin:∀ (r:Int) (R:Hp),Lib.compareBytes a b=r->W.Fin 0 K (iS .i64 r) R:=fun r R h=>by
  rw [h] at hK; exact .sel [] (by simp) (by simp) rfl (.done (by simpa [go_sem] using hK))
 clear hK
 simp (maxSteps:=1000000) -dsimp only [go_sem,Y7,Y5]
 refine aS (α:=Nat) (fun i=>[(0,tS (mk a)),(1,tS (mk b)),(5,iS .i64 i)]) (fun _=>[])
  (fun i=>i<=a.length/\i<=b.length/\Lib.compareBytes (a.drop i) (b.drop i)=Lib.compareBytes a b) (fun i=>a.length - i) 0 0 ⟨Nat.zero_le _,Nat.zero_le _,rfl⟩ ?_ ?_ ?_
 · simp -dsimp only [go_sem]<;>simp
 · simp -dsimp only [go_sem]<;>simp
 rintro i ⟨hi,hib,ho⟩
 rcases bE i a.length with hlt | hge
 · have hg:decide ((i:Int) < (a.length:Int))=true:=by simp; omega
   obtain ⟨x,hx⟩:∃ c,a[i]? = some c:=⟨_,aW hlt⟩
   have hdx:a.drop i=x :: a.drop (i + 1):=by
    obtain ⟨h,rfl⟩:=bH.1 hx
    exact List.drop_eq_getElem_cons h
   rcases bE i b.length with hlt2 | hge2
   · have hg2:decide ((i:Int) < (b.length:Int))=true:=by simp; omega
     obtain ⟨y,hy⟩:∃ c,b[i]? = some c:=⟨_,aW hlt2⟩
     have hdy:b.drop i=y :: b.drop (i + 1):=by
      obtain ⟨h,rfl⟩:=bH.1 hy
      exact List.drop_eq_getElem_cons h
     rw [hdx,hdy,N5] at ho
     simp (maxSteps:=1000000) -dsimp only [go_sem,hg,hg2,hx,hy,aH,forall_eq',aA2]
     refine ⟨by omega,by omega,fun h1=>fin _ _ ?_,fun h1=>⟨by omega,by omega,fun h2=>fin _ _ ?_,fun h2=>?_⟩⟩
     · rw [<-ho,if_pos (of_decide_eq_true h1)]
     · rw [<-ho,if_neg (of_decide_eq_false h1),if_pos (of_decide_eq_true h2)]
     · rw [if_neg (of_decide_eq_false h1),if_neg (of_decide_eq_false h2)] at ho
       refine ⟨by omega,aE (i + 1) 0 ⟨by omega,by omega,ho⟩ (by omega) ?_ ?_⟩
       · simp -dsimp only [go_sem]<;>simp
       · simp -dsimp only [go_sem]<;>simp
   · have hg2:decide ((i:Int) < (b.length:Int))=false:=by simp; omega
     have hdy:b.drop i=[]:=List.drop_eq_nil_iff.2 hge2
     rw [hdx,hdy,Lib.compareBytes] at ho
     simp (maxSteps:=1000000) -dsimp only [go_sem,hg,hg2]
     exact fin _ _ (by rw [<-ho]; unfold lH; rw [decide_eq_false (by omega),decide_eq_true (by omega)]; rfl)
 · have hg:decide ((i:Int) < (a.length:Int))=false:=by simp; omega
   have hdx:a.drop i=[]:=List.drop_eq_nil_iff.2 hge
   rw [hdx] at ho
   simp (maxSteps:=1000000) -dsimp only [go_sem,hg]
   refine fin _ _ ?_
   rw [<-ho]
   unfold lH
   rcases bE i b.length with hlt2 | hge2
   · obtain ⟨y,hy⟩:∃ c,b[i]? = some c:=⟨_,aW hlt2⟩
     have hdy:b.drop i=y :: b.drop (i + 1):=by
      obtain ⟨h,rfl⟩:=bH.1 hy
      exact List.drop_eq_getElem_cons h
     rw [hdy,Lib.compareBytes,decide_eq_true (by omega)]; rfl
   · have hdy:b.drop i=[]:=List.drop_eq_nil_iff.2 hge2
     rw [hdy,Lib.compareBytes,decide_eq_false (by omega),decide_eq_false (by omega)]; rfl
theorem BW:∀ N,Meets Tryz.prog 32 (A0 N)
 | 0=>⟨by kernel_rfl,by rintro xs vs E ro w K _ _ _ ⟨a,_,_,_,_,_,h,_⟩; have:=a.h_pos; omega⟩
 | N + 1=>by
  refine aD Tryz.func32 aHK 2 (by rw [Tryz.ntmps32]; decide) (aC (BW N) (aG TH (aG XJ (aA _)))) (fun av H K h=>by obtain ⟨_,_,rfl,_⟩:=h; rfl) ?_
  rintro av H K ⟨a,b,rfl,rfl,ha,hb,hh,hK⟩
  have hE:=MC a b
  have fin:∀ (r:Int) (R:Hp),(r == 0)=dG a b->W.Fin 0 K (iS .i64 r) R:=fun r R h=>.sel [] (by simp) (by simp) rfl (.done (by simpa [go_sem] using hK r h))
  clear hK
  have hs1:=mU a.k b.k
  have hs3:=EK (bl a.s) (bl b.s)
  have hs5:=mU (a.l.length:Int) (b.l.length:Int)
  have hla:=ha.ll
  have hlb:=hb.ll
  have hfa:=ha.lf
  have hfb:=hb.lf
  have hsa:(a.s.size<=9223372036854775807)=True:=eq_true ha.s
  have hsb:(b.s.size<=9223372036854775807)=True:=eq_true hb.s
  cases c1:a.k == b.k with
  | false=>
   have c1':(a.k != b.k)=true:=by rw [bne,c1]; rfl
   rw [c1] at hs1 hE
   simp (maxSteps:=1000000) -dsimp only [go_sem,aJ a,aJ b,KU,JT,c1']
   exact fin _ _ (by rw [hs1,hE]; rfl)
  | true=>
  have c1':(a.k != b.k)=false:=by rw [bne,c1]; rfl
  rw [c1,Bool.true_and] at hE
  simp (maxSteps:=1000000) -dsimp only [go_sem,aJ a,aJ b,KU,JT,c1']
  refine aB rfl (.done ?_)
  cases c2:decide (a.n < b.n) with
  | true=>
   have c2':=of_decide_eq_true c2
   rw [show (a.n == b.n)=false by simp; omega] at hE
   simp (maxSteps:=1000000) -dsimp only [go_sem,nT,c2]
   exact fin _ _ (by rw [hE]; rfl)
  | false=>
  cases c3:decide (b.n < a.n) with
  | true=>
   have c3':=of_decide_eq_true c3
   rw [show (a.n == b.n)=false by simp; omega] at hE
   simp (maxSteps:=1000000) -dsimp only [go_sem,nT,c2,c3]
   exact fin _ _ (by rw [hE]; rfl)
  | false=>
  have c2':=of_decide_eq_false c2
  have c3':=of_decide_eq_false c3
  rw [show (a.n == b.n)=true by simp; omega,Bool.true_and] at hE
  simp (maxSteps:=1000000) -dsimp only [go_sem,nT,c2,c3]
  refine aB rfl (.done ?_)
  cases c4:Lib.compareBytes (bl a.s) (bl b.s) == 0 with
  | false=>
   have c4':(Lib.compareBytes (bl a.s) (bl b.s) != 0)=true:=by rw [bne,c4]; rfl
   rw [c4] at hs3
   rw [<-hs3] at hE
   simp (maxSteps:=1000000) -dsimp only [go_sem,s6,hsa,hsb,c4']
   exact fin _ _ (by rw [hE,c4]; rfl)
  | true=>
  have c4':(Lib.compareBytes (bl a.s) (bl b.s) != 0)=false:=by rw [bne,c4]; rfl
  rw [c4] at hs3
  rw [<-hs3,Bool.true_and] at hE
  simp (maxSteps:=1000000) -dsimp only [go_sem,s6,hsa,hsb,c4']
  refine aB rfl (.done ?_)
  simp (maxSteps:=1000000) -dsimp only [go_sem,u3]
  refine aS (α:=Nat) (fun i=>[(2,.va (.c1 (.pt 0 0))),(3,.va (.c1 (.pt 1 0))),(6,iS .i64 i)]) (fun _=>[.cells (bJ a) 29,.cells (bJ b) 29])
   (fun i=>i<=a.l.length/\i<=b.l.length/\fM (a.l.drop i) (b.l.drop i)=fM a.l b.l) (fun i=>a.l.length - i) 0 2 ⟨Nat.zero_le _,Nat.zero_le _,rfl⟩ ?_ ?_ ?_
  · simp -dsimp only [go_sem]<;>simp
  · simp -dsimp only [go_sem,bJ]<;>simp
  rintro i ⟨hi,hib,ho⟩
  have more:∀ (x y:Vl),a.l[i]? = some x->b.l[i]? = some y->fM (a.l.drop i) (b.l.drop i)=(dG x y && fM (a.l.drop (i + 1)) (b.l.drop (i + 1))):=fun x y hx hy=>by
   obtain ⟨h1,rfl⟩:=bH.1 hx
   obtain ⟨h2,rfl⟩:=bH.1 hy
   rw [List.drop_eq_getElem_cons h1,List.drop_eq_getElem_cons h2,GD]
  rcases bE i a.l.length with hlt | hge
  · rcases bE i b.l.length with hlt2 | hge2
    · have hg:decide ((i:Int) < (a.l.length:Int))=true:=by simp; omega
      have hg2:decide ((i:Int) < (b.l.length:Int))=true:=by simp; omega
      have hx:a.l[i]? = some a.l[i]:=aW hlt
      have hy:b.l[i]? = some b.l[i]:=aW hlt2
      have q1:=nJ hx
      have q2:=nJ hy
      have hxm:=List.getElem_mem hlt
      have hym:=List.getElem_mem hlt2
      rw [more _ _ hx hy] at ho
      have hxh:=Vl.h_l hxm
      have hxo:=ha.l _ hxm
      have hyo:=hb.l _ hym
      generalize a.l[i]=x at *
      generalize b.l[i]=y at *
      simp (maxSteps:=1000000) -dsimp only [go_sem,bJ,hg,hg2,↓q1,↓q2]
      refine ⟨by omega,by omega,n5 hxo hyo (by omega) fun r hr=>?_⟩
      rw [<-hr] at ho
      simp (maxSteps:=1000000) -dsimp only [go_sem]
      refine ⟨fun h1=>fin r _ ?_,fun h1=>?_⟩
      · have h2:(r == 0)=false:=by simpa using h1
        rw [h2,Bool.false_and] at ho
        rw [h2,hE,<-ho]; rfl
      · have h2:(r == 0)=true:=by simpa using h1
        rw [h2,Bool.true_and] at ho
        refine ⟨by omega,aE (i + 1) 2 ⟨by omega,by omega,ho⟩ (by omega) ?_ ?_⟩
        · simp -dsimp only [go_sem]<;>simp
        · simp -dsimp only [go_sem,bJ]<;>simp [bJ]
    · have hg:decide ((i:Int) < (a.l.length:Int))=true:=by simp; omega
      have hg2:decide ((i:Int) < (b.l.length:Int))=false:=by simp; omega
      have hne:((a.l.length:Int) != (b.l.length:Int))=true:=by simp; omega
      rw [List.drop_eq_nil_iff.2 hge2,List.drop_eq_getElem_cons hlt,fM] at ho
      simp (maxSteps:=1000000) -dsimp only [go_sem,bJ,hg,hg2]
      refine aB rfl (.done ?_)
      simp (maxSteps:=1000000) -dsimp only [go_sem,m0,hne]
      refine fin _ _ ?_
      rw [hs5,hE,<-ho]
      simp; omega
  · have hg:decide ((i:Int) < (a.l.length:Int))=false:=by simp; omega
    obtain rfl:i=a.l.length:=by omega
    rw [List.drop_length] at ho
    simp (maxSteps:=1000000) -dsimp only [go_sem,bJ,hg]
    refine aB rfl (.done ?_)
    rcases bE a.l.length b.l.length with hlt2 | hge2
    · have hne:((a.l.length:Int) != (b.l.length:Int))=true:=by simp; omega
      rw [List.drop_eq_getElem_cons hlt2,fM] at ho
      simp (maxSteps:=1000000) -dsimp only [go_sem,m0,hne]
      refine fin _ _ ?_
      rw [hs5,hE,<-ho]
      simp; omega
    · have hle:a.l.length=b.l.length:=by omega
      have hne:((a.l.length:Int) != (b.l.length:Int))=false:=by simp; omega
      rw [List.drop_eq_nil_iff.2 hge2,fM] at ho
      rw [<-ho,Bool.true_and] at hE
      simp (maxSteps:=1000000) -dsimp only [go_sem,m0,hne]
      refine aB rfl (.done ?_)
      simp (maxSteps:=1000000) -dsimp only [go_sem,uT]
      clear ho more hi hib hge hg hs5 hne hle hge2
      have hs6:=mU (a.f.length:Int) (b.f.length:Int)
      refine aS (α:=Nat) (fun i=>[(2,.va (.c1 (.pt 0 0))),(3,.va (.c1 (.pt 1 0))),(8,iS .i64 i)]) (fun _=>[.cells (bJ a) 29,.cells (bJ b) 29])
       (fun i=>i<=a.f.length/\i<=b.f.length/\eX (a.f.drop i) (b.f.drop i)=eX a.f b.f) (fun i=>a.f.length - i) 0 2 ⟨Nat.zero_le _,Nat.zero_le _,rfl⟩ ?_ ?_ ?_
      · simp -dsimp only [go_sem]<;>simp
      · simp -dsimp only [go_sem,bJ]<;>simp [bJ]
      rintro i ⟨hi,hib,ho⟩
      rcases bE i a.f.length with hlt | hge
      · rcases bE i b.f.length with hlt2 | hge2
        · have hg:decide ((i:Int) < (a.f.length:Int))=true:=by simp; omega
          have hg2:decide ((i:Int) < (b.f.length:Int))=true:=by simp; omega
          have hx:a.f[i]? = some a.f[i]:=aW hlt
          have hy:b.f[i]? = some b.f[i]:=aW hlt2
          have q1:=gG hx
          have q2:=gG hy
          have hxm:=List.getElem_mem hlt
          have hym:=List.getElem_mem hlt2
          rw [List.drop_eq_getElem_cons hlt,List.drop_eq_getElem_cons hlt2,GP] at ho
          have hxh:=Vl.h_f hxm
          have hxo:=ha.f _ hxm
          have hyo:=hb.f _ hym
          generalize a.f[i]=x at *
          generalize b.f[i]=y at *
          have hs7:=mU x.1 y.1
          cases c7:x.1 == y.1 with
          | false=>
           have c7':(x.1 != y.1)=true:=by rw [bne,c7]; rfl
           rw [c7,Bool.false_and] at ho
           rw [c7] at hs7
           simp (maxSteps:=1000000) -dsimp only [go_sem,bJ,hg,hg2,↓q1,↓q2,c7']
           refine ⟨by omega,by omega,by omega,by omega,fin _ _ (by rw [hs7,hE,<-ho])⟩
          | true=>
           have c7':(x.1 != y.1)=false:=by rw [bne,c7]; rfl
           rw [c7,Bool.true_and] at ho
           simp (maxSteps:=1000000) -dsimp only [go_sem,bJ,hg,hg2,↓q1,↓q2,c7',List.take_succ_cons,List.take_zero,List.length_cons,List.length_nil]
           refine ⟨by omega,by omega,by omega,by omega,n5 hxo hyo (by omega) fun r hr=>?_⟩
           rw [<-hr] at ho
           simp (maxSteps:=1000000) -dsimp only [go_sem]
           refine ⟨fun h1=>fin r _ ?_,fun h1=>?_⟩
           · have h2:(r == 0)=false:=by simpa using h1
             rw [h2,Bool.false_and] at ho
             rw [h2,hE,<-ho]
           · have h2:(r == 0)=true:=by simpa using h1
             rw [h2,Bool.true_and] at ho
             refine ⟨by omega,aE (i + 1) 2 ⟨by omega,by omega,ho⟩ (by omega) ?_ ?_⟩
             · simp -dsimp only [go_sem]<;>simp
             · simp -dsimp only [go_sem,bJ]<;>simp [bJ]
        · have hg:decide ((i:Int) < (a.f.length:Int))=true:=by simp; omega
          have hg2:decide ((i:Int) < (b.f.length:Int))=false:=by simp; omega
          have he:∀ x:Int × Vl,eX (x :: a.f.drop (i + 1)) []=false:=fun x=>by obtain ⟨j,x⟩:=x; rw [eX]
          rw [List.drop_eq_nil_iff.2 hge2,List.drop_eq_getElem_cons hlt,he] at ho
          simp (maxSteps:=1000000) -dsimp only [go_sem,bJ,hg,hg2]
          refine aB rfl (.done ?_)
          simp (maxSteps:=1000000) -dsimp only [go_sem,pC]
          refine fin _ _ ?_
          rw [hs6,hE,<-ho]
          simp; omega
      · have hg:decide ((i:Int) < (a.f.length:Int))=false:=by simp; omega
        obtain rfl:i=a.f.length:=by omega
        rw [List.drop_length] at ho
        simp (maxSteps:=1000000) -dsimp only [go_sem,bJ,hg]
        refine aB rfl (.done ?_)
        simp (maxSteps:=1000000) -dsimp only [go_sem,pC]
        refine fin _ _ ?_
        rw [hs6,hE,<-ho]
        rcases bE a.f.length b.f.length with hlt2 | hge2
        · have he:∀ x:Int × Vl,eX [] (x :: b.f.drop (a.f.length + 1))=false:=fun x=>by obtain ⟨j,x⟩:=x; rw [eX]
          rw [List.drop_eq_getElem_cons hlt2,he]
          simp; omega
        · rw [List.drop_eq_nil_iff.2 hge2,eX]
          simp; omega
theorem OR (N:Nat):Meets Tryz.prog 14 (fun av H K=>∃ a b:Vl,av=[.va (.gs (aM a)),.va (.gs (aM b))]/\H=[]/\VlOk a/\VlOk b/\a.h<=N/\K (bS (dG a b)) []):=by
 refine aD Tryz.func14 aF9 2 (by rw [Tryz.ntmps14]; decide) (aC (BW N) (aA _)) (fun av H K h=>by obtain ⟨_,_,rfl,_⟩:=h; rfl) ?_
 rintro av H K ⟨a,b,rfl,rfl,ha,hb,hh,hK⟩
 simp (maxSteps:=1000000) -dsimp only [go_sem,aJ a,aJ b,VH,SM]
 refine n5 ha hb hh fun r hr=>?_
 simp (maxSteps:=1000000) -dsimp only [go_sem]
 exact .sel [] (by simp) (by simp) rfl (.done (by rw [hr]; simpa [go_sem] using hK))
theorem IX:Meets Tryz.prog 14 eqFn2.sp:=dX (0:Nat) OR fun av H K h=>by
 obtain ⟨⟨h,e⟩,hK⟩:=h
 obtain ⟨a,b,rfl,ha,hb⟩:=pE h
 have hK:K (bS (dG (C.vv (aM a)) (C.vv (aM b)))) []:=hK
 rw [fG,fG] at hK
 exact ⟨a.h,a,b,rfl,e,ha,hb,Nat.le_refl _,hK⟩
def CS:PC:=.seq (.gh (.reg [.l 29 (.ldn 3 (.t 3)),.l 30 (.ldn 2 (.t 8)),.l 31 (.ldn 5 (.t 5)),.a 32 (.cq 26 [(.t 29),(.t 30),(.t 31)]),.v 11 32])) (.seq (.seq (.reg [.v 33 11,.q 34 (.lnS (.t 33)),.q 35 (.bin .gtr true (.t 34) (.i 2000))]) (.cond (.t 35) (.seq (.reg [.q 6 (.mv (.k (.string (mk [])))),.q 7 (.mv (.i 3))]) .ret) .skip)) (.seq (.reg [.v 36 11,.v 6 36,.q 7 (.mv (.i 0))]) .ret))
@[go_sem ↓] theorem aOJ:aO CS:=aP _
def DT:PC:=.seq (.seq (.gh (.ord  [.q (.l 21 (.ldn 3 (.t 3))),.q (.v 22 1),.q (.l 24 (.ldn 5 (.t 5))),.m (.a 23 (.cl 25 [(.t 22)] [])),.rc (.l 21 (.ldn 3 (.t 3))),.rc (.l 24 (.ldn 5 (.t 5))),.m (.a 25 (.cq 24 [(.t 21),(.t 23),(.t 24)])),.m (.v 10 25)])) (.seq (.reg [.v 26 10,.q 27 (.bin .neq true (.t 26) (.i 0))]) (.cond (.t 27) (.seq (.reg [.v 28 10,.q 6 (.mv (.k (.string (mk [])))),.v 7 28]) .ret) .skip))) (CS)
@[go_sem ↓] theorem aPQ:aO DT:=aP _
def r9:PC:=.seq (.seq (.gh (.reg [.v 18 9,.q 19 (.bin .neq true (.t 18) (.i 0))])) (.cond (.t 19) (.seq (.reg [.v 20 9,.q 6 (.mv (.k (.string (mk [])))),.v 7 20]) .ret) .skip)) (DT)
@[go_sem ↓] theorem aPV:aO r9:=aP _
def pc9:PC:=.seq (.reg [.e 3 (.bx 25 (.t 0)),.e 5 (.bx 29 (.t 2)),.q 6 (.mv (.k (.string (mk [])))),.q 7 (.mv (.i 0))]) (.seq (.reg [.l 13 (.ldn 3 (.t 3)),.v 14 1,.a 15 (.cl 23 [(.t 13),(.t 14)] []),.v 12 15,.q 16 (.ex (.t 12) 0),.q 17 (.ex (.t 12) 1),.e 8 (.al (.agg #[(.string (mk [])),(.slice none 0 0)]) 48),.s (.st 2 (.t 8) (.t 16)),.v 9 17]) (r9))
def rs9:List RV:=[.mv (.t 6),.mv (.t 7)]
theorem ok9:aR Tryz.prog true ⟨fun r k=>if r=4/\k=4 then .q else if r=7/\k=3 then .q else .own [],fun r=>[2,4,7].contains r⟩ Tryz.f9=some (pc9,rs9):=by kernel_rfl
def E0:PC:=.seq (.gh (.reg [.l 24 (.ldn 3 (.t 3)),.l 25 (.ldn 2 (.t 8)),.v 26 2,.a 27 (.cl 30 [(.t 24),(.t 25),(.t 26)] []),.q 28 (.ex (.t 27) 0),.q 29 (.ex (.t 27) 1),.s (.st 5 (.t 6) (.t 28)),.v 7 29])) .ret
@[go_sem ↓] theorem aLO:aO E0:=aP _
def oS:PC:=.seq (.seq (.gh (.reg [.v 16 9,.q 17 (.bin .neq true (.t 16) (.i 0))])) (.cond (.t 17) (.seq (.reg [.q 18 (.bd [(.int .i64 0),(.int .i64 0),(.string (mk [])),(.slice none 0 0),(.slice none 0 0)] []),.v 19 9,.s (.st 5 (.t 6) (.t 18)),.v 7 19]) .ret) .skip)) (.seq (.seq (.reg [.v 20 2,.q 21 (.lnS (.t 20)),.q 22 (.bin .gtr true (.t 21) (.i 2000))]) (.cond (.t 22) (.seq (.reg [.q 23 (.bd [(.int .i64 0),(.int .i64 0),(.string (mk [])),(.slice none 0 0),(.slice none 0 0)] []),.s (.st 5 (.t 6) (.t 23)),.q 7 (.mv (.i 3))]) .ret) .skip)) (E0))
@[go_sem ↓] theorem aN1:aO oS:=aP _
def aDB:PC:=.seq (.reg [.e 3 (.bx 25 (.t 0)),.e 6 (.al (.agg #[(.int .i64 0),(.int .i64 0),(.string (mk [])),(.slice none 0 0),(.slice none 0 0)]) 29),.q 7 (.mv (.i 0))]) (.seq (.reg [.l 11 (.ldn 3 (.t 3)),.v 12 1,.a 13 (.cl 23 [(.t 11),(.t 12)] []),.v 10 13,.q 14 (.ex (.t 10) 0),.q 15 (.ex (.t 10) 1),.e 8 (.al (.agg #[(.string (mk [])),(.slice none 0 0)]) 48),.s (.st 2 (.t 8) (.t 14)),.v 9 15]) (oS))
def aAX:List RV:=[.ld (.ldn 5 (.t 6)),.mv (.t 7)]
theorem aNW:aR Tryz.prog true ⟨fun _ _=>.own [],fun r=>[2,6].contains r⟩ Tryz.f12=some (aDB,aAX):=by kernel_rfl
def wD:PC:=.seq (.gh (.reg [.v 11 6,.q 12 (.bin .neq true (.t 11) (.i 0))])) (.cond (.t 12) (.seq (.reg [.q 13 (.bd [(.string (mk [])),(.slice none 0 0)] []),.v 14 6,.s (.st 2 (.t 4) (.t 13)),.v 5 14]) .ret) .skip)
@[go_sem ↓] theorem aKI:aO wD:=aP _
def v6:PC:=.seq (.seq (.gh (.reg [.v 21 8,.q 22 (.not (.t 21))])) (.cond (.t 22) (.seq (.reg [.q 23 (.bd [(.string (mk [])),(.slice none 0 0)] []),.s (.st 2 (.t 4) (.t 23)),.q 5 (.mv (.i 6))]) .ret) .skip)) (.seq (.reg [.l 24 (.ldn 2 (.t 7)),.s (.st 2 (.t 4) (.t 24)),.q 5 (.mv (.i 0))]) .ret)
@[go_sem ↓] theorem aLW:aO v6:=aP _
def EL:PC:=.seq (.gh (.reg [.l 16 (.ldn 3 (.t 2)),.v 17 1,.a 18 (.cl 40 [(.t 16),(.t 17)] []),.v 15 18,.q 19 (.ex (.t 15) 0),.q 20 (.ex (.t 15) 1),.e 7 (.al (.agg #[(.string (mk [])),(.slice none 0 0)]) 48),.s (.st 2 (.t 7) (.t 19)),.v 8 20])) (v6)
@[go_sem ↓] theorem aM8:aO EL:=aP _
def aBW:PC:=.seq (.reg [.e 2 (.bx 25 (.t 0)),.e 4 (.al (.agg #[(.string (mk [])),(.slice none 0 0)]) 48),.q 5 (.mv (.i 0))]) (.seq (.seq (.reg [.l 9 (.ldn 3 (.t 2)),.a 10 (.cq 39 [(.t 9)]),.v 6 10]) (wD)) (EL))
def aBX:List RV:=[.ld (.ldn 2 (.t 4)),.mv (.t 5)]
theorem aN5:aR Tryz.prog true ⟨fun r k=>if r=1/\k=1 then .q else .own [],fun r=>[2,4,5].contains r⟩ Tryz.f23=some (aBW,aBX):=by kernel_rfl
def aDZ:PC:=.seq (.reg [.e 2 (.al (.agg #[(.int .i64 0),(.int .i64 0),(.string (mk [])),(.slice none 0 0)]) 42)]) (.seq (.reg [.v 3 0,.q 4 (.bd [(.int .i64 0),(.int .i64 0),(.string (mk [])),(.slice none 0 0)] [(0,1,(.i 6)),(2,1,(.t 3))]),.s (.st 4 (.t 2) (.t 4))]) .ret)
def ZF:List RV:=[.ld (.ldn 4 (.t 2))]
theorem aNZ:aR Tryz.prog true ⟨fun _ _=>.own [],fun _=>false⟩ Tryz.f25=some (aDZ,ZF):=by kernel_rfl
def x7:PC:=.gh (.reg [.v 41 7,.q 42 (.fa 0 (.t 9)),.l 43 (.ld1 (.t 42)),.q 44 (.cvt .u64 (.t 43)),.a 45 (.cq 46 [(.t 44)]),.l 46 (.ldn 3 (.t 3)),.q 47 (.fa 2 (.t 9)),.l 48 (.ldn 4 (.t 47)),.l 49 (.ldn 5 (.t 10)),.a 50 (.cq 48 [(.t 46),(.t 48),(.t 49)]),.a 51 (.cq 47 [(.t 50)]),.q 52 (.bin .add true (.t 45) (.t 51)),.q 53 (.bin .add true (.t 41) (.t 52)),.v 7 53])
@[go_sem ↓] theorem aL6:aO x7:=aP _
def rE:PC:=.seq (.seq (.gh (.ord  [.q (.v 26 11),.q (.q 27 (.not (.t 26))),.q (.v 28 27),.q ⟨some 29,(some (28,false)),.q (.fa 6 (.t 9))⟩,.q ⟨some 30,(some (28,false)),.l (.ld1 (.t 29))⟩,.q ⟨some 31,(some (28,false)),.q (.not (.t 30))⟩,.q ⟨some 32,(some (28,false)),.q (.mv (.t 31))⟩,.q ⟨some 33,(some (32,true)),.l (.ldn 5 (.t 10))⟩,.q ⟨some 34,(some (32,true)),.l (.ldn 3 (.t 3))⟩,.q ⟨some 35,(some (32,true)),.q (.fa 2 (.t 9))⟩,.q ⟨some 36,(some (32,true)),.l (.ldn 4 (.t 35))⟩,.m ⟨some 37,(some (32,true)),.cl 45 [(.t 34),(.t 36)] []⟩,.rc ⟨some 33,(some (32,true)),.l (.ldn 5 (.t 10))⟩,.m ⟨some 38,(some (32,true)),.cq 44 [(.t 33),(.t 37)]⟩,.q ⟨some 39,(some (28,false)),.pick (.t 32) (.t 38) (.k (.bool false))⟩,.q (.a 40 (.pick (.t 28) (.k (.bool true)) (.t 39)))])) (.cond (.t 40) (.exit 1) .skip)) (x7)
@[go_sem ↓] theorem aLH:aO rE:=aP _
def aBM:PC:=.seq (.reg [.e 3 (.bx 25 (.t 0)),.e 4 (.bx 48 (.t 1)),.e 5 (.bx 29 (.t 2)),.q 6 (.mv (.k (.string (mk []))))]) (.seq (.reg [.q 7 (.mv (.k (.string (mk []))))]) (.seq (.seq (.reg [.q 12 (.fa 1 (.t 4)),.l 13 (.ld1 (.t 12)),.q 14 (.lnL (.t 13)),.q 15 (.mv (.i 0))]) (.block 0 (.loop (.seq (.reg [.q 16 (.bin .lss true (.t 15) (.t 14))]) (.seq (.cond (.t 16) .skip (.exit 0)) (.seq (.block 1 (.seq (.reg [.l 17 (.ia 7 (.t 13) (.t 15)),.l 18 (.ldn 7 (.t 17)),.e 9 (.al (.agg #[(.int .i64 0),(.string (mk [])),(.int .i64 0),(.int .i64 0),(.string (mk [])),(.slice none 0 0),(.bool false)]) 52),.s (.st 7 (.t 9) (.t 18))]) (.seq (.reg [.l 20 (.ldn 5 (.t 5)),.q 21 (.fa 0 (.t 9)),.l 22 (.ld1 (.t 21)),.a 23 (.cl 43 [(.t 20),(.t 22)] []),.v 19 23,.q 24 (.ex (.t 19) 0),.q 25 (.ex (.t 19) 1),.e 10 (.al (.agg #[(.int .i64 0),(.int .i64 0),(.string (mk [])),(.slice none 0 0),(.slice none 0 0)]) 29),.s (.st 5 (.t 10) (.t 24)),.v 11 25]) (rE)))) (.reg [.q 54 (.bin .add true (.t 15) (.i 1)),.v 15 54]))))))) (.seq (.reg [.v 55 7,.v 6 55]) .ret)))
def aDA:List RV:=[.mv (.t 6)]
theorem aN9:aR Tryz.prog true ⟨fun r k=>if r=6/\k=12 then .q else if r=7/\k=4 then .q else if r=7/\k=9 then .q else if r=7/\k=10 then .q else .own [],fun r=>[6,7].contains r⟩ Tryz.f26=some (aBM,aDA):=by kernel_rfl
def iO:List OJ:=[.rc ⟨some 64,(some (63,true)),.l (.ldn 5 (.t 15))⟩,.m ⟨some 69,(some (63,true)),.cq 44 [(.t 64),(.t 68)]⟩,.q (.a 70 (.pick (.t 63) (.t 69) (.k (.bool false)))),.q (.v 71 70),.q ⟨some 72,(some (71,true)),.q (.fa 2 (.t 13))⟩,.q ⟨some 73,(some (71,true)),.q (.fa 0 (.t 72))⟩,.q ⟨some 74,(some (71,true)),.l (.ld1 (.t 73))⟩,.q ⟨some 75,(some (71,true)),.q (.bin .neq true (.t 74) (.i 6))⟩,.q ⟨some 76,(some (71,true)),.q (.mv (.t 75))⟩,.q ⟨some 77,(some (76,false)),.q (.fa 1 (.t 10))⟩,.q ⟨some 78,(some (76,false)),.l (.ld1 (.t 77))⟩,.q ⟨some 79,(some (76,false)),.q (.bin .eql true (.t 78) (.k (.string (mk []))))⟩,.q ⟨some 80,(some (71,true)),.pick (.t 76) (.k (.bool true)) (.t 79)⟩,.q (.a 81 (.pick (.t 71) (.t 80) (.k (.bool false))))]
def oL:PC:=.gh (.reg [.v 86 8,.q 87 (.fa 0 (.t 10)),.l 88 (.ld1 (.t 87)),.l 89 (.ldn 5 (.t 15)),.s (.mu (.int .i64) (.t 86) (.t 88) (.t 89))])
@[go_sem ↓] theorem aIU:aO oL:=aP _
def iU:PC:=.seq (.seq (.gh (.reg [.v 82 12,.q 83 (.bin .neq true (.t 82) (.i 0))])) (.cond (.t 83) (.seq (.reg [.q 84 (.bd [(.int .i64 0),(.int .i64 0),(.string (mk [])),(.slice none 0 0),(.slice none 0 0)] []),.v 85 12,.s (.st 5 (.t 6) (.t 84)),.v 7 85]) .ret) .skip)) (oL)
@[go_sem ↓] theorem aII:aO iU:=aP _
def oZ:PC:=.seq (.seq (.gh (.ord  (.q (.v 56 12) :: .q (.q 57 (.bin .eql true (.t 56) (.i 0))) :: .q (.v 58 57) :: .q ⟨some 59,(some (58,true)),.q (.fa 6 (.t 13))⟩ :: .q ⟨some 60,(some (58,true)),.l (.ld1 (.t 59))⟩ :: .q ⟨some 61,(some (58,true)),.q (.not (.t 60))⟩ :: .q (.a 62 (.pick (.t 58) (.t 61) (.k (.bool false)))) :: .q (.v 63 62) :: .q ⟨some 64,(some (63,true)),.l (.ldn 5 (.t 15))⟩ :: .q ⟨some 65,(some (63,true)),.l (.ldn 3 (.t 3))⟩ :: .q ⟨some 66,(some (63,true)),.q (.fa 2 (.t 13))⟩ :: .q ⟨some 67,(some (63,true)),.l (.ldn 4 (.t 66))⟩ :: .m ⟨some 68,(some (63,true)),.cl 45 [(.t 65),(.t 67)] []⟩ :: iO))) (.cond (.t 81) (.reg [.q 12 (.mv (.i 2))]) .skip)) (iU)
@[go_sem ↓] theorem aJA:aO oZ:=aP _
def zY:PC:=.seq (.gh (.reg [.l 48 (.ldn 3 (.t 3)),.q 49 (.fa 2 (.t 13)),.l 50 (.ldn 4 (.t 49)),.q 51 (.fa 1 (.t 10)),.l 52 (.ld1 (.t 51)),.a 53 (.cl 55 [(.t 48),(.t 50),(.t 52)] []),.v 47 53,.q 54 (.ex (.t 47) 0),.q 55 (.ex (.t 47) 1),.e 15 (.al (.agg #[(.int .i64 0),(.int .i64 0),(.string (mk [])),(.slice none 0 0),(.slice none 0 0)]) 29),.s (.st 5 (.t 15) (.t 54)),.v 12 55])) (oZ)
@[go_sem ↓] theorem aJX:aO zY:=aP _
def vW:PC:=.seq (.seq (.gh (.reg [.v 45 14,.q 46 (.not (.t 45))])) (.cond (.t 46) (.exit 1) .skip)) (zY)
@[go_sem ↓] theorem aNR:aO vW:=aP _
def G5:PC:=.seq (.gh (.reg [.l 39 (.ldn 2 (.t 4)),.q 40 (.fa 0 (.t 10)),.l 41 (.ld1 (.t 40)),.a 42 (.cl 54 [(.t 39),(.t 41)] []),.v 38 42,.q 43 (.ex (.t 38) 0),.q 44 (.ex (.t 38) 1),.e 13 (.al (.agg #[(.int .i64 0),(.string (mk [])),(.int .i64 0),(.int .i64 0),(.string (mk [])),(.slice none 0 0),(.bool false)]) 52),.s (.st 7 (.t 13) (.t 43)),.v 14 44])) (vW)
@[go_sem ↓] theorem aLB:aO G5:=aP _
def EO:PC:=.seq (.gh (.reg [.q 35 (.fa 0 (.t 10)),.l 36 (.ld1 (.t 35)),.v 37 11,.v 9 36,.v 2 37])) (G5)
@[go_sem ↓] theorem aNG:aO EO:=aP _
def xE:PC:=.seq (.seq (.gh (.reg [.v 31 12,.q 32 (.bin .neq true (.t 31) (.i 0))])) (.cond (.t 32) (.seq (.reg [.q 33 (.bd [(.int .i64 0),(.int .i64 0),(.string (mk [])),(.slice none 0 0),(.slice none 0 0)] []),.v 34 12,.s (.st 5 (.t 6) (.t 33)),.v 7 34]) .ret) .skip)) (EO)
@[go_sem ↓] theorem aKV:aO xE:=aP _
def G1:PC:=.seq (.gh (.reg [.v 25 2,.v 26 9,.a 27 (.cl 53 [(.t 25),(.t 26)] []),.v 24 27,.q 28 (.ex (.t 24) 0),.q 29 (.ex (.t 24) 1),.q 30 (.ex (.t 24) 2),.e 10 (.al (.agg #[(.int .i64 0),(.string (mk []))]) 89),.s (.st 2 (.t 10) (.t 28)),.v 11 29,.v 12 30])) (xE)
@[go_sem ↓] theorem aNP:aO G1:=aP _
def zS:PC:=.gh (.reg [.l 113 (.ldn 3 (.t 3)),.q 114 (.fa 2 (.t 18)),.l 115 (.ldn 4 (.t 114)),.a 116 (.cl 45 [(.t 113),(.t 115)] []),.s (.st 5 (.t 19) (.t 116))])
@[go_sem ↓] theorem aJH:aO zS:=aP _
def tG:PC:=.gh (.reg [.q 117 (.fa 4 (.t 16)),.l 118 (.ld1 (.t 117)),.q 119 (.fa 0 (.t 18)),.l 120 (.ld1 (.t 119)),.l 121 (.ldn 5 (.t 19)),.q 122 (.bd [(.int .i64 0),(.int .i64 0),(.int .i64 0),(.string (mk [])),(.slice none 0 0),(.slice none 0 0)] [(0,1,(.t 120)),(1,5,(.t 121))]),.e 123 (.bsl 76 6 [(.t 122)]),.e 124 (.ap 76 6 88 (.t 118) (.t 123)),.q 125 (.fa 4 (.t 16)),.s (.st 1 (.t 125) (.t 124))])
@[go_sem ↓] theorem aJJ:aO tG:=aP _
def sM:PC:=.seq (.seq (.gh (.reg [.v 111 20,.q 112 (.not (.t 111))])) (.cond (.t 112) (zS) .skip)) (tG)
@[go_sem ↓] theorem aH4:aO sM:=aP _
def oY:PC:=.seq (.seq (.gh (.reg [.v 105 20,.q 106 (.not (.t 105)),.v 107 106,⟨some 108,(some (107,true)),.q (.fa 6 (.t 18))⟩,⟨some 109,(some (107,true)),.l (.ld1 (.t 108))⟩,.a 110 (.pick (.t 107) (.t 109) (.k (.bool false)))])) (.cond (.t 110) (.exit 3) .skip)) (sM)
@[go_sem ↓] theorem aJD:aO oY:=aP _
def tK:PC:=.seq (.gh (.reg [.v 99 8,.q 100 (.fa 0 (.t 18)),.l 101 (.ld1 (.t 100)),.l 102 (.lk (.int .i64) (.agg #[(.int .i64 0),(.int .i64 0),(.string (mk [])),(.slice none 0 0),(.slice none 0 0)]) true (.t 99) (.t 101)),.v 98 102,.q 103 (.ex (.t 98) 0),.q 104 (.ex (.t 98) 1),.e 19 (.al (.agg #[(.int .i64 0),(.int .i64 0),(.string (mk [])),(.slice none 0 0),(.slice none 0 0)]) 29),.s (.st 5 (.t 19) (.t 103)),.v 20 104])) (oY)
@[go_sem ↓] theorem aID:aO tK:=aP _
def AY:PC:=.seq (.seq (.gh (.reg [.q 91 (.fa 1 (.t 4)),.l 92 (.ld1 (.t 91)),.q 93 (.lnL (.t 92)),.q 94 (.mv (.i 0))])) (.block 2 (.loop (.seq (.reg [.q 95 (.bin .lss true (.t 94) (.t 93))]) (.seq (.cond (.t 95) .skip (.exit 2)) (.seq (.block 3 (.seq (.reg [.l 96 (.ia 7 (.t 92) (.t 94)),.l 97 (.ldn 7 (.t 96)),.e 18 (.al (.agg #[(.int .i64 0),(.string (mk [])),(.int .i64 0),(.int .i64 0),(.string (mk [])),(.slice none 0 0),(.bool false)]) 52),.s (.st 7 (.t 18) (.t 97))]) (tK))) (.reg [.q 126 (.bin .add true (.t 94) (.i 1)),.v 94 126]))))))) (.seq (.reg [.l 127 (.ldn 5 (.t 16)),.s (.st 5 (.t 6) (.t 127)),.q 7 (.mv (.i 0))]) .ret)
@[go_sem ↓] theorem aJK:aO AY:=aP _
def zH:PC:=.seq (.gh (.reg [.q 90 (.bd [(.int .i64 0),(.int .i64 0),(.string (mk [])),(.slice none 0 0),(.slice none 0 0)] [(0,1,(.i 6))]),.e 16 (.al (.agg #[(.int .i64 0),(.int .i64 0),(.string (mk [])),(.slice none 0 0),(.slice none 0 0)]) 29),.s (.st 5 (.t 16) (.t 90))])) (AY)
@[go_sem ↓] theorem aJY:aO zH:=aP _
def aBP:PC:=.seq (.reg [.e 3 (.bx 25 (.t 0)),.e 4 (.bx 48 (.t 1)),.e 6 (.al (.agg #[(.int .i64 0),(.int .i64 0),(.string (mk [])),(.slice none 0 0),(.slice none 0 0)]) 29),.q 7 (.mv (.i 0))]) (.seq (.reg [.e 21 (.mm (.int .i64)),.v 8 21]) (.seq (.reg [.q 9 (.mv (.i 0))]) (.seq (.block 0 (.loop (.seq (.seq (.reg [.v 22 2,.q 23 (.bin .neq true (.t 22) (.k (.string (mk []))))]) (.cond (.t 23) .skip (.exit 0))) (.block 1 (G1))))) (zH))))
def YR:List RV:=[.ld (.ldn 5 (.t 6)),.mv (.t 7)]
theorem aKG:aR Tryz.prog true ⟨fun r k=>if r=11/\k=13 then .q else .own [],fun r=>[4,5,7,8,9,10,11,13,16,17,20,21,22,15,23,24].contains r⟩ Tryz.f30=some (aBP,YR):=by kernel_rfl
def zX:PC:=.gh (.reg [.v 47 8,.l 48 (.ldn 5 (.t 10)),.a 49 (.ca (.t 47) [(.t 48)] [3,0,1])])
@[go_sem ↓] theorem aIR:aO zX:=aP _
def AO:PC:=.seq (.gh (.reg [.l 51 (.ld1 (.t 7)),.v 6 51])) .ret
@[go_sem ↓] theorem aH9:aO AO:=aP _
def zG:PC:=.seq (.gh (.reg [.q 34 (.fa 3 (.t 5)),.l 35 (.ld1 (.t 34)),.q 36 (.lnL (.t 35)),.q 37 (.cvt .u64 (.t 36)),.a 38 (.cq 46 [(.t 37)]),.e 7 (.al (.string (mk [])) 9),.s (.st 1 (.t 7) (.t 38))])) (.seq (.reg [.q 39 (.mf 85 [(.t 7),(.t 3),(.t 4)]),.v 8 39]) (.seq (.seq (.reg [.q 40 (.fa 3 (.t 5)),.l 41 (.ld1 (.t 40)),.q 42 (.lnL (.t 41)),.q 43 (.mv (.i 0))]) (.block 1 (.loop (.seq (.reg [.q 44 (.bin .lss true (.t 43) (.t 42))]) (.seq (.cond (.t 44) .skip (.exit 1)) (.seq (.block 2 (.seq (.reg [.l 45 (.ia 5 (.t 41) (.t 43)),.l 46 (.ldn 5 (.t 45)),.e 10 (.al (.agg #[(.int .i64 0),(.int .i64 0),(.string (mk [])),(.slice none 0 0),(.slice none 0 0)]) 29),.s (.st 5 (.t 10) (.t 46))]) (zX))) (.reg [.q 50 (.bin .add true (.t 43) (.i 1)),.v 43 50]))))))) (AO)))
@[go_sem ↓] theorem aJF:aO zG:=aP _
def mL:PC:=.seq (.seq (.gh (.reg [.q 16 (.bin .eql true (.t 14) (.i 1)),.v 15 16])) (.cond (.t 15) .skip (.seq (.reg [.q 17 (.bin .eql true (.t 14) (.i 3)),.v 15 17]) (.cond (.t 15) .skip (.reg [.q 18 (.bin .eql true (.t 14) (.i 7)),.v 15 18]))))) (.cond (.t 15) (.seq (.reg [.q 19 (.fa 1 (.t 5)),.l 20 (.ld1 (.t 19)),.q 21 (.cvt .u64 (.t 20)),.a 22 (.cq 46 [(.t 21)]),.v 6 22]) .ret) (.seq (.reg [.q 24 (.bin .eql true (.t 14) (.i 2)),.v 23 24]) (.cond (.t 23) (.seq (.reg [.q 25 (.fa 1 (.t 5)),.l 26 (.ld1 (.t 25)),.a 27 (.cq 84 [(.t 26)]),.v 6 27]) .ret) (.seq (.reg [.q 29 (.bin .eql true (.t 14) (.i 4)),.v 28 29]) (.cond (.t 28) (.seq (.reg [.q 30 (.fa 2 (.t 5)),.l 31 (.ld1 (.t 30)),.v 6 31]) .ret) (.seq (.reg [.q 33 (.bin .eql true (.t 14) (.i 5)),.v 32 33]) (.cond (.t 32) (zG) .skip)))))))
@[go_sem ↓] theorem aNC:aO mL:=aP _
def y5:PC:=.seq (.gh (.reg [.l 59 (.ldn 3 (.t 3)),.l 60 (.ldn 2 (.t 11)),.l 61 (.ldn 5 (.t 5)),.a 62 (.cq 26 [(.t 59),(.t 60),(.t 61)]),.v 6 62])) .ret
@[go_sem ↓] theorem aIY:aO y5:=aP _
def yM:PC:=.seq (.gh (.reg [.l 53 (.ldn 3 (.t 3)),.q 54 (.fa 2 (.t 4)),.l 55 (.ld1 (.t 54)),.a 56 (.cl 40 [(.t 53),(.t 55)] []),.v 52 56,.q 57 (.ex (.t 52) 0),.q 58 (.ex (.t 52) 1),.e 11 (.al (.agg #[(.string (mk [])),(.slice none 0 0)]) 48),.s (.st 2 (.t 11) (.t 57)),.v 12 58])) (y5)
@[go_sem ↓] theorem aI6:aO yM:=aP _
def ZU:PC:=.seq (.reg [.e 3 (.bx 25 (.t 0)),.e 4 (.bx 42 (.t 1)),.e 5 (.bx 29 (.t 2)),.q 6 (.mv (.k (.string (mk []))))]) (.seq (.seq (.reg [.q 13 (.fa 0 (.t 4)),.l 14 (.ld1 (.t 13))]) (.block 0 (mL))) (yM))
def aD5:List RV:=[.mv (.t 6)]
theorem aN3:aR Tryz.prog true ⟨fun r k=>if r=5/\k=3 then .q else if r=7/\k=2 then .q else if r=11/\k=4 then .q else if r=16/\k=2 then .own [3,0,1] else if r=20/\k=3 then .q else .own [],fun r=>[2,11,18,19,20,16].contains r⟩ Tryz.f48=some (ZU,aD5):=by kernel_rfl
def EQ:PC:=.seq (.gh (.reg [.v 38 7,.q 39 (.cvt .i64 (.t 38)),.v 40 10,.q 41 (.bd [(.int .i64 0),(.string (mk []))] [(0,1,(.t 39)),(1,1,(.t 40))]),.v 42 8,.v 43 9,.s (.st 2 (.t 4) (.t 41)),.v 5 42,.v 6 43])) .ret
@[go_sem ↓] theorem aK4:aO EQ:=aP _
def aCS:PC:=.seq (.reg [.e 4 (.al (.agg #[(.int .i64 0),(.string (mk []))]) 89),.q 5 (.mv (.k (.string (mk [])))),.q 6 (.mv (.i 0))]) (.seq (.reg [.v 12 0,.a 13 (.cl 94 [(.t 12)] []),.v 11 13,.q 14 (.ex (.t 11) 0),.q 15 (.ex (.t 11) 1),.q 16 (.ex (.t 11) 2),.v 7 14,.v 8 15,.v 9 16]) (.seq (.block 0 (.seq (.reg [.v 18 9,.q 19 (.bin .neq true (.t 18) (.i 0)),.v 17 19]) (.cond (.t 17) (.seq (.reg [.q 20 (.bd [(.int .i64 0),(.string (mk []))] []),.v 21 9,.s (.st 2 (.t 4) (.t 20)),.q 5 (.mv (.k (.string (mk [])))),.v 6 21]) .ret) (.seq (.reg [.v 23 7,.q 24 (.bin .gtr true (.t 23) (.k (.int .u64 2147483647))),.v 22 24]) (.cond (.t 22) (.seq (.reg [.q 25 (.bd [(.int .i64 0),(.string (mk []))] []),.s (.st 2 (.t 4) (.t 25)),.q 5 (.mv (.k (.string (mk [])))),.q 6 (.mv (.i 4))]) .ret) (.seq (.reg [.v 27 7,.q 28 (.cvt .i64 (.t 27)),.v 29 1,.q 30 (.bin .leq true (.t 28) (.t 29)),.v 26 30]) (.cond (.t 26) (.seq (.reg [.q 31 (.bd [(.int .i64 0),(.string (mk []))] []),.s (.st 2 (.t 4) (.t 31)),.q 5 (.mv (.k (.string (mk [])))),.q 6 (.mv (.i 2))]) .ret) .skip))))))) (.seq (.reg [.v 33 8,.a 34 (.cl 95 [(.t 33)] []),.v 32 34,.q 35 (.ex (.t 32) 0),.q 36 (.ex (.t 32) 1),.q 37 (.ex (.t 32) 2),.v 10 35,.v 8 36,.v 9 37]) (EQ))))
def aCY:List RV:=[.ld (.ldn 2 (.t 4)),.mv (.t 5),.mv (.t 6)]
theorem aK8:aR Tryz.prog true ⟨fun _ _=>.own [],fun r=>[9].contains r⟩ Tryz.f53=some (aCS,aCY):=by kernel_rfl
def lB:PC:=.seq (.gh (.reg [.q 13 (.bin .eql true (.t 11) (.i 1)),.v 12 13])) (.cond (.t 12) (.seq (.reg [.v 14 2,.a 15 (.cl 97 [(.t 14)] []),.q 16 (.ex (.t 15) 0),.q 17 (.ex (.t 15) 1),.s (.st 5 (.t 6) (.t 16)),.v 7 17]) .ret) (.seq (.seq (.reg [.q 19 (.bin .eql true (.t 11) (.i 2)),.v 18 19]) (.cond (.t 18) .skip (.seq (.reg [.q 20 (.bin .eql true (.t 11) (.i 3)),.v 18 20]) (.cond (.t 18) .skip (.reg [.q 21 (.bin .eql true (.t 11) (.i 7)),.v 18 21]))))) (.cond (.t 18) (.seq (.reg [.l 22 (.ldn 3 (.t 3)),.l 23 (.ldn 4 (.t 4)),.v 24 2,.a 25 (.cl 98 [(.t 22),(.t 23),(.t 24)] []),.q 26 (.ex (.t 25) 0),.q 27 (.ex (.t 25) 1),.s (.st 5 (.t 6) (.t 26)),.v 7 27]) .ret) (.seq (.reg [.q 29 (.bin .eql true (.t 11) (.i 4)),.v 28 29]) (.cond (.t 28) (.seq (.seq (.reg [.v 30 2,.q 31 (.lnS (.t 30)),.q 32 (.fa 1 (.t 4)),.l 33 (.ld1 (.t 32)),.q 34 (.bin .gtr true (.t 31) (.t 33))]) (.cond (.t 34) (.seq (.reg [.q 35 (.bd [(.int .i64 0),(.int .i64 0),(.string (mk [])),(.slice none 0 0),(.slice none 0 0)] []),.s (.st 5 (.t 6) (.t 35)),.q 7 (.mv (.i 3))]) .ret) .skip)) (.seq (.reg [.v 36 2,.q 37 (.bd [(.int .i64 0),(.int .i64 0),(.string (mk [])),(.slice none 0 0),(.slice none 0 0)] [(0,1,(.i 4)),(2,1,(.t 36))]),.s (.st 5 (.t 6) (.t 37)),.q 7 (.mv (.i 0))]) .ret)) (.seq (.reg [.q 39 (.bin .eql true (.t 11) (.i 5)),.v 38 39]) (.cond (.t 38) (.seq (.reg [.l 40 (.ldn 3 (.t 3)),.l 41 (.ldn 4 (.t 4)),.v 42 2,.a 43 (.cl 99 [(.t 40),(.t 41),(.t 42)] []),.q 44 (.ex (.t 43) 0),.q 45 (.ex (.t 43) 1),.s (.st 5 (.t 6) (.t 44)),.v 7 45]) .ret) .skip)))))))
@[go_sem ↓] theorem aJ3:aO lB:=aP _
def AX:PC:=.seq (.gh (.reg [.l 53 (.ldn 3 (.t 3)),.l 54 (.ldn 2 (.t 8)),.v 55 2,.a 56 (.cl 30 [(.t 53),(.t 54),(.t 55)] []),.q 57 (.ex (.t 56) 0),.q 58 (.ex (.t 56) 1),.s (.st 5 (.t 6) (.t 57)),.v 7 58])) .ret
@[go_sem ↓] theorem aIP:aO AX:=aP _
def zZ:PC:=.seq (.gh (.reg [.l 47 (.ldn 3 (.t 3)),.q 48 (.fa 2 (.t 4)),.l 49 (.ld1 (.t 48)),.a 50 (.cl 40 [(.t 47),(.t 49)] []),.v 46 50,.q 51 (.ex (.t 46) 0),.q 52 (.ex (.t 46) 1),.e 8 (.al (.agg #[(.string (mk [])),(.slice none 0 0)]) 48),.s (.st 2 (.t 8) (.t 51)),.v 9 52])) (AX)
@[go_sem ↓] theorem aJW:aO zZ:=aP _
def aDC:PC:=.seq (.reg [.e 3 (.bx 25 (.t 0)),.e 4 (.bx 42 (.t 1)),.e 6 (.al (.agg #[(.int .i64 0),(.int .i64 0),(.string (mk [])),(.slice none 0 0),(.slice none 0 0)]) 29),.q 7 (.mv (.i 0))]) (.seq (.seq (.reg [.q 10 (.fa 0 (.t 4)),.l 11 (.ld1 (.t 10))]) (.block 0 (lB))) (zZ))
def YZ:List RV:=[.ld (.ldn 5 (.t 6)),.mv (.t 7)]
theorem aNM:aR Tryz.prog true ⟨fun _ _=>.own [],fun r=>[2,14,15].contains r⟩ Tryz.f55=some (aDC,YZ):=by kernel_rfl
def aDJ:PC:=.seq (.reg [.e 4 (.bx 29 (.t 0))]) (.reg [.l 5 (.ld1 (.t 1)),.l 6 (.ldn 3 (.t 2)),.q 7 (.fa 3 (.t 3)),.l 8 (.ld1 (.t 7)),.l 9 (.ia 4 (.t 8) (.i 0)),.l 10 (.ldn 4 (.t 9)),.l 11 (.ldn 5 (.t 4)),.a 12 (.cq 48 [(.t 6),(.t 10),(.t 11)]),.a 13 (.cq 47 [(.t 12)]),.q 14 (.bin .add true (.t 5) (.t 13)),.s (.st 1 (.t 1) (.t 14))])
def aB3:List RV:=[]
theorem aK0:aR Tryz.prog true ⟨fun r k=>if r=1/\k=7 then .q else if r=1/\k=8 then .q else .own [],fun _=>false⟩ Tryz.f85=some (aDJ,aB3):=by kernel_rfl
def yA:PC:=.seq (.gh (.reg [.v 14 7,.q 15 (.bin .neq true (.t 14) (.i 0))])) (.cond (.t 15) (.seq (.reg [.v 16 7,.q 2 (.mv (.k (.int .u64 0))),.q 3 (.mv (.k (.string (mk [])))),.v 4 16]) .ret) .skip)
@[go_sem ↓] theorem aLU:aO yA:=aP _
def FN:PC:=.seq (.gh (.ord  [.q (.v 17 6),.q (.v 18 0),.q (.v 19 0),.q (.q 20 (.lnS (.t 19))),.q (.v 21 5),.m (.a 22 (.cl 136 [(.t 21)] [0])),.rc (.v 17 6),.rc (.v 18 0),.rc (.v 19 0),.rc (.q 20 (.lnS (.t 19))),.q (.q 23 (.bin .sub true (.t 20) (.t 22))),.q (.q 24 (.ss (.t 18) (some (.t 23)) none)),.m (.v 2 17),.rc (.v 18 0),.rc (.v 19 0),.rc (.q 20 (.lnS (.t 19))),.rc (.q 23 (.bin .sub true (.t 20) (.t 22))),.rc (.q 24 (.ss (.t 18) (some (.t 23)) none)),.m (.v 3 24),.m (.q 4 (.mv (.i 0)))])) .ret
@[go_sem ↓] theorem aJ9:aO FN:=aP _
def EG:PC:=.seq (.seq (.gh (.reg [.v 12 5,.a 13 (.cl 135 [(.t 12)] [0]),.v 7 13])) (yA)) (FN)
@[go_sem ↓] theorem aML:aO EG:=aP _
def E5:PC:=.seq (.gh (.reg [.v 10 5,.a 11 (.cl 134 [(.t 10)] [0]),.v 6 11])) (EG)
@[go_sem ↓] theorem aM4:aO E5:=aP _
def aDO:PC:=.seq (.reg [.q 2 (.mv (.k (.int .u64 0))),.q 3 (.mv (.k (.string (mk [])))),.q 4 (.mv (.i 0))]) (.seq (.reg [.v 8 0,.a 9 (.cl 133 [(.t 8)] []),.v 5 9]) (E5))
def ZB:List RV:=[.mv (.t 2),.mv (.t 3),.mv (.t 4)]
theorem aKT:aR Tryz.prog true ⟨fun r k=>if r=2/\k=1 then .own [0] else if r=3/\k=1 then .own [0] else if r=6/\k=5 then .own [0] else .own [],fun r=>[2,3,4,6].contains r⟩ Tryz.f94=some (aDO,ZB):=by kernel_rfl
def rM:PC:=.seq (.seq (.gh (.reg [.v 12 4,.q 13 (.bin .neq true (.t 12) (.i 0))])) (.cond (.t 13) (.seq (.reg [.v 14 4,.q 2 (.mv (.k (.string (mk [])))),.q 3 (.mv (.k (.string (mk [])))),.v 4 14]) .ret) .skip)) (.seq (.seq (.reg [.v 15 5,.v 16 0,.q 17 (.lnS (.t 16)),.q 18 (.cvt .u64 (.t 17)),.q 19 (.bin .gtr true (.t 15) (.t 18))]) (.cond (.t 19) (.seq (.reg [.q 2 (.mv (.k (.string (mk [])))),.q 3 (.mv (.k (.string (mk [])))),.q 4 (.mv (.i 1))]) .ret) .skip)) (.seq (.reg [.v 20 0,.v 21 5,.q 22 (.ss (.t 20) none (some (.t 21))),.v 23 0,.v 24 5,.q 25 (.ss (.t 23) (some (.t 24)) none),.v 2 22,.v 3 25,.q 4 (.mv (.i 0))]) .ret))
@[go_sem ↓] theorem aL7:aO rM:=aP _
def YJ:PC:=.seq (.reg [.q 2 (.mv (.k (.string (mk [])))),.q 3 (.mv (.k (.string (mk [])))),.q 4 (.mv (.i 0))]) (.seq (.reg [.v 7 0,.a 8 (.cl 94 [(.t 7)] []),.v 6 8,.q 9 (.ex (.t 6) 0),.q 10 (.ex (.t 6) 1),.q 11 (.ex (.t 6) 2),.v 5 9,.v 0 10,.v 4 11]) (rM))
def aCO:List RV:=[.mv (.t 2),.mv (.t 3),.mv (.t 4)]
theorem aKM:aR Tryz.prog true ⟨fun _ _=>.own [],fun r=>[2].contains r⟩ Tryz.f95=some (YJ,aCO):=by kernel_rfl
def QO:PC:=.seq (.reg [.e 2 (.al (.agg #[(.int .i64 0),(.int .i64 0),(.string (mk [])),(.slice none 0 0),(.slice none 0 0)]) 29),.q 3 (.mv (.i 0))]) (.seq (.block 0 (.seq (.reg [.v 5 0,.q 6 (.bin .eql true (.t 5) (.k (.string (mk [])))),.v 4 6]) (.cond (.t 4) (.seq (.reg [.q 7 (.bd [(.int .i64 0),(.int .i64 0),(.string (mk [])),(.slice none 0 0),(.slice none 0 0)] []),.s (.st 5 (.t 2) (.t 7)),.q 3 (.mv (.i 1))]) .ret) (.seq (.reg [.v 9 0,.a 10 (.ix (.t 9) (.i 0)),.q 11 (.bin .gtr true (.t 10) (.k (.int .u8 1))),.v 12 11,⟨some 13,(some (12,false)),.q (.mv (.t 0))⟩,⟨some 14,(some (12,false)),.q (.lnS (.t 13))⟩,⟨some 15,(some (12,false)),.q (.bin .gtr true (.t 14) (.i 1))⟩,.a 16 (.pick (.t 12) (.k (.bool true)) (.t 15)),.v 8 16]) (.cond (.t 8) (.seq (.reg [.q 17 (.bd [(.int .i64 0),(.int .i64 0),(.string (mk [])),(.slice none 0 0),(.slice none 0 0)] []),.s (.st 5 (.t 2) (.t 17)),.q 3 (.mv (.i 2))]) .ret) .skip))))) (.seq (.reg [.v 18 0,.a 19 (.ix (.t 18) (.i 0)),.q 20 (.cvt .i64 (.t 19)),.q 21 (.bd [(.int .i64 0),(.int .i64 0),(.string (mk [])),(.slice none 0 0),(.slice none 0 0)] [(0,1,(.i 1)),(1,1,(.t 20))]),.s (.st 5 (.t 2) (.t 21)),.q 3 (.mv (.i 0))]) .ret))
def O1:List RV:=[.ld (.ldn 5 (.t 2)),.mv (.t 3)]
theorem aMS:aR Tryz.prog true ⟨fun _ _=>.own [],fun _=>false⟩ Tryz.f97=some (QO,O1):=by kernel_rfl
def wO:PC:=.gh (.reg [.q 19 (.fa 1 (.t 4)),.l 20 (.ld1 (.t 19)),.q 21 (.bin .eql true (.t 20) (.i 64)),.v 22 21,⟨some 23,(some (22,false)),.q (.mv (.t 9))⟩,⟨some 24,(some (22,false)),.q (.fa 1 (.t 4))⟩,⟨some 25,(some (22,false)),.l (.ld1 (.t 24))⟩,⟨some 26,(some (22,false)),.q (.bin .sub true (.t 25) (.i 1))⟩,⟨some 27,(some (22,false)),.q (.bin .shl true (.i (-1)) (.t 26))⟩,⟨some 28,(some (22,false)),.q (.bin .geq true (.t 23) (.t 27))⟩,⟨some 29,(some (22,false)),.q (.mv (.t 28))⟩,⟨some 30,(some (29,true)),.q (.mv (.t 9))⟩,⟨some 31,(some (29,true)),.q (.fa 1 (.t 4))⟩,⟨some 32,(some (29,true)),.l (.ld1 (.t 31))⟩,⟨some 33,(some (29,true)),.q (.bin .sub true (.t 32) (.i 1))⟩,⟨some 34,(some (29,true)),.q (.bin .shl true (.i 1) (.t 33))⟩,⟨some 35,(some (29,true)),.q (.bin .lss true (.t 30) (.t 34))⟩,⟨some 36,(some (22,false)),.pick (.t 29) (.t 35) (.k (.bool false))⟩,.a 37 (.pick (.t 22) (.k (.bool true)) (.t 36)),.v 10 37])
@[go_sem ↓] theorem aN6:aO wO:=aP _
def sW:PC:=.gh (.reg [.v 48 10,.v 49 48,⟨some 50,(some (49,true)),.q (.mv (.t 9))⟩,⟨some 51,(some (49,true)),.q (.fa 1 (.t 4))⟩,⟨some 52,(some (49,true)),.l (.ld1 (.t 51))⟩,⟨some 53,(some (49,true)),.q (.bin .shl true (.i 1) (.t 52))⟩,⟨some 54,(some (49,true)),.q (.bin .lss true (.t 50) (.t 53))⟩,.a 55 (.pick (.t 49) (.t 54) (.k (.bool false))),.v 10 55])
@[go_sem ↓] theorem aH7:aO sW:=aP _
def sQ:PC:=.gh (.reg [.v 56 10,.v 57 56,⟨some 58,(some (57,true)),.l (.ldn 3 (.t 3))⟩,⟨some 59,(some (57,true)),.q (.fa 2 (.t 4))⟩,⟨some 60,(some (57,true)),.l (.ld1 (.t 59))⟩,⟨some 61,(some (57,true)),.q (.mv (.t 9))⟩,⟨some 62,(some (57,true)),.cq 139 [(.t 58),(.t 60),(.t 61)]⟩,.a 63 (.pick (.t 57) (.t 62) (.k (.bool false))),.v 10 63])
@[go_sem ↓] theorem aIB:aO sQ:=aP _
def l5:PC:=.seq (.gh (.reg [.q 45 (.fa 0 (.t 4)),.l 46 (.ld1 (.t 45)),.q 47 (.bin .eql true (.t 46) (.i 3))])) (.cond (.t 47) (sW) (sQ))
@[go_sem ↓] theorem aJS:aO l5:=aP _
def FK:PC:=.seq (.gh (.reg [.v 42 11,.q 43 (.bin .and true (.t 42) (.k (.int .u64 4294967295))),.q 44 (.cvt .i64 (.t 43)),.v 9 44])) (l5)
@[go_sem ↓] theorem aK6:aO FK:=aP _
def EJ:PC:=.seq (.gh (.reg [.v 40 11,.q 41 (.bin .lss true (.t 40) (.k (.int .u64 4294967296))),.v 10 41])) (FK)
@[go_sem ↓] theorem aMC:aO EJ:=aP _
def sO:PC:=.seq (.gh (.reg [.v 77 10,.q 78 (.not (.t 77)),.v 76 78])) (.cond (.t 76) (.seq (.reg [.q 79 (.bd [(.int .i64 0),(.int .i64 0),(.string (mk [])),(.slice none 0 0),(.slice none 0 0)] []),.s (.st 5 (.t 6) (.t 79)),.q 7 (.mv (.i 4))]) .ret) .skip)
@[go_sem ↓] theorem aH2:aO sO:=aP _
def zL:PC:=.seq (.gh (.reg [.v 72 8,.a 73 (.cl 136 [(.t 72)] [3]),.q 74 (.bin .gtr true (.t 73) (.i 0)),.v 71 74])) (.cond (.t 71) (.seq (.reg [.q 75 (.bd [(.int .i64 0),(.int .i64 0),(.string (mk [])),(.slice none 0 0),(.slice none 0 0)] []),.s (.st 5 (.t 6) (.t 75)),.q 7 (.mv (.i 2))]) .ret) (sO))
@[go_sem ↓] theorem aJO:aO zL:=aP _
def pc98_13:PC:=.seq (.gh (.reg [.v 65 8,.a 66 (.cl 135 [(.t 65)] [3]),.q 67 (.bin .neq true (.t 66) (.i 0)),.v 64 67])) (.cond (.t 64) (.seq (.reg [.q 68 (.bd [(.int .i64 0),(.int .i64 0),(.string (mk [])),(.slice none 0 0),(.slice none 0 0)] []),.v 69 8,.a 70 (.cl 135 [(.t 69)] [3]),.s (.st 5 (.t 6) (.t 68)),.v 7 70]) .ret) (zL))
@[go_sem ↓] theorem aIG:aO pc98_13:=aP _
def oC:PC:=.seq (.gh (.reg [.q 80 (.fa 0 (.t 4)),.l 81 (.ld1 (.t 80)),.v 82 9,.q 83 (.bd [(.int .i64 0),(.int .i64 0),(.string (mk [])),(.slice none 0 0),(.slice none 0 0)] [(0,1,(.t 81)),(1,1,(.t 82))]),.s (.st 5 (.t 6) (.t 83)),.q 7 (.mv (.i 0))])) .ret
@[go_sem ↓] theorem aIK:aO oC:=aP _
def wK:PC:=.seq (.seq (.gh (.reg [.q 14 (.fa 0 (.t 4)),.l 15 (.ld1 (.t 14)),.q 16 (.bin .eql true (.t 15) (.i 2))])) (.cond (.t 16) (.seq (.reg [.v 17 8,.a 18 (.cl 138 [(.t 17)] [3]),.v 9 18]) (wO)) (.seq (.reg [.v 38 8,.a 39 (.cl 134 [(.t 38)] [3]),.v 11 39]) (EJ)))) (.seq (.block 0 (pc98_13)) (oC))
@[go_sem ↓] theorem aK9:aO wK:=aP _
def FP:PC:=.seq (.gh (.reg [.q 10 (.mv (.k (.bool true)))])) (wK)
@[go_sem ↓] theorem aKE:aO FP:=aP _
def EN:PC:=.seq (.gh (.reg [.q 9 (.mv (.i 0))])) (FP)
@[go_sem ↓] theorem aKZ:aO EN:=aP _
def aAK:PC:=.seq (.reg [.e 3 (.bx 25 (.t 0)),.e 4 (.bx 42 (.t 1)),.e 6 (.al (.agg #[(.int .i64 0),(.int .i64 0),(.string (mk [])),(.slice none 0 0),(.slice none 0 0)]) 29),.q 7 (.mv (.i 0))]) (.seq (.reg [.v 12 2,.a 13 (.cl 133 [(.t 12)] []),.v 8 13]) (EN))
def rH:List RV:=[.ld (.ldn 5 (.t 6)),.mv (.t 7)]
theorem aNB:aR Tryz.prog true ⟨fun r k=>if r=5/\k=1 then .own [3] else if r=7/\k=1 then .own [3] else if r=12/\k=6 then .q else if r=13/\k=1 then .own [3] else if r=14/\k=2 then .own [3] else if r=15/\k=1 then .own [3] else .own [],fun r=>[2,3,4,6,8,9,10,13,15,17,19,6,11,12].contains r⟩ Tryz.f98=some (aAK,rH):=by kernel_rfl
def yR:PC:=.seq (.gh (.reg [.q 59 (.fa 3 (.t 10)),.l 60 (.ld1 (.t 59)),.l 61 (.ldn 5 (.t 14)),.e 62 (.bsl 29 5 [(.t 61)]),.e 63 (.ap 29 5 80 (.t 60) (.t 62)),.q 64 (.fa 3 (.t 10)),.s (.st 1 (.t 64) (.t 63))])) (.reg [.v 65 12,.v 2 65])
@[go_sem ↓] theorem aJC:aO yR:=aP _
def s9:PC:=.seq (.seq (.gh (.reg [.v 55 13,.q 56 (.bin .neq true (.t 55) (.i 0))])) (.cond (.t 56) (.seq (.reg [.q 57 (.bd [(.int .i64 0),(.int .i64 0),(.string (mk [])),(.slice none 0 0),(.slice none 0 0)] []),.v 58 13,.s (.st 5 (.t 6) (.t 57)),.v 7 58]) .ret) .skip)) (yR)
@[go_sem ↓] theorem aJM:aO s9:=aP _
def AI:PC:=.seq (.gh (.ord  [.q (.l 46 (.ldn 3 (.t 3))),.q (.q 47 (.fa 3 (.t 4))),.q (.l 48 (.ld1 (.t 47))),.q (.l 49 (.ia 4 (.t 48) (.i 0))),.q (.l 50 (.ldn 4 (.t 49))),.q (.v 51 11),.m (.a 52 (.cl 55 [(.t 46),(.t 50),(.t 51)] [])),.q (.v 45 52),.q (.q 53 (.ex (.t 45) 0)),.q (.q 54 (.ex (.t 45) 1)),.m (.e 14 (.al (.agg #[(.int .i64 0),(.int .i64 0),(.string (mk [])),(.slice none 0 0),(.slice none 0 0)]) 29)),.rc (.v 45 52),.rc (.q 53 (.ex (.t 45) 0)),.rc (.q 54 (.ex (.t 45) 1)),.m (.s (.st 5 (.t 14) (.t 53))),.rc (.q 54 (.ex (.t 45) 1)),.m (.v 13 54)])) (s9)
@[go_sem ↓] theorem aJQ:aO AI:=aP _
def tI:PC:=.seq (.seq (.gh (.reg [.v 41 13,.q 42 (.bin .neq true (.t 41) (.i 0))])) (.cond (.t 42) (.seq (.reg [.q 43 (.bd [(.int .i64 0),(.int .i64 0),(.string (mk [])),(.slice none 0 0),(.slice none 0 0)] []),.v 44 13,.s (.st 5 (.t 6) (.t 43)),.v 7 44]) .ret) .skip)) (AI)
@[go_sem ↓] theorem aIL:aO tI:=aP _
def GA:PC:=.seq (.gh (.reg [.v 36 2,.a 37 (.cl 95 [(.t 36)] []),.v 35 37,.q 38 (.ex (.t 35) 0),.q 39 (.ex (.t 35) 1),.q 40 (.ex (.t 35) 2),.v 11 38,.v 12 39,.v 13 40])) (tI)
@[go_sem ↓] theorem aM5:aO GA:=aP _
def tE:PC:=.seq (.seq (.gh (.reg [.v 67 2,.q 68 (.bin .neq true (.t 67) (.k (.string (mk []))))])) (.cond (.t 68) (.seq (.reg [.q 69 (.bd [(.int .i64 0),(.int .i64 0),(.string (mk [])),(.slice none 0 0),(.slice none 0 0)] []),.s (.st 5 (.t 6) (.t 69)),.q 7 (.mv (.i 2))]) .ret) .skip)) (.seq (.reg [.l 70 (.ldn 5 (.t 10)),.s (.st 5 (.t 6) (.t 70)),.q 7 (.mv (.i 0))]) .ret)
@[go_sem ↓] theorem aI7:aO tE:=aP _
def GE:PC:=.seq (.seq (.gh (.reg [.v 32 8,.q 33 (.mv (.k (.int .u64 0)))])) (.block 0 (.loop (.seq (.reg [.q 34 (.bin .lss true (.t 33) (.t 32))]) (.seq (.cond (.t 34) .skip (.exit 0)) (.seq (.block 1 (GA)) (.reg [.q 66 (.bin .add true (.t 33) (.k (.int .u64 1))),.v 33 66]))))))) (tE)
@[go_sem ↓] theorem aKU:aO GE:=aP _
def EE:PC:=.seq (.gh (.reg [.q 31 (.bd [(.int .i64 0),(.int .i64 0),(.string (mk [])),(.slice none 0 0),(.slice none 0 0)] [(0,1,(.i 5))]),.e 10 (.al (.agg #[(.int .i64 0),(.int .i64 0),(.string (mk [])),(.slice none 0 0),(.slice none 0 0)]) 29),.s (.st 5 (.t 10) (.t 31))])) (GE)
@[go_sem ↓] theorem aLF:aO EE:=aP _
def wZ:PC:=.seq (.seq (.gh (.reg [.v 25 8,.q 26 (.fa 1 (.t 4)),.l 27 (.ld1 (.t 26)),.q 28 (.cvt .u64 (.t 27)),.q 29 (.bin .gtr true (.t 25) (.t 28))])) (.cond (.t 29) (.seq (.reg [.q 30 (.bd [(.int .i64 0),(.int .i64 0),(.string (mk [])),(.slice none 0 0),(.slice none 0 0)] []),.s (.st 5 (.t 6) (.t 30)),.q 7 (.mv (.i 3))]) .ret) .skip)) (EE)
@[go_sem ↓] theorem aMO:aO wZ:=aP _
def wS:PC:=.seq (.seq (.gh (.reg [.v 21 9,.q 22 (.bin .neq true (.t 21) (.i 0))])) (.cond (.t 22) (.seq (.reg [.q 23 (.bd [(.int .i64 0),(.int .i64 0),(.string (mk [])),(.slice none 0 0),(.slice none 0 0)] []),.v 24 9,.s (.st 5 (.t 6) (.t 23)),.v 7 24]) .ret) .skip)) (wZ)
@[go_sem ↓] theorem aKJ:aO wS:=aP _
def aEE:PC:=.seq (.reg [.e 3 (.bx 25 (.t 0)),.e 4 (.bx 42 (.t 1)),.e 6 (.al (.agg #[(.int .i64 0),(.int .i64 0),(.string (mk [])),(.slice none 0 0),(.slice none 0 0)]) 29),.q 7 (.mv (.i 0))]) (.seq (.reg [.v 16 2,.a 17 (.cl 94 [(.t 16)] []),.v 15 17,.q 18 (.ex (.t 15) 0),.q 19 (.ex (.t 15) 1),.q 20 (.ex (.t 15) 2),.v 8 18,.v 2 19,.v 9 20]) (wS))
def aBK:List RV:=[.ld (.ldn 5 (.t 6)),.mv (.t 7)]
theorem aMY:aR Tryz.prog true ⟨fun _ _=>.own [],fun r=>[2,4,6,7,9,10,12,13,15,18].contains r⟩ Tryz.f99=some (aEE,aBK):=by kernel_rfl
def y3:PC:=.seq (.seq (.gh (.reg [.q 17 (.fa 2 (.t 7)),.l 18 (.ld1 (.t 17)),.q 19 (.lnL (.t 18)),.q 20 (.mv (.i 0))])) (.block 0 (.loop (.seq (.reg [.q 21 (.bin .lss true (.t 20) (.t 19))]) (.seq (.cond (.t 21) .skip (.exit 0)) (.seq (.block 1 (.seq (.reg [.l 22 (.ia 1 (.t 18) (.t 20)),.l 23 (.ld1 (.t 22)),.v 10 23]) (.seq (.reg [.v 24 10,.v 25 2,.q 26 (.bin .eql true (.t 24) (.t 25))]) (.cond (.t 26) (.seq (.reg [.q 6 (.mv (.k (.bool true)))]) .ret) .skip)))) (.reg [.q 27 (.bin .add true (.t 20) (.i 1)),.v 20 27]))))))) (.seq (.reg [.q 6 (.mv (.k (.bool false)))]) .ret)
@[go_sem ↓] theorem aIQ:aO y3:=aP _
def VB:PC:=.seq (.reg [.e 3 (.bx 25 (.t 0)),.q 6 (.mv (.k (.bool false)))]) (.seq (.reg [.l 12 (.ldn 3 (.t 3)),.v 13 1,.a 14 (.cl 113 [(.t 12),(.t 13)] []),.v 11 14,.q 15 (.ex (.t 11) 0),.q 16 (.ex (.t 11) 1),.e 7 (.al (.agg #[(.string (mk [])),(.slice none 0 0),(.slice none 0 0)]) 118),.s (.st 3 (.t 7) (.t 15)),.v 8 16]) (y3))
def SK:List RV:=[.mv (.t 6)]
theorem aFU:aR Tryz.prog true ⟨fun _ _=>.own [],fun r=>[2].contains r⟩ Tryz.f139=some (VB,SK):=by kernel_rfl
abbrev uA (n:Nat):A:=.c1 (.vl (.int .u64 n))
theorem aBT:∀ x:Nat,x < 256->IntKind.u8.wrap ((BitVec.ofInt IntKind.u8.bits (x:Int) &&& BitVec.ofInt IntKind.u8.bits 127).toNat:Int)=((x % 128:Nat):Int):=by decide +kernel
theorem VV (c:UInt8):IntKind.u8.wrap ((BitVec.ofInt IntKind.u8.bits (c.toNat:Int) &&& BitVec.ofInt IntKind.u8.bits 127).toNat:Int)=((c.toNat % 128:Nat):Int):=aBT _ c.toNat_lt
theorem p8 {n:Nat} (h:n < 18446744073709551616):IntKind.u64.wrap (n:Int)=n:=by
 have h2:IntKind.u64.wrap (n:Int)=(n:Int) % 18446744073709551616:=by simp [IntKind.wrap,IntKind.signed,IntKind.bits]
 rw [h2]; omega
theorem aB0 {n m i:Nat} (hn:n < 128 ^ i) (hs:n + m * 128 ^ i < 18446744073709551616) (hi:i<=9) :
 IntKind.u64.wrap ((BitVec.ofInt IntKind.u64.bits (n:Int) ||| BitVec.ofInt IntKind.u64.bits (IntKind.u64.wrap ((m:Int) * 2 ^ (min ((7:Int) * (i:Int)).toNat 64)))).toNat:Int)=((n + m * 128 ^ i:Nat):Int):=by
 have hb:IntKind.u64.bits=64:=rfl
 have e1:((7:Int) * (i:Int)).toNat=7 * i:=by omega
 have e2:min (7 * i) 64=7 * i:=by omega
 have e3:(2:Nat) ^ (7 * i)=128 ^ i:=by rw [Nat.pow_mul]
 have e4:(m:Int) * 2 ^ (7 * i)=((m * 128 ^ i:Nat):Int):=by
  rw [<-e3]; simp
 rw [hb,e1,e2,e4,p8 (n:=m * 128 ^ i) (by omega)]
 have e5:(BitVec.ofInt 64 (n:Int)).toNat=n:=by
  rw [BitVec.ofInt_natCast,BitVec.toNat_ofNat]; exact Nat.mod_eq_of_lt (by omega)
 have e6:(BitVec.ofInt 64 ((m * 128 ^ i:Nat):Int)).toNat=m * 128 ^ i:=by
  rw [BitVec.ofInt_natCast,BitVec.toNat_ofNat]; exact Nat.mod_eq_of_lt (by omega)
 rw [BitVec.toNat_or,e5,e6]
 have e7:n ||| m * 128 ^ i=n + m * 128 ^ i:=by
  rw [Nat.or_comm,<-e3,<-Nat.shiftLeft_eq,<-Nat.shiftLeft_add_eq_or_of_lt (by rw [e3]; exact hn),Nat.add_comm]
 rw [e7,p8 hs]
def aAN:W.Spec:=fun av H K=>∃ x:ByteArray,av=[tS x]/\H=[]/\x.size<=9223372036854775807/\K (.tu [uA (vr (bl x)).1,iA .i64 (vr (bl x)).2.1,iA .i64 (vr (bl x)).2.2]) []
theorem aCT {x:ByteArray} {K:S->Hp->Prop} (h:x.size<=9223372036854775807) (hK:K (.tu [uA (vr (bl x)).1,iA .i64 (vr (bl x)).2.1,iA .i64 (vr (bl x)).2.2]) []):aAN [tS x] [] K:=⟨x,rfl,rfl,h,hK⟩
theorem OL:Meets Tryz.prog 156 aAN:=by
 refine aD Tryz.func156 aHQ 1 (by rw [Tryz.ntmps156]; decide) (aA _) (fun av H K h=>by obtain ⟨_,rfl,_⟩:=h; rfl) ?_
 rintro av H K ⟨x,rfl,rfl,hx,hK⟩
 obtain ⟨l,rfl⟩:∃ l,x=mk l:=⟨bl x,(gI x).symm⟩
 rw [dC,iM] at hx
 rw [iM] at hK
 have fin:∀ (n k:Nat) (e:Int),vr l=(n,k,e)->W.Fin 0 K (.tu [uA n,iA .i64 k,iA .i64 e]) []:=fun n k e h=>by
  rw [h] at hK; exact .done hK
 clear hK
 simp (maxSteps:=1000000) -dsimp only [go_sem,T9,ST]
 refine aS (α:=Nat × Nat) (fun z=>[(0,tS (mk l)),(5,iS .u64 z.2),(8,iS .i64 z.1)]) (fun _=>[])
  (fun z=>z.1<=9/\z.2 < 128 ^ z.1/\z.1<=l.length/\qT z.1 z.2 (l.drop z.1)=vr l) (fun z=>10 - z.1) (0,0) 0 ⟨by decide,by decide,Nat.zero_le _,rfl⟩ ?_ ?_ ?_
 · simp -dsimp only [go_sem]<;>simp
 · simp [go_sem]
 rintro ⟨i,n⟩ ⟨hi,hn,hil,ho⟩
 simp only at hi hn hil ho ⊢
 have hg:decide ((i:Int) < 10)=true:=by simp; omega
 rcases bE i l.length with hlt | hge
 · have hg2:((i:Int) == (l.length:Int))=false:=by simp; omega
   obtain ⟨c,hc⟩:∃ c,l[i]? = some c:=⟨_,aW hlt⟩
   have hd:l.drop i=c :: l.drop (i + 1):=by
    obtain ⟨h,rfl⟩:=bH.1 hc
    exact List.drop_eq_getElem_cons h
   rw [hd,pY] at ho
   have e9:((i:Int) == 9)=(i == 9):=by rw [Bool.eq_iff_iff]; simp; omega
   have e1:decide ((1:Int) < (c.toNat:Int))=decide (1 < c.toNat):=by rw [Bool.eq_iff_iff]; simp; omega
   have e128:decide ((128:Int)<=(c.toNat:Int))=decide (128<=c.toNat):=by rw [Bool.eq_iff_iff]; simp; omega
   have e0:((c.toNat:Int) == 0)=(c.toNat == 0):=by rw [Bool.eq_iff_iff]; simp
   have ei:decide ((0:Int) < (i:Int))=decide (0 < i):=by rw [Bool.eq_iff_iff]; simp
   have hc256:=c.toNat_lt
   cases c1:i == 9 && decide (1 < c.toNat) with
   | true=>
    rw [c1] at ho
    rw [Bool.and_eq_true] at c1
    simp (maxSteps:=1000000) -dsimp only [go_sem,hg,hg2,hc,aH,forall_eq',e9,e1,c1.1,c1.2]
    exact ⟨by omega,fin 0 0 2 ho.symm⟩
   | false=>
    rw [c1,cond_false] at ho
    have key:n + c.toNat % 128 * 128 ^ i < 18446744073709551616:=by
     rcases bE i 9 with h9 | h9
     · have h1:128 ^ (i + 1)<=128 ^ 9:=Nat.pow_le_pow_right (by decide) (by omega)
       have h2:c.toNat % 128 * 128 ^ i<=127 * 128 ^ i:=Nat.mul_le_mul_right _ (by omega)
       have h3:(128:Nat) ^ 9=9223372036854775808:=by decide
       have h4:128 ^ (i + 1)=128 * 128 ^ i:=by rw [Nat.pow_succ,Nat.mul_comm]
       omega
     · obtain rfl:i=9:=by omega
       rw [show ((9:Nat) == 9)=true from rfl,Bool.true_and] at c1
       have h1:=of_decide_eq_false c1
       have h3:(128:Nat) ^ 9=9223372036854775808:=by decide
       rw [h3] at hn ⊢
       have:c.toNat % 128<=1:=by omega
       have h2:c.toNat % 128 * 9223372036854775808<=1 * 9223372036854775808:=Nat.mul_le_mul_right _ this
       omega
    have hos:=aB0 hn key hi
    have c1':((i == 9)=false\/decide (1 < c.toNat)=false):=by rw [Bool.and_eq_false_iff] at c1; exact c1
    have g9:∀ (P Q:Prop),(((bif i == 9 then decide (1 < c.toNat) else false)=true->P)/\((bif i == 9 then decide (1 < c.toNat) else false)=false->Q))=Q:=fun P Q=>by
     have:(bif i == 9 then decide (1 < c.toNat) else false)=false:=by rw [F7]; exact c1
     rw [this]; simp
    simp (maxSteps:=1000000) -dsimp only [go_sem,hg,hg2,hc,aH,forall_eq',e9,e1,c1,VV,e128,e0,ei]
    have hw:IntKind.u64.wrap ((c.toNat % 128:Nat):Int)=((c.toNat % 128:Nat):Int):=p8 (by omega)
    simp only [hw,hos]
    refine ⟨by omega,by omega,by omega,fun h1=>?_,fun h1=>⟨fun h2=>?_,fun h2=>?_⟩⟩
    · rw [h1,cond_true] at ho
      have h128:=of_decide_eq_true h1
      have hi9:i ≠ 9:=fun e=>by
       subst e
       rcases c1' with h | h
       · cases h
       · have:=of_decide_eq_false h; omega
      have hm:c.toNat % 128 * 128 ^ i<=127 * 128 ^ i:=Nat.mul_le_mul_right _ (by omega)
      have hp:128 ^ (i + 1)=128 * 128 ^ i:=by rw [Nat.pow_succ,Nat.mul_comm]
      refine ⟨by omega,aE (i + 1,n + c.toNat % 128 * 128 ^ i) 0 ⟨by simp only; omega,by simp only; rw [hp]; omega,by simp only; omega,ho⟩ (by simp only; omega) ?_ ?_⟩
      · simp -dsimp only [go_sem,hw,hos]<;>simp [hw,hos]
      · simp [go_sem]
    · rw [h1,cond_false,h2,cond_true] at ho
      exact fin 0 0 2 ho.symm
    · rw [h1,cond_false,h2,cond_false] at ho
      refine ⟨by omega,fin (n + c.toNat % 128 * 128 ^ i) (i + 1) 0 ho.symm⟩
 · have hg2:((i:Int) == (l.length:Int))=true:=by simp; omega
   have hd:l.drop i=[]:=List.drop_eq_nil_iff.2 hge
   rw [hd,H5] at ho
   simp (maxSteps:=1000000) -dsimp only [go_sem,hg,hg2]
   exact fin 0 0 1 ho.symm
def dI (x:List UInt8) (a:Nat) (e:Int):List C:=[.vl (.string (mk x)),.vl (.int .i64 a),.vl (.int .i64 e)]
abbrev gM (x:List UInt8) (a:Nat) (e:Int):B:=.cells (dI x a e) 199
abbrev BK (n:Nat):B:=.cells [.vl (.int .u64 n)] 83
def KW:W.Spec:=fun av H K=>∃ x:List UInt8,av=[tS (mk x)]/\H=[]/\K (.va (.c1 (.pt 0 0))) [gM x 0 0]
theorem N3 {x:List UInt8} {K:S->Hp->Prop} (hK:K (.va (.c1 (.pt 0 0))) [gM x 0 0]):KW [tS (mk x)] [] K:=⟨x,rfl,rfl,hK⟩
theorem xZ:Meets Tryz.prog 133 KW:=by
 refine aD Tryz.func133 aFK 1 (by rw [Tryz.ntmps133]; decide) (aA _) (fun av H K h=>by obtain ⟨_,rfl,_⟩:=h; rfl) ?_
 rintro av H K ⟨x,rfl,rfl,hK⟩
 simp (maxSteps:=1000000) -dsimp only [go_sem,TC,RQ]
 exact .done hK
def DE:W.Spec:=fun av H K=>∃ (x:List UInt8) (a:Nat) (e:Int),av=[.va (.c1 (.pt 0 0))]/\H=[gM x a e]/\K (iS .i64 e) [gM x a e]
theorem zC {x:List UInt8} {a:Nat} {e:Int} {K:S->Hp->Prop} (hK:K (iS .i64 e) [gM x a e]):DE [.va (.c1 (.pt 0 0))] [gM x a e] K:=⟨x,a,e,rfl,rfl,hK⟩
theorem aDL:Meets Tryz.prog 135 DE:=by
 refine aD Tryz.func135 aG7 1 (by rw [Tryz.ntmps135]; decide) (aA _) (fun av H K h=>by obtain ⟨_,_,_,rfl,_⟩:=h; rfl) ?_
 rintro av H K ⟨x,a,e,rfl,rfl,hK⟩
 simp (maxSteps:=1000000) -dsimp only [go_sem,dI,UX,RZ]
 exact .done hK
def DA:W.Spec:=fun av H K=>∃ (x:List UInt8) (a:Nat) (e:Int),av=[.va (.c1 (.pt 0 0))]/\H=[gM x a e]/\a<=x.length/\x.length<=9223372036854775807/\K (iS .i64 ((x.length:Int) - a)) [gM x a e]
theorem JJ {x:List UInt8} {a:Nat} {e:Int} {K:S->Hp->Prop} (h1:a<=x.length) (h2:x.length<=9223372036854775807) (hK:K (iS .i64 ((x.length:Int) - a)) [gM x a e]):DA [.va (.c1 (.pt 0 0))] [gM x a e] K:=⟨x,a,e,rfl,rfl,h1,h2,hK⟩
theorem RJ:Meets Tryz.prog 136 DA:=by
 refine aD Tryz.func136 aHE 1 (by rw [Tryz.ntmps136]; decide) (aA _) (fun av H K h=>by obtain ⟨_,_,_,rfl,_⟩:=h; rfl) ?_
 rintro av H K ⟨x,a,e,rfl,rfl,h1,h2,hK⟩
 simp (maxSteps:=1000000) -dsimp only [go_sem,dI,SA,VO]
 exact ⟨by omega,.done hK⟩
def aCD:W.Spec:=fun av H K=>∃ (x:List UInt8) (m:Nat),av=[tS (mk x),.va (.c1 (.pt 0 0))]/\H=[BK m]/\x.length<=9223372036854775807/\K (.tu [iA .i64 (vr x).2.1,iA .i64 (vr x).2.2]) [BK (vr x).1]
theorem aCE {x:List UInt8} {m:Nat} {K:S->Hp->Prop} (h:x.length<=9223372036854775807) (hK:K (.tu [iA .i64 (vr x).2.1,iA .i64 (vr x).2.2]) [BK (vr x).1]):aCD [tS (mk x),.va (.c1 (.pt 0 0))] [BK m] K:=⟨x,m,rfl,rfl,h,hK⟩
theorem aAB:Meets Tryz.prog 155 aCD:=by
 refine aD Tryz.func155 aHU 2 (by rw [Tryz.ntmps155]; decide) (aC OL (aA _)) (fun av H K h=>by obtain ⟨_,_,rfl,_⟩:=h; rfl) ?_
 rintro av H K ⟨x,m,rfl,rfl,h,hK⟩
 simp (maxSteps:=1000000) -dsimp only [go_sem,TE,SQ]
 refine aCT (by rw [dC,iM]; exact h) ?_
 rw [iM]
 simp (maxSteps:=1000000) -dsimp only [go_sem]
 refine aB rfl (.done ?_)
 simp (maxSteps:=1000000) -dsimp only [go_sem,zP]
 exact .done hK
def S7:W.Spec:=fun av H K=>∃ (x:List UInt8) (m:Nat),av=[.va (.c1 (.pt 0 0)),.va (.c1 (.fn 155 [(false,[.pt 1 0])]))]/\H=[gM x 0 0,BK m]/\x.length<=9223372036854775807/\K (.tu []) [gM x (vr x).2.1 (vr x).2.2,BK (vr x).1]
theorem XY {x:List UInt8} {m:Nat} {K:S->Hp->Prop} (h:x.length<=9223372036854775807) (hK:K (.tu []) [gM x (vr x).2.1 (vr x).2.2,BK (vr x).1]):S7 [.va (.c1 (.pt 0 0)),.va (.c1 (.fn 155 [(false,[.pt 1 0])]))] [gM x 0 0,BK m] K:=⟨x,m,rfl,rfl,h,hK⟩
theorem aCH:Meets Tryz.prog 154 S7:=by
 refine aD Tryz.func154 aGU 2 (by rw [Tryz.ntmps154]; decide) (aC aAB (aA _)) (fun av H K h=>by obtain ⟨_,_,rfl,_⟩:=h; rfl) ?_
 rintro av H K ⟨x,m,rfl,rfl,h,hK⟩
 simp (maxSteps:=1000000) -dsimp only [go_sem,dI,RT,VK,bne_self_eq_false]
 refine aB rfl (.done ?_)
 have z0:(0:Int)<=((0:Nat):Int):=by decide
 have z1:((0:Nat):Int)<=(x.length:Int):=by omega
 simp (maxSteps:=1000000) -dsimp only [go_sem,dI,AR,List.take_length,List.drop_zero,z0,z1]
 refine ⟨by omega,aCE h ?_⟩
 simp (maxSteps:=1000000) -dsimp only [go_sem]
 refine aB rfl (.done ?_)
 rcases pF x with ⟨h0,h1,h2,_⟩ | ⟨h0,h1,h2,h3,_,_⟩
 · have hne:((vr x).2.2 != 0)=true:=by simpa using h0
   rw [h1,h2] at hK ⊢
   simp (maxSteps:=1000000) -dsimp only [go_sem,dI,tD,hne]
   exact .done hK
 · rw [h0] at hK ⊢
   simp (maxSteps:=1000000) -dsimp only [go_sem,dI,tD,bne_self_eq_false]
   refine ⟨by omega,.done ?_⟩
   rw [show ((0:Nat):Int) + ((vr x).2.1:Int)=((vr x).2.1:Int) by omega]
   exact hK
def KQ:W.Spec:=fun av H K=>∃ x:List UInt8,av=[.va (.c1 (.pt 0 0))]/\H=[gM x 0 0]/\x.length<=9223372036854775807/\K (iS .u64 (vr x).1) [gM x (vr x).2.1 (vr x).2.2]
theorem F8 {x:List UInt8} {K:S->Hp->Prop} (h:x.length<=9223372036854775807) (hK:K (iS .u64 (vr x).1) [gM x (vr x).2.1 (vr x).2.2]):KQ [.va (.c1 (.pt 0 0))] [gM x 0 0] K:=⟨x,rfl,rfl,h,hK⟩
theorem E7:Meets Tryz.prog 134 KQ:=by
 refine aD Tryz.func134 aGF 1 (by rw [Tryz.ntmps134]; decide) (aC aCH (aA _)) (fun av H K h=>by obtain ⟨_,rfl,_⟩:=h; rfl) ?_
 rintro av H K ⟨x,rfl,rfl,h,hK⟩
 simp (maxSteps:=1000000) -dsimp only [go_sem,R8,U3]
 refine aB rfl (.done ?_)
 simp (maxSteps:=1000000) -dsimp only [go_sem,yZ]
 refine XY (m:=0) h ?_
 simp (maxSteps:=1000000) -dsimp only [go_sem]
 refine aB rfl (.done ?_)
 simp (maxSteps:=1000000) -dsimp only [go_sem,y4]
 refine .sel [0] (by simp) (by simp) rfl (.done ?_)
 simp -dsimp only [go_sem,dI]
 exact hK
theorem aLT (n:Nat):IntKind.u64.wrap ((BitVec.ofInt IntKind.u64.bits (n:Int) &&& BitVec.ofInt IntKind.u64.bits 1).toNat:Int)=((n % 2:Nat):Int):=by
 have hb:IntKind.u64.bits=64:=rfl
 have e:(BitVec.ofInt 64 (n:Int) &&& BitVec.ofInt 64 1).toNat=n % 2:=by
  rw [BitVec.toNat_and,BitVec.ofInt_natCast,BitVec.toNat_ofNat,show (BitVec.ofInt 64 1).toNat=1 from rfl,Nat.and_one_is_mod]
  omega
 rw [hb,e,p8 (by omega)]
theorem AV {n:Int} (h:bU n):IntKind.i64.wrap n=n:=by
 unfold bU at h
 exact uU (aG9 h.1 h.2)
theorem QQ (n:Nat) (h:n < 18446744073709551616):IntKind.i64.wrap (n:Int)=if n < 9223372036854775808 then (n:Int) else (n:Int) - 18446744073709551616:=by
 simp [IntKind.wrap,IntKind.signed,IntKind.bits]
 split<;>omega
theorem Z1 {n:Nat} (h:n < 18446744073709551616):IntKind.i64.wrap ((BitVec.ofInt IntKind.i64.bits (IntKind.i64.wrap ((n:Int).fdiv (2 ^ min 1 64))) ^^^ BitVec.ofInt IntKind.i64.bits (IntKind.i64.wrap (0 - IntKind.i64.wrap ((n % 2:Nat):Int)))).toNat:Int)=nZ n:=by
 have hb:IntKind.i64.bits=64:=rfl
 have e1:(n:Int).fdiv (2 ^ min 1 64)=((n / 2:Nat):Int):=by
  rw [show (2:Int) ^ min 1 64=2 from rfl,Int.fdiv_eq_ediv_of_nonneg _ (by decide)]; omega
 have e2:IntKind.i64.wrap ((n / 2:Nat):Int)=((n / 2:Nat):Int):=AV ⟨by omega,by omega⟩
 have e3:IntKind.i64.wrap ((n % 2:Nat):Int)=((n % 2:Nat):Int):=AV ⟨by omega,by omega⟩
 have e4:IntKind.i64.wrap (0 - ((n % 2:Nat):Int))=0 - ((n % 2:Nat):Int):=AV ⟨by omega,by omega⟩
 rw [hb,e1,e2,e3,e4]
 have e5:BitVec.ofInt 64 ((n / 2:Nat):Int)=BitVec.ofNat 64 (n / 2):=BitVec.ofInt_natCast ..
 rw [e5]
 unfold nZ
 rcases Nat.mod_two_eq_zero_or_one n with h0 | h0
 · rw [h0,if_neg (by decide),show (0:Int) - ((0:Nat):Int)=0 from rfl,show BitVec.ofInt 64 0=0#64 from rfl,BitVec.xor_zero,BitVec.toNat_ofNat,Nat.mod_eq_of_lt (by omega)]
   exact e2
 · rw [h0,if_pos rfl,show (0:Int) - ((1:Nat):Int)=-1 from rfl,show BitVec.ofInt 64 (-1)=BitVec.allOnes 64 from rfl,BitVec.xor_allOnes,BitVec.toNat_not,BitVec.toNat_ofNat,Nat.mod_eq_of_lt (show n / 2 < 2 ^ 64 by omega),QQ _ (by omega)]
   rw [if_neg (by omega)]
   omega
theorem YP {n:Int} (h:bU n):IntKind.u64.wrap ((BitVec.ofInt IntKind.u64.bits (IntKind.u64.wrap (IntKind.u64.wrap n * 2 ^ min 1 64)) ^^^ BitVec.ofInt IntKind.u64.bits (IntKind.u64.wrap (n.fdiv (2 ^ min 63 64)))).toNat:Int)=(mY n:Int):=by
 unfold bU at h
 have hb:IntKind.u64.bits=64:=rfl
 have hw:∀ x:Int,IntKind.u64.wrap x=x % 18446744073709551616:=fun x=>by simp [IntKind.wrap,IntKind.signed,IntKind.bits]
 have hp:(2:Int) ^ min 63 64=9223372036854775808:=by decide
 rw [hb,hp,show (2:Int) ^ min 1 64=2 from rfl,Int.fdiv_eq_ediv_of_nonneg _ (by decide)]
 unfold mY
 by_cases h0:n < 0
 · have e1:n / 9223372036854775808=-1:=by omega
   have e2:IntKind.u64.wrap (IntKind.u64.wrap n * 2)=((n * 2 + 18446744073709551616).toNat:Int):=by rw [hw,hw]; omega
   rw [if_pos h0,e1,e2,show BitVec.ofInt 64 (IntKind.u64.wrap (-1))=BitVec.allOnes 64 from rfl,BitVec.xor_allOnes,BitVec.toNat_not,BitVec.ofInt_natCast,BitVec.toNat_ofNat,Nat.mod_eq_of_lt (show (n * 2 + 18446744073709551616).toNat < 2 ^ 64 by omega),p8 (by omega)]
   omega
 · have e1:n / 9223372036854775808=0:=by omega
   have e2:IntKind.u64.wrap (IntKind.u64.wrap n * 2)=((n * 2).toNat:Int):=by rw [hw,hw]; omega
   rw [if_neg h0,e1,e2,show BitVec.ofInt 64 (IntKind.u64.wrap 0)=0#64 from rfl,BitVec.xor_zero,BitVec.ofInt_natCast,BitVec.toNat_ofNat,Nat.mod_eq_of_lt (show (n * 2).toNat < 2 ^ 64 by omega),p8 (by omega)]
   omega
def DC:W.Spec:=fun av H K=>∃ x:List UInt8,av=[.va (.c1 (.pt 0 0))]/\H=[gM x 0 0]/\x.length<=9223372036854775807/\K (iS .i64 (nZ (vr x).1)) [gM x (vr x).2.1 (vr x).2.2]
theorem XM {x:List UInt8} {K:S->Hp->Prop} (h:x.length<=9223372036854775807) (hK:K (iS .i64 (nZ (vr x).1)) [gM x (vr x).2.1 (vr x).2.2]):DC [.va (.c1 (.pt 0 0))] [gM x 0 0] K:=⟨x,rfl,rfl,h,hK⟩
theorem aGV:Meets Tryz.prog 138 DC:=by
 refine aD Tryz.func138 aG1 1 (by rw [Tryz.ntmps138]; decide) (aC E7 (aA _)) (fun av H K h=>by obtain ⟨_,rfl,_⟩:=h; rfl) ?_
 rintro av H K ⟨x,rfl,rfl,h,hK⟩
 simp (maxSteps:=1000000) -dsimp only [go_sem,SL,SC]
 refine F8 h ?_
 simp (maxSteps:=1000000) -dsimp only [go_sem]
 refine aB rfl (.done ?_)
 simp (maxSteps:=1000000) -dsimp only [go_sem,zI,aLT]
 have hlt:(vr x).1 < 18446744073709551616:=by
  rcases pF x with ⟨_,h,_⟩ | ⟨_,_,_,_,_,h⟩
  · rw [h]; decide
  · exact h
 rw [Z1 hlt]
 refine ⟨by decide,.done ?_⟩
 simp -dsimp only [go_sem,dI]
 exact hK
def CX:List S->Prop:=fun av=>match av with
 | [.va (.c1 (.vl (.int .i64 n)))]=>bU n
 | _=>False
theorem pU {av:List S} (h:CX av):∃ n:Int,av=[iS .i64 n]/\bU n:=by
 unfold CX at h
 split at h
 · exact ⟨_,rfl,h⟩
 · exact h.elim
def QY (f:Int->Value):Fun:=⟨CX,SJ f,fun av h=>by obtain ⟨n,rfl,_⟩:=pU h; trivial⟩
theorem Q5 {f:Int->Value}:∀ av H K,(QY f).sp av H K->av.length=1:=fun av H K h=>by obtain ⟨n,rfl,_⟩:=pU h.1.1; rfl
attribute [go_sem] QY CX
theorem aF5:Meets Tryz.prog 84 (QY fun n=>.string (mk (vi (mY n)))).sp:=by
 refine aD Tryz.func84 aL9 1 (by rw [Tryz.ntmps84]; decide) (aG xN (aA _)) Q5 ?_
 rintro av H K ⟨⟨h,rfl⟩,hK⟩
 obtain ⟨n,rfl,hn⟩:=pU h
 have hK:K (tS (mk (vi (mY n)))) []:=hK
 clear h
 simp (maxSteps:=1000000) -dsimp only [go_sem,ZY,aC4]
 have hz:mY n < 18446744073709551616:=by
  unfold bU at hn
  unfold mY
  split<;>omega
 rw [YP hn]
 exact ⟨by decide,by decide,by omega,.done hK⟩
def TG:W.Spec:=fun av H K=>∃ x:List UInt8,av=[tS (mk x)]/\H=[]/\x.length<=9223372036854775807/\K (.tu [uA (aX x).1,tA (mk (aX x).2.1),iA .i64 (aX x).2.2]) []
theorem yI {x:List UInt8} {K:S->Hp->Prop} (h:x.length<=9223372036854775807) (hK:K (.tu [uA (aX x).1,tA (mk (aX x).2.1),iA .i64 (aX x).2.2]) []):TG [tS (mk x)] [] K:=⟨x,rfl,rfl,h,hK⟩
theorem uP:Meets Tryz.prog 94 TG:=by
 refine aD Tryz.func94 aKT 1 (by rw [Tryz.ntmps94]; decide) (aC xZ (aC E7 (aC aDL (aC RJ (aA _))))) (fun av H K h=>by obtain ⟨_,rfl,_⟩:=h; rfl) ?_
 rintro av H K ⟨x,rfl,rfl,hx,hK⟩
 have fin:∀ (n:Nat) (r:List UInt8) (e:Int) (R:Hp),aX x=(n,r,e)->W.Fin 0 K (.tu [uA n,tA (mk r),iA .i64 e]) R:=fun n r e R h=>by
  rw [h] at hK; exact .sel [] (by simp) (by simp) rfl (.done (by simpa [go_sem] using hK))
 clear hK
 unfold aX at fin
 simp (maxSteps:=1000000) -dsimp only [go_sem,aDO,ZB]
 refine N3 ?_
 simp (maxSteps:=1000000) -dsimp only [go_sem,dI]
 refine aB rfl (.done ?_)
 simp (maxSteps:=1000000) -dsimp only [go_sem,E5]
 refine F8 hx ?_
 simp (maxSteps:=1000000) -dsimp only [go_sem,dI]
 refine aB rfl (.done ?_)
 simp (maxSteps:=1000000) -dsimp only [go_sem,EG]
 refine zC ?_
 simp (maxSteps:=1000000) -dsimp only [go_sem,dI]
 refine aB rfl (.done ?_)
 have hlt:=pF x
 cases c1:(vr x).2.2 != 0 with
 | true=>
  rw [c1,cond_true] at fin
  simp (maxSteps:=1000000) -dsimp only [go_sem,yA,c1]
  exact fin _ _ _ _ rfl
 | false=>
  rw [c1,cond_false] at fin
  simp (maxSteps:=1000000) -dsimp only [go_sem,yA,c1]
  obtain ⟨h0,h1,h2,h3,_⟩:(vr x).2.2=0/\(vr x).2.1=(vi (vr x).1).length/\0 < (vr x).2.1/\(vr x).2.1<=x.length/\True:=by
   rcases hlt with ⟨h,_⟩ | ⟨a,b,c,d,_⟩
   · exact absurd (eL c1) h
   · exact ⟨a,b,c,d,trivial⟩
  have e1:((x.length:Int) - ((x.length:Int) - ((vr x).2.1:Int)))=((vr x).2.1:Int):=by omega
  refine aB rfl (.done ?_)
  simp (maxSteps:=1000000) -dsimp only [go_sem,FN]
  refine JJ h3 hx ?_
  simp (maxSteps:=1000000) -dsimp only [go_sem,dI,e1,List.take_length]
  refine ⟨by omega,by omega,by omega,by omega,?_⟩
  exact fin _ _ _ _ rfl
def TO:W.Spec:=fun av H K=>∃ x:List UInt8,av=[tS (mk x)]/\H=[]/\x.length<=9223372036854775807/\K (.tu [tA (mk (bI x).1),tA (mk (bI x).2.1),iA .i64 (bI x).2.2]) []
theorem IJ {x:List UInt8} {K:S->Hp->Prop} (h:x.length<=9223372036854775807) (hK:K (.tu [tA (mk (bI x).1),tA (mk (bI x).2.1),iA .i64 (bI x).2.2]) []):TO [tS (mk x)] [] K:=⟨x,rfl,rfl,h,hK⟩
theorem L4:Meets Tryz.prog 95 TO:=by
 refine aD Tryz.func95 aKM 1 (by rw [Tryz.ntmps95]; decide) (aC uP (aA _)) (fun av H K h=>by obtain ⟨_,rfl,_⟩:=h; rfl) ?_
 rintro av H K ⟨x,rfl,rfl,hx,hK⟩
 have fin:∀ (n r:List UInt8) (e:Int) (R:Hp),bI x=(n,r,e)->W.Fin 0 K (.tu [tA (mk n),tA (mk r),iA .i64 e]) R:=fun n r e R h=>by
  rw [h] at hK; exact .sel [] (by simp) (by simp) rfl (.done (by simpa [go_sem] using hK))
 clear hK
 unfold bI at fin
 have hl:=(rW x).1
 simp (maxSteps:=1000000) -dsimp only [go_sem,YJ,aCO]
 refine yI hx ?_
 simp (maxSteps:=1000000) -dsimp only [go_sem]
 refine aB rfl (.done ?_)
 generalize aX x=z at *
 obtain ⟨n,r,e⟩:=z
 simp only at fin hl ⊢
 cases c1:e != 0 with
 | true=>
  rw [c1,cond_true] at fin
  simp (maxSteps:=1000000) -dsimp only [go_sem,rM,c1]
  exact fin _ _ _ _ rfl
 | false=>
 rw [c1,cond_false] at fin
 have hu:IntKind.u64.wrap (r.length:Int)=(r.length:Int):=p8 (by omega)
 have hd:decide ((r.length:Int) < (n:Int))=decide (r.length < n):=by rw [Bool.eq_iff_iff]; simp
 cases c2:decide (r.length < n) with
 | true=>
  rw [c2,cond_true] at fin
  simp (maxSteps:=1000000) -dsimp only [go_sem,rM,c1,hu,hd,c2]
  exact fin _ _ _ _ rfl
 | false=>
  rw [c2,cond_false] at fin
  have c2':=of_decide_eq_false c2
  simp (maxSteps:=1000000) -dsimp only [go_sem,rM,c1,hu,hd,c2,List.drop_zero,List.take_length]
  refine ⟨by omega,by omega,?_⟩
  exact fin _ _ _ _ rfl
def fdC (x:Int × List UInt8):List C:=[.vl (.int .i64 x.1),.vl (.string (mk x.2))]
def C9:W.Spec:=fun av H K=>∃ (x:List UInt8) (last:Int),av=[tS (mk x),iS .i64 last]/\H=[]/\x.length<=9223372036854775807/\K (.tu [.gs (fdC (aZ x last).1),tA (mk (aZ x last).2.1),iA .i64 (aZ x last).2.2]) []
theorem X5 {x:List UInt8} {last:Int} {K:S->Hp->Prop} (h:x.length<=9223372036854775807) (hK:K (.tu [.gs [.vl (.int .i64 (aZ x last).1.1),.vl (.string (mk (aZ x last).1.2))],tA (mk (aZ x last).2.1),iA .i64 (aZ x last).2.2]) []):C9 [tS (mk x),iS .i64 last] [] K:=⟨x,last,rfl,rfl,h,hK⟩
theorem W3:Meets Tryz.prog 53 C9:=by
 refine aD Tryz.func53 aK8 2 (by rw [Tryz.ntmps53]; decide) (aC uP (aC L4 (aA _))) (fun av H K h=>by obtain ⟨_,_,rfl,_⟩:=h; rfl) ?_
 rintro av H K ⟨x,last,rfl,rfl,hx,hK⟩
 have fin:∀ (a:Int) (c r:List UInt8) (e:Int) (R:Hp),aZ x last=((a,c),r,e)->W.Fin 0 K (.tu [.gs [.vl (.int .i64 a),.vl (.string (mk c))],tA (mk r),iA .i64 e]) R:=fun a c r e R h=>by
  rw [h] at hK; exact .sel [] (by simp) (by simp) rfl (.done (by simpa [go_sem,fdC] using hK))
 clear hK
 unfold aZ at fin
 have hl:=(rW x).1
 simp (maxSteps:=1000000) -dsimp only [go_sem,aCS,aCY]
 refine yI hx ?_
 generalize aX x=z at *
 obtain ⟨n,r,e⟩:=z
 simp only at fin hl ⊢
 have hd:decide ((2147483647:Int) < (n:Int))=decide (2147483647 < n):=by rw [Bool.eq_iff_iff]; simp; omega
 cases c1:e != 0 with
 | true=>
  rw [c1,cond_true] at fin
  simp (maxSteps:=1000000) -dsimp only [go_sem,c1]
  exact fin _ _ _ _ _ rfl
 | false=>
 rw [c1,cond_false] at fin
 cases c2:decide (2147483647 < n) with
 | true=>
  rw [c2,cond_true] at fin
  simp (maxSteps:=1000000) -dsimp only [go_sem,c1,hd,c2]
  exact fin _ _ _ _ _ rfl
 | false=>
 rw [c2,cond_false] at fin
 have c2':=of_decide_eq_false c2
 have hw:IntKind.i64.wrap (n:Int)=(n:Int):=AV ⟨by omega,by omega⟩
 cases c3:decide ((n:Int)<=last) with
 | true=>
  rw [c3,cond_true] at fin
  simp (maxSteps:=1000000) -dsimp only [go_sem,c1,hd,c2,hw,c3]
  exact fin _ _ _ _ _ rfl
 | false=>
  rw [c3,cond_false] at fin
  simp (maxSteps:=1000000) -dsimp only [go_sem,c1,hd,c2,hw,c3]
  refine IJ (by omega) ?_
  simp (maxSteps:=1000000) -dsimp only [go_sem]
  refine aB rfl (.done ?_)
  simp (maxSteps:=1000000) -dsimp only [go_sem,EQ,hw]
  exact fin _ _ _ _ _ rfl
def nW (b:List UInt8):Vl × Int:=bif b == [] then (v0,1) else bif decide (1 < (b.headD 0).toNat) || decide (1 < b.length) then (v0,2) else (.mk 1 (b.headD 0).toNat (mk []) [] [],0)
def fD (k:Int) (n:Nat):Int:=bif k == 2 then nZ n else n
def oN (s:Sc) (t:Ty) (b:List UInt8):Vl × Int:=bif (vr b).2.2 != 0 then (v0,(vr b).2.2) else bif decide ((vr b).2.1 < b.length) then (v0,2) else bif !(fA s t (fD t.k (vr b).1)) then (v0,4) else (.mk t.k (fD t.k (vr b).1) (mk []) [] [],0)
def II (t:Ty) (b:List UInt8):Vl × Int:=bif decide (t.s < (b.length:Int)) then (v0,3) else (.mk 4 0 (mk b) [] [],0)
def b9 (R:List UInt8->Vl × Int):Nat->List UInt8->(List Vl × List UInt8) × Int
 | 0,b=>(([],b),0)
 | n + 1,b=>bif (bI b).2.2 != 0 then (([],[]),(bI b).2.2) else bif (R (bI b).1).2 != 0 then (([],[]),(R (bI b).1).2) else bif (b9 R n (bI b).2.1).2 != 0 then (([],[]),(b9 R n (bI b).2.1).2) else (((R (bI b).1).1 :: (b9 R n (bI b).2.1).1.1,(b9 R n (bI b).2.1).1.2),0)
theorem kI (R:List UInt8->Vl × Int) (n:Nat) (b:List UInt8):b9 R (n + 1) b=bif (bI b).2.2 != 0 then (([],[]),(bI b).2.2) else bif (R (bI b).1).2 != 0 then (([],[]),(R (bI b).1).2) else bif (b9 R n (bI b).2.1).2 != 0 then (([],[]),(b9 R n (bI b).2.1).2) else (((R (bI b).1).1 :: (b9 R n (bI b).2.1).1.1,(b9 R n (bI b).2.1).1.2),0):=rfl
def jQ (R:List UInt8->Vl × Int) (sz:Int) (b:List UInt8):Vl × Int:=
 bif (aX b).2.2 != 0 then (v0,(aX b).2.2) else bif decide (sz < ((aX b).1:Int)) then (v0,3) else bif (b9 R (aX b).1 (aX b).2.1).2 != 0 then (v0,(b9 R (aX b).1 (aX b).2.1).2)
 else bif !((b9 R (aX b).1 (aX b).2.1).1.2 == []) then (v0,2) else (.mk 5 0 (mk []) (b9 R (aX b).1 (aX b).2.1).1.1 [],0)
def rA (R:Ty->List UInt8->Vl × Int) (s:Sc) (f:Fl) (b:List UInt8):Int:=
 bif (R f.ty b).2 != 0 then (R f.ty b).2 else bif !f.opt && (dG (R f.ty b).1 (zF s 23 f.ty) && (f.ty.k != 6 || b == [])) then 2 else 0
def cN (R:Ty->List UInt8->Vl × Int) (s:Sc) (fs:List Fl):Nat->Int->List UInt8->List (Int × Vl) × Int
 | 0,_,_=>([],0)
 | g + 1,last,b=>bif b == [] then ([],0) else bif (aZ b last).2.2 != 0 then ([],(aZ b last).2.2)
  else bif !(fF fs (aZ b last).1.1).isSome then cN R s fs g (aZ b last).1.1 (aZ b last).2.1
  else bif rA R s ((fF fs (aZ b last).1.1).getD default) (aZ b last).1.2 != 0 then ([],rA R s ((fF fs (aZ b last).1.1).getD default) (aZ b last).1.2)
  else bif (cN R s fs g (aZ b last).1.1 (aZ b last).2.1).2 != 0 then ([],(cN R s fs g (aZ b last).1.1 (aZ b last).2.1).2)
  else (((aZ b last).1.1,(R ((fF fs (aZ b last).1.1).getD default).ty (aZ b last).1.2).1) :: (cN R s fs g (aZ b last).1.1 (aZ b last).2.1).1,0)
def iE (s:Sc) (L:List (Int × Vl)) (f:Fl):List (Int × Vl):=bif (bX L f.num).isSome then [(f.num,((bX L f.num).map (·.2)).getD default)] else bif f.opt then [] else [(f.num,zF s 23 f.ty)]
def eJ (s:Sc) (fs:List Fl) (L:List (Int × Vl)):List (Int × Vl):=fs.flatMap (iE s L)
def jG (R:Ty->List UInt8->Vl × Int) (s:Sc) (fs:List Fl) (b:List UInt8):Vl × Int:=
 bif (cN R s fs b.length 0 b).2 != 0 then (v0,(cN R s fs b.length 0 b).2) else (.mk 6 0 (mk []) [] (eJ s fs (cN R s fs b.length 0 b).1),0)
def a8 (s:Sc):Nat->Ty->List UInt8->Vl × Int
 | 0,_,_=>(v0,0)
 | N + 1,t,b=>bif t.k == 1 then nW b else bif t.k == 2 || (t.k == 3 || t.k == 7) then oN s t b else bif t.k == 4 then II t b else bif t.k == 5 then jQ (a8 s N (t.e.headD default)) t.s b else jG (a8 s N) s (stOf s t).fs b
theorem mN (s:Sc) (N:Nat) (t:Ty) (b:List UInt8):a8 s (N + 1) t b=bif t.k == 1 then nW b else bif t.k == 2 || (t.k == 3 || t.k == 7) then oN s t b else bif t.k == 4 then II t b else bif t.k == 5 then jQ (a8 s N (t.e.headD default)) t.s b else jG (a8 s N) s (stOf s t).fs b:=rfl
def eV (s:Sc) (nm:ByteArray) (b:List UInt8):Vl × Int:=
 bif bP s != 0 then (v0,bP s) else bif !(cJ s.ss nm) then (v0,6) else bif decide (2000 < (b.length:Int)) then (v0,3) else jG (a8 s 8) s (stOf s (.mk 6 0 nm [])).fs b
def mZ {α:Type} (acc:List α) (q:List α × Int):List α × Int:=bif q.2 != 0 then ([],q.2) else (acc ++ q.1,0)
theorem WG {α:Type} {q:List α × Int} (h:q.2 ≠ 0->q.1=[]):mZ [] q=q:=by
 unfold mZ
 cases hq:q.2 != 0 with
 | true=>rw [cond_true]; obtain ⟨a,b⟩:=q; have:=h (iZ hq); simp only at this; rw [this]
 | false=>rw [cond_false]; obtain ⟨a,b⟩:=q; have:=eL hq; simp only at this; rw [this]; rfl
theorem aC3 {α:Type} (a b:List α) (q:List α × Int):mZ a (mZ b q)=mZ (a ++ b) q:=by
 unfold mZ
 cases hq:q.2 != 0 with
 | true=>simp only [cond_true,hq]
 | false=>simp only [cond_false]; rw [show ((0:Int) != 0)=false from rfl,cond_false,List.append_assoc]
theorem yH {α:Type} (a:List α) {e:Int} (h:(e != 0)=true):mZ a ([],e)=([],e):=by unfold mZ; rw [h]; rfl
theorem Z0 {α:Type} (a b:List α):mZ a (b,0)=(a ++ b,0):=rfl
theorem sN {R:Ty->List UInt8->Vl × Int} {s:Sc} {fs:List Fl} (g:Nat) (last:Int):cN R s fs g last []=([],0):=by cases g<;>rfl
theorem mD {R:Ty->List UInt8->Vl × Int} {s:Sc} {fs:List Fl} {g:Nat} {last:Int} {b:List UInt8} (h:b ≠ []):cN R s fs (g + 1) last b=bif (aZ b last).2.2 != 0 then ([],(aZ b last).2.2)
 else bif !(fF fs (aZ b last).1.1).isSome then cN R s fs g (aZ b last).1.1 (aZ b last).2.1
 else bif rA R s ((fF fs (aZ b last).1.1).getD default) (aZ b last).1.2 != 0 then ([],rA R s ((fF fs (aZ b last).1.1).getD default) (aZ b last).1.2)
 else mZ [((aZ b last).1.1,(R ((fF fs (aZ b last).1.1).getD default).ty (aZ b last).1.2).1)] (cN R s fs g (aZ b last).1.1 (aZ b last).2.1):=by
 have hb:(b == [])=false:=by simpa using h
 rw [cN,hb,cond_false]; rfl
theorem UV {R:Ty->List UInt8->Vl × Int} {s:Sc} {fs:List Fl}:∀ (g:Nat) (last:Int) (b:List UInt8),(cN R s fs g last b).2 ≠ 0->(cN R s fs g last b).1=[]
 | 0,_,_,h=>absurd rfl h
 | g + 1,last,b,h=>by
  by_cases hb:b=[]
  · subst hb; rfl
  · rw [mD hb] at h ⊢
    cases c1:(aZ b last).2.2 != 0 with
    | true=>rfl
    | false=>
    rw [c1,cond_false] at h
    rw [cond_false]
    cases c2:!(fF fs (aZ b last).1.1).isSome with
    | true=>rw [c2,cond_true] at h; rw [cond_true]; exact UV g _ _ h
    | false=>
    rw [c2,cond_false] at h
    rw [cond_false]
    cases c3:rA R s ((fF fs (aZ b last).1.1).getD default) (aZ b last).1.2 != 0 with
    | true=>rfl
    | false=>
    rw [c3,cond_false] at h
    rw [cond_false]
    unfold mZ at h ⊢
    cases c4:(cN R s fs g (aZ b last).1.1 (aZ b last).2.1).2 != 0 with
    | true=>rfl
    | false=>rw [c4] at h; exact absurd rfl h
def aLP:Ty:=.mk 2 8 (mk []) []
def xTx:Ty:=.mk 4 5 (mk []) []
def xMo:Ty:=.mk 7 0 (mk [77,111,100,101]) []
def xBo:Ty:=.mk 1 0 (mk []) []
def xLi:Ty:=.mk 5 2 (mk []) [xBo]
def xF1:Fl:=⟨1,mk [120],aLP,false⟩
def xF2:Fl:=⟨2,mk [110,97,109,101],xTx,true⟩
def xF4:Fl:=⟨4,mk [109,111,100,101],xMo,false⟩
def xF5:Fl:=⟨5,mk [108],xLi,false⟩
def xSt:St:=⟨mk [80,111,115,101],[xF1,xF2,xF4,xF5]⟩
def xEn:En:=⟨mk [77,111,100,101],[mk [105,100,108,101],mk [114,117,110]],[0,3]⟩
def xS:Sc:=⟨1,[xEn],[xSt]⟩
def xT:Ty:=.mk 6 0 (mk [80,111,115,101]) []
def x1:List UInt8:=[123,120,32,61,32,45,53,44,32,109,111,100,101,32,61,32,114,117,110,44,32,108,32,61,32,91,116,114,117,101,44,32,102,97,108,115,101,93,125]
def x2:List UInt8:=[123,120,32,61,32,50,48,48,44,32,109,111,100,101,32,61,32,114,117,110,44,32,108,32,61,32,91,93,125]
def x3:List UInt8:=[123,109,111,100,101,32,61,32,114,117,110,44,32,120,32,61,32,49,125]
def x4:List UInt8:=[123,120,32,61,32,49,44,32,109,111,100,101,32,61,32,115,116,111,112,44,32,108,32,61,32,91,93,125]
def SN (k n:Int):Vl:=.mk k n (mk []) [] []
def xL:Vl:=.mk 5 0 (mk []) [SN 1 1,SN 1 0] []
def xV:Vl:=.mk 6 0 (mk []) [] [(1,SN 2 (-5)),(4,SN 7 3),(5,xL)]
theorem e1:KJ (pP 10) xS xT x1=(xV,0,0):=by kernel_rfl
theorem e2:KJ (pP 10) xS xT x2=(v0,4,0):=by kernel_rfl
theorem e3:KJ (pP 10) xS xT x3=(v0,2,13):=by kernel_rfl
theorem e4:KJ (pP 10) xS xT x4=(v0,2,15):=by kernel_rfl
theorem e0:gH xS xT xV=0:=by kernel_rfl
theorem e5:aMM (fP 10) xS xT xV=x1:=by kernel_rfl
theorem ty0 (k s:Int) (n:ByteArray) (h1:bU k) (h2:bU s) (h3:n.size<=9223372036854775807):TyOk (.mk k s n []):=.mk h1 h2 h3 (Nat.zero_le _) (fun t h=>by cases h)
theorem gZ:VlOk v0:=FD ⟨by decide,by decide⟩ ⟨by decide,by decide⟩ (by decide)
theorem AT {P:Vl->Prop} {R:List UInt8->Vl × Int}:∀ (n:Nat) (b:List UInt8),(∀ c,c.length<=b.length->P (R c).1)->(∀ x ∈ (b9 R n b).1.1,P x)/\(b9 R n b).1.1.length<=n/\(b9 R n b).1.2.length<=b.length
 | 0,b,_=>⟨fun x h=>(by cases h),Nat.le_refl _,Nat.le_refl _⟩
 | n + 1,b,h=>by
  have hl:=E8 b
  obtain ⟨i1,i2,i3⟩:=AT n (bI b).2.1 fun c hc=>h c (Nat.le_trans hc hl.2.1)
  have nil:(∀ x ∈ ([]:List Vl),P x)/\([]:List Vl).length<=n + 1/\([]:List UInt8).length<=b.length:=⟨fun x h=>(by cases h),Nat.zero_le _,Nat.zero_le _⟩
  rw [kI]
  cases (bI b).2.2 != 0 with
  | true=>exact nil
  | false=>
  rw [cond_false]
  cases (R (bI b).1).2 != 0 with
  | true=>exact nil
  | false=>
  rw [cond_false]
  cases (b9 R n (bI b).2.1).2 != 0 with
  | true=>exact nil
  | false=>
   rw [cond_false]
   refine ⟨fun x hx=>?_,by rw [List.length_cons]; omega,Nat.le_trans i3 hl.2.1⟩
   rcases List.mem_cons.1 hx with rfl | hx
   · exact h _ hl.1
   · exact i1 x hx
theorem IV {P:Int->Vl->Prop} {R:Ty->List UInt8->Vl × Int} {s:Sc} {fs:List Fl}:∀ (g:Nat) (last:Int) (b:List UInt8),(∀ f ∈ fs,∀ c,c.length<=b.length->P f.num (R f.ty c).1)->(∀ x ∈ (cN R s fs g last b).1,P x.1 x.2)
 | 0,_,b,_,x,h=>(by cases h)
 | g + 1,last,b,h,x,hx=>by
  by_cases hb:b=[]
  · subst hb; rw [sN] at hx; cases hx
  · rw [mD hb] at hx
    have hl:=DU b last
    have ih:=IV (P:=P) (R:=R) (s:=s) (fs:=fs) g (aZ b last).1.1 (aZ b last).2.1 fun f hf c hc=>h f hf c (Nat.le_trans hc hl.2.1)
    cases c1:(aZ b last).2.2 != 0 with
    | true=>rw [c1] at hx; cases hx
    | false=>
    rw [c1,cond_false] at hx
    cases c2:!(fF fs (aZ b last).1.1).isSome with
    | true=>rw [c2,cond_true] at hx; exact ih x hx
    | false=>
    rw [c2,cond_false] at hx
    cases c3:rA R s ((fF fs (aZ b last).1.1).getD default) (aZ b last).1.2 != 0 with
    | true=>rw [c3] at hx; cases hx
    | false=>
    rw [c3,cond_false] at hx
    unfold mZ at hx
    cases c4:(cN R s fs g (aZ b last).1.1 (aZ b last).2.1).2 != 0 with
    | true=>rw [c4] at hx; cases hx
    | false=>
     rw [c4,cond_false] at hx
     rcases List.mem_append.1 hx with hx | hx
     · obtain rfl:=List.mem_singleton.1 hx
       cases hf:fF fs (aZ b last).1.1 with
       | none=>rw [hf] at c2; cases c2
       | some f=>
        have hm:f ∈ fs:=List.mem_of_find?_eq_some hf
        have he:f.num=(aZ b last).1.1:=by have:=List.find?_some hf; simpa using this
        have:=h f hm (aZ b last).1.2 hl.1
        rw [he] at this
        exact this
     · exact ih x hx
theorem I3 {P:Int->Vl->Prop} {s:Sc} {fs:List Fl} {L:List (Int × Vl)} (h1:∀ x ∈ L,P x.1 x.2) (h2:∀ f ∈ fs,P f.num (zF s 23 f.ty)):∀ x ∈ eJ s fs L,P x.1 x.2:=fun x hx=>by
 obtain ⟨f,hf,hx⟩:=List.mem_flatMap.1 hx
 unfold iE at hx
 cases hv:bX L f.num with
 | some y=>
  obtain ⟨hm,he⟩:=oO hv
  rw [hv] at hx
  obtain rfl:=List.mem_singleton.1 hx
  have:=h1 y hm
  rw [he] at this
  exact this
 | none=>
  rw [hv] at hx
  change x ∈ bif f.opt then [] else _ at hx
  cases ho:f.opt with
  | true=>rw [ho] at hx; cases hx
  | false=>rw [ho] at hx; obtain rfl:=List.mem_singleton.1 hx; exact h2 f hf
theorem AS (s:Sc) (L:List (Int × Vl)) (f:Fl):(iE s L f).length<=1:=by
 unfold iE
 cases (bX L f.num).isSome<;>cases f.opt<;>simp
theorem BH {α β:Type} {f:α->List β}:∀ {l:List α},(∀ x,(f x).length<=1)->(l.flatMap f).length<=l.length
 | [],_=>Nat.le_refl _
 | x :: l,h=>by
  have h1:=h x
  have h2:=BH (l:=l) h
  rw [List.flatMap_cons,List.length_append,List.length_cons]; omega
theorem HZ (s:Sc) (fs:List Fl) (L:List (Int × Vl)):(eJ s fs L).length<=fs.length:=BH (AS s L)
theorem ZK {n:Nat} (h:n < 18446744073709551616):bU (nZ n):=by
 unfold nZ bU
 split<;>omega
theorem rg3 {s:Sc} {t:Ty} {n:Int} (h3:(t.k == 3)=true):fA s t n=(decide (0<=n) && decide (n < (2 ^ t.s.toNat:Int))):=by
 unfold fA
 rw [bK h3 (b:=1) (by decide),bK h3 (b:=2) (by decide),h3]; rfl
theorem rg7 {s:Sc} {t:Ty} {n:Int} (h7:(t.k == 7)=true):fA s t n=(enOf s t).vs.any (fun x=>x == n):=by
 unfold fA
 rw [bK h7 (b:=1) (by decide),bK h7 (b:=2) (by decide),bK h7 (b:=3) (by decide),h7]; rfl
theorem R3 {s:Sc} (hd:Dg s) {t:Ty} (hv:valF s.ss s.es t=true) (hk:(t.k == 2 || (t.k == 3 || t.k == 7))=true) {n:Nat} (hn:n < 18446744073709551616) (hr:fA s t (fD t.k n)=true):bU (fD t.k n)/\((t.k == 2)=false->fD t.k n=n/\n < 4294967296):=by
 unfold fD at hr ⊢
 cases c2:t.k == 2 with
 | true=>rw [cond_true]; exact ⟨ZK hn,fun h=>(by cases h)⟩
 | false=>
  rw [c2,cond_false] at hr
  rw [cond_false]
  have key:n < 4294967296:=by
   cases c3:t.k == 3 with
   | true=>
    rw [rg3 c3,Bool.and_eq_true] at hr
    have h2:=of_decide_eq_true hr.2
    have h32:(2:Int) ^ (32:Int).toNat=4294967296:=by decide
    have h16:(2:Int) ^ (16:Int).toNat=65536:=by decide
    have h8:(2:Int) ^ (8:Int).toNat=256:=by decide
    rcases OW hv c3 with h | h | h<;>rw [h] at h2<;>omega
   | false=>
    have c7:(t.k == 7)=true:=by rw [c2,c3] at hk; simpa using hk
    rw [rg7 c7,List.any_eq_true] at hr
    obtain ⟨x,hx,he⟩:=hr
    have:=(hd.ni.enOf t).n x hx
    have he:=eq_of_beq he
    omega
  exact ⟨⟨by omega,by omega⟩,fun _=>⟨rfl,key⟩⟩
theorem CZ (b:List UInt8):(vr b).1 < 18446744073709551616:=by
 rcases pF b with ⟨_,h,_⟩ | ⟨_,_,_,_,_,h⟩
 · rw [h]; decide
 · exact h
theorem UL (b:List UInt8):(aX b).1 < 18446744073709551616:=by
 rcases tC b with ⟨_,h,_⟩ | ⟨_,_,h⟩
 · rw [h]; decide
 · exact h
theorem YA {s:Sc} (hs:s.fit) (hd:Dg s) {R:Ty->List UInt8->Vl × Int} {t:Ty} {b:List UInt8} (hR:∀ f ∈ (stOf s t).fs,∀ c,c.length<=b.length->VlOk (R f.ty c).1):VlOk (jG R s (stOf s t).fs b).1:=by
 unfold jG
 cases (cN R s (stOf s t).fs b.length 0 b).2 != 0 with
 | true=>exact gZ
 | false=>
  rw [cond_false]
  have hn:=hd.ni.stOf t
  have key:=I3 (P:=fun i v=>bU i/\VlOk v) (s:=s) (fs:=(stOf s t).fs) (L:=(cN R s (stOf s t).fs b.length 0 b).1)
   (IV (P:=fun i v=>bU i/\VlOk v) b.length 0 b fun f hf c hc=>⟨by have:=hn.n f hf; exact ⟨by omega,by omega⟩,hR f hf c hc⟩)
   (fun f hf=>⟨by have:=hn.n f hf; exact ⟨by omega,by omega⟩,C0 hs 23 f.ty ((fH hs t).fs f hf).ty⟩)
  have hl:=HZ s (stOf s t).fs (cN R s (stOf s t).fs b.length 0 b).1
  have hl2:=hn.l
  exact .mk ⟨by decide,by decide⟩ ⟨by decide,by decide⟩ (by decide) (by simp) (by omega) (fun x h=>(by cases h)) (fun x hx=>(key x hx).1) (fun x hx=>(key x hx).2)
theorem n7 {s:Sc} (hs:s.fit) (hd:Dg s):∀ (N:Nat) (t:Ty) (b:List UInt8),TyOk t->valF s.ss s.es t=true->b.length<=1000000000->VlOk (a8 s N t b).1
 | 0,_,_,_,_,_=>gZ
 | N + 1,t,b,ht,hv,hb=>by
  rw [mN]
  cases c1:t.k == 1 with
  | true=>
   rw [cond_true]
   unfold nW
   cases b == [] with
   | true=>exact gZ
   | false=>
   cases decide (1 < (b.headD 0).toNat) || decide (1 < b.length) with
   | true=>exact gZ
   | false=>have:=(b.headD 0).toNat_lt; exact FD ⟨by decide,by decide⟩ ⟨by omega,by omega⟩ (by decide)
  | false=>
  rw [cond_false]
  cases c2:t.k == 2 || (t.k == 3 || t.k == 7) with
  | true=>
   rw [cond_true]
   unfold oN
   cases (vr b).2.2 != 0 with
   | true=>exact gZ
   | false=>
   rw [cond_false]
   cases decide ((vr b).2.1 < b.length) with
   | true=>exact gZ
   | false=>
   rw [cond_false]
   cases c3:fA s t (fD t.k (vr b).1) with
   | false=>exact gZ
   | true=>exact FD ht.k (R3 hd hv c2 (CZ b) c3).1 (by decide)
  | false=>
  rw [cond_false]
  cases c4:t.k == 4 with
  | true=>
   rw [cond_true]
   unfold II
   cases decide (t.s < (b.length:Int)) with
   | true=>exact gZ
   | false=>exact FD ⟨by decide,by decide⟩ ⟨by decide,by decide⟩ (by rw [dC,iM]; omega)
  | false=>
  rw [cond_false]
  cases c5:t.k == 5 with
  | true=>
   rw [cond_true]
   obtain ⟨u,he,hu⟩:=rR hv c5
   have hto:=ht.e u (by rw [he]; exact List.mem_singleton.2 rfl)
   rw [he]
   show VlOk (jQ (a8 s N u) t.s b).1
   unfold jQ
   have hcl:=rW b
   obtain ⟨i1,i2,_⟩:=AT (P:=VlOk) (R:=a8 s N u) (aX b).1 (aX b).2.1 fun c hc=>n7 hs hd N u c hto hu (by omega)
   cases (aX b).2.2 != 0 with
   | true=>exact gZ
   | false=>
   rw [cond_false]
   cases c6:decide (t.s < ((aX b).1:Int)) with
   | true=>exact gZ
   | false=>
   rw [cond_false]
   cases (b9 (a8 s N u) (aX b).1 (aX b).2.1).2 != 0 with
   | true=>exact gZ
   | false=>
   rw [cond_false]
   cases !((b9 (a8 s N u) (aX b).1 (aX b).2.1).1.2 == []) with
   | true=>exact gZ
   | false=>
    rw [cond_false]
    have h1:=of_decide_eq_false c6
    have h2:=(mA hv).2 c5
    exact .mk ⟨by decide,by decide⟩ ⟨by decide,by decide⟩ (by decide) (by omega) (by simp) i1 (fun x h=>(by cases h)) (fun x h=>(by cases h))
  | false=>
   rw [cond_false]
   have hn:=hd.ni.stOf t
   exact YA hs hd fun f hf c hc=>n7 hs hd N f.ty c ((fH hs t).fs f hf).ty (hn.v f hf) (by omega)
def aDQ:W.Spec:=fun av H K=>∃ b:List UInt8,av=[tS (mk b)]/\H=[]/\b.length<=9223372036854775807/\K (.tu [.gs (aM (nW b).1),iA .i64 (nW b).2]) []
theorem aEA {b:List UInt8} {K:S->Hp->Prop} (h:b.length<=9223372036854775807) (hK:K (.tu [.gs (aM (nW b).1),iA .i64 (nW b).2]) []):aDQ [tS (mk b)] [] K:=⟨b,rfl,rfl,h,hK⟩
theorem HB:Meets Tryz.prog 97 aDQ:=by
 refine aD Tryz.func97 aMS 1 (by rw [Tryz.ntmps97]; decide) (aA _) (fun av H K h=>by obtain ⟨_,rfl,_⟩:=h; rfl) ?_
 rintro av H K ⟨b,rfl,rfl,hb,hK⟩
 have fin:∀ (v:Vl) (e:Int) (R:Hp),nW b=(v,e)->W.Fin 0 K (.tu [.gs (aM v),iA .i64 e]) R:=fun v e R h=>by
  rw [h] at hK; exact .sel [] (by simp) (by simp) rfl (.done (by rw [aJ] at hK ⊢; simpa [go_sem] using hK))
 clear hK
 unfold nW at fin
 cases b with
 | nil=>
  have e0:(([]:List UInt8) == [])=true:=rfl
  simp (maxSteps:=1000000) -dsimp only [go_sem,QO,O1,e0]
  exact fin v0 1 _ rfl
 | cons c r=>
  have e0:(c :: r == [])=false:=rfl
  rw [e0,cond_false,List.headD_cons,List.length_cons] at fin
  have e1:decide ((1:Int) < (c.toNat:Int))=decide (1 < c.toNat):=by rw [Bool.eq_iff_iff]; simp; omega
  have e2:decide ((1:Int) < ((r.length + 1:Nat):Int))=decide (1 < r.length + 1):=by rw [Bool.eq_iff_iff]; simp; omega
  have e3:IntKind.i64.wrap (c.toNat:Int)=(c.toNat:Int):=AV ⟨by omega,by have:=c.toNat_lt; omega⟩
  have z0:(0:Int) < ((r.length + 1:Nat):Int):=by omega
  have z1:(c :: r)[0]? = some c:=rfl
  have z2:(0:Int)<=0:=by decide
  cases c1:decide (1 < c.toNat)<;>cases c2:decide (1 < r.length + 1)<;>rw [c1,c2] at fin <;>
  · simp (maxSteps:=1000000) -dsimp only [go_sem,QO,O1,e0,e1,e2,c1,c2,z0,z1,z2,aH,forall_eq',Bool.false_or,Bool.true_or,Bool.or_self]
    try simp only [e3]
    first
     | exact fin v0 2 _ rfl
     | exact fin (.mk 1 (c.toNat:Int) (mk []) [] []) 0 _ rfl
def DP:List S->Prop:=fun av=>match av with
 | [.va (.gs r),.va (.c1 (.vl (.string _))),.va (.c1 (.vl (.int .i64 _)))]=>lZ r
 | _=>False
theorem qJ {av:List S} (h:DP av):∃ (s:Sc) (nm:ByteArray) (n:Int),av=[.va (.gs (aF s)),tS nm,iS .i64 n]/\s.fit:=by
 unfold DP at h
 split at h
 · obtain ⟨s,rfl,hs⟩:=h; exact ⟨s,_,_,rfl,hs⟩
 · exact h.elim
noncomputable def SB:List S->A:=fun av=>match av with
 | [.va (.gs r),.va (.c1 (.vl (.string nm))),.va (.c1 (.vl (.int .i64 n)))]=>bA (((c9 (C.sc r).es nm).getD default).vs.any fun x=>x == n)
 | _=>.gs []
noncomputable def n3Fn:Fun:=⟨DP,SB,fun av h=>by obtain ⟨_,_,_,rfl,_⟩:=qJ h; trivial⟩
theorem PR:∀ av H K,n3Fn.sp av H K->av.length=3:=fun av H K h=>by obtain ⟨_,_,_,rfl,_⟩:=qJ h.1.1; rfl
attribute [go_sem] n3Fn DP SB
theorem L1:Meets Tryz.prog 139 n3Fn.sp:=by
 refine aD Tryz.func139 aFU 3 (by rw [Tryz.ntmps139]; decide) (aC F3 (aA _)) PR ?_
 rintro av H K ⟨⟨h,rfl⟩,hK⟩
 obtain ⟨s,nm,n,rfl,hs⟩:=qJ h
 have hK:K (bS (((c9 (C.sc (aF s)).es nm).getD default).vs.any fun x=>x == n)) []:=hK
 rw [jH] at hK
 clear h
 have heo:((c9 s.es nm).getD default).vs.length<=1000000000:=by
  cases hf:c9 s.es nm with
  | none=>exact Nat.zero_le _
  | some e=>exact (hs.en e (A4 hf).1).2
 simp (maxSteps:=1000000) -dsimp only [go_sem,aF,VB,SK]
 refine oM hs ?_
 generalize (c9 s.es nm).getD default=e at *
 simp (maxSteps:=1000000) -dsimp only [go_sem,aY]
 refine aB rfl (.done ?_)
 have fin:∀ (b:Bool) (R:Hp),(e.vs.any fun x=>x == n)=b->W.Fin 0 K (bS b) R:=fun b R h=>by
  rw [h] at hK; exact .sel [] (by simp) (by simp) rfl (.done (by simpa [go_sem] using hK))
 simp (maxSteps:=1000000) -dsimp only [go_sem,y3]
 refine aS (α:=Nat) (fun i=>[(2,iS .i64 n),(18,.va (.c1 (.fz (e.vs.map eK)))),(19,iS .i64 e.vs.length),(20,iS .i64 i)]) (fun _=>[])
  (fun i=>i<=e.vs.length/\(e.vs.drop i).any (fun x=>x == n)=e.vs.any fun x=>x == n) (fun i=>e.vs.length - i) 0 0 ⟨Nat.zero_le _,rfl⟩ ?_ ?_ ?_
 · simp -dsimp only [go_sem]<;>simp
 · simp -dsimp only [go_sem]<;>simp
 rintro i ⟨hi,ho⟩
 rcases bE i e.vs.length with hlt | hge
 · have hg:decide ((i:Int) < (e.vs.length:Int))=true:=by simp; omega
   have hx:e.vs[i]? = some e.vs[i]:=aW hlt
   have q2:=a7 (row:=eK) hx
   rw [List.drop_eq_getElem_cons hlt,List.any_cons] at ho
   generalize e.vs[i]=y at *
   cases hc:y == n with
   | true=>
    rw [hc,Bool.true_or] at ho
    simp (maxSteps:=1000000) -dsimp only [go_sem,hg,↓q2,hc]
    exact ⟨by omega,fin _ _ ho.symm⟩
   | false=>
    rw [hc,Bool.false_or] at ho
    simp (maxSteps:=1000000) -dsimp only [go_sem,hg,↓q2,hc]
    refine ⟨by omega,by omega,aE (i + 1) 0 ⟨by omega,ho⟩ (by omega) ?_ ?_⟩
    · simp -dsimp only [go_sem]<;>simp
    · simp -dsimp only [go_sem]<;>simp
 · have hg:decide ((i:Int) < (e.vs.length:Int))=false:=by simp; omega
   have:e.vs.drop i=[]:=List.drop_eq_nil_iff.2 (by omega)
   rw [this] at ho
   simp (maxSteps:=1000000) -dsimp only [go_sem,hg]
   exact fin _ _ ho.symm
def ZA:W.Spec:=fun av H K=>∃ (s:Sc) (t:Ty) (b:List UInt8),av=[.va (.gs (aF s)),.va (.gs (aU t)),tS (mk b)]/\H=[]/\Dg s/\s.fit/\TyOk t/\valF s.ss s.es t=true/\(t.k == 2 || (t.k == 3 || t.k == 7))=true/\b.length<=9223372036854775807/\K (.tu [.gs (aM (oN s t b).1),iA .i64 (oN s t b).2]) []
theorem ZR {s:Sc} {t:Ty} {b:List UInt8} {K:S->Hp->Prop} (hd:Dg s) (hs:s.fit) (ht:TyOk t) (hv:valF s.ss s.es t=true) (hk:(t.k == 2 || (t.k == 3 || t.k == 7))=true) (hb:b.length<=9223372036854775807)
 (hK:K (.tu [.gs (aM (oN s t b).1),iA .i64 (oN s t b).2]) []) :
 ZA [.va (.gs [.vl (.int .i64 s.ver),.fz (s.es.map aY),.fz (s.ss.map aI)]),.va (.gs [.vl (.int .i64 t.k),.vl (.int .i64 t.s),.vl (.string t.n),.fz (t.e.map aU)]),tS (mk b)] [] K:=⟨s,t,b,by rw [aL]; rfl,rfl,hd,hs,ht,hv,hk,hb,hK⟩
theorem aNE (n:Nat):IntKind.u64.wrap ((BitVec.ofInt IntKind.u64.bits (n:Int) &&& BitVec.ofInt IntKind.u64.bits 4294967295).toNat:Int)=((n % 4294967296:Nat):Int):=by
 have hb:IntKind.u64.bits=64:=rfl
 have e:(BitVec.ofInt 64 (n:Int) &&& BitVec.ofInt 64 4294967295).toNat=n % 4294967296:=by
  rw [BitVec.toNat_and,BitVec.ofInt_natCast,BitVec.toNat_ofNat,show (BitVec.ofInt 64 4294967295).toNat=2 ^ 32 - 1 from rfl,Nat.and_two_pow_sub_one_eq_mod]
  omega
 rw [hb,e,p8 (by omega)]
noncomputable def tN:cL:=[(133,.s KW),(138,.s DC),(134,.s KQ),(135,.s DE),(136,.s DA),(139,.f n3Fn)]
theorem YV:sp tN 133=KW:=rfl
theorem aAE:sp tN 138=DC:=rfl
theorem aD1:sp tN 134=KQ:=rfl
theorem MU:sp tN 135=DE:=rfl
theorem aCI:sp tN 136=DA:=rfl
theorem LR:kF tN 139=some n3Fn:=rfl
theorem CO:Meets Tryz.prog 98 ZA:=by
 refine aD (Γ:=tN) Tryz.func98 aNB 3 (by rw [Tryz.ntmps98]; decide) (aC xZ (aC aGV (aC E7 (aC aDL (aC RJ (aG L1 (aA _))))))) (fun av H K h=>by obtain ⟨_,_,_,rfl,_⟩:=h; rfl) ?_
 rintro av H K ⟨s,t,b,rfl,rfl,hd,hs,ht,hv,hk,hb,hK⟩
 have fin:∀ (v:Vl) (e:Int) (R:Hp),oN s t b=(v,e)->W.Fin 0 K (.tu [.gs (aM v),iA .i64 e]) R:=fun v e R h=>by
  rw [h] at hK; exact .sel [] (by simp) (by simp) rfl (.done (by rw [aJ] at hK ⊢; simpa [go_sem] using hK))
 clear hK
 unfold oN at fin
 have hvr:=pF b
 have hnr:(vr b).2.2=0->fA s t (fD t.k (vr b).1)=true->bU (fD t.k (vr b).1)/\((t.k == 2)=false->fD t.k (vr b).1=(vr b).1/\(vr b).1 < 4294967296):=fun _=>R3 hd hv hk (CZ b)
 have hlt:=CZ b
 have tail:∀ (n:Int) (ok:Bool),((vr b).2.2=0->(ok=fA s t (fD t.k (vr b).1)/\(ok=true->n=fD t.k (vr b).1)))->
  vc tN 0 pc98_13.ungh (eM [(4,.va (.c1 (.pt 1 0))),(6,.va (.c1 (.pt 2 0))),(8,.va (.c1 (.pt 3 0))),(9,iS .i64 n),(10,bS ok)])
   [.cells [.vl (.int .i64 s.ver),.fz (s.es.map aY),.fz (s.ss.map aI)] 25,.cells [.vl (.int .i64 t.k),.vl (.int .i64 t.s),.vl (.string t.n),.fz (t.e.map aU)] 42,.cells [.vl (.int .i64 0),.vl (.int .i64 0),.vl (.string (mk [])),.vl (.slice none 0 0),.vl (.slice none 0 0)] 29,gM b (vr b).2.1 (vr b).2.2]
   (fun e fr' H'=>match e with
     | .e j=>if j=0 then vc tN 0 oC fr' H' (jC 0 rH K) else jC 0 rH K (.e j) fr' H'
     | e=>match e with
      | .n=>vc tN 0 oC fr' H' (jC 0 rH K)
      | e=>jC 0 rH K e fr' H'):=by
  intro n ok hnk
  simp (maxSteps:=1000000) -dsimp only [go_sem,pc98_13,rH,MU,dI]
  refine zC ?_
  cases c1:(vr b).2.2 != 0 with
  | true=>
   rw [c1,cond_true] at fin
   simp (maxSteps:=1000000) -dsimp only [go_sem,MU,dI,c1]
   refine zC ?_
   simp (maxSteps:=1000000) -dsimp only [go_sem,dI]
   exact fin v0 _ _ rfl
  | false=>
   rw [c1,cond_false] at fin
   obtain ⟨h0,hle⟩:(vr b).2.2=0/\(vr b).2.1<=b.length:=by
    rcases hvr with ⟨h,_⟩ | ⟨a,_,_,d,_⟩
    · exact absurd (eL c1) h
    · exact ⟨a,d⟩
   obtain ⟨hok,hn⟩:=hnk h0
   simp (maxSteps:=1000000) -dsimp only [go_sem,dI,c1]
   refine aB rfl (.done ?_)
   simp (maxSteps:=1000000) -dsimp only [go_sem,zL,aCI,dI]
   refine JJ hle hb ?_
   have e1:decide ((0:Int) < (b.length:Int) - ((vr b).2.1:Int))=decide ((vr b).2.1 < b.length):=by rw [Bool.eq_iff_iff,decide_eq_true_iff,decide_eq_true_iff]; omega
   cases c2:decide ((vr b).2.1 < b.length) with
   | true=>
    rw [c2,cond_true] at fin
    simp (maxSteps:=1000000) -dsimp only [go_sem,dI,e1,c2]
    exact fin v0 _ _ rfl
   | false=>
    rw [c2,cond_false] at fin
    simp (maxSteps:=1000000) -dsimp only [go_sem,dI,e1,c2]
    refine aB rfl (.done ?_)
    rw [<-hok] at fin
    cases ok with
    | false=>
     simp (maxSteps:=1000000) -dsimp only [go_sem,sO,Bool.not_false]
     exact fin v0 _ _ rfl
    | true=>
     rw [hn rfl]
     simp (maxSteps:=1000000) -dsimp only [go_sem,sO,Bool.not_true]
     refine aB rfl (.done ?_)
     simp (maxSteps:=1000000) -dsimp only [go_sem,oC,rH]
     exact fin (.mk t.k (fD t.k (vr b).1) (mk []) [] []) 0 _ rfl
 simp (maxSteps:=1000000) -dsimp only [go_sem,aF,aL t,aAK,rH,YV]
 refine N3 ?_
 simp (maxSteps:=1000000) -dsimp only [go_sem,dI]
 refine aB rfl (.done ?_)
 simp (maxSteps:=1000000) -dsimp only [go_sem,EN]
 refine aB rfl (.done ?_)
 simp (maxSteps:=1000000) -dsimp only [go_sem,FP]
 refine aB rfl (.done ?_)
 cases c2:t.k == 2 with
 | true=>
  simp (maxSteps:=1000000) -dsimp only [go_sem,wK,c2,aAE]
  refine XM hb ?_
  simp (maxSteps:=1000000) -dsimp only [go_sem,dI]
  refine aB rfl (.done ?_)
  have hnu:fD t.k (vr b).1=nZ (vr b).1:=by unfold fD; rw [c2,cond_true]
  have hrg:∀ n:Int,fA s t n=(t.s == 64 || (decide (-(2 ^ (t.s.toNat - 1):Int)<=n) && decide (n < (2 ^ (t.s.toNat - 1):Int)))):=fun n=>by
   unfold fA; rw [bK c2 (b:=1) (by decide),c2]; rfl
  generalize hN:nZ (vr b).1=n at *
  cases h64:t.s == 64 with
  | true=>
   simp (maxSteps:=1000000) -dsimp only [go_sem,wO,h64,Bool.false_and]
   refine eO 4 (tail n true fun h0=>⟨by rw [hrg,h64]; rfl,fun _=>hnu.symm⟩) ?_ ?_
   · simp -dsimp only [go_sem,gX]<;>simp
   · simp -dsimp only [go_sem,dI]<;>simp [dI]
  | false=>
   obtain ⟨b1,b2,e1,e2⟩:8<=t.s/\t.s<=32/\IntKind.i64.wrap (-1 * 2 ^ min (t.s - 1).toNat 64)=-(2 ^ (t.s.toNat - 1):Int)/\IntKind.i64.wrap (1 * 2 ^ min (t.s - 1).toNat 64)=(2 ^ (t.s.toNat - 1):Int):=by
    rcases aA6 hv c2 with hz | hz | hz | hz
    · rw [hz]; decide
    · rw [hz]; decide
    · rw [hz]; decide
    · rw [hz] at h64; simp at h64
   have f1:(0<=t.s - 1)=True:=eq_true (by omega)
   have f2:(-9223372036854775808<=t.s - 1)=True:=eq_true (by omega)
   have f3:(t.s - 1<=9223372036854775807)=True:=eq_true (by omega)
   have hrg':=hrg n
   rw [h64,Bool.false_or] at hrg'
   generalize (2 ^ (t.s.toNat - 1):Int)=hi at *
   cases h4:decide (-hi<=n)<;>cases h5:decide (n < hi) <;>
   · rw [h4,h5] at hrg'
     simp (maxSteps:=1000000) -dsimp only [go_sem,wO,h64,h4,h5,f1,f2,f3,e1,e2,Bool.and_self,Bool.and_true,Bool.and_false,Bool.true_and,Bool.false_and]
     rw [<-hnu] at hrg'
     refine eO 4 (tail n _ fun h0=>⟨hrg'.symm,fun _=>hnu.symm⟩) ?_ ?_
     · simp -dsimp only [go_sem,gX]<;>simp
     · simp -dsimp only [go_sem,dI]<;>simp [dI]
 | false=>
  simp (maxSteps:=1000000) -dsimp only [go_sem,wK,c2,aD1]
  refine F8 hb ?_
  simp (maxSteps:=1000000) -dsimp only [go_sem,dI]
  refine aB rfl (.done ?_)
  simp (maxSteps:=1000000) -dsimp only [go_sem,EJ]
  refine aB rfl (.done ?_)
  simp (maxSteps:=1000000) -dsimp only [go_sem,FK,aNE]
  refine aB rfl (.done ?_)
  generalize hU:(vr b).1=U at *
  have hnu:fD t.k U=U:=by unfold fD; rw [c2,cond_false]
  have hw:IntKind.i64.wrap ((U % 4294967296:Nat):Int)=((U % 4294967296:Nat):Int):=AV ⟨by omega,by omega⟩
  have e0:decide ((U:Int) < 4294967296)=decide (U < 4294967296):=by rw [Bool.eq_iff_iff,decide_eq_true_iff,decide_eq_true_iff]; omega
  rw [hnu] at hnr
  have hbig:(vr b).2.2=0->decide (U < 4294967296)=false->fA s t U=false:=fun h0 h1=>by
   cases h:fA s t U with
   | false=>rfl
   | true=>have:=((hnr h0 h).2 c2).2; have:=of_decide_eq_false h1; omega
  cases c3:t.k == 3 with
  | true=>
   obtain ⟨b1,b2,e1⟩:8<=t.s/\t.s<=32/\IntKind.i64.wrap (1 * 2 ^ min t.s.toNat 64)=(2 ^ t.s.toNat:Int):=by
    rcases OW hv c3 with hz | hz | hz<;>rw [hz]<;>decide
   have f1:(0<=t.s)=True:=eq_true (by omega)
   have hrg:=rg3 (s:=s) (n:=(U:Int)) c3
   rw [decide_eq_true (show (0:Int)<=(U:Int) by omega),Bool.true_and] at hrg
   generalize (2 ^ t.s.toNat:Int)=hi at *
   cases h4:decide (U < 4294967296) with
   | true=>
    have hm:U % 4294967296=U:=Nat.mod_eq_of_lt (of_decide_eq_true h4)
    rw [hm] at hw ⊢
    cases h5:decide ((U:Int) < hi) <;>
    · rw [h5] at hrg
      simp (maxSteps:=1000000) -dsimp only [go_sem,l5,c3,hw,e0,h4]
      refine aB rfl (.done ?_)
      simp (maxSteps:=1000000) -dsimp only [go_sem,sW,f1,e1,h5]
      have hx:=hrg
      rw [<-hnu] at hx
      refine eO 4 (tail U _ fun h0=>⟨hx.symm,fun _=>hnu.symm⟩) ?_ ?_
      · simp -dsimp only [go_sem,gX]<;>simp
      · simp -dsimp only [go_sem,dI]<;>simp [dI,hU]
   | false=>
    simp (maxSteps:=1000000) -dsimp only [go_sem,l5,c3,hw,e0,h4]
    refine aB rfl (.done ?_)
    simp (maxSteps:=1000000) -dsimp only [go_sem,sW,f1,e1]
    refine eO 4 (tail ((U % 4294967296:Nat):Int) false fun h0=>⟨by rw [hnu]; exact (hbig h0 h4).symm,fun h=>(by cases h)⟩) ?_ ?_
    · simp -dsimp only [go_sem,gX]<;>simp
    · simp -dsimp only [go_sem,dI]<;>simp [dI,hU]
  | false=>
   have c7:(t.k == 7)=true:=by rw [c2,c3] at hk; simpa using hk
   have hrg:=rg7 (s:=s) (n:=(U:Int)) c7
   have k6:=dQ hs
   have k7:=iB s
   have heo:(c9 s.es t.n).getD default=enOf s t:=rfl
   cases h4:decide (U < 4294967296) with
   | true=>
    have hm:U % 4294967296=U:=Nat.mod_eq_of_lt (of_decide_eq_true h4)
    rw [hm] at hw ⊢
    simp (maxSteps:=1000000) -dsimp only [go_sem,l5,c3,hw,e0,h4]
    refine aB rfl (.done ?_)
    simp (maxSteps:=1000000) -dsimp only [go_sem,sQ,LR,k6,k7,heo]
    have hx:fA s t (fD t.k U)=(enOf s t).vs.any (fun x=>x == (U:Int)):=by rw [hnu]; exact hrg
    refine eO 4 (tail U _ fun h0=>⟨hx.symm,fun _=>hnu.symm⟩) ?_ ?_
    · simp -dsimp only [go_sem,gX]<;>simp
    · simp -dsimp only [go_sem,dI]<;>simp [dI,hU]
   | false=>
    simp (maxSteps:=1000000) -dsimp only [go_sem,l5,c3,hw,e0,h4]
    refine aB rfl (.done ?_)
    simp (maxSteps:=1000000) -dsimp only [go_sem,sQ,LR,k6,k7,heo]
    refine eO 4 (tail ((U % 4294967296:Nat):Int) false fun h0=>⟨by rw [hnu]; exact (hbig h0 h4).symm,fun h=>(by cases h)⟩) ?_ ?_
    · simp -dsimp only [go_sem,gX]<;>simp
    · simp -dsimp only [go_sem,dI]<;>simp [dI,hU]
theorem iX {n:Nat} (h:n < 18446744073709551616):fW (n:Int)=vi n:=by
 unfold fW
 have h2:IntKind.u64.wrap (n:Int)=(n:Int) % 18446744073709551616:=by simp [IntKind.wrap,IntKind.signed,IntKind.bits]
 rw [h2,show ((n:Int) % 18446744073709551616).toNat=n by omega]
theorem yF {x:Int} (h0:0<=x) (h:x < 18446744073709551616):fW x=vi x.toNat:=by
 have:=iX (n:=x.toNat) (by omega)
 rwa [Int.toNat_of_nonneg h0] at this
theorem wU {l:List UInt8} (h:l.length < 18446744073709551616):mS l=vi l.length ++ l:=by unfold mS; rw [iX h]
theorem aFD {n:Int} (h:bU n):mY n < 18446744073709551616/\nZ (mY n)=n:=by
 unfold bU at h
 unfold mY nZ
 split
 · have e:(2 * (-(n + 1)) + 1).toNat % 2=1:=by omega
   rw [if_pos e]
   omega
 · have e:¬ (2 * n).toNat % 2=1:=by omega
   rw [if_neg e]
   omega
theorem aG0 {n:Nat} (h:n < 18446744073709551616):mY (nZ n)=n:=by
 unfold nZ mY
 split
 · rw [if_pos (by omega)]; omega
 · rw [if_neg (by omega)]; omega
theorem H0 {t:Ty} {v:Vl} (h1:v.k=t.k) (h2:bl v.s=[]) (h3:v.l=[]) (h4:v.f=[]):v=.mk t.k v.n (mk []) [] []:=by
 obtain ⟨k,n,s,l,f⟩:=v
 have h1:k=t.k:=h1
 have h3:l=[]:=h3
 have h4:f=[]:=h4
 have h2:bl s=bl (mk []):=h2
 rw [h1,h3,h4,jL h2]; rfl
theorem ET:vi 0=[0]/\vi 1=[1]:=by
 unfold vi
 exact ⟨by rw [f8 (by decide) (by decide)]; rfl,by rw [f8 (by decide) (by decide)]; rfl⟩
theorem GV {R:List UInt8->Vl × Int} {f:Vl->List UInt8} (r:List UInt8):∀ (l:List Vl),(∀ x ∈ l,R (f x)=(x,0)/\(f x).length < 18446744073709551616)->b9 R l.length ((l.flatMap fun x=>mS (f x)) ++ r)=((l,r),0)
 | [],_=>rfl
 | x :: l,h=>by
  obtain ⟨h1,h2⟩:=h x (List.mem_cons_self ..)
  have ih:=GV r l fun y hy=>h y (List.mem_cons_of_mem _ hy)
  rw [List.length_cons,kI,List.flatMap_cons,wU h2,List.append_assoc,TN h2,h1,ih]
  rfl
def m3 (F:List (Int × Vl)) (g:Fl):List (Int × Vl):=match bX F g.num with
 | some x=>[(g.num,x.2)]
 | none=>[]
theorem kB (y:Int × Vl) (F:List (Int × Vl)) (k:Int):bX (y :: F) k=if y.1=k then some y else bX F k:=by
 unfold bX
 rw [List.find?_cons]
 by_cases h:y.1=k
 · rw [decide_eq_true h,if_pos h]
 · rw [decide_eq_false h,if_neg h]
theorem uQ {F:List (Int × Vl)} {k:Int} (h:∀ x ∈ F,x.1 ≠ k):bX F k=none:=by
 unfold bX
 rw [List.find?_eq_none]
 intro x hx
 have:=h x hx
 simpa using this
theorem oK:∀ {fs:List Fl} {F:List (Int × Vl)},fs.Pairwise (fun f g=>f.num < g.num)->F.Pairwise (fun x y=>x.1 < y.1)->(∀ x ∈ F,∃ f ∈ fs,f.num=x.1)->fs.flatMap (m3 F)=F
 | [],F,_,_,h=>by
  cases F with
  | nil=>rfl
  | cons x F=>obtain ⟨f,hf,_⟩:=h x (List.mem_cons_self ..); cases hf
 | g :: fs,[],hp,_,_=>by
  have e:∀ g':Fl,m3 [] g'=[]:=fun g'=>rfl
  simp [e]
 | g :: fs,y :: F,hp,hF,h=>by
  obtain ⟨p1,p2⟩:=List.pairwise_cons.1 hp
  obtain ⟨q1,q2⟩:=List.pairwise_cons.1 hF
  rw [List.flatMap_cons]
  by_cases he:y.1=g.num
  · have e1:m3 (y :: F) g=[y]:=by
     unfold m3; rw [kB,if_pos he]; simp only; rw [<-he]
    have e2:fs.flatMap (m3 (y :: F))=fs.flatMap (m3 F):=by
     rw [List.flatMap_def,List.flatMap_def]
     congr 1
     refine List.map_congr_left fun g' hg'=>?_
     have:=p1 g' hg'
     unfold m3
     rw [kB,if_neg (by omega)]
    rw [e1,e2,oK p2 q2 fun x hx=>?_]
    · rfl
    · obtain ⟨f,hf,hfe⟩:=h x (List.mem_cons_of_mem _ hx)
      have:=q1 x hx
      rcases List.mem_cons.1 hf with rfl | hf
      · omega
      · exact ⟨f,hf,hfe⟩
  · have hy:∃ f ∈ fs,f.num=y.1:=by
     obtain ⟨f,hf,hfe⟩:=h y (List.mem_cons_self ..)
     rcases List.mem_cons.1 hf with rfl | hf
     · exact absurd hfe.symm he
     · exact ⟨f,hf,hfe⟩
    obtain ⟨f0,hf0,hfe0⟩:=hy
    have hlt:=p1 f0 hf0
    have e1:m3 (y :: F) g=[]:=by
     unfold m3
     rw [uQ fun x hx=>?_]
     rcases List.mem_cons.1 hx with rfl | hx
     · exact he
     · have:=q1 x hx; omega
    rw [e1,List.nil_append]
    exact oK p2 hF fun x hx=>by
     obtain ⟨f,hf,hfe⟩:=h x hx
     rcases List.mem_cons.1 hf with rfl | hf
     · rcases List.mem_cons.1 hx with rfl | hx
       · exact absurd hfe.symm he
       · have:=q1 x hx; omega
     · exact ⟨f,hf,hfe⟩
theorem HW {fs:List Fl}:∀ {l:List (Int × Vl)} {p:Option Int},ftA fs p l=true->∀ x ∈ l,(fF fs x.1).isSome=true
 | y :: l,p,h,x,hx=>by
  rw [mH,Bool.and_eq_true,Bool.and_eq_true] at h
  rcases List.mem_cons.1 hx with rfl | hx
  · exact h.1.1
  · exact HW h.2 x hx
theorem g7 {α β:Type} {f h:α->List β}:∀ {l:List α},(∀ x ∈ l,f x=h x)->l.flatMap f=l.flatMap h
 | [],_=>rfl
 | x :: l,e=>by rw [List.flatMap_cons,List.flatMap_cons,e x (List.mem_cons_self ..),g7 fun y hy=>e y (List.mem_cons_of_mem _ hy)]
theorem GO {fs:List Fl}:∀ {F:List (Int × Vl)} {p:Option Int},ftA fs p F=true->(∀ q,p=some q->∀ x ∈ F,q < x.1)/\F.Pairwise (fun x y=>x.1 < y.1)
 | [],_,_=>⟨fun _ _ x h=>(by cases h),.nil⟩
 | y :: F,p,h=>by
  rw [mH,Bool.and_eq_true,Bool.and_eq_true] at h
  obtain ⟨i1,i2⟩:=GO h.2
  have h1:=i1 y.1 rfl
  refine ⟨fun q hq x hx=>?_,List.pairwise_cons.2 ⟨h1,i2⟩⟩
  have h2:q < y.1:=by rw [hq] at h; exact of_decide_eq_true h.1.2
  rcases List.mem_cons.1 hx with rfl | hx
  · exact h2
  · exact Int.lt_trans h2 (h1 x hx)
theorem zT {fs:List Fl} {k:Int} {f:Fl} (h:fF fs k=some f):f ∈ fs/\f.num=k:=by
 exact ⟨List.mem_of_find?_eq_some h,by have:=List.find?_some h; simpa using this⟩
structure Fits (s:Sc) (u:St) (F:List (Int × Vl)):Prop where
 p:F.Pairwise (fun x y=>x.1 < y.1)
 m:∀ x ∈ F,∃ f ∈ u.fs,f.num=x.1
 r:∀ f ∈ u.fs,f.opt=false->∃ x ∈ F,x.1=f.num
theorem IE {s:Sc} {u:St} {F:List (Int × Vl)} (h:bY u.fs F=true):Fits s u F:=by
 have h':=h
 unfold bY at h'
 rw [Bool.and_eq_true,List.all_eq_true] at h'
 refine ⟨(GO h'.1).2,fun x hx=>?_,fun f hf ho=>?_⟩
 · have:=HW h'.1 x hx
   obtain ⟨f,hf⟩:=Option.isSome_iff_exists.1 this
   obtain ⟨h1,h2⟩:=zT hf
   exact ⟨f,h1,h2⟩
 · have:=h'.2 f hf
   rw [ho,Bool.false_or] at this
   unfold iN at this
   rw [List.any_eq_true] at this
   obtain ⟨x,hx,he⟩:=this
   exact ⟨x,hx,eq_of_beq he⟩
def lP (s:Sc) (F:List (Int × Vl)) (g:Fl):Bool:=!(bX F g.num).isSome || (!g.opt && dG (((bX F g.num).map (·.2)).getD default) (zF s 23 g.ty))
def lQ (s:Sc) (F:List (Int × Vl)) (g:Fl):List (Int × Vl):=bif lP s F g then [] else [(g.num,((bX F g.num).map (·.2)).getD default)]
theorem oB (R:Ty->Vl->List UInt8) (s:Sc) (F:List (Int × Vl)) (g:Fl):rD R s F g=bif lP s F g then [] else fW g.num ++ mS (R g.ty (((bX F g.num).map (·.2)).getD default)):=rfl
theorem AC {s:Sc} {R:Ty->Vl->List UInt8} {D:Ty->List UInt8->Vl × Int} {fs:List Fl} {F:List (Int × Vl)} (hp:fs.Pairwise fun f g=>f.num < g.num)
 (hn:∀ f ∈ fs,1<=f.num/\f.num<=127) (hR:∀ g ∈ fs,∀ x ∈ F,x.1=g.num->D g.ty (R g.ty x.2)=(x.2,0)/\(R g.ty x.2).length < 18446744073709551616) :
 ∀ (gs:List Fl) (g:Nat) (last:Int),(∀ f ∈ gs,f ∈ fs/\last < f.num)->gs.Pairwise (fun f g=>f.num < g.num)->(gs.flatMap (rD R s F)).length<=g->cN D s fs g last (gs.flatMap (rD R s F))=(gs.flatMap (lQ s F),0)
 | [],g,last,_,_,_=>by rw [List.flatMap_nil,List.flatMap_nil,sN]
 | q :: gs,g,last,h,hq,hl=>by
  obtain ⟨p1,p2⟩:=List.pairwise_cons.1 hq
  obtain ⟨hqf,hql⟩:=h q (List.mem_cons_self ..)
  rw [List.flatMap_cons,List.flatMap_cons]
  rw [List.flatMap_cons] at hl
  cases ho:lP s F q with
  | true=>
   have e1:rD R s F q=[]:=by rw [oB,ho]; rfl
   have e2:lQ s F q=[]:=by unfold lQ; rw [ho]; rfl
   rw [e1,List.nil_append] at hl ⊢
   rw [e2,List.nil_append]
   exact AC hp hn hR gs g last (fun f hf=>⟨(h f (List.mem_cons_of_mem _ hf)).1,(h f (List.mem_cons_of_mem _ hf)).2⟩) p2 hl
  | false=>
   cases hv:bX F q.num with
   | none=>unfold lP at ho; rw [hv] at ho; cases ho
   | some x=>
    obtain ⟨hm,he⟩:=oO hv
    obtain ⟨r1,r2⟩:=hR q hqf x hm he
    obtain ⟨n1,n2⟩:=hn q hqf
    have e1:rD R s F q=vi q.num.toNat ++ (vi (R q.ty x.2).length ++ R q.ty x.2):=by
     rw [oB,ho,hv]
     show fW q.num ++ mS (R q.ty x.2)=_
     rw [yF (by omega) (by omega),wU r2]
    have e2:lQ s F q=[(q.num,x.2)]:=by unfold lQ; rw [ho,hv]; rfl
    rw [e1] at hl ⊢
    rw [e2]
    have hpos:=G2 q.num.toNat
    rw [List.length_append,List.length_append] at hl
    obtain ⟨g,rfl⟩:∃ k,g=k + 1:=⟨g - 1,by omega⟩
    have hne:vi q.num.toNat ++ (vi (R q.ty x.2).length ++ R q.ty x.2) ++ gs.flatMap (rD R s F) ≠ []:=fun e=>by
     have:=congrArg List.length e
     rw [List.length_append,List.length_append,List.length_nil] at this
     omega
    have hfs:=aEV (n:=q.num.toNat) (x:=R q.ty x.2) (last:=last) (by omega) (by omega) r2 (gs.flatMap (rD R s F))
    rw [Int.toNat_of_nonneg (show (0:Int)<=q.num by omega)] at hfs
    have hff:fF fs q.num=some q:=pL hp hqf
    have hde:rA D s q (R q.ty x.2)=0:=by
     unfold rA
     rw [r1]
     unfold lP at ho
     rw [hv] at ho
     have ho:(!q.opt && dG x.2 (zF s 23 q.ty))=false:=ho
     show (bif !q.opt && (dG x.2 (zF s 23 q.ty) && _) then (2:Int) else 0)=0
     rw [<-Bool.and_assoc,ho]; rfl
    rw [mD hne,hfs]
    simp only
    rw [hff]
    simp only [Option.getD_some,Option.isSome_some]
    rw [hde,r1,AC hp hn hR gs g q.num (fun f hf=>⟨(h f (List.mem_cons_of_mem _ hf)).1,p1 f hf⟩) p2 (by omega)]
    rfl
theorem IU {s:Sc} {F:List (Int × Vl)}:∀ {fs:List Fl} {q:Fl},fs.Pairwise (fun f g=>f.num < g.num)->q ∈ fs->bX (fs.flatMap (lQ s F)) q.num=bif lP s F q then none else some (q.num,((bX F q.num).map (·.2)).getD default)
 | g :: fs,q,hp,hq=>by
  obtain ⟨p1,p2⟩:=List.pairwise_cons.1 hp
  have hrest:∀ k,k<=g.num->bX (fs.flatMap (lQ s F)) k=none:=fun k hk=>uQ fun x hx=>by
   obtain ⟨f,hf,hx⟩:=List.mem_flatMap.1 hx
   have:=p1 f hf
   unfold lQ at hx
   cases ho:lP s F f with
   | true=>rw [ho] at hx; cases hx
   | false=>rw [ho] at hx; obtain rfl:=List.mem_singleton.1 hx; simp only; omega
  rw [List.flatMap_cons]
  rcases List.mem_cons.1 hq with rfl | hq
  · cases ho:lP s F q with
    | true=>unfold lQ at hrest ⊢; rw [ho]; exact hrest q.num (Int.le_refl _)
    | false=>
     have e:lQ s F q=[(q.num,((bX F q.num).map (·.2)).getD default)]:=by unfold lQ; rw [ho]; rfl
     rw [e,List.singleton_append,kB,if_pos rfl]; rfl
  · have:=p1 q hq
    rw [<-IU p2 hq]
    unfold lQ
    cases ho:lP s F g with
    | true=>rfl
    | false=>rw [cond_false,List.singleton_append,kB,if_neg (by simp only; omega)]
theorem aF8 {s:Sc} {u:St} {F:List (Int × Vl)} (hp:u.fs.Pairwise fun f g=>f.num < g.num) (hf:Fits s u F):eJ s u.fs (u.fs.flatMap (lQ s F))=F:=by
 have:eJ s u.fs (u.fs.flatMap (lQ s F))=u.fs.flatMap (m3 F):=by
  refine g7 fun g hg=>?_
  unfold iE m3
  rw [IU hp hg]
  cases hv:bX F g.num with
  | none=>
   have ho:lP s F g=true:=by unfold lP; rw [hv]; rfl
   rw [ho]
   show (bif g.opt then [] else [(g.num,zF s 23 g.ty)])=[]
   cases hopt:g.opt with
   | true=>rfl
   | false=>
    obtain ⟨x,hx,he⟩:=hf.r g hg hopt
    have:bX F g.num ≠ none:=by
     unfold bX
     rw [Ne,List.find?_eq_none]
     intro h
     exact h x hx (by simpa using he)
    exact absurd hv this
  | some x=>
   cases ho:lP s F g with
   | false=>rfl
   | true=>
    unfold lP at ho
    rw [hv] at ho
    have ho:(!g.opt && dG x.2 (zF s 23 g.ty))=true:=ho
    rw [Bool.and_eq_true] at ho
    show (bif g.opt then [] else [(g.num,zF s 23 g.ty)])=[(g.num,x.2)]
    have h1:g.opt=false:=by simpa using ho.1
    rw [h1,sY.1 ho.2]; rfl
 have h2:=oK hp hf.p hf.m
 rw [this,h2]
theorem JQ {s:Sc} {R:Ty->Vl->List UInt8} {D:Ty->List UInt8->Vl × Int} {u:St} {F:List (Int × Vl)} (hn:NSt s.ss s.es u) (hf:Fits s u F)
 (hR:∀ g ∈ u.fs,∀ x ∈ F,x.1=g.num->D g.ty (R g.ty x.2)=(x.2,0)/\(R g.ty x.2).length < 18446744073709551616):jG D s u.fs (dY R s u.fs F)=(.mk 6 0 (mk []) [] F,0):=by
 have hp:=CT hn
 have h:=AC (s:=s) (R:=R) (D:=D) (F:=F) hp hn.n hR u.fs (dY R s u.fs F).length 0 (fun f hf=>⟨hf,by have:=hn.n f hf; omega⟩) hp (Nat.le_refl _)
 unfold jG
 rw [show cN D s u.fs (dY R s u.fs F).length 0 (dY R s u.fs F)=(u.fs.flatMap (lQ s F),0) from h]
 show ((Vl.mk 6 0 (mk []) [] (eJ s u.fs (u.fs.flatMap (lQ s F))),(0:Int)))=_
 rw [aF8 hp hf]
theorem C4 {s:Sc} {t:Ty} (hv:valF s.ss s.es t=true) (c1:(t.k == 1)=false) (c2:(t.k == 2 || (t.k == 3 || t.k == 7))=false) (c4:(t.k == 4)=false) (c5:(t.k == 5)=false):(t.k == 6)=true:=by
 rw [Bool.or_eq_false_iff,Bool.or_eq_false_iff] at c2
 rcases sP hv with h | h | h | h | h | h | h
 · rw [h] at c1; cases c1
 · rw [h] at c2; cases c2.1
 · rw [h] at c2; cases c2.2.1
 · rw [h] at c4; cases c4
 · rw [h] at c5; cases c5
 · exact h
 · rw [h] at c2; cases c2.2.2
theorem J6 {s:Sc} (hs:s.fit) (hd:Dg s):∀ (M N:Nat) (t:Ty) (v:Vl),TyOk t->VlOk v->cH s t v=0->v.h<=N->N<=8->hS s t < M->a8 s M t (cA s N t v)=(v,0)
 | 0,_,t,_,_,_,_,_,_,h=>by have:=fJ s t; omega
 | _ + 1,0,_,v,_,_,_,h,_,_=>by have:=v.h_pos; omega
 | M + 1,N + 1,t,v,ht,hvo,h0,hh,hN,hM=>by
  have hc:=jY h0
  have hB:∀ (u:Ty) (x:Vl),x.h<=N->cH s u x=0->(cA s N u x).length < 18446744073709551616:=fun u x h1 h2=>by
   have:=gA hd N u x h1 h2
   have:=kV (N:=N) (by omega)
   omega
  rw [mN,d8]
  cases c1:t.k == 1 with
  | true=>
   rw [Bool.true_or,cond_true,cond_true]
   obtain ⟨e1,e2,e3,e4⟩:=hc.nu (bK c1 (by decide)) (bK c1 (by decide)) (bK c1 (by decide))
   have e5:=H0 hc.kk e1 e2 e3
   have hk:t.k=1:=eq_of_beq c1
   have e6:v.n=0\/v.n=1:=by unfold fA at e4; rw [c1] at e4; simpa using e4
   rw [hk] at e5
   rcases e6 with e6 | e6<;>rw [e5,e6]
   · show nW (fW 0)=_
     rw [show fW 0=[0] from (iX (n:=0) (by decide)).trans ET.1]; rfl
   · show nW (fW 1)=_
     rw [show fW 1=[1] from (iX (n:=1) (by decide)).trans ET.2]; rfl
  | false=>
  rw [Bool.false_or,cond_false]
  cases c2:t.k == 2 || (t.k == 3 || t.k == 7) with
  | true=>
   rw [cond_true]
   have n4:(t.k == 4)=false/\(t.k == 5)=false/\(t.k == 6)=false:=by
    rw [Bool.or_eq_true,Bool.or_eq_true] at c2
    rcases c2 with h | h | h<;>exact ⟨bK h (by decide),bK h (by decide),bK h (by decide)⟩
   obtain ⟨e1,e2,e3,e4⟩:=hc.nu n4.1 n4.2.1 n4.2.2
   have e5:=H0 hc.kk e1 e2 e3
   have key:∀ z:Nat,z < 18446744073709551616->fD t.k z=v.n->oN s t (vi z)=(v,0):=fun z hz hn=>by
    have hvr:=UQ hz []
    rw [List.append_nil] at hvr
    unfold oN
    rw [hvr]
    simp only
    rw [decide_eq_false (Nat.lt_irrefl _),hn,e4]
    show (Vl.mk t.k v.n (mk []) [] [],(0:Int))=_
    rw [<-e5]
   cases c3:t.k == 3 || t.k == 7 with
   | true=>
    rw [cond_true]
    have hne2:(t.k == 2)=false:=by
     rw [Bool.or_eq_true] at c3
     rcases c3 with h | h<;>exact bK h (by decide)
    have h0n:0<=v.n:=by
     rw [Bool.or_eq_true] at c3
     rcases c3 with h | h
     · rw [rg3 h,Bool.and_eq_true] at e4; exact of_decide_eq_true e4.1
     · rw [rg7 h,List.any_eq_true] at e4
       obtain ⟨x,hx,he⟩:=e4
       have:=(hd.ni.enOf t).n x hx
       have he:=eq_of_beq he
       omega
    have hlt:=hvo.n.2
    rw [yF h0n (by omega)]
    exact key _ (by omega) (by unfold fD; rw [hne2,cond_false]; omega)
   | false=>
    have h2:(t.k == 2)=true:=by rw [c3,Bool.or_false] at c2; exact c2
    rw [cond_false,h2,cond_true]
    obtain ⟨z1,z2⟩:=aFD hvo.n
    exact key _ z1 (by unfold fD; rw [h2]; exact z2)
  | false=>
  have c2':=c2
  rw [Bool.or_eq_false_iff] at c2'
  rw [cond_false,c2'.2,cond_false,c2'.1,cond_false]
  cases c4:t.k == 4 with
  | true=>
   rw [cond_true,cond_true]
   obtain ⟨e1,e2,e3,e4⟩:=hc.tx c4
   unfold II
   rw [decide_eq_false (by omega)]
   have hk:t.k=4:=eq_of_beq c4
   have hkk:=hc.kk
   rw [hk] at hkk
   obtain ⟨k,n,str,l,f⟩:=v
   have h1:k=4:=hkk
   have h2:n=0:=e1
   have h3:l=[]:=e2
   have h4:f=[]:=e3
   subst h1 h2 h3 h4
   show (Vl.mk 4 0 (mk (bl str)) [] [],(0:Int))=_
   rw [gI]
  | false=>
  rw [cond_false,cond_false]
  cases c5:t.k == 5 with
  | true=>
   rw [cond_true,cond_true]
   obtain ⟨u,he,hu⟩:=rR hc.va c5
   have hto:=ht.e u (by rw [he]; exact List.mem_singleton.2 rfl)
   have hfd:=s7 (s:=s) c5 he
   obtain ⟨e1,e2,e3,e4,e5⟩:=hc.ls c5
   have h32:=(mA hc.va).2 c5
   rw [he] at e5 ⊢
   simp only [List.headD_cons] at e5 ⊢
   have hl:=GV (R:=a8 s M u) (f:=cA s N u) [] v.l fun x hx=>⟨J6 hs hd M N u x hto (hvo.l x hx) (e5 x hx) (by have:=Vl.h_l hx; omega) (by omega) (by omega),hB u x (by have:=Vl.h_l hx; omega) (e5 x hx)⟩
   rw [List.append_nil] at hl
   have hn:v.l.length < 18446744073709551616:=by omega
   unfold jQ iY
   rw [iX hn,LE hn]
   simp only
   rw [decide_eq_false (by omega),hl]
   have hk:t.k=5:=eq_of_beq c5
   have hkk:=hc.kk
   rw [hk] at hkk
   obtain ⟨k,n,str,l,f⟩:=v
   have h1:k=5:=hkk
   have h2:n=0:=e1
   have h4:f=[]:=e3
   have h6:bl str=bl (mk []):=e2
   rw [h1,h2,h4,jL h6]; rfl
  | false=>
   rw [cond_false,cond_false]
   have c6:=C4 hc.va c1 c2 c4 c5
   obtain ⟨e1,e2,e3,e4,e5⟩:=hc.st c6
   have hfd:=oA (s:=s) c6
   have hst:=lW hd hc.va c6
   have hn:=hd.ni.stOf t
   rw [JQ hn (IE e4) fun g hg x hx he=>?_]
   · have hk:t.k=6:=eq_of_beq c6
     have hkk:=hc.kk
     rw [hk] at hkk
     obtain ⟨k,n,str,l,f⟩:=v
     have h1:k=6:=hkk
     have h2:n=0:=e1
     have h3:l=[]:=e3
     have h6:bl str=bl (mk []):=e2
     rw [h1,h2,h3,jL h6]; rfl
   · have h5:=e5 x hx
     rw [he,j7 hd hg] at h5
     have h6:x.2.h<=N:=by have:=Vl.h_f hx; omega
     have h7:=hst.2.2 g hg
     exact ⟨J6 hs hd M N g.ty x.2 ((fH hs t).fs g hg).ty (hvo.f x hx) h5 h6 (by omega) (by omega),hB g.ty x.2 h6 h5⟩
theorem aFH {s:Sc} (hs:s.fit) {nm:ByteArray} {v:Vl} (hvo:VlOk v) (h:(nC s nm v).2=0):eV s nm (nC s nm v).1=(v,0)/\(nC s nm v).1.length<=2000:=by
 unfold nC at h ⊢
 cases c1:bP s != 0 with
 | true=>rw [c1] at h; exact absurd h (iZ c1)
 | false=>
 rw [c1,cond_false] at h
 rw [cond_false]
 have hd:=CV hs (eL c1)
 cases c2:!(cJ s.ss nm) with
 | true=>rw [c2] at h; cases h
 | false=>
 rw [c2,cond_false] at h
 rw [cond_false]
 cases c3:gH s (.mk 6 0 nm []) v != 0 with
 | true=>rw [c3] at h; exact absurd h (iZ c3)
 | false=>
 rw [c3,cond_false] at h
 rw [cond_false]
 cases c4:decide (2000 < ((dY (cA s 8) s (stOf s (.mk 6 0 nm [])).fs v.f).length:Int)) with
 | true=>rw [c4] at h; cases h
 | false=>
  rw [cond_false]
  have hck:=eL c3
  have h0:=(uS hck).1
  have hh:=KI hck
  have hc:=jY h0
  obtain ⟨e1,e2,e3,e4,e5⟩:=hc.st rfl
  have hn:=hd.ni.stOf (.mk 6 0 nm [])
  have hst:=lW hd hc.va rfl
  have hlen:=of_decide_eq_false c4
  refine ⟨?_,by simp only; omega⟩
  unfold eV
  rw [c1,c2,c4,cond_false,cond_false,cond_false,JQ hn (IE e4) fun g hg x hx he=>?_]
  · have hkk:=hc.kk
    obtain ⟨k,n,str,l,f⟩:=v
    have h1:k=6:=hkk
    have h2:n=0:=e1
    have h3:l=[]:=e3
    have h6:bl str=bl (mk []):=e2
    rw [h1,h2,h3,jL h6]; rfl
  · have h5:=e5 x hx
    rw [he,j7 hd hg] at h5
    have h6:x.2.h<=8:=by have:=Vl.h_f hx; omega
    have h7:=hst.2.2 g hg
    have hB:=gA hd 8 g.ty x.2 h6 h5
    have:=kV (N:=8) (by omega)
    exact ⟨J6 hs hd 8 8 g.ty x.2 ((fH hs (.mk 6 0 nm [])).fs g hg).ty (hvo.f x hx) h5 h6 (by omega) (by omega),by omega⟩
theorem H4:∀ (f:Nat) {a b:Nat},a<=b->(uL f a).length<=(uL f b).length
 | 0,_,_,_=>Nat.le_refl _
 | f + 1,a,b,h=>by
  by_cases h1:a < 128
  · rw [f8 (Nat.succ_pos _) h1]
    by_cases h2:b < 128
    · rw [f8 (Nat.succ_pos _) h2]; exact Nat.le_refl _
    · rw [iW h2]; simp
  · have h2:¬ b < 128:=by omega
    rw [iW h1,iW h2,List.length_cons,List.length_cons]
    have:=H4 f (a:=a / 128) (b:=b / 128) (by omega)
    omega
theorem I1 {a b:Nat} (h:a<=b):(vi a).length<=(vi b).length:=H4 10 h
def iG (a b:List UInt8):Prop:=a.length<=b.length/\(a.length=b.length->a=b)
theorem fN (a:List UInt8):iG a a:=⟨Nat.le_refl _,fun _=>rfl⟩
theorem oV {a b c d:List UInt8} (h:iG a b) (k:iG c d):iG (a ++ c) (b ++ d):=by
 refine ⟨by rw [List.length_append,List.length_append]; have:=h.1; have:=k.1; omega,fun e=>?_⟩
 rw [List.length_append,List.length_append] at e
 have h1:=h.1
 have k1:=k.1
 rw [h.2 (by omega),k.2 (by omega)]
theorem s4 {b:List UInt8}:iG [] b:=⟨Nat.zero_le _,fun e=>by cases b with | nil=>rfl | cons x y=>cases e⟩
theorem T4 {a b:List UInt8} (h:iG a b):iG (vi a.length ++ a) (vi b.length ++ b):=by
 refine ⟨?_,fun e=>?_⟩
 · rw [List.length_append,List.length_append]
   have:=I1 h.1
   have:=h.1
   omega
 · rw [List.length_append,List.length_append] at e
   have h1:=I1 h.1
   have h2:=h.1
   rw [h.2 (by omega)]
def tY (R:Ty->Vl->List UInt8) (s:Sc) (fs:List Fl) (x:Int × Vl):List UInt8:=
 bif !((fF fs x.1).getD default).opt && dG x.2 (zF s 23 ((fF fs x.1).getD default).ty) then [] else fW x.1 ++ mS (R ((fF fs x.1).getD default).ty x.2)
theorem AL {R:Ty->Vl->List UInt8} {D:Ty->List UInt8->Vl × Int} {s:Sc} {fs:List Fl}:∀ (g:Nat) (last:Int) (b:List UInt8),b.length<=g->(cN D s fs g last b).2=0->
 (∀ f ∈ fs,∀ c,c.length<=b.length->(D f.ty c).2=0->iG (R f.ty (D f.ty c).1) c/\(R f.ty (D f.ty c).1).length < 18446744073709551616)->
 (∀ x ∈ (cN D s fs g last b).1,last < x.1/\∃ f ∈ fs,f.num=x.1/\fF fs x.1=some f/\∃ c,c.length<=b.length/\(D f.ty c).2=0/\x.2=(D f.ty c).1)/\(cN D s fs g last b).1.Pairwise (fun x y=>x.1 < y.1)/\iG ((cN D s fs g last b).1.flatMap (tY R s fs)) b
 | 0,last,b,hb,_,_=>by
  have:b=[]:=List.eq_nil_of_length_eq_zero (by omega)
  subst this
  exact ⟨fun x h=>(by cases h),.nil,fN _⟩
 | g + 1,last,b,hb,h,hR=>by
  by_cases hbn:b=[]
  · subst hbn; rw [sN]; exact ⟨fun x h=>(by cases h),.nil,fN _⟩
  rw [mD hbn] at h ⊢
  have hl:=DU b last
  cases c1:(aZ b last).2.2 != 0 with
  | true=>rw [c1] at h; exact absurd h (iZ c1)
  | false=>
  rw [c1,cond_false] at h
  rw [cond_false]
  have hlt:=hl.2.2 (eL c1)
  rcases UW b last with h1 | ⟨_,f1,f2,f3,f4⟩
  · exact absurd (eL c1) h1
  have ih:=AL (R:=R) (D:=D) (s:=s) (fs:=fs) g (aZ b last).1.1 (aZ b last).2.1 (by omega)
  have hR':∀ f ∈ fs,∀ c:List UInt8,c.length<=(aZ b last).2.1.length->(D f.ty c).2=0->iG (R f.ty (D f.ty c).1) c/\(R f.ty (D f.ty c).1).length < 18446744073709551616:=fun f hf c hc=>hR f hf c (by omega)
  have wk:∀ {L:List (Int × Vl)},(∀ x ∈ L,(aZ b last).1.1 < x.1/\∃ f ∈ fs,f.num=x.1/\fF fs x.1=some f/\∃ c,c.length<=(aZ b last).2.1.length/\(D f.ty c).2=0/\x.2=(D f.ty c).1)->
   ∀ x ∈ L,last < x.1/\∃ f ∈ fs,f.num=x.1/\fF fs x.1=some f/\∃ c,c.length<=b.length/\(D f.ty c).2=0/\x.2=(D f.ty c).1:=fun h x hx=>by
   obtain ⟨a1,f,a2,a3,a4,c,a5,a6⟩:=h x hx
   exact ⟨by omega,f,a2,a3,a4,c,by omega,a6⟩
  cases c2:!(fF fs (aZ b last).1.1).isSome with
  | true=>
   rw [c2,cond_true] at h
   rw [cond_true]
   obtain ⟨i1,i2,i3⟩:=ih h hR'
   refine ⟨wk i1,i2,?_⟩
   have:=oV (s4 (b:=vi (aZ b last).1.1.toNat ++ (vi (aZ b last).1.2.length ++ (aZ b last).1.2))) i3
   rw [<-f4] at this
   exact this
  | false=>
  rw [c2,cond_false] at h
  rw [cond_false]
  cases c3:rA D s ((fF fs (aZ b last).1.1).getD default) (aZ b last).1.2 != 0 with
  | true=>rw [c3] at h; exact absurd h (iZ c3)
  | false=>
  rw [c3,cond_false] at h
  rw [cond_false]
  unfold mZ at h ⊢
  cases c4:(cN D s fs g (aZ b last).1.1 (aZ b last).2.1).2 != 0 with
  | true=>rw [c4] at h; exact absurd h (iZ c4)
  | false=>
   rw [cond_false]
   obtain ⟨i1,i2,i3⟩:=ih (eL c4) hR'
   cases hf:fF fs (aZ b last).1.1 with
   | none=>rw [hf] at c2; cases c2
   | some f=>
    obtain ⟨hm,he⟩:=zT hf
    rw [hf] at c3
    simp only [Option.getD_some] at c3 ⊢
    have hd0:(D f.ty (aZ b last).1.2).2=0:=by
     have:=eL c3
     unfold rA at this
     cases q:(D f.ty (aZ b last).1.2).2 != 0 with
     | true=>rw [q] at this; exact absurd this (iZ q)
     | false=>exact eL q
    obtain ⟨r1,r2⟩:=hR f hm (aZ b last).1.2 hl.1 hd0
    refine ⟨fun x hx=>?_,?_,?_⟩
    · rcases List.mem_append.1 hx with hx | hx
      · obtain rfl:=List.mem_singleton.1 hx
        exact ⟨f1,f,hm,he,hf,_,hl.1,hd0,rfl⟩
      · exact wk i1 x hx
    · exact List.pairwise_cons.2 ⟨fun x hx=>(i1 x hx).1,i2⟩
    · rw [List.singleton_append,List.flatMap_cons]
      have hp:iG (tY R s fs ((aZ b last).1.1,(D f.ty (aZ b last).1.2).1)) (vi (aZ b last).1.1.toNat ++ (vi (aZ b last).1.2.length ++ (aZ b last).1.2)):=by
       unfold tY
       simp only
       rw [hf,Option.getD_some]
       cases !f.opt && dG (D f.ty (aZ b last).1.2).1 (zF s 23 f.ty) with
       | true=>exact s4
       | false=>
        rw [cond_false,yF f2 (by omega),wU r2]
        exact oV (fN _) (T4 r1)
      have:=oV hp i3
      rw [<-f4] at this
      exact this
theorem JL {s:Sc} {L:List (Int × Vl)} {f:Fl} {x:Int × Vl} (hx:x ∈ iE s L f):x.1=f.num:=by
 unfold iE at hx
 cases hv:(bX L f.num).isSome with
 | true=>rw [hv] at hx; obtain rfl:=List.mem_singleton.1 hx; rfl
 | false=>
  rw [hv] at hx
  cases ho:f.opt with
  | true=>rw [ho] at hx; cases hx
  | false=>rw [ho] at hx; obtain rfl:=List.mem_singleton.1 hx; rfl
theorem vM {v:Vl} {P:Prop} (h:v.h<=0):P:=by have:=v.h_pos; omega
theorem EV {s:Sc} {L:List (Int × Vl)}:∀ {fs:List Fl} {q:Fl},fs.Pairwise (fun f g=>f.num < g.num)->q ∈ fs->bX (eJ s fs L) q.num=(iE s L q).head?
 | g :: fs,q,hp,hq=>by
  obtain ⟨p1,p2⟩:=List.pairwise_cons.1 hp
  have hn:∀ (f:Fl) (x:Int × Vl),x ∈ iE s L f->x.1=f.num:=fun f x hx=>JL hx
  have hrest:bX (eJ s fs L) g.num=none:=uQ fun x hx=>by
   obtain ⟨f,hf,hx⟩:=List.mem_flatMap.1 hx
   have:=p1 f hf
   rw [hn f x hx]; omega
  show bX (iE s L g ++ eJ s fs L) q.num=_
  have hlen:=AS s L g
  cases hg:iE s L g with
  | nil=>
   rw [List.nil_append]
   rcases List.mem_cons.1 hq with rfl | hq
   · rw [hg,hrest]; rfl
   · exact EV p2 hq
  | cons x r=>
   rw [hg] at hlen
   have hr:r=[]:=by simpa using hlen
   subst hr
   have hx:=hn g x (by rw [hg]; exact List.mem_cons_self ..)
   rw [List.singleton_append,kB]
   rcases List.mem_cons.1 hq with rfl | hq
   · rw [if_pos hx,hg]; rfl
   · have:=p1 q hq
     rw [if_neg (by omega)]
     exact EV p2 hq
theorem aDT {R:Ty->Vl->List UInt8} {s:Sc} {fs:List Fl} {L:List (Int × Vl)} (hp:fs.Pairwise fun f g=>f.num < g.num) (hL:L.Pairwise fun x y=>x.1 < y.1) (hm:∀ x ∈ L,∃ f ∈ fs,f.num=x.1) :
 dY R s fs (eJ s fs L)=L.flatMap (tY R s fs):=by
 have h1:L.flatMap (tY R s fs)=fs.flatMap fun g=>(m3 L g).flatMap (tY R s fs):=by
  rw [<-List.flatMap_assoc,oK hp hL hm]
 rw [h1]
 refine g7 fun g hg=>?_
 have hf:=pL hp hg
 rw [oB]
 unfold lP
 rw [EV hp hg]
 unfold m3 iE
 cases hv:bX L g.num with
 | some x=>
  simp only [Option.isSome_some,cond_true,List.head?_cons,Option.map_some,Option.getD_some,Bool.not_true,Bool.false_or,List.flatMap_cons,List.flatMap_nil,List.append_nil]
  unfold tY
  simp only
  rw [hf,Option.getD_some]
 | none=>
  simp only [Option.isSome_none,cond_false,List.flatMap_nil]
  cases ho:g.opt with
  | true=>rfl
  | false=>
   simp only [cond_false,List.head?_cons,Option.isSome_some,Option.map_some,Option.getD_some,Bool.not_true,Bool.not_false,Bool.false_or,Bool.true_and,pA,cond_true]
theorem WU {s:Sc} {fs:List Fl} {L:List (Int × Vl)} (hp:fs.Pairwise fun f g=>f.num < g.num):bY fs (eJ s fs L)=true:=by
 have hn:∀ (f:Fl) (x:Int × Vl),x ∈ iE s L f->x.1=f.num:=fun f x hx=>JL hx
 have hpw:∀ {l:List Fl},l.Pairwise (fun f g=>f.num < g.num)->(l.flatMap (iE s L)).Pairwise fun x y=>x.1 < y.1:=by
  intro l
  induction l with
  | nil=>intro _; exact .nil
  | cons g l ih=>
   intro h
   obtain ⟨p1,p2⟩:=List.pairwise_cons.1 h
   rw [List.flatMap_cons,List.pairwise_append]
   refine ⟨?_,ih p2,fun x hx y hy=>?_⟩
   · have:=AS s L g
     match iE s L g,this with
     | [],_=>exact .nil
     | [x],_=>exact List.pairwise_singleton ..
     | _ :: _ :: _,h=>simp at h
   · obtain ⟨f,hf,hy⟩:=List.mem_flatMap.1 hy
     rw [hn g x hx,hn f y hy]
     exact p1 f hf
 unfold bY
 rw [Bool.and_eq_true,List.all_eq_true]
 refine ⟨LC _ none (fun x hx=>?_) (hpw hp) (fun q h=>by cases h),fun f hf=>?_⟩
 · obtain ⟨f,hf,hx⟩:=List.mem_flatMap.1 hx
   rw [hn f x hx,pL hp hf]; rfl
 · cases ho:f.opt with
   | true=>rfl
   | false=>
    rw [Bool.false_or]
    unfold iN
    rw [List.any_eq_true]
    have:∃ x,x ∈ iE s L f:=by
     unfold iE
     rw [ho]
     cases (bX L f.num).isSome with
     | true=>exact ⟨_,List.mem_singleton.2 rfl⟩
     | false=>exact ⟨_,List.mem_singleton.2 rfl⟩
    obtain ⟨x,hx⟩:=this
    exact ⟨x,List.mem_flatMap.2 ⟨f,hf,hx⟩,by rw [hn f x hx]; simp⟩
structure Can (s:Sc) (t:Ty) (v:Vl) (b:List UInt8):Prop where
 ck:cH s t v=0
 rl:bT v<=hS s t
 le:∀ N,v.h<=N->N<=8->iG (cA s N t v) b
theorem NO {B:Int}:∀ (L:List Vl) (d:Int),d<=B->(∀ x ∈ L,bT x<=B)->cX d L<=B
 | [],d,h,_=>by rw [cX]; exact h
 | v :: L,d,h,hx=>by
  rw [cX]
  have:=hx v (List.mem_cons_self ..)
  exact NO L _ (by omega) fun y hy=>hx y (List.mem_cons_of_mem _ hy)
theorem JI {s:Sc} {t:Ty}:∀ (L:List Vl),(∀ x ∈ L,cH s t x=0)->f7 s t L=0
 | [],_=>by rw [f7]
 | x :: L,h=>by
  rw [f7,h x (List.mem_cons_self ..)]
  exact JI L fun y hy=>h y (List.mem_cons_of_mem _ hy)
theorem HI {s:Sc} {t:Ty} {n:Int} (hv:valF s.ss s.es t=true) (c4:(t.k == 4)=false) (c5:(t.k == 5)=false) (c6:(t.k == 6)=false) (hr:fA s t n=true):cH s t (.mk t.k n (mk []) [] [])=0/\bT (.mk t.k n (mk []) [] [])<=hS s t:=by
 constructor
 · rw [kU,hv]
   show (bif !true || t.k != t.k then (13:Int) else _)=0
   rw [bne_self_eq_false,c4,c5,c6]
   show jM s t n (mk []) ((0:Nat):Int) ((0:Nat):Int)=0
   unfold jM
   rw [hr,iM]; rfl
 · rw [lA]
   have hs:jO (.mk t.k n (mk []) [] [])=true:=by
    show (t.k != 5 && t.k != 6 && _ && _)=true
    rw [bne,bne,c5,c6]; rfl
   rw [hs]
   exact fJ s t
theorem sU {s:Sc} (hs:s.fit) (hd:Dg s):∀ (M:Nat) (t:Ty) (b:List UInt8),TyOk t->valF s.ss s.es t=true->hS s t < M->(a8 s M t b).2=0->Can s t (a8 s M t b).1 b
 | 0,t,_,_,_,h,_=>by have:=fJ s t; omega
 | M + 1,t,b,ht,hv,hM,h0=>by
  rw [mN] at h0 ⊢
  cases c1:t.k == 1 with
  | true=>
   rw [c1,cond_true] at h0
   rw [cond_true]
   have hk:t.k=1:=eq_of_beq c1
   unfold nW at h0 ⊢
   cases b with
   | nil=>cases h0
   | cons c r=>
    rw [show (c :: r == [])=false from rfl,cond_false] at h0 ⊢
    cases c2:decide (1 < ((c :: r).headD 0).toNat) || decide (1 < (c :: r).length) with
    | true=>rw [c2] at h0; cases h0
    | false=>
     rw [cond_false]
     rw [Bool.or_eq_false_iff] at c2
     have h1:=of_decide_eq_false c2.1
     have h2:=of_decide_eq_false c2.2
     have hr:r=[]:=by simpa using h2
     subst hr
     simp only [List.headD_cons] at h1 ⊢
     have hc01:c.toNat=0\/c.toNat=1:=by omega
     have hrg:fA s t (c.toNat:Int)=true:=by
      unfold fA
      rw [c1]
      rcases hc01 with e | e<;>rw [e]<;>rfl
     have:=HI (n:=(c.toNat:Int)) hv (bK c1 (by decide)) (bK c1 (by decide)) (bK c1 (by decide)) hrg
     rw [hk] at this
     refine ⟨this.1,this.2,fun N hN _=>?_⟩
     cases N with
     | zero=>exact vM hN
     | succ N=>
      rw [d8,c1]
      show iG (fW (c.toNat:Int)) [c]
      have e:fW (c.toNat:Int)=[c]:=by
       rw [iX (by omega)]
       unfold vi
       rw [f8 (by decide) (by omega)]; simp
      rw [e]; exact fN _
  | false=>
  rw [c1,cond_false] at h0
  rw [cond_false]
  cases c2:t.k == 2 || (t.k == 3 || t.k == 7) with
  | true=>
   rw [c2,cond_true] at h0
   rw [cond_true]
   have n4:(t.k == 4)=false/\(t.k == 5)=false/\(t.k == 6)=false:=by
    rw [Bool.or_eq_true,Bool.or_eq_true] at c2
    rcases c2 with h | h | h<;>exact ⟨bK h (by decide),bK h (by decide),bK h (by decide)⟩
   unfold oN at h0 ⊢
   cases c3:(vr b).2.2 != 0 with
   | true=>rw [c3] at h0; exact absurd h0 (iZ c3)
   | false=>
   rw [c3,cond_false] at h0
   rw [cond_false]
   cases c4:decide ((vr b).2.1 < b.length) with
   | true=>rw [c4] at h0; cases h0
   | false=>
   rw [c4,cond_false] at h0
   rw [cond_false]
   cases c5:fA s t (fD t.k (vr b).1) with
   | false=>rw [c5] at h0; cases h0
   | true=>
    show Can s t (.mk t.k (fD t.k (vr b).1) (mk []) [] []) b
    have hcn:=HI hv n4.1 n4.2.1 n4.2.2 c5
    refine ⟨hcn.1,hcn.2,fun N hN _=>?_⟩
    have hb:b=vi (vr b).1:=by
     rcases pF b with ⟨h,_⟩ | ⟨_,h1,_,h3,h4,_⟩
     · exact absurd (eL c3) h
     · have:=of_decide_eq_false c4
       rw [<-h4,List.take_of_length_le (by omega)]
    cases N with
    | zero=>exact vM hN
    | succ N=>
     have hlt:=CZ b
     rw [d8,c1,Bool.false_or]
     cases c6:t.k == 2 with
     | true=>
      rw [bK c6 (b:=3) (by decide),bK c6 (b:=7) (by decide)]
      show iG (vi (mY (fD t.k (vr b).1))) b
      unfold fD
      rw [c6,cond_true,aG0 hlt,<-hb]
      exact fN _
     | false=>
      rw [c6,Bool.false_or] at c2
      rw [c2,cond_true]
      show iG (fW (fD t.k (vr b).1)) b
      unfold fD
      rw [c6,cond_false,iX hlt,<-hb]
      exact fN _
  | false=>
  rw [c2,cond_false] at h0
  rw [cond_false]
  have c2':=c2
  rw [Bool.or_eq_false_iff] at c2'
  cases c4:t.k == 4 with
  | true=>
   rw [c4,cond_true] at h0
   rw [cond_true]
   have hk:t.k=4:=eq_of_beq c4
   unfold II at h0 ⊢
   cases c5:decide (t.s < (b.length:Int)) with
   | true=>rw [c5] at h0; cases h0
   | false=>
    rw [cond_false]
    refine ⟨?_,?_,fun N hN _=>?_⟩
    · rw [kU,hv]
      show (bif !true || (4:Int) != t.k then (13:Int) else bif t.k == 4 then iI t 0 (mk b) ((0:Nat):Int) ((0:Nat):Int) else _)=0
      rw [hk]
      show iI t 0 (mk b) ((0:Nat):Int) ((0:Nat):Int)=0
      unfold iI
      rw [iM,c5]; rfl
    · have hsc:bT (.mk 4 0 (mk b) [] [])=0:=by rw [lA]; rfl
      rw [hsc]
      exact fJ s t
    · cases N with
      | zero=>exact vM hN
      | succ N=>
       rw [d8,c1,c2'.2,c2'.1,c4]
       show iG (bl (mk b)) b
       rw [iM]; exact fN _
  | false=>
  rw [c4,cond_false] at h0
  rw [cond_false]
  cases c5:t.k == 5 with
  | true=>
   rw [c5,cond_true] at h0
   rw [cond_true]
   have hk:t.k=5:=eq_of_beq c5
   obtain ⟨u,he,hu⟩:=rR hv c5
   have hto:=ht.e u (by rw [he]; exact List.mem_singleton.2 rfl)
   have hfd:=s7 (s:=s) c5 he
   rw [he] at h0 ⊢
   rw [List.headD_cons] at h0 ⊢
   unfold jQ at h0 ⊢
   cases d1:(aX b).2.2 != 0 with
   | true=>rw [d1] at h0; exact absurd h0 (iZ d1)
   | false=>
   rw [d1,cond_false] at h0
   rw [cond_false]
   cases d2:decide (t.s < ((aX b).1:Int)) with
   | true=>rw [d2] at h0; cases h0
   | false=>
   rw [d2,cond_false] at h0
   rw [cond_false]
   cases d3:(b9 (a8 s M u) (aX b).1 (aX b).2.1).2 != 0 with
   | true=>rw [d3] at h0; exact absurd h0 (iZ d3)
   | false=>
   rw [d3,cond_false] at h0
   rw [cond_false]
   cases d4:(b9 (a8 s M u) (aX b).1 (aX b).2.1).1.2 == [] with
   | false=>rw [d4] at h0; cases h0
   | true=>
    rw [Bool.not_true,cond_false]
    have hz:=of_decide_eq_false d2
    have h32:=(mA hv).2 c5
    have hall:∀ x ∈ (b9 (a8 s M u) (aX b).1 (aX b).2.1).1.1,cH s u x=0/\bT x<=hS s u:=by
     have key:∀ (n:Nat) (c:List UInt8),(b9 (a8 s M u) n c).2=0->∀ x ∈ (b9 (a8 s M u) n c).1.1,cH s u x=0/\bT x<=hS s u:=by
      intro n
      induction n with
      | zero=>intro c _ x hx; cases hx
      | succ n ih=>
       intro c hc x hx
       rw [kI] at hc hx
       cases q1:(bI c).2.2 != 0 with
       | true=>rw [q1] at hx; cases hx
       | false=>
       rw [q1,cond_false] at hc hx
       cases q2:(a8 s M u (bI c).1).2 != 0 with
       | true=>rw [q2] at hx; cases hx
       | false=>
       rw [q2,cond_false] at hc hx
       cases q3:(b9 (a8 s M u) n (bI c).2.1).2 != 0 with
       | true=>rw [q3] at hx; cases hx
       | false=>
        rw [q3,cond_false] at hx
        rcases List.mem_cons.1 hx with rfl | hx
        · have:=sU hs hd M u (bI c).1 hto hu (by omega) (eL q2)
          exact ⟨this.ck,this.rl⟩
        · exact ih _ (eL q3) x hx
     exact key _ _ (eL d3)
    have hlen:=(AT (P:=fun _=>True) (R:=a8 s M u) (aX b).1 (aX b).2.1 fun _ _=>trivial).2.1
    refine ⟨?_,?_,fun N hN hN8=>?_⟩
    · rw [kU,hv]
      show (bif !true || (5:Int) != t.k then (13:Int) else bif t.k == 4 then _ else bif t.k == 5 then (bif decide (t.s < (((b9 (a8 s M u) (aX b).1 (aX b).2.1).1.1.length:Nat):Int)) then (3:Int) else f7 s (t.e.headD default) (b9 (a8 s M u) (aX b).1 (aX b).2.1).1.1) else _)=0
      rw [hk,he]
      show (bif decide (t.s < (((b9 (a8 s M u) (aX b).1 (aX b).2.1).1.1.length:Nat):Int)) then (3:Int) else f7 s u (b9 (a8 s M u) (aX b).1 (aX b).2.1).1.1)=0
      rw [decide_eq_false (by omega),cond_false]
      exact JI _ fun x hx=>(hall x hx).1
    · rw [lA]
      show (1:Int) + eE (cX 0 (b9 (a8 s M u) (aX b).1 (aX b).2.1).1.1) []<=_
      rw [eE,hfd]
      have:=NO (B:=hS s u) (b9 (a8 s M u) (aX b).1 (aX b).2.1).1.1 0 (fJ s u) fun x hx=>(hall x hx).2
      omega
    · cases N with
      | zero=>exact vM hN
      | succ N=>
       rw [d8,c1,c2'.2,c2'.1,c4,c5,he,List.headD_cons]
       show iG (fW ((b9 (a8 s M u) (aX b).1 (aX b).2.1).1.1.length:Int) ++ iY (cA s N) u (b9 (a8 s M u) (aX b).1 (aX b).2.1).1.1) b
       have hhl:Vl.hl (b9 (a8 s M u) (aX b).1 (aX b).2.1).1.1<=N:=by rw [Vl.h] at hN; omega
       have key:∀ (n:Nat) (c:List UInt8),(b9 (a8 s M u) n c).2=0->Vl.hl (b9 (a8 s M u) n c).1.1<=N->(b9 (a8 s M u) n c).1.1.length=n/\iG (iY (cA s N) u (b9 (a8 s M u) n c).1.1 ++ (b9 (a8 s M u) n c).1.2) c:=by
        intro n
        induction n with
        | zero=>intro c _ _; exact ⟨rfl,fN _⟩
        | succ n ih=>
         intro c hc hh
         rw [kI] at hc hh ⊢
         cases q1:(bI c).2.2 != 0 with
         | true=>rw [q1] at hc; exact absurd hc (iZ q1)
         | false=>
         rw [q1,cond_false] at hc hh
         rw [cond_false]
         cases q2:(a8 s M u (bI c).1).2 != 0 with
         | true=>rw [q2] at hc; exact absurd hc (iZ q2)
         | false=>
         rw [q2,cond_false] at hc hh
         rw [cond_false]
         cases q3:(b9 (a8 s M u) n (bI c).2.1).2 != 0 with
         | true=>rw [q3] at hc; exact absurd hc (iZ q3)
         | false=>
          rw [q3,cond_false] at hh
          rw [cond_false]
          rw [Vl.hl] at hh
          obtain ⟨i1,i2⟩:=ih _ (eL q3) (by omega)
          have hcan:=sU hs hd M u (bI c).1 hto hu (by omega) (eL q2)
          have r1:=hcan.le N (by omega) (by omega)
          have r2:=gA hd N u _ (show (a8 s M u (bI c).1).1.h<=N by omega) hcan.ck
          have r3:=kV (N:=N) (by omega)
          refine ⟨by rw [List.length_cons,i1],?_⟩
          unfold iY at i2 ⊢
          rw [List.flatMap_cons,wU (by omega),List.append_assoc]
          rcases KA c with ⟨h1,_⟩ | ⟨_,h1⟩
          · exact absurd (eL q1) h1
          · have:=oV (T4 r1) i2
            rwa [<-h1] at this
       obtain ⟨k1,k2⟩:=key _ _ (eL d3) hhl
       rw [eq_of_beq d4,List.append_nil] at k2
       rw [k1,iX (UL b)]
       rcases tC b with ⟨h1,_⟩ | ⟨_,h1,_⟩
       · exact absurd (eL d1) h1
       · have:=oV (fN (vi (aX b).1)) k2
         rwa [<-h1] at this
  | false=>
   rw [c5,cond_false] at h0
   rw [cond_false]
   have c6:=C4 hv c1 c2 c4 c5
   have hk:t.k=6:=eq_of_beq c6
   have hfd:=oA (s:=s) c6
   have hst:=lW hd hv c6
   have hn:=hd.ni.stOf t
   have hp:=CT hn
   unfold jG at h0 ⊢
   cases d1:(cN (a8 s M) s (stOf s t).fs b.length 0 b).2 != 0 with
   | true=>rw [d1] at h0; exact absurd h0 (iZ d1)
   | false=>
    rw [cond_false]
    have hfc:∀ f ∈ (stOf s t).fs,∀ c:List UInt8,(a8 s M f.ty c).2=0->Can s f.ty (a8 s M f.ty c).1 c:=fun f hf c hc=>sU hs hd M f.ty c ((fH hs t).fs f hf).ty (hn.v f hf) (by have:=hst.2.2 f hf; omega) hc
    obtain ⟨k1,k2,_⟩:=AL (R:=fun _ _=>[]) (D:=a8 s M) (s:=s) (fs:=(stOf s t).fs) b.length 0 b (Nat.le_refl _) (eL d1) fun f hf c _ _=>⟨s4,by decide⟩
    have hLm:∀ x ∈ (cN (a8 s M) s (stOf s t).fs b.length 0 b).1,∃ f ∈ (stOf s t).fs,f.num=x.1:=fun x hx=>by obtain ⟨_,f,hf,he,_⟩:=k1 x hx; exact ⟨f,hf,he⟩
    have hPm:∀ x ∈ eJ s (stOf s t).fs (cN (a8 s M) s (stOf s t).fs b.length 0 b).1,cH s (gQ (stOf s t) x.1).ty x.2=0/\bT x.2<=dD s.ss t.n - 1:=by
     refine I3 (P:=fun i v=>cH s (gQ (stOf s t) i).ty v=0/\bT v<=dD s.ss t.n - 1) (fun x hx=>?_) fun f hf=>?_
     · obtain ⟨_,f,hf,he,hff,c,_,hc,hx2⟩:=k1 x hx
       have:=hfc f hf c hc
       have hq:=hst.2.2 f hf
       rw [<-he,j7 hd hf,hx2]
       exact ⟨this.ck,by have:=this.rl; omega⟩
     · have hq:=hst.2.2 f hf
       have hvf:=hn.v f hf
       obtain ⟨a,b⟩:=aHZ hd 22 f.ty hvf fun h6=>by have:=(lW hd hvf h6).2.1; omega
       have b:bT (zF s 23 f.ty)<=zl s f.ty:=b
       have hzf:=SH hvf
       rw [j7 hd hf]
       exact ⟨a,by omega⟩
    refine ⟨?_,?_,fun N hN hN8=>?_⟩
    · rw [kU,hv]
      show (bif !true || (6:Int) != t.k then (13:Int) else _)=0
      rw [hk]
      show (bif !(bY (stOf s t).fs (eJ s (stOf s t).fs (cN (a8 s M) s (stOf s t).fs b.length 0 b).1)) then (13:Int) else hY s (stOf s t).fs (eJ s (stOf s t).fs (cN (a8 s M) s (stOf s t).fs b.length 0 b).1))=0
      rw [WU hp,Bool.not_true,cond_false]
      exact yJ _ fun x hx=>(hPm x hx).1
    · rw [lA,hfd]
      show 1 + eE (cX 0 []) (eJ s (stOf s t).fs (cN (a8 s M) s (stOf s t).fs b.length 0 b).1)<=dD s.ss t.n
      rw [cX]
      have:=EC (B:=dD s.ss t.n - 1) (eJ s (stOf s t).fs (cN (a8 s M) s (stOf s t).fs b.length 0 b).1) 0 (by omega) fun x hx=>(hPm x hx).2
      omega
    · cases N with
      | zero=>exact vM hN
      | succ N=>
       rw [d8,c1,c2'.2,c2'.1,c4,c5]
       show iG (dY (cA s N) s (stOf s t).fs (eJ s (stOf s t).fs (cN (a8 s M) s (stOf s t).fs b.length 0 b).1)) b
       have hhf:Vl.hf (eJ s (stOf s t).fs (cN (a8 s M) s (stOf s t).fs b.length 0 b).1)<=N:=by rw [Vl.h] at hN; omega
       obtain ⟨_,_,k3⟩:=AL (R:=fun u v=>if v.h<=N then cA s N u v else []) (D:=a8 s M) (s:=s) (fs:=(stOf s t).fs) b.length 0 b (Nat.le_refl _) (eL d1) fun f hf c _ hc=>by
        have hcan:=hfc f hf c hc
        by_cases hle:(a8 s M f.ty c).1.h<=N
        · simp only [if_pos hle]
          have r2:=gA hd N f.ty _ hle hcan.ck
          have r3:=kV (N:=N) (by omega)
          exact ⟨hcan.le N hle (by omega),by omega⟩
        · simp only [if_neg hle]
          exact ⟨s4,by decide⟩
       rw [aDT hp k2 hLm]
       generalize (cN (a8 s M) s (stOf s t).fs b.length 0 b).1=L at *
       have hxL:∀ x ∈ L,x.2.h<=N:=fun x hx=>by
        rw [<-oK hp k2 hLm] at hx
        obtain ⟨g,hg,hx⟩:=List.mem_flatMap.1 hx
        have hxa:x ∈ iE s L g:=by
         unfold m3 at hx
         unfold iE
         cases hv:bX L g.num with
         | none=>rw [hv] at hx; cases hx
         | some y=>rw [hv] at hx; exact hx
        have:=Vl.hf_mem (show x ∈ eJ s (stOf s t).fs L from List.mem_flatMap.2 ⟨g,hg,hxa⟩)
        omega
       rw [show L.flatMap (tY (cA s N) s (stOf s t).fs)=L.flatMap (tY (fun u v=>if v.h<=N then cA s N u v else []) s (stOf s t).fs) from g7 fun x hx=>by
        unfold tY
        simp only [if_pos (hxL x hx)]]
       exact k3
theorem rU {s:Sc} (hd:Dg s):∀ (N M:Nat) (t:Ty) (v:Vl),cH s t v=0->v.h<=N->v.h<=M->cA s N t v=cA s M t v
 | 0,_,_,v,_,h,_=>vM h
 | _ + 1,0,_,v,_,_,h=>vM h
 | N + 1,M + 1,t,v,h0,h1,h2=>by
  have hc:=jY h0
  rw [d8,d8]
  cases c1:t.k == 1 || (t.k == 3 || t.k == 7) with
  | true=>rfl
  | false=>
  cases c2:t.k == 2 with
  | true=>rfl
  | false=>
  cases c4:t.k == 4 with
  | true=>rfl
  | false=>
  rw [cond_false,cond_false,cond_false,cond_false,cond_false,cond_false]
  cases c5:t.k == 5 with
  | true=>
   rw [cond_true,cond_true]
   obtain ⟨_,_,_,_,h3⟩:=hc.ls c5
   congr 1
   exact g7 fun x hx=>by rw [rU hd N M _ x (h3 x hx) (by have:=Vl.h_l hx; omega) (by have:=Vl.h_l hx; omega)]
  | false=>
   rw [cond_false,cond_false]
   have c6:(t.k == 6)=true:=by
    rcases sP hc.va with h | h | h | h | h | h | h
    · rw [h] at c1; cases c1
    · rw [h] at c2; cases c2
    · rw [h,Bool.true_or,Bool.or_true] at c1; cases c1
    · rw [h] at c4; cases c4
    · rw [h] at c5; cases c5
    · exact h
    · rw [h,Bool.or_true,Bool.or_true] at c1; cases c1
   obtain ⟨_,_,_,_,h3⟩:=hc.st c6
   refine g7 fun g hg=>?_
   rw [oB,oB]
   cases hv:bX v.f g.num with
   | none=>unfold lP; rw [hv]; rfl
   | some x=>
    obtain ⟨hm,he⟩:=oO hv
    have h4:=h3 x hm
    rw [he,j7 hd hg] at h4
    simp only [Option.map_some,Option.getD_some]
    rw [rU hd N M g.ty x.2 h4 (by have:=Vl.h_f hm; omega) (by have:=Vl.h_f hm; omega)]
theorem M1 {s:Sc} (hd:Dg s) {nm:ByteArray} (h:cJ s.ss nm=true):hS s (.mk 6 0 nm [])<=6/\valF s.ss s.es (.mk 6 0 nm [])=true:=by
 have hv:valF s.ss s.es (.mk 6 0 nm [])=true:=by rw [valF.eq_def]; simp [h]
 have:=(lW hd hv rfl).2.1
 rw [oA rfl]
 exact ⟨this,hv⟩
theorem aFW (s:Sc) (nm:ByteArray) (b:List UInt8):a8 s 9 (.mk 6 0 nm []) b=jG (a8 s 8) s (stOf s (.mk 6 0 nm [])).fs b:=by rw [mN]; rfl
theorem aGA (s:Sc) (nm:ByteArray) (v:Vl) (N:Nat):cA s (N + 1) (.mk 6 0 nm []) v=dY (cA s N) s (stOf s (.mk 6 0 nm [])).fs v.f:=by rw [d8]; rfl
theorem aBB {s:Sc} (hs:s.fit) {nm:ByteArray} (hnm:nm.size<=9223372036854775807) {b:List UInt8} (h:(eV s nm b).2=0) :
 ∃ c,nC s nm (eV s nm b).1=(c,0)/\iG c b/\eV s nm c=((eV s nm b).1,0)/\gH s (.mk 6 0 nm []) (eV s nm b).1=0/\VlOk (eV s nm b).1:=by
 have h':=h
 unfold eV at h'
 cases c1:bP s != 0 with
 | true=>rw [c1] at h'; exact absurd h' (iZ c1)
 | false=>
 rw [c1,cond_false] at h'
 have hd:=CV hs (eL c1)
 cases c2:cJ s.ss nm with
 | false=>rw [c2] at h'; cases h'
 | true=>
 rw [c2,Bool.not_true,cond_false] at h'
 cases c3:decide (2000 < (b.length:Int)) with
 | true=>rw [c3] at h'; cases h'
 | false=>
  rw [c3,cond_false] at h'
  have hb:=of_decide_eq_false c3
  have e:eV s nm b=a8 s 9 (.mk 6 0 nm []) b:=by
   unfold eV
   rw [c1,cond_false,c2,Bool.not_true,cond_false,c3,cond_false,aFW]
  obtain ⟨hfd,hv⟩:=M1 hd c2
  have hto:TyOk (.mk 6 0 nm []):=.mk ⟨by decide,by decide⟩ ⟨by decide,by decide⟩ hnm (Nat.zero_le _) fun t h=>(by cases h)
  rw [e] at h ⊢
  have hcan:=sU hs hd 9 (.mk 6 0 nm []) b hto hv (by omega) h
  have hvo:=n7 hs hd 9 (.mk 6 0 nm []) b hto hv (by omega)
  generalize (a8 s 9 (.mk 6 0 nm []) b).1=v at *
  have hck:gH s (.mk 6 0 nm []) v=0:=by
   unfold gH
   rw [zD,decide_eq_false (by have:=hcan.rl; omega)]
   exact hcan.ck
  have hh:=KI hck
  have hle:=hcan.le 9
  have hN:iG (dY (cA s 8) s (stOf s (.mk 6 0 nm [])).fs v.f) b:=by
   have h7:=hcan.le 8 (by omega) (Nat.le_refl _)
   have h8:=rU hd 8 9 (.mk 6 0 nm []) v hcan.ck (by omega) (by omega)
   rw [h8,aGA] at h7
   exact h7
  have heo:nC s nm v=(dY (cA s 8) s (stOf s (.mk 6 0 nm [])).fs v.f,0):=by
   unfold nC
   have hl:=hN.1
   rw [c1,cond_false,c2,Bool.not_true,cond_false,hck,decide_eq_false (by omega)]; rfl
  refine ⟨_,heo,hN,?_,hck,hvo⟩
  have:=(aFH hs hvo (nm:=nm) (by rw [heo])).1
  rwa [heo] at this
def z7 (N:Nat):W.Spec:=fun av H K=>∃ (s:Sc) (t:Ty) (b:List UInt8),av=[.va (.gs (aF s)),.va (.gs (aU t)),tS (mk b)]/\H=[]/\Dg s/\s.fit/\TyOk t/\valF s.ss s.es t=true/\hS s t < N/\b.length<=1000000000/\K (.tu [.gs (aM (a8 s N t b).1),iA .i64 (a8 s N t b).2]) []
theorem NF {N:Nat} {s:Sc} {t:Ty} {b:List UInt8} {K:S->Hp->Prop} (hd:Dg s) (hs:s.fit) (ht:TyOk t) (hv:valF s.ss s.es t=true) (hf:hS s t < N) (hb:b.length<=1000000000)
 (hK:K (.tu [.gs [.vl (.int .i64 (a8 s N t b).1.k),.vl (.int .i64 (a8 s N t b).1.n),.vl (.string (a8 s N t b).1.s),.fz ((a8 s N t b).1.l.map aM),.fz ((a8 s N t b).1.f.map bC)],iA .i64 (a8 s N t b).2]) []) :
 z7 N [.va (.gs [.vl (.int .i64 s.ver),.fz (s.es.map aY),.fz (s.ss.map aI)]),.va (.gs [.vl (.int .i64 t.k),.vl (.int .i64 t.s),.vl (.string t.n),.fz (t.e.map aU)]),tS (mk b)] [] K:=⟨s,t,b,by rw [aL]; rfl,rfl,hd,hs,ht,hv,hf,hb,by rw [aJ]; exact hK⟩
def tU (acc:List Vl) (q:(List Vl × List UInt8) × Int):(List Vl × List UInt8) × Int:=bif q.2 != 0 then (([],[]),q.2) else ((acc ++ q.1.1,q.1.2),0)
theorem YM (a b:List Vl) (q:(List Vl × List UInt8) × Int):tU a (tU b q)=tU (a ++ b) q:=by
 unfold tU
 cases hq:q.2 != 0 with
 | true=>simp only [cond_true,hq]
 | false=>simp only [cond_false]; rw [show ((0:Int) != 0)=false from rfl,cond_false,List.append_assoc]
theorem JR (a:List Vl) {e:Int} (h:(e != 0)=true) (x:List Vl × List UInt8):tU a (x,e)=(([],[]),e):=by unfold tU; rw [h]; rfl
theorem aG5 {R:List UInt8->Vl × Int}:∀ (n:Nat) (b:List UInt8),(b9 R n b).2 ≠ 0->(b9 R n b).1=([],[])
 | 0,_,h=>absurd rfl h
 | n + 1,b,h=>by
  rw [kI] at h ⊢
  cases c1:(bI b).2.2 != 0 with
  | true=>rfl
  | false=>
  rw [c1,cond_false] at h
  rw [cond_false]
  cases c2:(R (bI b).1).2 != 0 with
  | true=>rfl
  | false=>
  rw [c2,cond_false] at h
  rw [cond_false]
  cases c:(b9 R n (bI b).2.1).2 != 0 with
  | true=>rfl
  | false=>rw [c] at h; exact absurd rfl h
theorem PS (R:List UInt8->Vl × Int) (n:Nat) (b:List UInt8):b9 R (n + 1) b=bif (bI b).2.2 != 0 then (([],[]),(bI b).2.2) else bif (R (bI b).1).2 != 0 then (([],[]),(R (bI b).1).2) else tU [(R (bI b).1).1] (b9 R n (bI b).2.1):=by
 rw [kI]; rfl
theorem V7 {R:List UInt8->Vl × Int} (n:Nat) (b:List UInt8):tU [] (b9 R n b)=b9 R n b:=by
 have h:=aG5 (R:=R) n b
 unfold tU
 generalize b9 R n b=q at *
 obtain ⟨⟨x,y⟩,e⟩:=q
 cases hq:e != 0 with
 | true=>
  have h2:(x,y)=([],[]):=h (iZ hq)
  rw [cond_true,h2]
 | false=>
  have:=eL hq
  subst this; rfl
def aA8 (N:Nat):W.Spec:=fun av H K=>∃ (s:Sc) (t:Ty) (b:List UInt8),av=[.va (.gs (aF s)),.va (.gs (aU t)),tS (mk b)]/\H=[]/\Dg s/\s.fit/\TyOk t/\valF s.ss s.es t=true/\(t.k == 5)=true/\hS s t < N + 1/\b.length<=1000000000/\
 K (.tu [.gs (aM (jQ (a8 s N (t.e.headD default)) t.s b).1),iA .i64 (jQ (a8 s N (t.e.headD default)) t.s b).2]) []
theorem aEG {N:Nat} {s:Sc} {t:Ty} {b:List UInt8} {K:S->Hp->Prop} (hd:Dg s) (hs:s.fit) (ht:TyOk t) (hv:valF s.ss s.es t=true) (h5:(t.k == 5)=true) (hf:hS s t < N + 1) (hb:b.length<=1000000000)
 (hK:K (.tu [.gs (aM (jQ (a8 s N (t.e.headD default)) t.s b).1),iA .i64 (jQ (a8 s N (t.e.headD default)) t.s b).2]) []) :
 aA8 N [.va (.gs [.vl (.int .i64 s.ver),.fz (s.es.map aY),.fz (s.ss.map aI)]),.va (.gs [.vl (.int .i64 t.k),.vl (.int .i64 t.s),.vl (.string t.n),.fz (t.e.map aU)]),tS (mk b)] [] K:=⟨s,t,b,by rw [aL]; rfl,rfl,hd,hs,ht,hv,h5,hf,hb,hK⟩
theorem HA {N:Nat} (hD:Meets Tryz.prog 55 (z7 N)):Meets Tryz.prog 99 (aA8 N):=by
 refine aD Tryz.func99 aMY 3 (by rw [Tryz.ntmps99]; decide) (aC uP (aC L4 (aC hD (aA _)))) (fun av H K h=>by obtain ⟨_,_,_,rfl,_⟩:=h; rfl) ?_
 rintro av H K ⟨s,t,b,rfl,rfl,hd,hs,ht,hv,h5,hf,hb,hK⟩
 obtain ⟨u,he,hu⟩:=rR hv h5
 have hto:=ht.e u (by rw [he]; exact List.mem_singleton.2 rfl)
 have hfd:=s7 (s:=s) h5 he
 have h32:=(mA hv).2 h5
 have h45:=O2 hv (.inr h5)
 rw [he] at hK
 have fin:∀ (v:Vl) (e:Int) (R:Hp),jQ (a8 s N u) t.s b=(v,e)->W.Fin 0 K (.tu [.gs (aM v),iA .i64 e]) R:=fun v e R h=>by
  have hK:K (.tu [.gs (aM (jQ (a8 s N u) t.s b).1),iA .i64 (jQ (a8 s N u) t.s b).2]) []:=hK
  rw [h] at hK; exact .sel [] (by simp) (by simp) rfl (.done (by rw [aJ] at hK ⊢; simpa [go_sem] using hK))
 have fin2:∀ (l:List Vl),jQ (a8 s N u) t.s b=(.mk 5 0 (mk []) l [],0)->K (.tu [.gs (aM (.mk 5 0 (mk []) l [])),iA .i64 0]) []:=fun l h=>by
  have hK:K (.tu [.gs (aM (jQ (a8 s N u) t.s b).1),iA .i64 (jQ (a8 s N u) t.s b).2]) []:=hK
  rw [h] at hK; exact hK
 clear hK
 unfold jQ at fin fin2
 have hcl:=rW b
 have hcn:=UL b
 simp (maxSteps:=1000000) -dsimp only [go_sem,aF,aL t,aEE,aBK]
 refine yI (by omega) ?_
 generalize aX b=z at *
 obtain ⟨n,r,e⟩:=z
 simp only at fin fin2 hcl hcn ⊢
 simp (maxSteps:=1000000) -dsimp only [go_sem]
 refine aB rfl (.done ?_)
 cases c1:e != 0 with
 | true=>
  rw [c1,cond_true] at fin
  simp (maxSteps:=1000000) -dsimp only [go_sem,wS,c1]
  exact fin v0 _ _ rfl
 | false=>
 rw [c1,cond_false] at fin fin2
 simp (maxSteps:=1000000) -dsimp only [go_sem,wS,c1]
 refine aB rfl (.done ?_)
 have hw:IntKind.u64.wrap t.s=t.s:=by
  have:=p8 (n:=t.s.toNat) (by omega)
  rwa [Int.toNat_of_nonneg (by omega)] at this
 cases c2:decide (t.s < (n:Int)) with
 | true=>
  rw [c2,cond_true] at fin
  simp (maxSteps:=1000000) -dsimp only [go_sem,wZ,hw,c2]
  exact fin v0 _ _ rfl
 | false=>
 rw [c2,cond_false] at fin fin2
 have c2':=of_decide_eq_false c2
 simp (maxSteps:=1000000) -dsimp only [go_sem,wZ,hw,c2]
 refine aB rfl (.done ?_)
 simp (maxSteps:=1000000) -dsimp only [go_sem,EE]
 refine aB rfl (.done ?_)
 simp (maxSteps:=1000000) -dsimp only [go_sem,GE]
 refine eP (α:=Nat × List UInt8 × List Vl) (fun z=>[(2,tS (mk z.2.1)),(3,.va (.c1 (.pt 0 0))),(4,.va (.c1 (.pt 1 0))),(6,.va (.c1 (.pt 2 0))),(10,.va (.c1 (.pt 3 0))),(32,iS .u64 n),(33,iS .u64 z.1)])
  (fun z=>[.cells [.vl (.int .i64 s.ver),.fz (s.es.map aY),.fz (s.ss.map aI)] 25,.cells [.vl (.int .i64 t.k),.vl (.int .i64 t.s),.vl (.string t.n),.fz (t.e.map aU)] 42,.cells [.vl (.int .i64 0),.vl (.int .i64 0),.vl (.string (mk [])),.vl (.slice none 0 0),.vl (.slice none 0 0)] 29,
    .cells [.vl (.int .i64 5),.vl (.int .i64 0),.vl (.string (mk [])),.sl 4 z.2.2.length,.vl (.slice none 0 0)] 29,.row (z.2.2.map aM) 29 5])
  (fun z=>z.1<=n/\z.2.2.length=z.1/\z.2.1.length<=b.length/\tU z.2.2 (b9 (a8 s N u) (n - z.1) z.2.1)=b9 (a8 s N u) n r) (fun z=>n - z.1)
  (.nilc 3 3 29 5 [.vl (.int .i64 5),.vl (.int .i64 0),.vl (.string (mk [])),.vl (.slice none 0 0),.vl (.slice none 0 0)] 29 rfl rfl (p7 (0,r,[]) 5 ⟨Nat.zero_le _,rfl,hcl.1,by rw [Nat.sub_zero]; exact V7 _ _⟩ ?_ ?_)) ?_
 · simp -dsimp only [go_sem]<;>simp
 · simp -dsimp only [go_sem]<;>simp
 rintro ⟨i,x,acc⟩ ⟨hi,hal,hxl,ho⟩
 simp only at hi hal hxl ho ⊢
 rcases bE i n with hlt | hge
 · have hg:decide ((i:Int) < (n:Int))=true:=by simp; omega
   obtain ⟨m,hm⟩:∃ m,n - i=m + 1:=⟨n - i - 1,by omega⟩
   have hm':m=n - (i + 1):=by omega
   rw [hm,PS] at ho
   have htl:=E8 x
   simp (maxSteps:=1000000) -dsimp only [go_sem,hg]
   refine aB rfl (.done ?_)
   simp (maxSteps:=1000000) -dsimp only [go_sem,GA]
   refine IJ (by omega) ?_
   generalize bI x=z at *
   obtain ⟨c,q,e2⟩:=z
   simp only at ho htl ⊢
   simp (maxSteps:=1000000) -dsimp only [go_sem]
   refine aB rfl (.done ?_)
   cases d1:e2 != 0 with
   | true=>
    rw [d1,cond_true,JR acc d1] at ho
    rw [<-ho] at fin
    simp only [d1,cond_true] at fin
    simp (maxSteps:=1000000) -dsimp only [go_sem,tI,d1]
    exact fin v0 _ _ rfl
   | false=>
    rw [d1,cond_false] at ho
    simp (maxSteps:=1000000) -dsimp only [go_sem,tI,d1]
    refine aB rfl (.done ?_)
    have z0:(0:Int) < ((1:Nat):Int):=by decide
    have z1:(0:Int)<=0:=by decide
    have hvo:=n7 hs hd N u c hto hu (by omega)
    simp (maxSteps:=1000000) -dsimp only [go_sem,AI,he,aL u,forall_eq',z0,z1,List.length_cons,List.length_nil,List.take_succ_cons,List.take_zero]
    refine NF hd hs hto hu (by omega) (by omega) ?_
    generalize a8 s N u c=w at *
    obtain ⟨y,e3⟩:=w
    simp only at ho hvo ⊢
    simp (maxSteps:=1000000) -dsimp only [go_sem]
    refine aB rfl (.done ?_)
    cases d2:e3 != 0 with
    | true=>
     rw [d2,cond_true,JR acc d2] at ho
     rw [<-ho] at fin
     simp only [d2,cond_true] at fin
     simp (maxSteps:=1000000) -dsimp only [go_sem,s9,d2]
     exact fin v0 _ _ rfl
    | false=>
     rw [d2,cond_false,YM,hm'] at ho
     simp (maxSteps:=1000000) -dsimp only [go_sem,s9,d2]
     refine aB rfl (.done ?_)
     simp (maxSteps:=1000000) -dsimp only [go_sem,yR,List.take_succ_cons,List.take_zero,List.length_cons,List.length_nil]
     refine ⟨by omega,by omega,aE (i + 1,q,acc ++ [y]) 5 ⟨by simp only; omega,by simp only [List.length_append,List.length_singleton]; omega,by simp only; omega,ho⟩ (by simp only; omega) ?_ ?_⟩
     · simp -dsimp only [go_sem]<;>simp
     · simp -dsimp only [go_sem,he,aL u]<;>simp [he,aL u,aJ y]
 · have hg:decide ((i:Int) < (n:Int))=false:=by simp; omega
   obtain rfl:i=n:=by omega
   rw [Nat.sub_self] at ho
   have ho:((acc ++ [],x),(0:Int))=b9 (a8 s N u) i r:=ho
   rw [List.append_nil] at ho
   rw [<-ho] at fin fin2
   simp only [bne_self_eq_false,cond_false] at fin fin2
   simp (maxSteps:=1000000) -dsimp only [go_sem,hg]
   refine aB rfl (.done ?_)
   cases d1:x == [] with
   | false=>
    rw [d1] at fin
    simp (maxSteps:=1000000) -dsimp only [go_sem,tE,d1,Bool.not_false]
    exact fin v0 _ _ rfl
   | true=>
    rw [d1] at fin2
    simp (maxSteps:=1000000) -dsimp only [go_sem,tE,d1,Bool.not_true]
    refine .pub 4 _ _ _ rfl (.sel [] (by simp) (by simp [dA]) rfl (.done ?_))
    have:=fin2 acc rfl
    rw [aJ] at this
    simp -dsimp only [go_sem,dA]
    simpa [Vl.k,Vl.n,Vl.s,Vl.l,Vl.f,hal] using this
def lN (L:List (Int × Vl)):List Value:=L.map fun y=>.int .i64 y.1
def m2 (L:List (Int × Vl)):List A:=L.map fun y=>.gs (aM y.2)
theorem LU (k:Int):∀ (L:List (Int × Vl)),eN (lN L) (m2 L) (.int .i64 k)=(bX L k).map fun y=>.gs (aM y.2)
 | []=>rfl
 | y :: L=>by
  have ih:=LU k L
  unfold eN at ih ⊢
  show ((gC (.int .i64 y.1 :: lN L) (.int .i64 k)).bind fun i=>(A.gs (aM y.2) :: m2 L)[i]?)=_
  rw [gC,kB]
  show ((bif k == y.1 then some 0 else (gC (lN L) (.int .i64 k)).map (· + 1)).bind fun i=>(A.gs (aM y.2) :: m2 L)[i]?)=_
  by_cases h:y.1=k
  · rw [if_pos h,show (k == y.1)=true by simp [h]]; rfl
  · rw [if_neg h,show (k == y.1)=false by simp; omega,cond_false,<-ih]
    cases gC (lN L) (.int .i64 k)<;>rfl
theorem NS {L:List (Int × Vl)} {k:Int} (h:∀ x ∈ L,x.1 < k):gC (lN L) (.int .i64 k)=none:=by
 induction L with
 | nil=>rfl
 | cons y L ih=>
  show gC (.int .i64 y.1 :: lN L) (.int .i64 k)=none
  rw [gC]
  show (bif k == y.1 then some 0 else (gC (lN L) (.int .i64 k)).map (· + 1))=none
  have:=h y (List.mem_cons_self ..)
  rw [show (k == y.1)=false by simp; omega,cond_false,ih fun x hx=>h x (List.mem_cons_of_mem _ hx)]; rfl
theorem XD {L:List (Int × Vl)} {k:Int} (h:∀ x ∈ L,x.1 < k) (v:Vl):gJ (lN L) (.int .i64 k)=lN (L ++ [(k,v)]):=by
 unfold gJ
 rw [NS h]
 unfold lN
 rw [List.map_append]; rfl
theorem X9 {L:List (Int × Vl)} {k:Int} (h:∀ x ∈ L,x.1 < k) (v:Vl):gV (lN L) (m2 L) (.int .i64 k) (.gs (aM v))=m2 (L ++ [(k,v)]):=by
 unfold gV
 rw [NS h]
 unfold m2
 rw [List.map_append]; rfl
theorem YC {s:Sc} {t:Ty} {z:Vl} {K:S->Hp->Prop} (h1:s.fit) (h2:TyOk t) (hz:z=zF s 23 t) (hK:K (.va (.gs [.vl (.int .i64 z.k),.vl (.int .i64 z.n),.vl (.string z.s),.fz (z.l.map aM),.fz (z.f.map bC)])) []) :
 FT [.va (.gs [.vl (.int .i64 s.ver),.fz (s.es.map aY),.fz (s.ss.map aI)]),.va (.gs [.vl (.int .i64 t.k),.vl (.int .i64 t.s),.vl (.string t.n),.fz (t.e.map aU)])] [] K:=by
 subst hz
 exact yU h1 h2 (by rw [aJ]; exact hK)
theorem XR (f:Nat->Option Nat) (v:Vl):(aM v).map (C.ren f)=aM v:=by rw [aJ]; rfl
theorem iR (f:Nat->Option Nat) (L:List (Int × Vl)):(m2 L).map (A.ren f)=m2 L:=by
 unfold m2
 rw [List.map_map]
 refine List.map_congr_left fun y _=>?_
 show A.gs ((aM y.2).map (C.ren f))=_
 rw [XR]
theorem PJ {s:Sc} {fs:List Fl} {L:List (Int × Vl)} {i:Nat} {f:Fl} (h:fs[i]? = some f):eJ s (fs.take (i + 1)) L=eJ s (fs.take i) L ++ iE s L f:=by
 unfold eJ; rw [fK h,List.flatMap_append]; simp
structure DsP (N:Nat) (s:Sc) (u:St):Prop where
 d:Dg s
 f:s.fit
 t:∃ t:Ty,stOf s t=u
 n:∀ f ∈ u.fs,hS s f.ty < N
def TP (N:Nat):W.Spec:=fun av H K=>∃ (s:Sc) (u:St) (b:List UInt8),av=[.va (.gs (aF s)),.va (.gs (aI u)),tS (mk b)]/\H=[]/\DsP N s u/\b.length<=1000000000/\K (.tu [.gs (aM (jG (a8 s N) s u.fs b).1),iA .i64 (jG (a8 s N) s u.fs b).2]) []
theorem HK {N:Nat} {s:Sc} {u:St} {b:List UInt8} {K:S->Hp->Prop} (hp:DsP N s u) (hb:b.length<=1000000000) (hK:K (.tu [.gs (aM (jG (a8 s N) s u.fs b).1),iA .i64 (jG (a8 s N) s u.fs b).2]) []) :
 TP N [.va (.gs [.vl (.int .i64 s.ver),.fz (s.es.map aY),.fz (s.ss.map aI)]),.va (.gs [.vl (.string u.nm),.fz (u.fs.map aT)]),tS (mk b)] [] K:=⟨s,u,b,rfl,rfl,hp,hb,hK⟩
noncomputable def I0 (N:Nat):cL:=[(53,.s C9),(54,.s qA),(55,.s (z7 N)),(45,.s FT),(44,.f eqFn2)]
theorem aCA (N:Nat):sp (I0 N) 53=C9:=rfl
theorem aAP (N:Nat):sp (I0 N) 54=qA:=rfl
theorem aBV (N:Nat):sp (I0 N) 55=z7 N:=rfl
theorem LS (N:Nat):sp (I0 N) 45=FT:=rfl
theorem x8 (N:Nat):kF (I0 N) 44=some eqFn2:=rfl
abbrev zvC:List C:=[.vl (.int .i64 0),.vl (.int .i64 0),.vl (.string (mk [])),.vl (.slice none 0 0),.vl (.slice none 0 0)]
theorem qR {N:Nat} (hD:Meets Tryz.prog 55 (z7 N)):Meets Tryz.prog 30 (TP N):=by
 refine aD (Γ:=I0 N) Tryz.func30 aKG 3 (by rw [Tryz.ntmps30]; decide) (aC W3 (aC qZ (aC hD (aC TJ (aG HL (aA _)))))) (fun av H K h=>by obtain ⟨_,_,_,rfl,_⟩:=h; rfl) ?_
 rintro av H K ⟨s,u,b,rfl,rfl,⟨hd,hs,⟨t,htu⟩,hfd⟩,hb,hK⟩
 have hnst:=hd.ni.stOf t
 have huo:=fH hs t
 rw [htu] at hnst huo
 have hus:∀ f ∈ u.fs,TySm f.ty:=by
  rw [<-htu]
  unfold stOf
  cases hf:fS s.ss t.n with
  | none=>exact fun f hf=>(List.not_mem_nil hf).elim
  | some w=>exact (hs.sm w (gO hf).1).2
 have hul:=hnst.l
 have fin:∀ (v:Vl) (e:Int) (R:Hp),jG (a8 s N) s u.fs b=(v,e)->W.Fin 0 K (.tu [.gs (aM v),iA .i64 e]) R:=fun v e R h=>by
  rw [h] at hK; exact .sel [] (by simp) (by simp) rfl (.done (by rw [aJ] at hK ⊢; simpa [go_sem] using hK))
 have fin2:∀ (l:List (Int × Vl)),jG (a8 s N) s u.fs b=(.mk 6 0 (mk []) [] l,0)->K (.tu [.gs (aM (.mk 6 0 (mk []) [] l)),iA .i64 0]) []:=fun l h=>by rw [h] at hK; exact hK
 clear hK
 unfold jG at fin fin2
 simp (maxSteps:=1000000) -dsimp only [go_sem,aF,aI,aBP,YR]
 refine aS (α:=Nat × Int × List UInt8 × List (Int × Vl)) (fun z=>[(2,tS (mk z.2.2.1)),(3,.va (.c1 (.pt 0 0))),(4,.va (.c1 (.pt 1 0))),(6,.va (.c1 (.pt 2 0))),(8,.va (.c1 (.mp 3))),(9,iS .i64 z.2.1)])
  (fun z=>[.cells [.vl (.int .i64 s.ver),.fz (s.es.map aY),.fz (s.ss.map aI)] 25,.cells [.vl (.string u.nm),.fz (u.fs.map aT)] 48,.cells zvC 29,.map (.int .i64) (lN z.2.2.2) (m2 z.2.2.2)])
  (fun z=>z.2.2.1.length<=z.1/\z.2.2.1.length<=b.length/\(∀ x ∈ z.2.2.2,x.1<=z.2.1/\VlOk x.2)/\mZ z.2.2.2 (cN (a8 s N) s u.fs z.1 z.2.1 z.2.2.1)=cN (a8 s N) s u.fs b.length 0 b) (fun z=>z.1) (b.length,0,b,[]) 4
  ⟨Nat.le_refl _,Nat.le_refl _,fun x h=>(by cases h),WG (UV _ _ _)⟩ ?_ ?_ ?_
 · simp -dsimp only [go_sem]<;>simp
 · simp -dsimp only [go_sem]<;>simp [lN,m2]
 rintro ⟨g,last,x,acc⟩ ⟨hg,hl,ha,ho⟩
 simp only at hg hl ha ho ⊢
 by_cases hb0:x=[]
 · subst hb0
   have e0:(([]:List UInt8) == [])=true:=rfl
   rw [sN,Z0,List.append_nil] at ho
   rw [<-ho] at fin2
   have fin2:=fin2 (eJ s u.fs acc) rfl
   simp (maxSteps:=1000000) -dsimp only [go_sem,e0,Bool.not_true]
   refine aB rfl (.done ?_)
   simp (maxSteps:=1000000) -dsimp only [go_sem,zH]
   refine aB rfl (.done ?_)
   simp (maxSteps:=1000000) -dsimp only [go_sem,AY]
   clear ho hg hl e0
   refine eP (α:=Nat) (fun i=>[(3,.va (.c1 (.pt 0 0))),(6,.va (.c1 (.pt 2 0))),(8,.va (.c1 (.mp 3))),(16,.va (.c1 (.pt 4 0))),(92,.va (.c1 (.fz (u.fs.map aT)))),(93,iS .i64 u.fs.length),(94,iS .i64 i)])
    (fun i=>[.cells [.vl (.int .i64 s.ver),.fz (s.es.map aY),.fz (s.ss.map aI)] 25,.cells [.vl (.string u.nm),.fz (u.fs.map aT)] 48,.cells zvC 29,.map (.int .i64) (lN acc) (m2 acc),
      .cells [.vl (.int .i64 6),.vl (.int .i64 0),.vl (.string (mk [])),.vl (.slice none 0 0),.sl 5 (eJ s (u.fs.take i) acc).length] 29,.row ((eJ s (u.fs.take i) acc).map bC) 76 6])
    (fun i=>i<=u.fs.length) (fun i=>u.fs.length - i) (.nilc 4 4 76 6 _ _ rfl rfl (p7 0 6 (Nat.zero_le _) ?_ ?_)) ?_
   · simp -dsimp only [go_sem]<;>simp
   · simp -dsimp only [go_sem]<;>simp [eJ,iR]
   intro i hi
   have hli:=Nat.le_trans (HZ s (u.fs.take i) acc) (List.length_take_le i u.fs)
   rcases bE i u.fs.length with hlt | hge
   · have hg:decide ((i:Int) < (u.fs.length:Int))=true:=by simp; omega
     have hx:u.fs[i]? = some u.fs[i]:=aW hlt
     have q2:=a7 (row:=aT) hx
     have hfo:=(huo.fs _ (List.getElem_mem hlt)).ty
     have hnx:=PJ (s:=s) (L:=acc) hx
     generalize u.fs[i]=f at *
     unfold iE at hnx
     have hmi:=LU f.num acc
     simp (maxSteps:=1000000) -dsimp only [go_sem,hg,↓q2,aT]
     refine ⟨by omega,aB rfl (.done ?_)⟩
     cases hv:bX acc f.num with
     | some y=>
      rw [hv] at hmi hnx
      have hmi:eN (lN acc) (m2 acc) (.int .i64 f.num)=some (.gs [.vl (.int .i64 y.2.k),.vl (.int .i64 y.2.n),.vl (.string y.2.s),.fz (y.2.l.map aM),.fz (y.2.f.map bC)]):=by rw [hmi,<-aJ]; rfl
      have hnx:eJ s (u.fs.take (i + 1)) acc=eJ s (u.fs.take i) acc ++ [(f.num,y.2)]:=hnx
      simp (maxSteps:=1000000) -dsimp only [go_sem,tK,hmi,U9]
      refine aB rfl (.done ?_)
      simp (maxSteps:=1000000) -dsimp only [go_sem,oY,Bool.not_true,Bool.false_and]
      refine aB rfl (.done ?_)
      simp (maxSteps:=1000000) -dsimp only [go_sem,sM,Bool.not_true]
      refine aB rfl (.done ?_)
      simp (maxSteps:=1000000) -dsimp only [go_sem,tG,List.take_succ_cons,List.take_zero,List.length_cons,List.length_nil]
      refine ⟨by omega,by omega,aE (i + 1) 6 (by omega) (by omega) ?_ ?_⟩
      · simp -dsimp only [go_sem]<;>simp
      · simp -dsimp only [go_sem,hnx]<;>simp [iR,jN]
     | none=>
      rw [hv] at hmi hnx
      have hmi:eN (lN acc) (m2 acc) (.int .i64 f.num)=none:=hmi
      have hnx:eJ s (u.fs.take (i + 1)) acc=eJ s (u.fs.take i) acc ++ (bif f.opt then [] else [(f.num,zF s 23 f.ty)]):=hnx
      simp (maxSteps:=1000000) -dsimp only [go_sem,tK,hmi,U9]
      refine aB rfl (.done ?_)
      cases hopt:f.opt with
      | true=>
       rw [hopt,cond_true,List.append_nil] at hnx
       simp (maxSteps:=1000000) -dsimp only [go_sem,oY,Bool.not_false,Bool.true_and,hopt]
       refine ⟨by omega,aE (i + 1) 6 (by omega) (by omega) ?_ ?_⟩
       · simp -dsimp only [go_sem]<;>simp
       · simp -dsimp only [go_sem,hnx]<;>simp [iR]
      | false=>
       rw [hopt,cond_false] at hnx
       simp (maxSteps:=1000000) -dsimp only [go_sem,oY,Bool.not_false,Bool.true_and,hopt]
       refine aB rfl (.done ?_)
       simp (maxSteps:=1000000) -dsimp only [go_sem,sM,Bool.not_false]
       refine aB rfl (.done ?_)
       simp (maxSteps:=1000000) -dsimp only [go_sem,zS,LS,List.take_succ_cons,List.take_zero,List.drop_succ_cons,List.drop_zero,List.length_cons,List.length_nil]
       refine yU hs hfo ?_
       generalize zF s 23 f.ty=w at *
       simp (maxSteps:=1000000) -dsimp only [go_sem,aJ w]
       refine aB rfl (.done ?_)
       simp (maxSteps:=1000000) -dsimp only [go_sem,tG,List.take_succ_cons,List.take_zero,List.length_cons,List.length_nil]
       refine ⟨by omega,by omega,aE (i + 1) 6 (by omega) (by omega) ?_ ?_⟩
       · simp -dsimp only [go_sem]<;>simp
       · simp -dsimp only [go_sem,hnx]<;>simp [iR,jN]
   · have hg:decide ((i:Int) < (u.fs.length:Int))=false:=by simp; omega
     rw [List.take_of_length_le hge] at *
     simp (maxSteps:=1000000) -dsimp only [go_sem,hg]
     refine .pub 5 _ _ _ rfl (.sel [] (by simp) (by simp [dA]) rfl (.done ?_))
     rw [aJ] at fin2
     simp -dsimp only [go_sem,dA]
     simpa [Vl.k,Vl.n,Vl.s,Vl.l,Vl.f] using fin2
 · have e0:(x == [])=false:=by simpa using hb0
   obtain ⟨g,rfl⟩:∃ k,g=k + 1:=⟨g - 1,by have:=List.length_pos_iff.2 hb0; omega⟩
   rw [mD hb0] at ho
   have hfl:=DU x last
   have hfo:=UW x last
   simp (maxSteps:=1000000) -dsimp only [go_sem,e0,Bool.not_false]
   refine aB rfl (.done ?_)
   simp (maxSteps:=1000000) -dsimp only [go_sem,G1,aCA]
   refine X5 (by omega) ?_
   generalize aZ x last=z at *
   obtain ⟨⟨a,c⟩,r,e⟩:=z
   simp only at ho hfl hfo ⊢
   simp (maxSteps:=1000000) -dsimp only [go_sem]
   refine aB rfl (.done ?_)
   cases c1:e != 0 with
   | true=>
    rw [c1,cond_true,yH acc c1] at ho
    rw [<-ho] at fin
    simp only [c1,cond_true] at fin
    simp (maxSteps:=1000000) -dsimp only [go_sem,xE,c1]
    exact fin v0 _ _ rfl
   | false=>
   rw [c1,cond_false] at ho
   have hlt:=hfl.2.2 (eL c1)
   obtain ⟨ha1,ha2,ha3⟩:last < a/\0<=a/\a<=2147483647:=by
    rcases hfo with h | ⟨_,h1,h2,h3,_⟩
    · exact absurd (eL c1) h
    · exact ⟨h1,h2,h3⟩
   simp (maxSteps:=1000000) -dsimp only [go_sem,xE,c1]
   refine aB rfl (.done ?_)
   simp (maxSteps:=1000000) -dsimp only [go_sem,EO]
   refine aB rfl (.done ?_)
   simp (maxSteps:=1000000) -dsimp only [go_sem,G5,aAP]
   refine zJ (t:=u) huo hus ?_
   cases hf:fF u.fs a with
   | none=>
    rw [hf] at ho
    simp only [Option.isSome_none,Bool.not_false,cond_true] at ho
    simp (maxSteps:=1000000) -dsimp only [go_sem,Option.getD_none,Option.isSome_none,sJ]
    refine aB rfl (.done ?_)
    simp (maxSteps:=1000000) -dsimp only [go_sem,vW,Bool.not_false]
    refine aE (g,a,r,acc) 4 ⟨by simp only; omega,by simp only; omega,fun y hy=>⟨by have:=(ha y hy).1; simp only; omega,(ha y hy).2⟩,ho⟩ (by simp only; omega) ?_ ?_
    · simp -dsimp only [go_sem]<;>simp
    · simp -dsimp only [go_sem]<;>simp [iR]
   | some f=>
    obtain ⟨hfm,hfe⟩:=zT hf
    have hfo:=(huo.fs f hfm).ty
    have hfv:=hnst.v f hfm
    have hfN:=hfd f hfm
    have hvo:=n7 hs hd N f.ty c hfo hfv (by omega)
    have hnew:∀ y ∈ acc,y.1 < a:=fun y hy=>by have:=(ha y hy).1; omega
    rw [hf] at ho
    simp only [Option.isSome_some,Bool.not_true,cond_false,Option.getD_some] at ho
    unfold rA at ho
    simp (maxSteps:=1000000) -dsimp only [go_sem,Option.getD_some,Option.isSome_some,aT]
    refine aB rfl (.done ?_)
    simp (maxSteps:=1000000) -dsimp only [go_sem,vW,Bool.not_true]
    refine aB rfl (.done ?_)
    simp (maxSteps:=1000000) -dsimp only [go_sem,zY,aBV]
    refine NF hd hs hfo hfv hfN (by omega) ?_
    generalize a8 s N f.ty c=w at *
    obtain ⟨v,e2⟩:=w
    simp only at ho hvo ⊢
    simp (maxSteps:=1000000) -dsimp only [go_sem]
    refine aB rfl (.done ?_)
    cases d1:e2 != 0 with
    | true=>
     have d0:(e2 == 0)=false:=by simpa using iZ d1
     rw [d1,cond_true,d1,cond_true,yH acc d1] at ho
     rw [<-ho] at fin
     simp only [d1,cond_true] at fin
     simp (maxSteps:=1000000) -dsimp only [go_sem,oZ,iO,d0,Bool.false_and]
     refine aB rfl (.done ?_)
     simp (maxSteps:=1000000) -dsimp only [go_sem,iU,d1]
     exact fin v0 _ _ rfl
    | false=>
     have d0:=eL d1
     subst d0
     have e00:((0:Int) == 0)=true:=rfl
     have e20:((2:Int) != 0)=true:=rfl
     rw [d1,cond_false] at ho
     have hpk:=XD hnew v
     have hpv:=X9 hnew v
     rw [aJ v] at hpv
     have bad:(!f.opt && (dG v (zF s 23 f.ty) && (f.ty.k != 6 || c == [])))=true->∀ R:Hp,W.Fin 0 K (.tu [.gs (aM v0),iA .i64 2]) R:=fun h R=>by
      rw [h,cond_true,e20,cond_true,yH acc e20] at ho
      rw [<-ho] at fin
      exact fin v0 2 R rfl
     have good:(!f.opt && (dG v (zF s 23 f.ty) && (f.ty.k != 6 || c == [])))=false->mZ (acc ++ [(a,v)]) (cN (a8 s N) s u.fs g a r)=cN (a8 s N) s u.fs b.length 0 b:=fun h=>by
      rw [h,cond_false,d1,cond_false,aC3] at ho
      exact ho
     have hacc:∀ y ∈ acc ++ [(a,v)],y.1<=a/\VlOk y.2:=fun y hy=>by
      rcases List.mem_append.1 hy with hy | hy
      · exact ⟨by have:=hnew y hy; omega,(ha y hy).2⟩
      · obtain rfl:=List.mem_singleton.1 hy; exact ⟨Int.le_refl _,hvo⟩
     clear ho fin fin2
     cases hopt:f.opt with
     | true=>
      rw [hopt] at good
      have good:=good rfl
      simp (maxSteps:=1000000) -dsimp only [go_sem,oZ,iO,e00,hopt,Bool.not_true,Bool.true_and,Bool.false_and]
      refine aB rfl (.done ?_)
      simp (maxSteps:=1000000) -dsimp only [go_sem,iU,d1]
      refine aB rfl (.done ?_)
      simp (maxSteps:=1000000) -dsimp only [go_sem,oL,hpk,hpv]
      refine aE (g,a,r,acc ++ [(a,v)]) 4 ⟨by simp only; omega,by simp only; omega,hacc,good⟩ (by simp only; omega) ?_ ?_
      · simp -dsimp only [go_sem]<;>simp
      · simp -dsimp only [go_sem]<;>simp [iR]
     | false=>
      rw [hopt] at good bad
      simp only [Bool.not_false,Bool.true_and] at good bad
      have hzo:=C0 hs 23 f.ty hfo
      obtain ⟨z,hz⟩:∃ z,z=zF s 23 f.ty:=⟨_,rfl⟩
      rw [<-hz] at good bad hzo
      simp (maxSteps:=1000000) -dsimp only [go_sem,oZ,e00,hopt,Bool.not_false,Bool.not_true,Bool.true_and,Bool.false_and,LS]
      refine YC hs hfo hz ?_
      clear hz
      have k1:=cD hvo
      have k2:=dS v
      have kz1:=cD hzo
      have kz2:=dS z
      cases heq:dG v z with
      | false=>
       rw [heq] at good
       have good:=good rfl
       simp (maxSteps:=1000000) -dsimp only [go_sem,iO,x8,k1,k2,kz1,kz2,heq,Bool.true_and,Bool.false_and]
       refine aB rfl (.done ?_)
       simp (maxSteps:=1000000) -dsimp only [go_sem,iU,d1]
       refine aB rfl (.done ?_)
       simp (maxSteps:=1000000) -dsimp only [go_sem,oL,hpk,hpv]
       refine aE (g,a,r,acc ++ [(a,v)]) 4 ⟨by simp only; omega,by simp only; omega,hacc,good⟩ (by simp only; omega) ?_ ?_
       · simp -dsimp only [go_sem]<;>simp
       · simp -dsimp only [go_sem]<;>simp [iR]
      | true=>
       rw [heq] at good bad
       simp only [Bool.true_and] at good bad
       cases h6:f.ty.k != 6 with
       | true=>
        rw [h6] at bad
        have bad:=bad rfl
        simp (maxSteps:=1000000) -dsimp only [go_sem,iO,x8,k1,k2,kz1,kz2,heq,h6,Bool.true_and,Bool.true_or]
        refine aB rfl (.done ?_)
        simp (maxSteps:=1000000) -dsimp only [go_sem,iU,e20]
        exact bad _
       | false=>
        rw [h6] at good bad
        simp only [Bool.false_or] at good bad
        cases hc:c == [] with
        | true=>
         have bad:=bad hc
         simp (maxSteps:=1000000) -dsimp only [go_sem,iO,x8,k1,k2,kz1,kz2,heq,h6,hc,Bool.true_and,Bool.false_or]
         refine aB rfl (.done ?_)
         simp (maxSteps:=1000000) -dsimp only [go_sem,iU,e20]
         exact bad _
        | false=>
         have good:=good hc
         simp (maxSteps:=1000000) -dsimp only [go_sem,iO,x8,k1,k2,kz1,kz2,heq,h6,hc,Bool.true_and,Bool.false_or]
         refine aB rfl (.done ?_)
         simp (maxSteps:=1000000) -dsimp only [go_sem,iU,d1]
         refine aB rfl (.done ?_)
         simp (maxSteps:=1000000) -dsimp only [go_sem,oL,hpk,hpv]
         refine aE (g,a,r,acc ++ [(a,v)]) 4 ⟨by simp only; omega,by simp only; omega,hacc,good⟩ (by simp only; omega) ?_ ?_
         · simp -dsimp only [go_sem]<;>simp
         · simp -dsimp only [go_sem]<;>simp [iR]
def aC9 (N:Nat):W.Spec:=fun av H K=>∃ v:Vl,av=[.va (.gs (aM v))]/\H=[]/\VlOk v/\v.h<=N/\K (.va (.gs (aM v))) []
theorem D0 {N:Nat} {v:Vl} {K:S->Hp->Prop} (h1:VlOk v) (h2:v.h<=N) (hK:K (.va (.gs [.vl (.int .i64 v.k),.vl (.int .i64 v.n),.vl (.string v.s),.fz (v.l.map aM),.fz (v.f.map bC)])) []) :
 aC9 N [.va (.gs [.vl (.int .i64 v.k),.vl (.int .i64 v.n),.vl (.string v.s),.fz (v.l.map aM),.fz (v.f.map bC)])] [] K:=⟨v,by rw [aJ],rfl,h1,h2,by rw [aJ]; exact hK⟩
theorem JB:∀ N,Meets Tryz.prog 81 (aC9 N)
 | 0=>⟨by kernel_rfl,by rintro xs vs E ro w K _ _ _ ⟨v,_,_,_,h,_⟩; have:=v.h_pos; omega⟩
 | N + 1=>by
  refine aD Tryz.func81 aK1 1 (by rw [Tryz.ntmps81]; decide) (aC (JB N) (aA _)) (fun av H K h=>by obtain ⟨_,rfl,_⟩:=h; rfl) ?_
  rintro av H K ⟨v,rfl,rfl,hv,hh,hK⟩
  have hll:=hv.ll
  have hlf:=hv.lf
  rw [aJ] at hK
  simp (maxSteps:=1000000) -dsimp only [go_sem,aJ v,aC7,aCJ]
  refine eP (α:=Nat) (fun i=>[(1,.va (.c1 (.pt 0 0))),(2,.va (.c1 (.pt 1 0))),(4,.va (.c1 (.fz (v.f.map bC)))),(15,.va (.c1 (.fz (v.l.map aM)))),(16,iS .i64 v.l.length),(17,iS .i64 i)])
   (fun i=>[.cells [.vl (.int .i64 v.k),.vl (.int .i64 v.n),.vl (.string v.s),.sl 2 i,.vl (.slice none 0 0)] 29,.cells [.vl (.int .i64 0),.vl (.int .i64 0),.vl (.string (mk [])),.vl (.slice none 0 0),.vl (.slice none 0 0)] 29,.row ((v.l.take i).map aM) 29 5])
   (fun i=>i<=v.l.length) (fun i=>v.l.length - i) (.nilc 0 3 29 5 [.vl (.int .i64 v.k),.vl (.int .i64 v.n),.vl (.string v.s),.vl (.slice none 0 0),.vl (.slice none 0 0)] 29 rfl rfl (p7 0 3 (Nat.zero_le _) ?_ ?_)) ?_
  · simp -dsimp only [go_sem]<;>simp
  · simp -dsimp only [go_sem]<;>simp
  intro i hi
  have hz:(v.l.take i).length=i:=by rw [List.length_take]; omega
  rcases bE i v.l.length with hlt | hge
  · have hg:decide ((i:Int) < (v.l.length:Int))=true:=by simp; omega
    have hx:v.l[i]? = some v.l[i]:=aW hlt
    have q1:=nJ hx
    have hxm:=List.getElem_mem hlt
    have hxo:=hv.l _ hxm
    have hxh:v.l[i].h<=N:=by have:=Vl.h_l hxm; omega
    have htk:=fK hx
    generalize v.l[i]=x at *
    simp (maxSteps:=1000000) -dsimp only [go_sem,hg,↓q1]
    refine ⟨by omega,D0 hxo hxh ?_⟩
    simp (maxSteps:=1000000) -dsimp only [go_sem]
    refine ⟨hz,by omega,by omega,aE (i + 1) 3 (by omega) (by omega) ?_ ?_⟩
    · simp -dsimp only [go_sem]<;>simp
    · simp -dsimp only [go_sem,htk]<;>simp [aJ x]
  · have hg:decide ((i:Int) < (v.l.length:Int))=false:=by simp; omega
    obtain rfl:i=v.l.length:=by omega
    rw [List.take_length]
    simp (maxSteps:=1000000) -dsimp only [go_sem,hg]
    clear hi hge hg hz
    refine eP (α:=Nat) (fun i=>[(1,.va (.c1 (.pt 0 0))),(2,.va (.c1 (.pt 1 0))),(29,.va (.c1 (.fz (v.f.map bC)))),(30,iS .i64 v.f.length),(31,iS .i64 i)])
     (fun i=>[.cells [.vl (.int .i64 v.k),.vl (.int .i64 v.n),.vl (.string v.s),.sl 2 v.l.length,.sl 3 i] 29,.cells [.vl (.int .i64 0),.vl (.int .i64 0),.vl (.string (mk [])),.vl (.slice none 0 0),.vl (.slice none 0 0)] 29,.row (v.l.map aM) 29 5,.row ((v.f.take i).map bC) 76 6])
     (fun i=>i<=v.f.length) (fun i=>v.f.length - i) (.nilc 0 4 76 6 [.vl (.int .i64 v.k),.vl (.int .i64 v.n),.vl (.string v.s),.sl 2 v.l.length,.vl (.slice none 0 0)] 29 rfl rfl (p7 0 4 (Nat.zero_le _) ?_ ?_)) ?_
    · simp -dsimp only [go_sem]<;>simp
    · simp -dsimp only [go_sem]<;>simp
    intro i hi
    have hz:(v.f.take i).length=i:=by rw [List.length_take]; omega
    rcases bE i v.f.length with hlt | hge
    · have hg:decide ((i:Int) < (v.f.length:Int))=true:=by simp; omega
      have hx:v.f[i]? = some v.f[i]:=aW hlt
      have q1:=gG hx
      have hxm:=List.getElem_mem hlt
      have hxo:=hv.f _ hxm
      have hxh:v.f[i].2.h<=N:=by have:=Vl.h_f hxm; omega
      have htk:=fK hx
      generalize v.f[i]=x at *
      simp (maxSteps:=1000000) -dsimp only [go_sem,hg,↓q1,List.take_succ_cons,List.take_zero,List.length_cons,List.length_nil]
      refine ⟨by omega,D0 hxo hxh ?_⟩
      simp (maxSteps:=1000000) -dsimp only [go_sem]
      refine ⟨hz,by omega,by omega,aE (i + 1) 4 (by omega) (by omega) ?_ ?_⟩
      · simp -dsimp only [go_sem]<;>simp
      · simp -dsimp only [go_sem,htk]<;>simp [jN x]
    · have hg:decide ((i:Int) < (v.f.length:Int))=false:=by simp; omega
      obtain rfl:i=v.f.length:=by omega
      rw [List.take_length]
      simp (maxSteps:=1000000) -dsimp only [go_sem,hg]
      refine .pub 2 _ _ _ rfl (.pub 3 _ _ _ rfl (.sel [] (by simp) (by simp [dA]) rfl (.done ?_)))
      simp -dsimp only [go_sem,dA]
      simpa using hK
abbrev Z8:S:=.va (.c1 (.fn 118 [(false,[.pt 0 0])]))
abbrev pZ (k:Int):B:=.cells [.vl (.int .i64 k)] 3
def RB:W.Spec:=fun av H K=>∃ (x:Int × Vl) (k:Int),av=[.va (.gs (JH x)),.va (.c1 (.pt 0 0))]/\H=[pZ k]/\K (bS (x.1 == k)) [pZ k]
theorem WI {x:Int × Vl} {k:Int} {K:S->Hp->Prop} (hK:K (bS (x.1 == k)) [pZ k]):RB [.va (.gs (JH x)),.va (.c1 (.pt 0 0))] [pZ k] K:=⟨x,k,rfl,rfl,hK⟩
theorem XI:Meets Tryz.prog 118 RB:=by
 refine aD Tryz.func118 aGD 2 (by rw [Tryz.ntmps118]; decide) (aA _) (fun av H K h=>by obtain ⟨_,_,rfl,_⟩:=h; rfl) ?_
 rintro av H K ⟨x,k,rfl,rfl,hK⟩
 simp -dsimp only [go_sem,JH,R6,UH]
 exact .sel [0] (by simp) (by simp) rfl (.done (by simpa [go_sem] using hK))
def aAS:W.Spec:=fun av H K=>∃ (l:List (Int × Vl)) (k:Int),av=[.va (.c1 (.fz (l.map bC))),Z8]/\H=[pZ k]/\l.length<=9223372036854775807/\K (iS .i64 (i5 k l 0)) [pZ k]
theorem aB8 {l:List (Int × Vl)} {k:Int} {K:S->Hp->Prop} (h:l.length<=9223372036854775807) (hK:K (iS .i64 (i5 k l 0)) [pZ k]):aAS [.va (.c1 (.fz (l.map bC))),Z8] [pZ k] K:=⟨l,k,rfl,rfl,h,hK⟩
theorem WP:Meets Tryz.prog 117 aAS:=by
 refine aD Tryz.func117 TK 2 (by rw [Tryz.ntmps117]; decide) (aC XI (aA _)) (fun av H K h=>by obtain ⟨_,_,rfl,_⟩:=h; rfl) ?_
 rintro av H K ⟨l,k,rfl,rfl,hl,hK⟩
 simp -dsimp only [go_sem,KT,J8]
 refine aS (α:=Nat) (fun i=>[(0,.va (.c1 (.fz (l.map bC)))),(1,Z8),(7,iS .i64 l.length),(8,iS .i64 i)]) (fun _=>[pZ k])
  (fun i=>i<=l.length/\i5 k (l.drop i) i=i5 k l 0) (fun i=>l.length - i) 0 1 ⟨Nat.zero_le _,rfl⟩ ?_ ?_ ?_
 · simp -dsimp only [go_sem]<;>simp
 · simp -dsimp only [go_sem]<;>simp
 rintro i ⟨hi,ho⟩
 rcases bE i l.length with hlt | hge
 · have hg:decide ((i:Int) < (l.length:Int))=true:=by simp; omega
   have hx:l[i]? = some l[i]:=aW hlt
   have q2:=gG hx
   rw [List.drop_eq_getElem_cons hlt,i5] at ho
   generalize l[i]=y at *
   simp -dsimp only [go_sem,hg,↓q2]
   refine ⟨by omega,WI ?_⟩
   cases hc:y.1 == k with
   | true=>
    rw [hc,bD] at ho
    simp -dsimp only [go_sem]
    exact .sel [0] (by simp) (by simp) rfl (.done (by simpa [go_sem,ho] using hK))
   | false=>
    rw [hc,aV] at ho
    simp -dsimp only [go_sem]
    refine ⟨by omega,aE (i + 1) 1 ⟨by omega,ho⟩ (by omega) ?_ ?_⟩
    · simp -dsimp only [go_sem]<;>simp
    · simp -dsimp only [go_sem]<;>simp
 · have hg:decide ((i:Int) < (l.length:Int))=false:=by simp; omega
   have:l.drop i=[]:=List.drop_eq_nil_iff.2 (by omega)
   rw [this] at ho
   simp -dsimp only [go_sem,hg]
   exact .sel [0] (by simp) (by simp) rfl (.done (by rw [show i5 k l 0=-1 from ho.symm] at hK; simpa [go_sem] using hK))
theorem EF (k:Int):∀ (l:List (Int × Vl)) (i:Nat),(bX l k=none/\i5 k l i=-1)\/(∃ j x,l[j]? = some x/\bX l k=some x/\i5 k l i=((i + j:Nat):Int))
 | [],_=>.inl ⟨rfl,rfl⟩
 | y :: l,i=>by
  rw [i5]
  unfold bX
  rw [List.find?_cons]
  by_cases h:y.1=k
  · rw [show (y.1 == k)=true by simpa using h,decide_eq_true h]
    exact .inr ⟨0,y,rfl,rfl,rfl⟩
  · rw [show (y.1 == k)=false by simpa using h,decide_eq_false h,cond_false]
    rcases EF k l (i + 1) with ⟨h1,h2⟩ | ⟨j,x,h1,h2,h3⟩
    · exact .inl ⟨h1,h2⟩
    · exact .inr ⟨j + 1,x,by simpa using h1,h2,by rw [h3]; congr 1; omega⟩
def C6:List S->Prop:=fun av=>match av with
 | [.va (.gs r),.va (.c1 (.vl (.int .i64 _)))]=>kD r/\(C.vv r).k=6
 | _=>False
theorem pX {av:List S} (h:C6 av):∃ (v:Vl) (k:Int),av=[.va (.gs (aM v)),iS .i64 k]/\VlOk v/\v.k=6:=by
 unfold C6 at h
 split at h
 · obtain ⟨⟨v,rfl,h1⟩,h2⟩:=h; rw [fG] at h2; exact ⟨v,_,rfl,h1,h2⟩
 · exact h.elim
noncomputable def UM:List S->A:=fun av=>match av with
 | [.va (.gs r),.va (.c1 (.vl (.int .i64 k)))]=>iA .i64 (i5 k (C.vv r).f 0)
 | _=>.gs []
noncomputable def vxFn:Fun:=⟨C6,UM,fun av h=>by obtain ⟨v,k,rfl,_⟩:=pX h; trivial⟩
theorem OO:∀ av H K,vxFn.sp av H K->av.length=2:=fun av H K h=>by obtain ⟨v,k,rfl,_⟩:=pX h.1.1; rfl
attribute [go_sem] vxFn C6 UM
theorem X2:Meets Tryz.prog 80 vxFn.sp:=by
 refine aD Tryz.func80 aLE 2 (by rw [Tryz.ntmps80]; decide) (aC WP (aA _)) OO ?_
 rintro av H K ⟨⟨h,rfl⟩,hK⟩
 obtain ⟨v,k,rfl,hv,h6⟩:=pX h
 have hK:K (iS .i64 (i5 k (C.vv (aM v)).f 0)) []:=hK
 rw [fG] at hK
 clear h
 have g6:(v.k != 6)=false:=by rw [h6]; rfl
 have hl:=hv.lf
 simp (maxSteps:=1000000) -dsimp only [go_sem,aJ v,aA5,Z5,g6]
 refine aB8 (by omega) ?_
 simp (maxSteps:=1000000) -dsimp only [go_sem]
 exact .sel [] (by simp) (by simp) rfl (.done (by simpa [go_sem] using hK))
theorem QR (N:Nat):Meets Tryz.prog 43 (fun av H K=>∃ (v:Vl) (k:Int),av=[.va (.gs (aM v)),iS .i64 k]/\H=[]/\VlOk v/\v.k=6/\v.h<=N/\K (.tu [.gs (aM (((bX v.f k).map (·.2)).getD default)),bA (bX v.f k).isSome]) []):=by
 refine aD Tryz.func43 aNX 2 (by rw [Tryz.ntmps43]; decide) (aG X2 (aC (JB N) (aA _))) (fun av H K h=>by obtain ⟨_,_,rfl,_⟩:=h; rfl) ?_
 rintro av H K ⟨v,k,rfl,rfl,hv,h6,hh,hK⟩
 have k1:=cD hv
 have k2:=dS v
 have k3:(v.k=6)=True:=eq_true h6
 have hl:=hv.lf
 rcases EF k v.f 0 with ⟨e1,e2⟩ | ⟨j,x,e0,e1,e2⟩
 · rw [e1] at hK
   have g0:decide ((-1:Int) < 0)=true:=rfl
   simp (maxSteps:=1000000) -dsimp only [go_sem,aJ v,PM,PP,k1,k2,k3,e2]
   refine aB rfl (.done ?_)
   simp (maxSteps:=1000000) -dsimp only [go_sem,xA,g0]
   exact .sel [] (by simp) (by simp) rfl (.done (by simpa [go_sem,AE] using hK))
 · rw [e1] at hK
   rw [Nat.zero_add] at e2
   have hj:=(bH.1 e0).1
   have g0:decide (((j:Nat):Int) < 0)=false:=by simp
   have q2:=gG e0
   have hxm:=cC e0
   simp (maxSteps:=1000000) -dsimp only [go_sem,aJ v,PM,PP,k1,k2,k3,e2]
   refine aB rfl (.done ?_)
   simp (maxSteps:=1000000) -dsimp only [go_sem,xA,g0,↓q2,List.take_succ_cons,List.take_zero,List.length_cons,List.length_nil]
   refine ⟨by omega,D0 (hv.f x hxm) (by have:=Vl.h_f hxm; omega) ?_⟩
   simp (maxSteps:=1000000) -dsimp only [go_sem]
   exact .sel [] (by simp) (by simp) rfl (.done (by simpa [go_sem,aJ x.2] using hK))
theorem WO:Meets Tryz.prog 43 OF:=dX (0:Nat) QR fun av H K h=>by
 obtain ⟨v,k,rfl,e,hv,h6,hK⟩:=h
 exact ⟨v.h,v,k,rfl,e,hv,h6,Nat.le_refl _,hK⟩
end Go.Proofs.YthpbnmebjocbeaaGreat
