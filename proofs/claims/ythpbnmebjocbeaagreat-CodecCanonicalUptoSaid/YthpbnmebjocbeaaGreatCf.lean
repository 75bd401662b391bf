/- Lemmas and walks for the proof. -/
import Derived.Test.YthpbnmebjocbeaaGreatCe
import Derived.Test.YthpbnmebjocbeaaGreatProg
import Derived.ProofKit
import Derived.OpenShut
import Derived.ChangeStays
import Derived.Deep.Slices
import Derived.JoinedCond
import Derived.KernelRfl
import Derived.Test.YthpbnmebjocbeaaGreatRows
set_option maxRecDepth 100000
set_option maxHeartbeats 8000000
namespace Go.Proofs.YthpbnmebjocbeaaGreat
open Go.W
def DJ (P:Sc->St->Vl->Prop):List S->Prop:=fun av=>match av with
 | [.va (.gs r),.va (.gs q),.va (.gs p)]=>lZ r/\Q3 q/\kD p/\P (C.sc r) (C.st q) (C.vv p)
 | _=>False
theorem qL {P:Sc->St->Vl->Prop} {av:List S} (h:DJ P av):∃ s t v,av=[.va (.gs (aF s)),.va (.gs (aI t)),.va (.gs (aM v))]/\s.fit/\t.ok/\VlOk v/\P s t v:=by
 unfold DJ at h
 split at h
 · obtain ⟨⟨s,rfl,hs⟩,⟨t,rfl,ht⟩,⟨v,rfl,hv⟩,h⟩:=h
   rw [jH,wJ,fG] at h
   exact ⟨s,t,v,rfl,hs,ht,hv,h⟩
 · exact h.elim
noncomputable def RI (f:Sc->St->Vl->Value):List S->A:=fun av=>match av with
 | [.va (.gs r),.va (.gs q),.va (.gs p)]=>.c1 (.vl (f (C.sc r) (C.st q) (C.vv p)))
 | _=>.gs []
noncomputable def D3 (P:Sc->St->Vl->Prop) (f:Sc->St->Vl->Value):Fun:=⟨DJ P,RI f,fun av h=>by obtain ⟨_,_,_,rfl,_⟩:=qL h; trivial⟩
theorem PF {P:Sc->St->Vl->Prop} {f:Sc->St->Vl->Value}:∀ av H K,(D3 P f).sp av H K->av.length=3:=fun av H K h=>by obtain ⟨_,_,_,rfl,_⟩:=qL h.1.1; rfl
attribute [go_sem] D3 DJ RI
theorem W7 {P:Sc->St->Vl->Prop} {f:Sc->St->Vl->Value} {av:List S} {H:Hp} {K:S->Hp->Prop} (h:(D3 P f).sp av H K) :
 ∃ s t v,av=[.va (.gs (aF s)),.va (.gs (aI t)),.va (.gs (aM v))]/\H=[]/\s.fit/\t.ok/\VlOk v/\P s t v/\K (.va (.c1 (.vl (f s t v)))) []:=by
 obtain ⟨⟨h,rfl⟩,hK⟩:=h
 obtain ⟨s,t,v,rfl,hs,ht,hv,hp⟩:=qL h
 have:(D3 P f).val [.va (.gs (aF s)),.va (.gs (aI t)),.va (.gs (aM v))]=.c1 (.vl (f s t v)):=by simp -dsimp only [go_sem]
 rw [this] at hK
 exact ⟨s,t,v,rfl,rfl,hs,ht,hv,hp,hK⟩
theorem aB5 (t:St):C.st [.vl (.string t.nm),.fz (t.fs.map aT)]=t:=wJ t
theorem NG {t:St} (h:t.ok):Q3 [.vl (.string t.nm),.fz (t.fs.map aT)]:=WB h
def DQ:List S->Prop:=fun xs=>match xs with
 | [.va (.c1 (.vl (.string s)))]=>(bl s).length<=9223372036854775797
 | _=>False
theorem pO {xs:List S} (h:DQ xs):∃ s,xs=[tS s]/\(bl s).length<=9223372036854775797:=by
 unfold DQ at h
 split at h
 · exact ⟨_,rfl,h⟩
 · exact h.elim
def Q6 (f:List UInt8->Value):Fun:=⟨DQ,ER f,fun xs h=>by obtain ⟨s,rfl,_⟩:=pO h; trivial⟩
theorem OG {f:List UInt8->Value}:∀ xs H K,(Q6 f).sp xs H K->xs.length=1:=fun xs H K h=>by obtain ⟨s,rfl,_⟩:=pO h.1.1; rfl
attribute [go_sem] Q6 DQ
theorem JK:Meets Tryz.prog 47 (Q6 fun l=>.string (mk (mS l))).sp:=by
 refine aD Tryz.func47 aKO 1 (by rw [Tryz.ntmps47]; decide) (aG xN (aA _)) OG ?_
 rintro av H K ⟨⟨h,rfl⟩,hK⟩
 obtain ⟨s,rfl,hs⟩:=pO h
 have hK:K (tS (mk (fW (bl s).length ++ bl s))) []:=hK
 have hl:=kH (bl s).length
 simp (maxSteps:=1000000) -dsimp only [go_sem,aBE,aDR,rB,rS,jV]
 exact ⟨by omega,.done hK⟩
structure EsP (N:Nat) (s:Sc) (u:St) (v:Vl):Prop where
 d:Dg s
 n:N<=8
 h:∀ x ∈ v.f,x.2.h<=N
 t:∃ t:Ty,TyOk t/\(t.k == 6)=true/\stOf s t=u/\cH s t v=0
def NT (N:Nat) (s:Sc) (t:Ty) (v:Vl):Prop:=Dg s/\N<=8/\v.h<=N/\cH s t v=0
noncomputable def A5 (N:Nat):Fun:=eC (NT N) fun s t v=>.string (mk (cA s N t v))
noncomputable def JV (N:Nat):Fun:=D3 (EsP N) fun s u v=>.string (mk (dY (cA s N) s u.fs v.f))
theorem QX (R:Ty->Vl->List UInt8) (s:Sc) (fs:List Fl) (F:List (Int × Vl)) (i:Nat):(dY R s (fs.take i) F).length<=(dY R s fs F).length:=by
 have h:dY R s fs F=dY R s (fs.take i) F ++ dY R s (fs.drop i) F:=by unfold dY; rw [<-List.flatMap_append,List.take_append_drop]
 rw [h,List.length_append]; omega
theorem PE {R:Ty->Vl->List UInt8} {s:Sc} {fs:List Fl} {F:List (Int × Vl)} {i:Nat} {g:Fl} (h:fs[i]? = some g):dY R s (fs.take (i + 1)) F=dY R s (fs.take i) F ++ rD R s F g:=by
 unfold dY; rw [fK h,List.flatMap_append]; simp
theorem XO {s:Sc} (hd:Dg s) {N:Nat} (hN:N<=8) {t:Ty} {v:Vl} (h6:(t.k == 6)=true) (h0:cH s t v=0) (hh:∀ x ∈ v.f,x.2.h<=N):(dY (cA s N) s (stOf s t).fs v.f).length<=4000000000000000000:=by
 obtain ⟨_,_,_,_,h2⟩:=(jY h0).st h6
 have hl:=(hd.ni.stOf t).l
 have hB:=kV hN
 have h5:(dY (cA s N) s (stOf s t).fs v.f).length<=(stOf s t).fs.length * (20 + eB N):=oQ fun g hg=>JF hd hg fun x hx=>gA hd N _ x.2 (hh x hx) (h2 x hx)
 have h6:(stOf s t).fs.length * (20 + eB N)<=16 * (20 + eB N):=Nat.mul_le_mul_right _ hl
 omega
theorem qX {N:Nat} (hE:Meets Tryz.prog 48 (A5 N).sp):Meets Tryz.prog 26 (JV N).sp:=by
 refine aD Tryz.func26 aN9 3 (by rw [Tryz.ntmps26]; decide) (aC WO (aC TJ (aG HL (aG xN (aG hE (aG JK (aA _))))))) PF ?_
 intro av H K h
 obtain ⟨s,u,v,rfl,rfl,hs,hu,hv,⟨hd,hN,hh,t,hto,h6,htu,h0⟩,hK⟩:=W7 h
 clear h
 have hlen:=XO hd hN h6 h0 hh
 have hc:=jY h0
 obtain ⟨_,_,_,_,hck⟩:=hc.st h6
 have hkk:v.k=6:=by rw [hc.kk]; exact eq_of_beq h6
 have hnst:=hd.ni.stOf t
 have hul:=hnst.l
 have hfl:∀ g ∈ u.fs,gQ (stOf s t) g.num=g:=fun g hg=>j7 hd (by rw [htu]; exact hg)
 rw [htu] at hlen hck hnst hfl hul
 have k6:=dQ hs
 have k7:=iB s
 simp (maxSteps:=1000000) -dsimp only [go_sem,aF,aI,aJ v,aBM,aDA]
 refine aS (α:=Nat) (fun i=>[(3,.va (.c1 (.pt 0 0))),(5,.va (.c1 (.pt 2 0))),(7,tS (mk (dY (cA s N) s (u.fs.take i) v.f))),(13,.va (.c1 (.fz (u.fs.map aT)))),(14,iS .i64 u.fs.length),(15,iS .i64 i)])
  (fun _=>[.cells [.vl (.int .i64 s.ver),.fz (s.es.map aY),.fz (s.ss.map aI)] 25,.cells [.vl (.string u.nm),.fz (u.fs.map aT)] 48,.cells [.vl (.int .i64 v.k),.vl (.int .i64 v.n),.vl (.string v.s),.fz (v.l.map aM),.fz (v.f.map bC)] 29])
  (fun i=>i<=u.fs.length) (fun i=>u.fs.length - i) 0 3 (Nat.zero_le _) ?_ ?_ ?_
 · simp -dsimp only [go_sem]<;>simp [dY]
 · simp -dsimp only [go_sem]<;>simp
 intro i hi
 rcases bE i u.fs.length with hlt | hge
 · have hg:decide ((i:Int) < (u.fs.length:Int))=true:=by simp; omega
   have hx:u.fs[i]? = some u.fs[i]:=aW hlt
   have q2:=a7 (row:=aT) hx
   have hgm:=List.getElem_mem hlt
   have hgo:=(hu.fs _ hgm).ty
   have hnx:=PE (R:=cA s N) (s:=s) (F:=v.f) hx
   have hl1:=QX (cA s N) s u.fs v.f (i + 1)
   have hgf:=hfl _ hgm
   generalize u.fs[i]=g at *
   rw [hnx] at hl1
   rw [oB] at hnx hl1
   unfold lP at hnx hl1
   simp (maxSteps:=1000000) -dsimp only [go_sem,hg,↓q2,aT]
   refine ⟨by omega,L5 hv hkk ?_⟩
   cases hvf:bX v.f g.num with
   | none=>
    rw [hvf] at hnx
    have hnx:dY (cA s N) s (u.fs.take (i + 1)) v.f=dY (cA s N) s (u.fs.take i) v.f:=by rw [hnx]; exact List.append_nil _
    simp (maxSteps:=1000000) -dsimp only [go_sem,Option.map_none,Option.getD_none,Option.isSome_none,AE]
    refine aB rfl (.done ?_)
    simp (maxSteps:=1000000) -dsimp only [go_sem,rE,Bool.false_and,Bool.not_false,Bool.not_true,Bool.true_or]
    refine ⟨by omega,aE (i + 1) 3 (by omega) (by omega) ?_ ?_⟩
    · simp -dsimp only [go_sem,hnx]<;>simp
    · simp -dsimp only [go_sem]<;>simp
   | some x=>
    obtain ⟨hxm,hxe⟩:=oO hvf
    have hxo:=hv.f x hxm
    have hxc:=hck x hxm
    rw [hxe,hgf] at hxc
    have hxh:=hh x hxm
    rw [hvf] at hnx hl1
    simp only [Option.isSome_some,Bool.not_true,Bool.false_or,Option.map_some,Option.getD_some] at hnx hl1 ⊢
    have k1:=cD hxo
    have k2:=dS x.2
    have k4:=d7 hgo
    have k5:=iP g.ty
    have k8:NT N s g.ty x.2=True:=eq_true ⟨hd,hN,hxh,hxc⟩
    have hvl:=kH g.num
    have k9:=gA hd N g.ty x.2 hxh hxc
    have k10:=kV hN
    have k11:=oE (cA s N g.ty x.2)
    have k12:((cA s N g.ty x.2).length<=9223372036854775797)=True:=eq_true (by omega)
    simp (maxSteps:=1000000) -dsimp only [go_sem,aJ x.2]
    refine aB rfl (.done ?_)
    cases ho:g.opt with
    | true=>
     simp (maxSteps:=1000000) -dsimp only [go_sem,rE,Bool.true_and,Bool.false_and,Bool.not_false,Bool.not_true,Bool.or_false,Bool.false_or]
     rw [ho] at hnx hl1
     simp only [Bool.not_true,Bool.false_and,cond_false,List.length_append] at hnx hl1
     refine aB rfl (.done ?_)
     simp (maxSteps:=1000000) -dsimp only [go_sem,x7,A5,rB,rS,jV,k1,k2,k4,k5,k6,k7,k8,k12,List.take_succ_cons,List.take_zero,List.length_cons,List.length_nil]
     refine ⟨by omega,by omega,by omega,aE (i + 1) 3 (by omega) (by omega) ?_ ?_⟩
     · simp -dsimp only [go_sem,hnx,k2,k5,k7,jV]<;>simp
     · simp -dsimp only [go_sem]<;>simp
    | false=>
     rw [ho] at hnx hl1
     simp only [Bool.not_false,Bool.true_and] at hnx hl1
     simp (maxSteps:=1000000) -dsimp only [go_sem,rE,Bool.true_and,Bool.false_and,Bool.not_false,Bool.not_true,Bool.or_false,Bool.false_or]
     refine yU hs hgo ?_
     have hzo:=C0 hs 23 g.ty hgo
     generalize zF s 23 g.ty=z at *
     have kz1:=cD hzo
     have kz2:=dS z
     cases he:dG x.2 z with
     | true=>
      rw [he,cond_true,List.append_nil] at hnx
      simp (maxSteps:=1000000) -dsimp only [go_sem,aJ z,k1,k2,kz1,kz2,he,List.take_succ_cons,List.take_zero,List.length_cons,List.length_nil]
      refine ⟨by omega,aE (i + 1) 3 (by omega) (by omega) ?_ ?_⟩
      · simp -dsimp only [go_sem,hnx]<;>simp
      · simp -dsimp only [go_sem]<;>simp
     | false=>
      rw [he] at hnx hl1
      simp only [cond_false,List.length_append] at hnx hl1
      simp (maxSteps:=1000000) -dsimp only [go_sem,aJ z,k1,k2,kz1,kz2,he,List.take_succ_cons,List.take_zero,List.length_cons,List.length_nil]
      refine aB rfl (.done ?_)
      simp (maxSteps:=1000000) -dsimp only [go_sem,x7,A5,rB,rS,jV,k1,k2,k4,k5,k6,k7,k8,k12,List.take_succ_cons,List.take_zero,List.length_cons,List.length_nil]
      refine ⟨by omega,by omega,by omega,aE (i + 1) 3 (by omega) (by omega) ?_ ?_⟩
      · simp -dsimp only [go_sem,hnx,k2,k5,k7,jV]<;>simp
      · simp -dsimp only [go_sem]<;>simp
 · have hg:decide ((i:Int) < (u.fs.length:Int))=false:=by simp; omega
   rw [List.take_of_length_le hge] at *
   simp (maxSteps:=1000000) -dsimp only [go_sem,hg]
   refine .sel [] (by simp) (by simp) rfl (.done ?_)
   simp -dsimp only [go_sem]
   exact hK
abbrev LV (o:List UInt8):B:=.cells [.vl (.string (mk o))] 9
def aCQ (N:Nat):W.Spec:=fun av H K=>∃ (s:Sc) (t u:Ty) (v:Vl) (o:List UInt8),av=[.va (.gs (aM v)),.va (.c1 (.pt 0 0)),.va (.c1 (.pt 1 0)),.va (.c1 (.pt 2 0))]/\H=[LV o,.cells (aF s) 25,.cells (aU t) 42]/\
 t.e=[u]/\s.fit/\TyOk u/\VlOk v/\NT N s u v/\o.length<=4000000000000000000/\K (.tu []) [LV (o ++ mS (cA s N u v)),.cells (aF s) 25,.cells (aU t) 42]
theorem ZG {N:Nat} {s:Sc} {t u:Ty} {v:Vl} {o:List UInt8} {K:S->Hp->Prop} (h1:t.e=[u]) (h2:s.fit) (h3:TyOk u) (h4:VlOk v) (h5:NT N s u v) (h6:o.length<=4000000000000000000)
 (hK:K (.tu []) [LV (o ++ mS (cA s N u v)),.cells (aF s) 25,.cells [.vl (.int .i64 t.k),.vl (.int .i64 t.s),.vl (.string t.n),.fz (t.e.map aU)] 42]) :
 aCQ N [.va (.gs [.vl (.int .i64 v.k),.vl (.int .i64 v.n),.vl (.string v.s),.fz (v.l.map aM),.fz (v.f.map bC)]),.va (.c1 (.pt 0 0)),.va (.c1 (.pt 1 0)),.va (.c1 (.pt 2 0))]
  [LV o,.cells [.vl (.int .i64 s.ver),.fz (s.es.map aY),.fz (s.ss.map aI)] 25,.cells [.vl (.int .i64 t.k),.vl (.int .i64 t.s),.vl (.string t.n),.fz (t.e.map aU)] 42] K:=
 ⟨s,t,u,v,o,by rw [aJ],by rw [aL]; rfl,h1,h2,h3,h4,h5,h6,by rw [aL]; exact hK⟩
theorem OV {N:Nat} (hE:Meets Tryz.prog 48 (A5 N).sp):Meets Tryz.prog 85 (aCQ N):=by
 refine aD Tryz.func85 aK0 4 (by rw [Tryz.ntmps85]; decide) (aG hE (aG JK (aA _))) (fun av H K h=>by obtain ⟨_,_,_,_,_,rfl,_⟩:=h; rfl) ?_
 rintro av H K ⟨s,t,u,v,o,rfl,rfl,he,hs,hu,hv,hp,ho,hK⟩
 have hd:=hp.1
 have k1:=cD hv
 have k2:=dS v
 have k4:=d7 hu
 have k5:=iP u
 have k6:=dQ hs
 have k7:=iB s
 have k8:NT N s u v=True:=eq_true hp
 have k9:=gA hd N u v hp.2.2.1 hp.2.2.2
 have k10:=kV hp.2.1
 have k11:=oE (cA s N u v)
 have k12:((cA s N u v).length<=9223372036854775797)=True:=eq_true (by omega)
 have z0:(0:Int) < ((1:Nat):Int):=by decide
 have z1:(0:Int)<=0:=by decide
 simp (maxSteps:=1000000) -dsimp only [go_sem,aF,aL t,aJ v,he,aL u,aDJ,aB3,A5,k1,k2,k4,k5,k6,k7,k8,k12,forall_eq',z0,z1,List.length_cons,List.length_nil,List.take_succ_cons,List.take_zero]
 refine ⟨by omega,.sel [0,1,2] (by simp) (by simp) rfl (.done ?_)⟩
 simp -dsimp only [aF,aL t,he,List.map_cons,List.map_nil,aL u] at hK
 simp -dsimp only [go_sem]
 exact hK
abbrev e1V:S:=.va (.c1 (.fn 85 [(false,[.pt 3 0]),(false,[.pt 0 0]),(false,[.pt 1 0])]))
theorem QL (R:Ty->Vl->List UInt8) (t:Ty) (l:List Vl) (i:Nat):(iY R t (l.take i)).length<=(iY R t l).length:=by
 have h:iY R t l=iY R t (l.take i) ++ iY R t (l.drop i):=by unfold iY; rw [<-List.flatMap_append,List.take_append_drop]
 rw [h,List.length_append]; omega
theorem OQ {R:Ty->Vl->List UInt8} {t:Ty} {l:List Vl} {i:Nat} {x:Vl} (h:l[i]? = some x):iY R t (l.take (i + 1))=iY R t (l.take i) ++ mS (R t x):=by
 unfold iY; rw [fK h,List.flatMap_append]; simp
theorem WK {s:Sc} (hd:Dg s) {N:Nat} (hN:N<=8) {u:Ty} {l:List Vl} (h:∀ x ∈ l,x.h<=N/\cH s u x=0) (hl:l.length<=32):(iY (cA s N) u l).length<=3000000000000000000:=by
 have hB:=kV hN
 have h5:(iY (cA s N) u l).length<=l.length * (10 + eB N):=oQ fun x hx=>by
  have:=gA hd N u x (h x hx).1 (h x hx).2
  have:=oE (cA s N u x)
  omega
 have h6:l.length * (10 + eB N)<=32 * (10 + eB N):=Nat.mul_le_mul_right _ hl
 omega
theorem uO:∀ N,Meets Tryz.prog 48 (A5 N).sp
 | 0=>⟨by kernel_rfl,by rintro xs vs E ro w K _ _ _ h; obtain ⟨_,_,v,_,_,_,_,_,h,_⟩:=dF h; have:=v.h_pos; have h2:=h.2.2.1; omega⟩
 | N + 1=>by
  refine aD Tryz.func48 aN3 3 (by rw [Tryz.ntmps48]; decide) (aG xN (aG aF5 (aC (OV (uO N)) (aC j0 (aG (qX (uO N)) (aA _)))))) eF ?_
  intro av H K h
  obtain ⟨s,t,v,rfl,rfl,hs,ht,hv,⟨hd,hN,hh,h0⟩,hK⟩:=dF h
  clear h
  have fin:∀ (x:List UInt8) (R:Hp),cA s (N + 1) t v=x->W.Fin 0 K (tS (mk x)) R:=fun x R h=>by
   rw [h] at hK; exact .sel [] (by simp) (by simp) rfl (.done (by simpa [go_sem] using hK))
  clear hK
  have hc:=jY h0
  have hvn:=hv.n
  have k1:=cD hv
  have k2:=dS v
  have k6:=dQ hs
  have k7:=iB s
  rw [d8] at fin
  simp (maxSteps:=1000000) -dsimp only [go_sem,aF,aL t,aJ v,ZU,aD5]
  refine aB rfl (.done ?_)
  cases c1:t.k == 1 || (t.k == 3 || t.k == 7) with
  | true=>
   rw [c1,cond_true] at fin
   have go:∀ b1 b3 b7:Bool,(t.k == 1)=b1->(t.k == 3)=b3->(t.k == 7)=b7->(b1 || (b3 || b7))=true:=fun b1 b3 b7 h1 h3 h7=>by rw [<-h1,<-h3,<-h7]; exact c1
   cases q1:t.k == 1<;>cases q3:t.k == 3<;>cases q7:t.k == 7<;>first
    | exact absurd (go _ _ _ q1 q3 q7) (by decide)
    | (simp (maxSteps:=1000000) -dsimp only [go_sem,mL,q1,q3,q7,rB,rS,jV]
       exact fin _ _ rfl)
  | false=>
  have c1':=c1
  rw [Bool.or_eq_false_iff,Bool.or_eq_false_iff] at c1'
  rw [c1,cond_false] at fin
  cases c2:t.k == 2 with
  | true=>
   rw [c2,cond_true] at fin
   simp (maxSteps:=1000000) -dsimp only [go_sem,mL,c1'.1,c1'.2.1,c1'.2.2,c2,hvn]
   exact fin _ _ rfl
  | false=>
  rw [c2,cond_false] at fin
  cases c4:t.k == 4 with
  | true=>
   rw [c4,cond_true] at fin
   simp (maxSteps:=1000000) -dsimp only [go_sem,mL,c1'.1,c1'.2.1,c1'.2.2,c2,c4]
   have:=fin (bl v.s)
   rw [gI] at this
   exact this _ rfl
  | false=>
  rw [c4,cond_false] at fin
  cases c5:t.k == 5 with
  | true=>
   rw [c5,cond_true] at fin
   obtain ⟨u,he,hu⟩:=rR hc.va c5
   have hto:=ht.e u (by rw [he]; exact List.mem_singleton.2 rfl)
   obtain ⟨_,_,_,e4,e5⟩:=hc.ls c5
   have h32:=(mA hc.va).2 c5
   rw [he] at fin e5
   simp only [List.headD_cons] at fin e5
   have hxs:∀ x ∈ v.l,x.h<=N/\cH s u x=0:=fun x hx=>⟨by have:=Vl.h_l hx; omega,e5 x hx⟩
   have hlen:=WK hd (N:=N) (by omega) hxs (by omega)
   have hvl:=kH v.l.length
   simp (maxSteps:=1000000) -dsimp only [go_sem,mL,c1'.1,c1'.2.1,c1'.2.2,c2,c4,c5]
   refine aB rfl (.done ?_)
   simp (maxSteps:=1000000) -dsimp only [go_sem,zG,rB,rS,jV]
   refine aS (α:=Nat) (fun i=>[(3,.va (.c1 (.pt 0 0))),(4,.va (.c1 (.pt 1 0))),(7,.va (.c1 (.pt 3 0))),(8,e1V),(41,.va (.c1 (.fz (v.l.map aM)))),(42,iS .i64 v.l.length),(43,iS .i64 i)])
    (fun i=>[.cells [.vl (.int .i64 s.ver),.fz (s.es.map aY),.fz (s.ss.map aI)] 25,.cells [.vl (.int .i64 t.k),.vl (.int .i64 t.s),.vl (.string t.n),.fz (t.e.map aU)] 42,.cells [.vl (.int .i64 v.k),.vl (.int .i64 v.n),.vl (.string v.s),.fz (v.l.map aM),.fz (v.f.map bC)] 29,LV (fW v.l.length ++ iY (cA s N) u (v.l.take i))])
    (fun i=>i<=v.l.length) (fun i=>v.l.length - i) 0 4 (Nat.zero_le _) ?_ ?_ ?_
   · simp -dsimp only [go_sem]<;>simp
   · simp -dsimp only [go_sem]<;>simp [iY]
   intro i hi
   have hlt1:=QL (cA s N) u v.l i
   rcases bE i v.l.length with hlt | hge
   · have hg:decide ((i:Int) < (v.l.length:Int))=true:=by simp; omega
     have hx:v.l[i]? = some v.l[i]:=aW hlt
     have q1:=nJ hx
     have hxm:=List.getElem_mem hlt
     have hxo:=hv.l _ hxm
     have hxp:=hxs _ hxm
     have hnx:=OQ (R:=cA s N) (t:=u) hx
     generalize v.l[i]=x at *
     simp (maxSteps:=1000000) -dsimp only [go_sem,hg,↓q1]
     refine ⟨by omega,aB rfl (.done ?_)⟩
     simp (maxSteps:=1000000) -dsimp only [go_sem,zX]
     refine ZG he hs hto hxo ⟨hd,by omega,hxp.1,hxp.2⟩ (by rw [List.length_append]; omega) ?_
     simp (maxSteps:=1000000) -dsimp only [go_sem,aF]
     refine ⟨by omega,aE (i + 1) 4 (by omega) (by omega) ?_ ?_⟩
     · simp -dsimp only [go_sem]<;>simp
     · simp -dsimp only [go_sem,hnx]<;>simp
   · have hg:decide ((i:Int) < (v.l.length:Int))=false:=by simp; omega
     rw [List.take_of_length_le hge] at *
     simp (maxSteps:=1000000) -dsimp only [go_sem,hg]
     refine aB rfl (.done ?_)
     simp (maxSteps:=1000000) -dsimp only [go_sem,AO]
     exact fin _ _ rfl
  | false=>
   rw [c5,cond_false] at fin
   have c6:(t.k == 6)=true:=C4 hc.va c1'.1 (by rw [c2,c1'.2.1,c1'.2.2]; rfl) c4 c5
   obtain ⟨_,_,_,_,e5⟩:=hc.st c6
   have hst:=fH hs t
   have k4:=NG hst
   have k5:=aB5 (stOf s t)
   have k8:EsP N s (stOf s t) v=True:=eq_true ⟨hd,by omega,fun x hx=>by have:=Vl.h_f hx; omega,t,ht,c6,rfl,h0⟩
   simp (maxSteps:=1000000) -dsimp only [go_sem,mL,c1'.1,c1'.2.1,c1'.2.2,c2,c4,c5]
   refine aB rfl (.done ?_)
   simp (maxSteps:=1000000) -dsimp only [go_sem,yM]
   refine gW hs ?_
   rw [show (fS s.ss t.n).getD default=stOf s t from rfl]
   generalize stOf s t=w at *
   simp (maxSteps:=1000000) -dsimp only [go_sem,aI]
   refine aB rfl (.done ?_)
   simp (maxSteps:=1000000) -dsimp only [go_sem,y5,JV,k1,k2,k4,k5,k6,k7,k8]
   exact fin _ _ rfl
abbrev fZ (nm:ByteArray):Ty:=.mk 6 0 nm []
theorem NU {nm:ByteArray} (h:nm.size<=9223372036854775807):TyOk (fZ nm):=.mk ⟨by decide,by decide⟩ ⟨by decide,by decide⟩ h (Nat.zero_le _) fun t h=>(by cases h)
def CG (s:Sc) (nm:ByteArray):St × Int:=bif bP s != 0 then (default,bP s) else bif !(cJ s.ss nm) then (default,6) else (stOf s (fZ nm),0)
def Y6:W.Spec:=fun av H K=>∃ (s:Sc) (nm:ByteArray),av=[.va (.gs (aF s)),tS nm]/\H=[]/\s.fit/\K (.tu [.gs (aI (CG s nm).1),iA .i64 (CG s nm).2]) []
theorem NE {s:Sc} {nm:ByteArray} {K:S->Hp->Prop} (h:s.fit) (hK:K (.tu [.gs (aI (CG s nm).1),iA .i64 (CG s nm).2]) []):Y6 [.va (.gs [.vl (.int .i64 s.ver),.fz (s.es.map aY),.fz (s.ss.map aI)]),tS nm] [] K:=⟨s,nm,rfl,rfl,h,hK⟩
theorem qB:aI default=[.vl (.string (mk [])),.fz []]:=rfl
theorem I4:Meets Tryz.prog 23 Y6:=by
 refine aD Tryz.func23 aN5 2 (by rw [Tryz.ntmps23]; decide) (aG aBJ (aC j0 (aA _))) (fun av H K h=>by obtain ⟨_,_,rfl,_⟩:=h; rfl) ?_
 rintro av H K ⟨s,nm,rfl,rfl,hs,hK⟩
 have fin:∀ (u:St) (e:Int) (R:Hp),CG s nm=(u,e)->W.Fin 0 K (.tu [.gs (aI u),iA .i64 e]) R:=fun u e R h=>by
  rw [h] at hK; exact .sel [] (by simp) (by simp) rfl (.done (by simpa [go_sem,aI] using hK))
 clear hK
 unfold CG at fin
 have k6:=dQ hs
 have k7:=iB s
 simp (maxSteps:=1000000) -dsimp only [go_sem,aF,aBW,aBX,k6,k7]
 refine aB rfl (.done ?_)
 cases c1:bP s != 0 with
 | true=>
  rw [c1,cond_true] at fin
  simp (maxSteps:=1000000) -dsimp only [go_sem,wD,c1]
  exact fin _ _ _ rfl
 | false=>
 rw [c1,cond_false] at fin
 simp (maxSteps:=1000000) -dsimp only [go_sem,wD,c1]
 refine aB rfl (.done ?_)
 simp (maxSteps:=1000000) -dsimp only [go_sem,EL]
 refine gW hs ?_
 rw [show (fS s.ss nm).getD default=stOf s (fZ nm) from rfl]
 generalize stOf s (fZ nm)=u at *
 simp (maxSteps:=1000000) -dsimp only [go_sem,aI]
 refine aB rfl (.done ?_)
 cases c2:cJ s.ss nm with
 | false=>
  rw [c2,Bool.not_false,cond_true] at fin
  simp (maxSteps:=1000000) -dsimp only [go_sem,v6,Bool.not_false]
  exact fin _ _ _ rfl
 | true=>
  rw [c2,Bool.not_true,cond_false] at fin
  simp (maxSteps:=1000000) -dsimp only [go_sem,v6,Bool.not_true]
  exact fin _ _ _ rfl
def Z2:W.Spec:=fun av H K=>∃ nm:ByteArray,av=[tS nm]/\H=[]/\K (.va (.gs (aU (fZ nm)))) []
theorem NX {nm:ByteArray} {K:S->Hp->Prop} (hK:K (.va (.gs (aU (fZ nm)))) []):Z2 [tS nm] [] K:=⟨nm,rfl,rfl,hK⟩
theorem HC:Meets Tryz.prog 25 Z2:=by
 refine aD Tryz.func25 aNZ 1 (by rw [Tryz.ntmps25]; decide) (aA _) (fun av H K h=>by obtain ⟨_,rfl,_⟩:=h; rfl) ?_
 rintro av H K ⟨nm,rfl,rfl,hK⟩
 simp (maxSteps:=1000000) -dsimp only [go_sem,aDZ,ZF]
 exact .sel [] (by simp) (by simp) rfl (.done (by simpa [go_sem,aL,Ty.k,Ty.s,Ty.n,Ty.e] using hK))
def vC:W.Spec:=fun av H K=>∃ (s:Sc) (nm:ByteArray) (v:Vl),av=[.va (.gs (aF s)),tS nm,.va (.gs (aM v))]/\H=[]/\s.fit/\nm.size<=9223372036854775807/\VlOk v/\K (.tu [tA (mk (nC s nm v).1),iA .i64 (nC s nm v).2]) []
theorem M2 {s:Sc} {nm:ByteArray} {v:Vl} {K:S->Hp->Prop} (h1:s.fit) (h2:nm.size<=9223372036854775807) (h3:VlOk v) (hK:K (.tu [tA (mk (nC s nm v).1),iA .i64 (nC s nm v).2]) []) :
 vC [.va (.gs [.vl (.int .i64 s.ver),.fz (s.es.map aY),.fz (s.ss.map aI)]),tS nm,.va (.gs [.vl (.int .i64 v.k),.vl (.int .i64 v.n),.vl (.string v.s),.fz (v.l.map aM),.fz (v.f.map bC)])] [] K:=⟨s,nm,v,by rw [aJ]; rfl,rfl,h1,h2,h3,hK⟩
theorem JE:Meets Tryz.prog 9 vC:=by
 refine aD Tryz.func9 ok9 3 (by rw [Tryz.ntmps9]; decide) (aC I4 (aC HC (aG WS (aG (qX (uO 8)) (aA _))))) (fun av H K h=>by obtain ⟨_,_,_,rfl,_⟩:=h; rfl) ?_
 rintro av H K ⟨s,nm,v,rfl,rfl,hs,hnm,hv,hK⟩
 have fin:∀ (x:List UInt8) (e:Int) (R:Hp),nC s nm v=(x,e)->W.Fin 0 K (.tu [tA (mk x),iA .i64 e]) R:=fun x e R h=>by
  rw [h] at hK; exact .sel [] (by simp) (by simp) rfl (.done (by simpa [go_sem] using hK))
 clear hK
 unfold nC at fin
 have hty:=NU hnm
 have k1:=cD hv
 have k2:=dS v
 have k4:=d7 hty
 have k5:=iP (fZ nm)
 have k6:=dQ hs
 have k7:=iB s
 simp (maxSteps:=1000000) -dsimp only [go_sem,aF,aJ v,pc9,rs9]
 refine NE hs ?_
 have hch:CG s nm=bif bP s != 0 then (default,bP s) else bif !(cJ s.ss nm) then (default,6) else (stOf s (fZ nm),0):=rfl
 have hst:=fH hs (fZ nm)
 cases c1:bP s != 0 with
 | true=>
  rw [c1,cond_true] at fin hch
  rw [hch]
  simp (maxSteps:=1000000) -dsimp only [go_sem,qB]
  refine aB rfl (.done ?_)
  simp (maxSteps:=1000000) -dsimp only [go_sem,r9,c1]
  exact fin _ _ _ rfl
 | false=>
 have hd:=CV hs (eL c1)
 rw [c1,cond_false] at fin hch
 cases c2:cJ s.ss nm with
 | false=>
  rw [c2,Bool.not_false,cond_true] at fin hch
  rw [hch]
  simp (maxSteps:=1000000) -dsimp only [go_sem,qB]
  refine aB rfl (.done ?_)
  have g:((6:Int) != 0)=true:=rfl
  simp (maxSteps:=1000000) -dsimp only [go_sem,r9,g]
  exact fin _ _ _ rfl
 | true=>
 rw [c2,Bool.not_true,cond_false] at fin hch
 rw [hch]
 cases c3:gH s (fZ nm) v != 0 with
 | true=>
  rw [c3,cond_true] at fin
  generalize stOf s (fZ nm)=w at *
  simp (maxSteps:=1000000) -dsimp only [go_sem,aI]
  refine aB rfl (.done ?_)
  simp (maxSteps:=1000000) -dsimp only [go_sem,r9,bne_self_eq_false]
  refine aB rfl (.done ?_)
  simp (maxSteps:=1000000) -dsimp only [go_sem,DT]
  refine NX ?_
  simp (maxSteps:=1000000) -dsimp only [go_sem,aL (fZ nm),k1,k2,k4,k5,k6,k7,c3]
  exact fin _ _ _ rfl
 | false=>
  rw [c3,cond_false] at fin
  have hck:=eL c3
  have h0:=(uS hck).1
  have hh:=KI hck
  have q4:=NG hst
  have q5:=aB5 (stOf s (fZ nm))
  have q8:EsP 8 s (stOf s (fZ nm)) v=True:=eq_true ⟨hd,Nat.le_refl _,fun x hx=>by have:=Vl.h_f hx; omega,fZ nm,hty,rfl,rfl,h0⟩
  generalize stOf s (fZ nm)=w at *
  simp (maxSteps:=1000000) -dsimp only [go_sem,aI]
  refine aB rfl (.done ?_)
  simp (maxSteps:=1000000) -dsimp only [go_sem,r9,bne_self_eq_false]
  refine aB rfl (.done ?_)
  simp (maxSteps:=1000000) -dsimp only [go_sem,DT]
  refine NX ?_
  simp (maxSteps:=1000000) -dsimp only [go_sem,aL (fZ nm),k1,k2,k4,k5,k6,k7,c3]
  refine aB rfl (.done ?_)
  cases c4:decide (2000 < ((dY (cA s 8) s w.fs v.f).length:Int)) with
  | true=>
   rw [c4,cond_true] at fin
   simp (maxSteps:=1000000) -dsimp only [go_sem,CS,JV,k1,k2,q4,q5,k6,k7,q8,c4]
   exact fin _ _ _ rfl
  | false=>
   rw [c4,cond_false] at fin
   simp (maxSteps:=1000000) -dsimp only [go_sem,CS,JV,k1,k2,q4,q5,k6,k7,q8,c4]
   exact fin _ _ _ rfl
theorem uR:∀ N,Meets Tryz.prog 55 (z7 N)
 | 0=>⟨by kernel_rfl,by rintro xs vs E ro w K _ _ _ ⟨s,t,_,_,_,_,_,_,_,h,_⟩; have:=fJ s t; omega⟩
 | N + 1=>by
  refine aD Tryz.func55 aNM 3 (by rw [Tryz.ntmps55]; decide) (aC HB (aC CO (aC (HA (uR N)) (aC j0 (aC (qR (uR N)) (aA _)))))) (fun av H K h=>by obtain ⟨_,_,_,rfl,_⟩:=h; rfl) ?_
  rintro av H K ⟨s,t,b,rfl,rfl,hd,hs,ht,hv,hf,hb,hK⟩
  have fin:∀ (v:Vl) (e:Int) (R:Hp),a8 s (N + 1) t b=(v,e)->W.Fin 0 K (.tu [.gs [.vl (.int .i64 v.k),.vl (.int .i64 v.n),.vl (.string v.s),.fz (v.l.map aM),.fz (v.f.map bC)],iA .i64 e]) R:=fun v e R h=>by
   rw [h] at hK; exact .sel [] (by simp) (by simp) rfl (.done (by rw [aJ] at hK; simpa [go_sem] using hK))
  clear hK
  rw [mN] at fin
  simp (maxSteps:=1000000) -dsimp only [go_sem,aF,aL t,aDC,YZ]
  refine aB rfl (.done ?_)
  cases c1:t.k == 1 with
  | true=>
   rw [c1,cond_true] at fin
   simp (maxSteps:=1000000) -dsimp only [go_sem,lB,c1]
   refine aEA (by omega) ?_
   generalize nW b=w at *
   obtain ⟨v,e⟩:=w
   simp (maxSteps:=1000000) -dsimp only [go_sem,aJ v]
   exact fin _ _ _ rfl
  | false=>
  rw [c1,cond_false] at fin
  cases c2:t.k == 2 || (t.k == 3 || t.k == 7) with
  | true=>
   rw [c2,cond_true] at fin
   have go:∀ b2 b3 b7:Bool,(t.k == 2)=b2->(t.k == 3)=b3->(t.k == 7)=b7->(b2 || (b3 || b7))=true:=fun b2 b3 b7 h1 h3 h7=>by rw [<-h1,<-h3,<-h7]; exact c2
   cases q2:t.k == 2<;>cases q3:t.k == 3<;>cases q7:t.k == 7<;>first
    | exact absurd (go _ _ _ q2 q3 q7) (by decide)
    | (simp (maxSteps:=1000000) -dsimp only [go_sem,lB,c1,q2,q3,q7]
       refine ZR hd hs ht hv c2 (by omega) ?_
       generalize oN s t b=w at *
       obtain ⟨v,e⟩:=w
       simp (maxSteps:=1000000) -dsimp only [go_sem,aJ v]
       exact fin _ _ _ rfl)
  | false=>
  have c2':=c2
  rw [Bool.or_eq_false_iff,Bool.or_eq_false_iff] at c2'
  rw [c2,cond_false] at fin
  cases c4:t.k == 4 with
  | true=>
   rw [c4,cond_true] at fin
   unfold II at fin
   cases d:decide (t.s < (b.length:Int)) with
   | true=>
    rw [d,cond_true] at fin
    simp (maxSteps:=1000000) -dsimp only [go_sem,lB,c1,c2'.1,c2'.2.1,c2'.2.2,c4,d]
    exact fin v0 _ _ rfl
   | false=>
    rw [d,cond_false] at fin
    simp (maxSteps:=1000000) -dsimp only [go_sem,lB,c1,c2'.1,c2'.2.1,c2'.2.2,c4,d]
    exact fin (.mk 4 0 (mk b) [] []) _ _ rfl
  | false=>
  rw [c4,cond_false] at fin
  cases c5:t.k == 5 with
  | true=>
   rw [c5,cond_true] at fin
   simp (maxSteps:=1000000) -dsimp only [go_sem,lB,c1,c2'.1,c2'.2.1,c2'.2.2,c4,c5]
   refine aEG hd hs ht hv c5 hf hb ?_
   generalize jQ (a8 s N (t.e.headD default)) t.s b=w at *
   obtain ⟨v,e⟩:=w
   simp (maxSteps:=1000000) -dsimp only [go_sem,aJ v]
   exact fin _ _ _ rfl
  | false=>
   rw [c5,cond_false] at fin
   have c6:=C4 hv c1 c2 c4 c5
   have hst:=lW hd hv c6
   have hfd:=oA (s:=s) c6
   have hp:DsP N s (stOf s t):=⟨hd,hs,⟨t,rfl⟩,fun f hf=>by have:=hst.2.2 f hf; omega⟩
   simp (maxSteps:=1000000) -dsimp only [go_sem,lB,c1,c2'.1,c2'.2.1,c2'.2.2,c4,c5]
   refine aB rfl (.done ?_)
   simp (maxSteps:=1000000) -dsimp only [go_sem,zZ]
   refine gW hs ?_
   rw [show (fS s.ss t.n).getD default=stOf s t from rfl]
   generalize stOf s t=u at *
   simp (maxSteps:=1000000) -dsimp only [go_sem,aI]
   refine aB rfl (.done ?_)
   simp (maxSteps:=1000000) -dsimp only [go_sem,AX]
   refine HK hp hb ?_
   generalize jG (a8 s N) s u.fs b=w at *
   obtain ⟨v,e⟩:=w
   simp (maxSteps:=1000000) -dsimp only [go_sem,aJ v]
   exact fin _ _ _ rfl
def vB:W.Spec:=fun av H K=>∃ (s:Sc) (nm:ByteArray) (b:List UInt8),av=[.va (.gs (aF s)),tS nm,tS (mk b)]/\H=[]/\s.fit/\b.length<=9223372036854775807/\K (.tu [.gs (aM (eV s nm b).1),iA .i64 (eV s nm b).2]) []
theorem ES {s:Sc} {nm:ByteArray} {b:List UInt8} {K:S->Hp->Prop} (h1:s.fit) (h2:b.length<=9223372036854775807)
 (hK:K (.tu [.gs [.vl (.int .i64 (eV s nm b).1.k),.vl (.int .i64 (eV s nm b).1.n),.vl (.string (eV s nm b).1.s),.fz ((eV s nm b).1.l.map aM),.fz ((eV s nm b).1.f.map bC)],iA .i64 (eV s nm b).2]) []) :
 vB [.va (.gs [.vl (.int .i64 s.ver),.fz (s.es.map aY),.fz (s.ss.map aI)]),tS nm,tS (mk b)] [] K:=⟨s,nm,b,rfl,rfl,h1,h2,by rw [aJ]; exact hK⟩
theorem I7:Meets Tryz.prog 12 vB:=by
 refine aD Tryz.func12 aNW 3 (by rw [Tryz.ntmps12]; decide) (aC I4 (aC (qR (uR 8)) (aA _))) (fun av H K h=>by obtain ⟨_,_,_,rfl,_⟩:=h; rfl) ?_
 rintro av H K ⟨s,nm,b,rfl,rfl,hs,hb,hK⟩
 have fin:∀ (v:Vl) (e:Int) (R:Hp),eV s nm b=(v,e)->W.Fin 0 K (.tu [.gs [.vl (.int .i64 v.k),.vl (.int .i64 v.n),.vl (.string v.s),.fz (v.l.map aM),.fz (v.f.map bC)],iA .i64 e]) R:=fun v e R h=>by
  rw [h] at hK; exact .sel [] (by simp) (by simp) rfl (.done (by rw [aJ] at hK; simpa [go_sem] using hK))
 clear hK
 unfold eV at fin
 simp (maxSteps:=1000000) -dsimp only [go_sem,aF,aDB,aAX]
 refine NE hs ?_
 have hch:CG s nm=bif bP s != 0 then (default,bP s) else bif !(cJ s.ss nm) then (default,6) else (stOf s (fZ nm),0):=rfl
 cases c1:bP s != 0 with
 | true=>
  rw [c1,cond_true] at fin hch
  rw [hch]
  simp (maxSteps:=1000000) -dsimp only [go_sem,qB]
  refine aB rfl (.done ?_)
  simp (maxSteps:=1000000) -dsimp only [go_sem,oS,c1]
  exact fin v0 _ _ rfl
 | false=>
 have hd:=CV hs (eL c1)
 rw [c1,cond_false] at fin hch
 cases c2:cJ s.ss nm with
 | false=>
  rw [c2,Bool.not_false,cond_true] at fin hch
  rw [hch]
  simp (maxSteps:=1000000) -dsimp only [go_sem,qB]
  refine aB rfl (.done ?_)
  have g:((6:Int) != 0)=true:=rfl
  simp (maxSteps:=1000000) -dsimp only [go_sem,oS,g]
  exact fin v0 _ _ rfl
 | true=>
 rw [c2,Bool.not_true,cond_false] at fin hch
 rw [hch]
 obtain ⟨hfd,hv⟩:=M1 hd c2
 have hst:=lW hd hv rfl
 have hp:DsP 8 s (stOf s (fZ nm)):=⟨hd,hs,⟨fZ nm,rfl⟩,fun f hf=>by have:=hst.2.2 f hf; have:=hst.2.1; omega⟩
 cases c3:decide (2000 < (b.length:Int)) with
 | true=>
  rw [c3,cond_true] at fin
  generalize stOf s (fZ nm)=w at *
  simp (maxSteps:=1000000) -dsimp only [go_sem,aI]
  refine aB rfl (.done ?_)
  simp (maxSteps:=1000000) -dsimp only [go_sem,oS,bne_self_eq_false,c3]
  exact fin v0 _ _ rfl
 | false=>
  rw [c3,cond_false] at fin
  have hb2:=of_decide_eq_false c3
  generalize stOf s (fZ nm)=w at *
  simp (maxSteps:=1000000) -dsimp only [go_sem,aI]
  refine aB rfl (.done ?_)
  simp (maxSteps:=1000000) -dsimp only [go_sem,oS,bne_self_eq_false,c3]
  refine aB rfl (.done ?_)
  simp (maxSteps:=1000000) -dsimp only [go_sem,E0]
  refine HK hp (by omega) ?_
  generalize jG (a8 s 8) s w.fs b=z at *
  obtain ⟨v,e⟩:=z
  simp (maxSteps:=1000000) -dsimp only [go_sem,aJ v]
  exact fin _ _ _ rfl
def KB:PC:=.seq (.gh (.reg [.v 63 12,.q 64 (.bin .eql true (.t 63) (.i 0)),.v 65 64,⟨some 66,(some (65,true)),.l (.ldn 5 (.t 11))⟩,⟨some 67,(some (65,true)),.l (.ldn 5 (.t 7))⟩,⟨some 68,(some (65,true)),.cq 14 [(.t 66),(.t 67)]⟩,.a 69 (.pick (.t 65) (.t 68) (.k (.bool false))),.v 70 69,⟨some 71,(some (70,true)),.l (.ldn 3 (.t 3))⟩,⟨some 72,(some (70,true)),.q (.mv (.t 1))⟩,⟨some 73,(some (70,true)),.q (.bd [(.int .i64 0),(.int .i64 0),(.string (mk [])),(.slice none 0 0)] [(0,1,(.i 6)),(2,1,(.t 72))])⟩,⟨some 74,(some (70,true)),.l (.ldn 5 (.t 7))⟩,⟨some 75,(some (70,true)),.cq 15 [(.t 71),(.t 73),(.t 74)]⟩,⟨some 76,(some (70,true)),.q (.bin .eql true (.t 75) (.i 0))⟩,.a 77 (.pick (.t 70) (.t 76) (.k (.bool false))),.v 78 77,⟨some 79,(some (78,true)),.cq 11 []⟩,.a 80 (.pick (.t 78) (.t 79) (.k (.bool false))),.v 6 80])) .ret
@[go_sem ↓] theorem aOM:aO KB:=aP _
def J5:PC:=.seq (.gh (.reg [.l 57 (.ldn 3 (.t 3)),.v 58 1,.v 59 9,.a 60 (.cl 12 [(.t 57),(.t 58),(.t 59)] []),.v 56 60,.q 61 (.ex (.t 56) 0),.q 62 (.ex (.t 56) 1),.e 11 (.al (.agg #[(.int .i64 0),(.int .i64 0),(.string (mk [])),(.slice none 0 0),(.slice none 0 0)]) 29),.s (.st 5 (.t 11) (.t 61)),.v 12 62])) (KB)
@[go_sem ↓] theorem aP0:aO J5:=aP _
def J1:PC:=.seq (.seq (.gh (.reg [.v 35 10,.q 36 (.bin .neq true (.t 35) (.i 0)),.v 37 36,⟨some 38,(some (37,false)),.q (.mv (.t 9))⟩,⟨some 39,(some (37,false)),.q (.lnS (.t 38))⟩,⟨some 40,(some (37,false)),.q (.mv (.t 2))⟩,⟨some 41,(some (37,false)),.q (.lnS (.t 40))⟩,⟨some 42,(some (37,false)),.q (.bin .gtr true (.t 39) (.t 41))⟩,.a 43 (.pick (.t 37) (.k (.bool true)) (.t 42)),.v 44 43,⟨some 45,(some (44,false)),.q (.mv (.t 9))⟩,⟨some 46,(some (44,false)),.q (.lnS (.t 45))⟩,⟨some 47,(some (44,false)),.q (.mv (.t 2))⟩,⟨some 48,(some (44,false)),.q (.lnS (.t 47))⟩,⟨some 49,(some (44,false)),.q (.bin .eql true (.t 46) (.t 48))⟩,⟨some 50,(some (44,false)),.q (.mv (.t 49))⟩,⟨some 51,(some (50,true)),.q (.mv (.t 9))⟩,⟨some 52,(some (50,true)),.q (.mv (.t 2))⟩,⟨some 53,(some (50,true)),.q (.bin .neq true (.t 51) (.t 52))⟩,⟨some 54,(some (44,false)),.pick (.t 50) (.t 53) (.k (.bool false))⟩,.a 55 (.pick (.t 44) (.k (.bool true)) (.t 54))])) (.cond (.t 55) (.seq (.reg [.q 6 (.mv (.k (.bool false)))]) .ret) .skip)) (J5)
@[go_sem ↓] theorem aO5:aO J1:=aP _
def K3:PC:=.seq (.gh (.reg [.l 29 (.ldn 3 (.t 3)),.v 30 1,.l 31 (.ldn 5 (.t 7)),.a 32 (.cl 9 [(.t 29),(.t 30),(.t 31)] []),.v 28 32,.q 33 (.ex (.t 28) 0),.q 34 (.ex (.t 28) 1),.v 9 33,.v 10 34])) (J1)
@[go_sem ↓] theorem aPJ:aO K3:=aP _
def CR:PC:=.seq (.seq (.gh (.reg [.v 20 8,.q 21 (.bin .neq true (.t 20) (.i 0))])) (.cond (.t 21) (.seq (.reg [.l 22 (.ldn 5 (.t 7)),.q 23 (.bd [(.int .i64 0),(.int .i64 0),(.string (mk [])),(.slice none 0 0),(.slice none 0 0)] []),.a 24 (.cq 14 [(.t 22),(.t 23)]),.v 25 24,⟨some 26,(some (25,true)),.cq 11 []⟩,.a 27 (.pick (.t 25) (.t 26) (.k (.bool false))),.v 6 27]) .ret) .skip)) (K3)
@[go_sem ↓] theorem aPI:aO CR:=aP _
def pc5:PC:=.seq (.reg [.e 3 (.bx 25 (.t 0)),.q 6 (.mv (.k (.bool false)))]) (.seq (.reg [.l 14 (.ldn 3 (.t 3)),.v 15 1,.v 16 2,.a 17 (.cl 12 [(.t 14),(.t 15),(.t 16)] []),.v 13 17,.q 18 (.ex (.t 13) 0),.q 19 (.ex (.t 13) 1),.e 7 (.al (.agg #[(.int .i64 0),(.int .i64 0),(.string (mk [])),(.slice none 0 0),(.slice none 0 0)]) 29),.s (.st 5 (.t 7) (.t 18)),.v 8 19]) (CR))
def rs5:List RV:=[.mv (.t 6)]
theorem ok5:aR Tryz.prog true ⟨fun r k=>if r=3/\k=2 then .q else if r=3/\k=4 then .q else if r=8/\k=5 then .q else if r=8/\k=12 then .q else if r=8/\k=16 then .q else .own [],fun r=>[2,4,5,7,8].contains r⟩ Tryz.f5=some (pc5,rs5):=by kernel_rfl
def F6:PC:=.seq (.gh (.reg [.v 32 3,.q 33 (.bin .eql true (.t 32) (.k (.string (mk [1,1,3,2,1,1])))),.v 34 33,⟨some 35,(some (34,true)),.q (.mv (.t 4))⟩,⟨some 36,(some (34,true)),.q (.bin .eql true (.t 35) (.i 0))⟩,.a 37 (.pick (.t 34) (.t 36) (.k (.bool false))),.v 38 37,⟨some 39,(some (38,true)),.l (.ldn 5 (.t 5))⟩,⟨some 40,(some (38,true)),.l (.ldn 5 (.t 2))⟩,⟨some 41,(some (38,true)),.cq 14 [(.t 39),(.t 40)]⟩,.a 42 (.pick (.t 38) (.t 41) (.k (.bool false))),.v 43 42,⟨some 44,(some (43,true)),.q (.mv (.t 6))⟩,⟨some 45,(some (43,true)),.q (.bin .eql true (.t 44) (.i 0))⟩,.a 46 (.pick (.t 43) (.t 45) (.k (.bool false))),.v 47 46,⟨some 48,(some (47,true)),.q (.mv (.t 8))⟩,⟨some 49,(some (47,true)),.q (.bin .eql true (.t 48) (.i 2))⟩,.a 50 (.pick (.t 47) (.t 49) (.k (.bool false))),.v 0 50])) .ret
@[go_sem ↓] theorem aL2:aO F6:=aP _
def FU:PC:=.seq (.gh (.reg [.l 28 (.ldn 3 (.t 1)),.a 29 (.cl 12 [(.t 28),(.k (.string (mk [80]))),(.k (.string (mk [1,1,0])))] []),.v 27 29,.q 30 (.ex (.t 27) 0),.q 31 (.ex (.t 27) 1),.e 7 (.al (.agg #[(.int .i64 0),(.int .i64 0),(.string (mk [])),(.slice none 0 0),(.slice none 0 0)]) 29),.s (.st 5 (.t 7) (.t 30)),.v 8 31])) (F6)
@[go_sem ↓] theorem aN8:aO FU:=aP _
def GM:PC:=.seq (.gh (.reg [.l 23 (.ldn 3 (.t 1)),.a 24 (.cl 12 [(.t 23),(.k (.string (mk [80]))),(.k (.string (mk [1,1,3,2,1,1])))] []),.v 22 24,.q 25 (.ex (.t 22) 0),.q 26 (.ex (.t 22) 1),.e 5 (.al (.agg #[(.int .i64 0),(.int .i64 0),(.string (mk [])),(.slice none 0 0),(.slice none 0 0)]) 29),.s (.st 5 (.t 5) (.t 25)),.v 6 26])) (FU)
@[go_sem ↓] theorem aLZ:aO GM:=aP _
def GB:PC:=.seq (.gh (.reg [.l 17 (.ldn 3 (.t 1)),.l 18 (.ldn 5 (.t 2)),.a 19 (.cl 9 [(.t 17),(.k (.string (mk [80]))),(.t 18)] []),.v 16 19,.q 20 (.ex (.t 16) 0),.q 21 (.ex (.t 16) 1),.v 3 20,.v 4 21])) (GM)
@[go_sem ↓] theorem aMD:aO GB:=aP _
def aBO:PC:=.seq (.reg [.q 0 (.mv (.k (.bool false)))]) (.seq (.reg [.a 9 (.cl 29 [] []),.e 1 (.al (.agg #[(.int .i64 0),(.slice none 0 0),(.slice none 0 0)]) 25),.s (.st 3 (.t 1) (.t 9))]) (.seq (.reg [.q 10 (.bd [(.int .i64 0),(.int .i64 0),(.string (mk [])),(.slice none 0 0),(.slice none 0 0)] [(0,1,(.i 2)),(1,1,(.i (-2)))]),.q 11 (.bd [(.int .i64 0),(.int .i64 0),(.int .i64 0),(.string (mk [])),(.slice none 0 0),(.slice none 0 0)] [(0,1,(.i 1)),(1,5,(.t 10))]),.q 12 (.bd [(.int .i64 0),(.int .i64 0),(.string (mk [])),(.slice none 0 0),(.slice none 0 0)] [(0,1,(.i 1)),(1,1,(.i 1))]),.q 13 (.bd [(.int .i64 0),(.int .i64 0),(.int .i64 0),(.string (mk [])),(.slice none 0 0),(.slice none 0 0)] [(0,1,(.i 2)),(1,5,(.t 12))]),.e 14 (.bsl 76 6 [(.t 11),(.t 13)]),.q 15 (.bd [(.int .i64 0),(.int .i64 0),(.string (mk [])),(.slice none 0 0),(.slice none 0 0)] [(0,1,(.i 6)),(4,1,(.t 14))]),.e 2 (.al (.agg #[(.int .i64 0),(.int .i64 0),(.string (mk [])),(.slice none 0 0),(.slice none 0 0)]) 29),.s (.st 5 (.t 2) (.t 15))]) (GB)))
def YO:List RV:=[.mv (.t 0)]
theorem aNF:aR Tryz.prog true ⟨fun r k=>if r=6/\k=9 then .q else .own [],fun r=>[3,4,5,6].contains r⟩ Tryz.f11=some (aBO,YO):=by kernel_rfl
def aDH:PC:=.seq (.reg [.e 0 (.al (.agg #[(.int .i64 0),(.slice none 0 0),(.slice none 0 0)]) 25)]) (.seq (.reg [.q 1 (.bd [(.int .i64 0),(.int .i64 0),(.string (mk [])),(.slice none 0 0)] [(0,1,(.i 2)),(1,1,(.i 32))]),.q 2 (.bd [(.int .i64 0),(.string (mk [])),(.int .i64 0),(.int .i64 0),(.string (mk [])),(.slice none 0 0),(.bool false)] [(0,1,(.i 1)),(1,1,(.k (.string (mk [120])))),(2,4,(.t 1))]),.q 3 (.bd [(.int .i64 0),(.int .i64 0),(.string (mk [])),(.slice none 0 0)] [(0,1,(.i 1))]),.q 4 (.bd [(.int .i64 0),(.string (mk [])),(.int .i64 0),(.int .i64 0),(.string (mk [])),(.slice none 0 0),(.bool false)] [(0,1,(.i 2)),(1,1,(.k (.string (mk [111,110])))),(2,4,(.t 3))]),.e 5 (.bsl 52 7 [(.t 2),(.t 4)]),.q 6 (.bd [(.string (mk [])),(.slice none 0 0)] [(0,1,(.k (.string (mk [80])))),(1,1,(.t 5))]),.e 7 (.bslx 48 2 [(.t 6)]),.q 8 (.bd [(.int .i64 0),(.slice none 0 0),(.slice none 0 0)] [(0,1,(.i 1)),(2,1,(.t 7))]),.s (.st 3 (.t 0) (.t 8))]) .ret)
def aBC:List RV:=[.ld (.ldn 3 (.t 0))]
theorem aLY:aR Tryz.prog true ⟨fun r k=>if r=1/\k=6 then .q else .own [],fun _=>false⟩ Tryz.f29=some (aDH,aBC):=by kernel_rfl
def yF1:Fl:=⟨1,mk [120],.mk 2 32 (mk []) [],false⟩
def yF2:Fl:=⟨2,mk [111,110],.mk 1 0 (mk []) [],false⟩
def ySt:St:=⟨mk [80],[yF1,yF2]⟩
def yS:Sc:=⟨1,[],[ySt]⟩
def ySp:W.Spec:=fun av H K=>av=[]/\H=[]/\K (.va (.gs (aF yS))) []
theorem JZ:Meets Tryz.prog 29 ySp:=by
 refine aD Tryz.func29 aLY 0 (by rw [Tryz.ntmps29]; decide) (aA _) (fun av H K h=>by obtain ⟨rfl,_⟩:=h; rfl) ?_
 rintro av H K ⟨rfl,rfl,hK⟩
 simp (maxSteps:=1000000) -dsimp only [go_sem,aDH,aBC]
 refine .opn 1 _ _ _ rfl (.nfr 1 _ _ _ rfl (.shu 1 _ _ _ rfl ?_ (.pub 1 _ _ _ rfl ?_)))
 · simp [C.nf,C.shut]
 simp -dsimp only [go_sem,dA,C.nf,C.pub]
 refine .shu 2 _ _ _ rfl ?_ (.pub 2 _ _ _ rfl ?_)
 · simp [C.shut]
 simp -dsimp only [go_sem,dA,C.pub]
 refine .sel [] (by simp) (by simp) rfl (.done ?_)
 simp -dsimp only [go_sem]
 exact hK
def yV:Vl:=.mk 6 0 (mk []) [] [(1,.mk 2 (-2) (mk []) [] []),(2,.mk 1 1 (mk []) [] [])]
abbrev yN:ByteArray:=mk [80]
theorem ye1:nC yS yN yV=([1,1,3,2,1,1],0):=by kernel_rfl
theorem ye2:eV yS yN [1,1,3,2,1,1]=(yV,0):=by kernel_rfl
theorem ye3:eV yS yN [1,1,0]=(v0,2):=by kernel_rfl
theorem aGN:yS.ok:=by
 refine ⟨⟨by decide,by decide⟩,by decide,by decide,fun e he=>(by cases he),fun u hu=>?_⟩
 rw [List.mem_singleton.1 hu]
 refine ⟨by decide,by decide,fun f hf=>?_⟩
 have:f=yF1\/f=yF2:=by simpa [ySt] using hf
 rcases this with rfl | rfl
 · exact ⟨⟨by decide,by decide⟩,by decide,ty0 _ _ _ ⟨by decide,by decide⟩ ⟨by decide,by decide⟩ (by decide)⟩
 · exact ⟨⟨by decide,by decide⟩,by decide,ty0 _ _ _ ⟨by decide,by decide⟩ ⟨by decide,by decide⟩ (by decide)⟩
theorem aEF:PZ yS=true:=by kernel_rfl
theorem MY:yS.fit:=WV aGN aEF
theorem RG:VlOk yV:=by
 have hf:∀ k n:Int,bU k->bU n->VlOk (.mk k n (mk []) [] []):=fun k n h1 h2=>FD h1 h2 (by decide)
 refine .mk ⟨by decide,by decide⟩ ⟨by decide,by decide⟩ (by decide) (by decide) (by decide) (fun x h=>by cases h) (fun x hx=>?_) (fun x hx=>?_)
 · have:x=(1,.mk 2 (-2) (mk []) [] [])\/x=(2,.mk 1 1 (mk []) [] []):=by simpa using hx
   rcases this with rfl | rfl<;>exact ⟨by decide,by decide⟩
 · have:x=(1,.mk 2 (-2) (mk []) [] [])\/x=(2,.mk 1 1 (mk []) [] []):=by simpa using hx
   rcases this with rfl | rfl
   · exact hf _ _ ⟨by decide,by decide⟩ ⟨by decide,by decide⟩
   · exact hf _ _ ⟨by decide,by decide⟩ ⟨by decide,by decide⟩
noncomputable def yE:cL:=[(29,.s ySp),(9,.s vC),(12,.s vB),(14,.f eqFn2)]
theorem aF4:sp yE 29=ySp:=rfl
theorem aHP:sp yE 9=vC:=rfl
theorem R9:sp yE 12=vB:=rfl
theorem aF2:kF yE 14=some eqFn2:=rfl
theorem aNJ {K:S->Hp->Prop} (hK:K (.tu [tA (mk [1,1,3,2,1,1]),iA .i64 0]) []) :
 vC [.va (.gs [.vl (.int .i64 yS.ver),.fz (yS.es.map aY),.fz (yS.ss.map aI)]),tS yN,.va (.gs [.vl (.int .i64 yV.k),.vl (.int .i64 yV.n),.vl (.string yV.s),.fz (yV.l.map aM),.fz (yV.f.map bC)])] [] K:=
 M2 MY (by decide) RG (by rw [ye1]; exact hK)
theorem aCW {b:List UInt8} {v:Vl} {e:Int} {K:S->Hp->Prop} (h:eV yS yN b=(v,e)) (hb:b.length<=9223372036854775807) (hK:K (.tu [.gs [.vl (.int .i64 v.k),.vl (.int .i64 v.n),.vl (.string v.s),.fz (v.l.map aM),.fz (v.f.map bC)],iA .i64 e]) []) :
 vB [.va (.gs [.vl (.int .i64 yS.ver),.fz (yS.es.map aY),.fz (yS.ss.map aI)]),tS yN,tS (mk b)] [] K:=ES MY hb (by rw [h]; exact hK)
theorem QN:Meets Tryz.prog 11 qTrue.sp:=by
 refine aD (Γ:=yE) Tryz.func11 aNF 0 (by rw [Tryz.ntmps11]; decide) (aC JZ (aC JE (aC I7 (aG IX (aA _))))) M0 ?_
 rintro av H K ⟨⟨h,rfl⟩,hK⟩
 obtain rfl:av=[]:=h
 have hK:K (bS true) []:=hK
 have fin:∀ R:Hp,W.Fin 0 K (bS true) R:=fun R=>.sel [] (by simp) (by simp) rfl (.done (by simpa [go_sem] using hK))
 clear hK
 simp (maxSteps:=1000000) -dsimp only [go_sem,aBO,YO,aF4]
 refine ⟨rfl,rfl,?_⟩
 simp (maxSteps:=1000000) -dsimp only [go_sem,aF]
 refine aB rfl (.opn 1 _ _ _ rfl (.nfr 1 _ _ _ rfl (.shu 1 _ _ _ rfl ?_ (.pub 1 _ _ _ rfl (.done ?_)))))
 · simp [C.nf,C.shut]
 have g0:(0:Int)=0:=rfl
 simp (maxSteps:=1000000) -dsimp only [go_sem,dA,C.nf,C.pub,GB,aHP]
 refine aNJ ?_
 simp (maxSteps:=1000000) -dsimp only [go_sem]
 refine aB rfl (.done ?_)
 simp (maxSteps:=1000000) -dsimp only [go_sem,GM,R9]
 refine aCW ye2 (by decide) ?_
 simp (maxSteps:=1000000) -dsimp only [go_sem]
 refine aB rfl (.done ?_)
 simp (maxSteps:=1000000) -dsimp only [go_sem,FU,R9]
 refine aCW ye3 (by decide) ?_
 simp (maxSteps:=1000000) -dsimp only [go_sem]
 refine aB rfl (.done ?_)
 have k1:=cD RG
 have k2:=dS yV
 have kx1:kD [.vl (.int .i64 6),.vl (.int .i64 0),.vl (.string (mk [])),.fz [],.fz [[.vl (.int .i64 1),.vl (.int .i64 2),.vl (.int .i64 (-2)),.vl (.string (mk [])),.fz [],.fz []],[.vl (.int .i64 2),.vl (.int .i64 1),.vl (.int .i64 1),.vl (.string (mk [])),.fz [],.fz []]]]:=k1
 have kx2:C.vv [.vl (.int .i64 6),.vl (.int .i64 0),.vl (.string (mk [])),.fz [],.fz [[.vl (.int .i64 1),.vl (.int .i64 2),.vl (.int .i64 (-2)),.vl (.string (mk [])),.fz [],.fz []],[.vl (.int .i64 2),.vl (.int .i64 1),.vl (.int .i64 1),.vl (.string (mk [])),.fz [],.fz []]]]=yV:=k2
 have g0:(([1,1,3,2,1,1]:List UInt8) == [1,1,3,2,1,1])=true:=by decide
 have g1:((0:Int) == 0)=true:=rfl
 have g2:((2:Int) == 2)=true:=rfl
 have g3:=pA yV
 simp (maxSteps:=1000000) -dsimp only [go_sem,F6,aF2,k1,k2,kx1,kx2,g0,g1,g2,g3,Bool.true_and]
 exact fin _
def DR:List S->Prop:=fun av=>match av with
 | [.va (.gs r),.va (.c1 (.vl (.string nm))),.va (.c1 (.vl (.string b)))]=>lZ r/\nm.size<=9223372036854775807/\b.size<=9223372036854775807
 | _=>False
theorem xB {av:List S} (h:DR av):∃ (s:Sc) (nm:ByteArray) (b:List UInt8),av=[.va (.gs (aF s)),tS nm,tS (mk b)]/\s.fit/\nm.size<=9223372036854775807/\b.length<=9223372036854775807:=by
 unfold DR at h
 split at h
 · rename_i r nm b
   obtain ⟨⟨s,rfl,hs⟩,hn,hb⟩:=h
   rw [dC] at hb
   exact ⟨s,_,bl b,by rw [gI],hs,hn,hb⟩
 · exact h.elim
def lcFn:Fun:=⟨DR,fun _=>bA true,fun _ _=>trivial⟩
attribute [go_sem] lcFn DR
noncomputable def IA:cL:=[(9,.s vC),(12,.s vB),(14,.f eqFn2),(11,.f qTrue),(15,.f (eC (qW 7) fun s t v=>.int .i64 (gH s t v)))]
theorem aB6:sp IA 9=vC:=rfl
theorem LW:sp IA 12=vB:=rfl
theorem MP:kF IA 14=some eqFn2:=rfl
theorem NL:kF IA 11=some qTrue:=rfl
theorem aD0:kF IA 15=some (eC (qW 7) fun s t v=>.int .i64 (gH s t v)):=rfl
theorem aFX (s:Sc) (nm:ByteArray) (b:List UInt8):(eV s nm b).2 ≠ 0->(eV s nm b).1=v0:=by
 unfold eV
 cases bP s != 0 with
 | true=>exact fun _=>rfl
 | false=>
 cases !(cJ s.ss nm) with
 | true=>exact fun _=>rfl
 | false=>
 cases decide (2000 < (b.length:Int)) with
 | true=>exact fun _=>rfl
 | false=>
 rw [cond_false,cond_false,cond_false]
 unfold jG
 cases (cN (a8 s 8) s (stOf s (.mk 6 0 nm [])).fs b.length 0 b).2 != 0 with
 | true=>exact fun _=>rfl
 | false=>exact fun h=>absurd rfl h
theorem CP:Meets Tryz.prog 5 lcFn.sp:=by
 refine aD (Γ:=IA) Tryz.func5 ok5 3 (by rw [Tryz.ntmps5]; decide) (aC JE (aC I7 (aG IX (aG QN (aG (WL 7 (by decide)) (aA _)))))) (fun av H K h=>by obtain ⟨_,_,_,rfl,_⟩:=xB h.1.1; rfl) ?_
 rintro av H K ⟨⟨h,rfl⟩,hK⟩
 obtain ⟨s,nm,b,rfl,hs,hnm,hb⟩:=xB h
 have hK:K (bS true) []:=hK
 clear h
 have fin:∀ R:Hp,W.Fin 0 K (bS true) R:=fun R=>.sel [] (by simp) (by simp) rfl (.done (by simpa [go_sem] using hK))
 clear hK
 have k6:=dQ hs
 have k7:=iB s
 have g1:((0:Int) == 0)=true:=rfl
 have g2:((0:Int) != 0)=false:=rfl
 simp (maxSteps:=1000000) -dsimp only [go_sem,aF,pc5,rs5,LW]
 refine ES hs hb ?_
 simp (maxSteps:=1000000) -dsimp only [go_sem]
 refine aB rfl (.done ?_)
 cases c1:(eV s nm b).2 != 0 with
 | true=>
  have he:=aFX s nm b (iZ c1)
  rw [he]
  have k1:kD [.vl (.int .i64 v0.k),.vl (.int .i64 v0.n),.vl (.string v0.s),.fz (v0.l.map aM),.fz (v0.f.map bC)]:=cD gZ
  have k2:=dS v0
  have kx1:kD [.vl (.int .i64 0),.vl (.int .i64 0),.vl (.string (mk [])),.fz [],.fz []]:=k1
  have kx2:C.vv [.vl (.int .i64 0),.vl (.int .i64 0),.vl (.string (mk [])),.fz [],.fz []]=v0:=k2
  have g3:=pA v0
  simp (maxSteps:=1000000) -dsimp only [go_sem,CR,c1,MP,NL,k1,k2,kx1,kx2,g3,Bool.true_and]
  exact fin _
 | false=>
  have h0:=eL c1
  obtain ⟨c,e1,hle,e2,hck,hvo⟩:=aBB hs hnm h0
  have hty:=NU hnm
  have hh:=KI hck
  generalize hw:(eV s nm b).1=v at *
  have k1:=cD hvo
  have k2:=dS v
  have k4:=d7 hty
  have k5:=iP (fZ nm)
  have kx4:jZ [.vl (.int .i64 6),.vl (.int .i64 0),.vl (.string nm),.fz []]:=k4
  have kx5:C.ty [.vl (.int .i64 6),.vl (.int .i64 0),.vl (.string nm),.fz []]=fZ nm:=k5
  have k8:qW 7 s (fZ nm) v=True:=eq_true hh
  have g3:=pA v
  simp (maxSteps:=1000000) -dsimp only [go_sem,CR,c1]
  refine aB rfl (.done ?_)
  simp (maxSteps:=1000000) -dsimp only [go_sem,K3,aB6]
  refine M2 hs hnm hvo ?_
  rw [e1]
  simp (maxSteps:=1000000) -dsimp only [go_sem]
  refine aB rfl (.done ?_)
  have g4:decide ((b.length:Int) < (c.length:Int))=false:=by have:=hle.1; simp; omega
  have g5:(bif (c.length:Int) == (b.length:Int) then !(c == b) else false)=false:=by
   cases q:(c.length:Int) == (b.length:Int) with
   | false=>rfl
   | true=>
    have:=eq_of_beq q
    rw [hle.2 (by omega)]
    simp
  simp (maxSteps:=1000000) -dsimp only [go_sem,J1,g2,g4,g5]
  refine aB rfl (.done ?_)
  simp (maxSteps:=1000000) -dsimp only [go_sem,J5,LW]
  refine ES hs (Nat.le_trans hle.1 hb) ?_
  rw [e2]
  simp (maxSteps:=1000000) -dsimp only [go_sem]
  refine aB rfl (.done ?_)
  simp (maxSteps:=1000000) -dsimp only [go_sem,KB,MP,aD0,NL,g1,g3,k1,k2,k4,k5,kx4,kx5,k6,k7,k8,hck,Bool.true_and]
  exact fin _
end Go.Proofs.YthpbnmebjocbeaaGreat
namespace Go.W
open Go.RowKit
structure Stay (w w':World):Prop where
 os:w'.os=w.os
 out:w'.output=w.output
 size:w.heap.size<=w'.heap.size
 keep:∀ b:Nat,b < w.heap.size->w'.heap[b]? = w.heap[b]?
theorem Stay.kept {w w':World} (h:Stay w w') (may:MemPlace->Prop):w.keptBut w' may:=by
 refine ⟨h.os,h.out,fun i hi=>?_⟩
 rw [h.keep i hi]
 split
 · rename_i h1 h2; rw [h1] at h2; cases h2; exact ⟨rfl,rfl,rfl,fun _ _=>rfl⟩
 · rename_i h1 h2; rw [h1] at h2; cases h2; exact Or.inr ⟨rfl,rfl⟩
 · rfl
theorem Stay.frozen {w w':World} (h:Stay w w') {a:Addr} (ha:a.block < w.heap.size):w'.frozen? a=w.frozen? a:=by
 unfold World.frozen?; rw [h.keep _ ha]
theorem Stay.cell {w w':World} (h:Stay w w') {a:Addr} (ha:a.block < w.heap.size):w'.cell? a=w.cell? a:=by
 unfold World.cell?; rw [h.keep _ ha]
theorem XX {w:World} {ro:RO} (h:∀ (b off:Nat) (v:Value),ro b off=some v->w.cell? ⟨b,off,none⟩=some v):Rel ⟨w,cQ [],ro,gm []⟩ [] ro w where
 own:=fun n g blk h=>by simp at h
 inj:=fun n m gn gm bn bm b h=>by simp at h
 apart:=fun b off v _ n g blk h=>by simp at h
 rd:=h
 ro0:=fun _ _ _ h=>h
 rob:=fun b off v h=>.inl h
 par:=fun n b g blk h=>by simp at h
 gx:=.refl _
 sz:=Nat.le_refl _
 keep:=fun b _ _=>rfl
 os:=rfl
 tape:=rfl
 output:=rfl
theorem Meets.run {P:Program} {f:FuncId} {s:Fun} (hm:Meets P f s.sp) {av:List S} {vs:List Value} {ro:RO} {w:World} {x:A} (hpre:s.pre av) (hval:s.val av=x) (hl:av.length=vs.length)
 (hrel:∀ (i:Nat) (x:S) (v:Value),av[i]? = some x->vs[i]? = some v->x.rel (gm []) ro v) (hro:∀ (b off:Nat) (v:Value),ro b off=some v->w.cell? ⟨b,off,none⟩=some v) (hG:GR P ro w) :
 Calls P f vs.toArray w fun e w'=>∃ v γ ro',e=.returned v/\S.rel γ ro' (.va x) v/\Stay w w':=by
 subst hval
 refine (hm.2 av vs [] ro w (fun r H=>r=.va (s.val av)/\H=[]) hl hrel (XX hro) ⟨⟨hpre,rfl⟩,rfl,rfl⟩ hG).mono ?_
 rintro e w' ⟨r,v,E',ro',rfl,h1,⟨rfl,h2⟩,h3⟩
 exact ⟨v,_,ro',rfl,h1,h3.os,h3.output,h3.sz,fun b hb=>h3.keep b hb (by simp [cQ])⟩
theorem Meets.yes {P:Program} {f:FuncId} {s:Fun} (hm:Meets P f s.sp) {av:List S} {vs:List Value} {ro:RO} {w:World} (hpre:s.pre av) (hval:s.val av=.c1 (.vl (.bool true))) (hl:av.length=vs.length)
 (hrel:∀ (i:Nat) (x:S) (v:Value),av[i]? = some x->vs[i]? = some v->x.rel (gm []) ro v) (hro:∀ (b off:Nat) (v:Value),ro b off=some v->w.cell? ⟨b,off,none⟩=some v) (hG:GR P ro w) :
 Calls P f vs.toArray w fun e w'=>e=.returned (.bool true)/\Stay w w':=by
 refine (hm.run hpre hval hl hrel hro hG).mono ?_
 rintro e w' ⟨v,γ,ro',rfl,h1,h2⟩
 have:v=.bool true:=h1
 exact ⟨by rw [this],h2⟩
section
variable {H:Type} {enc:TypeId × Value->H} {P:Program}
theorem EW {f:Func} {s:ChangeSpec} {apart fresh handsOn again:Bool} {W W':World} {args:Array Value} {v:Value} {ds gs:List (DataW H)} {before pa pv:List MemPlace}
 (hW:DataW.Whole enc P f.params.toList s.vars apart W args.toList ds gs before)
 (hres:∀ (b:Nat) (sp:Nat->Bool) (hd:Bool),DataW.TrodAll enc P W' b sp hd f.resultTypes.toList (v.resultList f.resultTypes.size) (s.fn H (ds ++ gs)).results [])
 (hargs:∀ sp:Nat->Bool,(∀ p ∈ before,sp p.block=true)->DataW.TrodAll enc P W' 0 sp true f.params.toList args.toList (s.fn H (ds ++ gs)).args pa)
 (hvars:∀ sp:Nat->Bool,(∀ p ∈ before,sp p.block=true)->DataW.TrodVars enc P W' sp s.vars (s.fn H (ds ++ gs)).vars pv)
 (hps:before=pa ++ pv) (hs:Stay W W')
 (hok:∀ (j:Nat) (t:TypeId) (r:Value),f.resultTypes[j]? = some t->(v.resultList f.resultTypes.size)[j]? = some r->Value.okWide P W' .any 0 t r) :
 s.post enc P f apart fresh handsOn again W args v W':=by
 have hlt:∀ p ∈ before,p.block < W.heap.size:=fun p hp=>hW.lt p hp
 have hsp:∀ p ∈ before,(fun b=>decide (b < W.heap.size)) p.block=true:=fun p hp=>by simpa using hlt p hp
 have hall:∀ p ∈ before,(fun _:Nat=>true) p.block=true:=fun _ _=>rfl
 obtain ⟨_,_,_,_,_,hz,hn⟩:=id hW
 refine ⟨ds,gs,before,[],pa,pv,hW,hres _ _ _,hargs _ hsp,hvars _ hsp,World.keptBut_mono (fun p hp=>⟨hp,.inr ?_⟩) (hs.kept (· ∈ before)),fun _=>⟨hok,_,_,([] ++ pa) ++ pv,
  ⟨[] ++ pa,pv,ChangeShapes.trodAll_append (hargs _ hall) (hres _ _ _),hvars _ hall,rfl,fun b off hp=>?_,fun ha=>?_⟩,fun p hp _=>?_⟩⟩
 · rw [hps,List.mem_append] at hp; exact hp
 · have hb:MemPlace.cell b off ∈ before:=by rw [hps]; simpa using hp
   rw [hs.frozen (hlt _ hb)]
   exact hz b off hb
 · have:=hn ha
   rw [hps] at this
   simpa using this
 · rw [hps]
   simpa using hp
end
open Go.RowKit
def iC (W:World):RO:=fun b off=>W.cell? ⟨b,off,none⟩
theorem Z4 (W:World):∀ (b off:Nat) (v:Value),iC W b off=some v->W.cell? ⟨b,off,none⟩=some v:=fun _ _ _ h=>h
theorem ME (ro:RO):FzR ro [] (.slice none 0 0):=
 FzR.mk [] 1 none none (fun h=>absurd rfl h) 0 (fun _=>.bool true) (by simp) (by simp) (by simp) (by simp) (by simp) (by simp) (by simp)
def pW (P:Program):Bool:=(List.range P.types.size).all fun t=>match P.underlying t with | some (.slice e)=>decide (0 < P.cellsOf e) | _=>true
section
variable {H:Type} {enc:TypeId × Value->H} {P:Program}
theorem NW {W W':World} (h:Stay W W') {p:MemPlace} (hp:p.block < W.heap.size):W.sameAt W' p:=by
 cases p with
 | cell b off=>exact h.cell (a:=⟨b,off,none⟩) hp
 | map b=>exact h.keep b hp
theorem rP {W W':World} {sp:Nat->Bool} (hl:laidOutB P=true) (hm:mapsRowed P=true) (hs:pW P=true) (hst:Stay W W') :
 ∀ {ts:List TypeId} {vs:List Value} {ds:List (DataW H)} {ps:List MemPlace},(∀ t ∈ ts,t < P.types.size)->DataW.TrodAll enc P W 0 (fun _=>true) true ts vs ds ps->(∀ p ∈ ps,p.block < W.heap.size)->(∀ p ∈ ps,sp p.block=true)->
  DataW.TrodAll enc P W' 0 sp true ts vs ds ps
 | [],[],[],ps,_,h,_,_=>h
 | t :: ts,v :: vs,d :: ds,ps,ht,h,hb,hp=>by
  obtain ⟨p,q,⟨n,h1⟩,h2,rfl⟩:=h
  have hsz:∀ {t e:TypeId},t < P.types.size->P.underlying t=some (.slice e)->0 < P.cellsOf e:=fun {t e} ht hu=>by
   have:=List.all_eq_true.1 hs t (List.mem_range.2 ht)
   rw [hu] at this
   simpa using this
  exact ⟨p,q,⟨n,DataW.trod_stays (T:=(· < P.types.size)) (kids_rows hl hm) hsz (fun h=>by cases h) (ht t (by simp)) h1 (fun x hx=>NW hst (hb x (by simp [hx]))) (fun x hx=>hp x (by simp [hx]))⟩,
   rP hl hm hs hst (fun u hu=>ht u (by simp [hu])) h2 (fun x hx=>hb x (by simp [hx])) (fun x hx=>hp x (by simp [hx])),rfl⟩
 | [],_ :: _,_,_,_,h,_,_=>h.elim
 | [],[],_ :: _,_,_,h,_,_=>h.elim
 | _ :: _,[],_,_,_,h,_,_=>h.elim
 | _ :: _,_ :: _,[],_,_,h,_,_=>h.elim
theorem QK {f:Func} {s:ChangeSpec} {apart fresh handsOn again:Bool} {W W':World} {args:Array Value} {ds gs:List (DataW H)} {before:List MemPlace} {tb:TypeId}
 (hl:laidOutB P=true) (hm:mapsRowed P=true) (hsr:pW P=true) (hps:∀ t ∈ f.params.toList,t < P.types.size) (hrt:f.resultTypes=#[tb]) (htb:P.underlying tb=some .bool)
 (hvars:s.vars=[]) (hW:DataW.Whole enc P f.params.toList s.vars apart W args.toList ds gs before) (hfn:s.fn H (ds ++ gs)={ results:=[.lit (.bool true)],args:=ds,vars:=[] }) (hst:Stay W W') :
 s.post enc P f apart fresh handsOn again W args (.bool true) W':=by
 have hlt:∀ p ∈ before,p.block < W.heap.size:=fun p hp=>hW.lt p hp
 obtain ⟨p,q,hA,hV,hb,_,_⟩:=id hW
 have hq:q=[]:=by
  rw [hvars] at hV
  cases gs with
  | nil=>exact hV
  | cons g gs=>exact hV.elim
 subst hq
 have hbp:before=p:=by rw [hb]; simp
 refine EW (pa:=p) (pv:=[]) hW (fun b sp hd=>?_) (fun sp hsp=>?_) (fun sp hsp=>?_) hb hst ?_
 · rw [hrt,hfn]
   exact ⟨[],[],⟨1,by simp [DataW.trod,Value.cells,htb]⟩,rfl,rfl⟩
 · rw [hfn]
   rw [hbp] at hlt hsp
   exact rP hl hm hsr hst hps hA hlt hsp
 · rw [hfn,hvars]; rfl
 · intro j t r h1 h2
   rw [hrt] at h1 h2
   match j with
   | 0=>
    cases h1
    cases h2
    simp [Value.okWide,Cell.okWide,Cell.ok,htb]
   | j + 1=>cases h1
end
open Go.RowKit
inductive Fit (P:Program):TypeId->List C->Prop
 | int {t:TypeId} {k:IntKind} {n:Int}:P.underlying t=some (.int k)->(Lit.int k n).wf=true->Fit P t [.vl (.int k n)]
 | bool {t:TypeId} {b:Bool}:P.underlying t=some .bool->Fit P t [.vl (.bool b)]
 | str {t:TypeId} {s:ByteArray}:P.underlying t=some .string->s.size<=maxLen->Fit P t [.vl (.string s)]
 | sl {t e:TypeId} {xs:List (List C)}:P.underlying t=some (.slice e)->xs.length<=maxLen->(∀ r ∈ xs,Fit P e r)->Fit P t [.fz xs]
 | st {t:TypeId} {fs:Array Field} {parts:List (List C)}:P.underlying t=some (.struct fs)->parts.length=fs.size->(∀ (i:Nat) (f:Field) (p:List C),fs[i]? = some f->parts[i]? = some p->Fit P f.type p)->Fit P t parts.flatten
section
variable {P:Program} {t e:TypeId} {xs:List C}
theorem Fit.inv_int {k:IntKind} (ht:P.underlying t=some (.int k)) (h:Fit P t xs):∃ n:Int,xs=[.vl (.int k n)]/\(Lit.int k n).wf=true:=by
 cases h with
 | int h1 h2=>rw [ht] at h1; cases h1; exact ⟨_,rfl,h2⟩
 | bool h1=>rw [ht] at h1; cases h1
 | str h1=>rw [ht] at h1; cases h1
 | sl h1=>rw [ht] at h1; cases h1
 | st h1=>rw [ht] at h1; cases h1
theorem Fit.inv_bool (ht:P.underlying t=some .bool) (h:Fit P t xs):∃ b:Bool,xs=[.vl (.bool b)]:=by
 cases h with
 | int h1 h2=>rw [ht] at h1; cases h1
 | bool h1=>exact ⟨_,rfl⟩
 | str h1=>rw [ht] at h1; cases h1
 | sl h1=>rw [ht] at h1; cases h1
 | st h1=>rw [ht] at h1; cases h1
theorem Fit.inv_str (ht:P.underlying t=some .string) (h:Fit P t xs):∃ s:ByteArray,xs=[.vl (.string s)]/\s.size<=maxLen:=by
 cases h with
 | int h1 h2=>rw [ht] at h1; cases h1
 | bool h1=>rw [ht] at h1; cases h1
 | str h1 h2=>exact ⟨_,rfl,h2⟩
 | sl h1=>rw [ht] at h1; cases h1
 | st h1=>rw [ht] at h1; cases h1
theorem Fit.inv_sl (ht:P.underlying t=some (.slice e)) (h:Fit P t xs):∃ ys:List (List C),xs=[.fz ys]/\ys.length<=maxLen/\∀ r ∈ ys,Fit P e r:=by
 cases h with
 | int h1 h2=>rw [ht] at h1; cases h1
 | bool h1=>rw [ht] at h1; cases h1
 | str h1=>rw [ht] at h1; cases h1
 | sl h1 h2 h3=>rw [ht] at h1; cases h1; exact ⟨_,rfl,h2,h3⟩
 | st h1=>rw [ht] at h1; cases h1
theorem Fit.inv_st {fs:Array Field} (ht:P.underlying t=some (.struct fs)) (h:Fit P t xs):∃ parts:List (List C),xs=parts.flatten/\parts.length=fs.size/\∀ (i:Nat) (f:Field) (p:List C),fs[i]? = some f->parts[i]? = some p->Fit P f.type p:=by
 cases h with
 | int h1 h2=>rw [ht] at h1; cases h1
 | bool h1=>rw [ht] at h1; cases h1
 | str h1=>rw [ht] at h1; cases h1
 | sl h1=>rw [ht] at h1; cases h1
 | st h1 h2 h3=>rw [ht] at h1; cases h1; exact ⟨_,rfl,h2,h3⟩
end
theorem Fit.rows {P:Program} {e:TypeId} {α:Type} {row:α->List C} {Q:α->Prop} {ys:List (List C)} (hi:∀ r,Fit P e r->∃ a,r=row a/\Q a) (h:∀ r ∈ ys,Fit P e r):∃ l:List α,ys=l.map row/\∀ a ∈ l,Q a:=by
 induction ys with
 | nil=>exact ⟨[],rfl,fun a h=>by cases h⟩
 | cons r ys ih=>
  obtain ⟨l,h1,h2⟩:=ih fun r hr=>h r (List.mem_cons_of_mem _ hr)
  obtain ⟨a,h3,h4⟩:=hi r (h r (by simp))
  refine ⟨a :: l,by rw [h1,h3]; rfl,fun x hx=>?_⟩
  rcases List.mem_cons.1 hx with rfl | hx
  · exact h4
  · exact h2 x hx
def G6 (P:Program):Nat->List Field->Option Nat
 | o,[]=>some o
 | o,f :: r=>if f.offset=o then G6 P (o + P.cellsOf f.type) r else none
def xY (P:Program) (ts:List TypeId):Bool:=ts.all fun t=>match P.underlying t with
 | some (.int _) | some .bool | some .string=>true
 | some (.slice e)=>ts.contains e && decide (0 < P.cellsOf e)
 | some (.struct fs)=>fs.toList.all (fun f=>ts.contains f.type) && G6 P 0 fs.toList == some (P.cellsOf t)
 | _=>false
theorem PO {P:Program} {R:C->Value->Prop} {Q:Field->List C->Prop} {cs:List Value}:∀ (fs:List Field) (o:Nat),G6 P o fs=some cs.length->
 (∀ (i:Nat) (f:Field),fs[i]? = some f->∃ p,Q f p/\All2 R p ((cs.drop f.offset).take (P.cellsOf f.type)))->
 ∃ parts:List (List C),parts.length=fs.length/\(∀ (i:Nat) (f:Field) (p:List C),fs[i]? = some f->parts[i]? = some p->Q f p)/\All2 R parts.flatten (cs.drop o)
 | [],o,ho,_=>by
  simp only [G6,aH] at ho
  subst ho
  exact ⟨[],rfl,fun i f p h=>by simp at h,by simpa using All2.nil⟩
 | f :: fs,o,ho,h=>by
  simp only [G6] at ho
  split at ho
  · rename_i hf
    obtain ⟨parts,h1,h2,h3⟩:=PO fs _ ho fun i f hf=>h (i + 1) f (by simpa using hf)
    obtain ⟨p,h4,h5⟩:=h 0 f rfl
    refine ⟨p :: parts,by simp [h1],fun i g q hg hq=>?_,?_⟩
    · cases i with
      | zero=>simp at hg hq; subst hg hq; exact h4
      | succ i=>exact h2 i g q (by simpa using hg) (by simpa using hq)
    · have:cs.drop o=(cs.drop f.offset).take (P.cellsOf f.type) ++ cs.drop (o + P.cellsOf f.type):=by
       rw [hf,<-List.drop_drop,List.take_append_drop]
      rw [List.flatten_cons,this]
      exact h5.app h3
  · cases ho
section
variable {H:Type} {enc:TypeId × Value->H} {P:Program} {W:World} {ts:List TypeId}
theorem wF {b off len cap sz:Nat} {oa:Option Addr} (hoa:len ≠ 0->oa=some ⟨b,off,none⟩) (hsz:0 < sz) (X:Nat->List C) (hl:∀ i,i < len->(X i).length=sz) (hc:len<=cap)
 (h:∀ i,i < len->∀ j c,(X i)[j]? = some c->∃ v,W.cell? ⟨b,off + (i * sz + j),none⟩=some v/\c.fv (iC W) v/\c.shut=true) :
 FzR (iC W) ((List.range len).map X) (.slice oa len cap):=by
 have hz:∀ x ∈ (List.range len).map X,x.length=sz:=fun x hx=>by
  obtain ⟨i,hi,rfl⟩:=List.mem_map.1 hx
  exact hl i (List.mem_range.1 hi)
 have hfl:∀ k c,((List.range len).map X).flatten[k]? = some c->∃ v,W.cell? ⟨b,off + k,none⟩=some v/\c.fv (iC W) v/\c.shut=true:=fun k c hk=>by
  have hkl:k < len * sz:=by
   have h1:=(bH.1 hk).1
   rw [uM _ hz] at h1
   simpa using h1
  have hi:k / sz < len:=(Nat.div_lt_iff_lt_mul hsz).2 hkl
  have hj:=Nat.mod_lt k hsz
  have hg:=mV hz (i:=k / sz) (j:=k % sz) (by simpa using hi) hj
  rw [Nat.mul_comm,Nat.div_add_mod,hk] at hg
  have hxi:((List.range len).map X)[k / sz]? = some (X (k / sz)):=by simp [hi]
  rw [hxi,Option.bind_some] at hg
  have:=h (k / sz) hi (k % sz) c hg.symm
  rwa [Nat.mul_comm,Nat.div_add_mod] at this
 have hr:=FzR.mk (ro:=iC W) ((List.range len).map X) sz (some (b,off)) oa (fun hne=>hoa (fun e=>by subst e; simp at hne)) cap (fun k=>(W.cell? ⟨b,off + k,none⟩).getD undef) hz (by simpa using hc) (fun _=>rfl)
  (fun k c hk=>by
    obtain ⟨v,h2,_⟩:=hfl k c hk
    simp [iC,h2])
  (fun k v hk=>by
    obtain ⟨u,h1,h2,_⟩:=hfl k _ hk
    have:u=v:=h2
    simp [h1,this])
  (fun k ys hk=>by
    obtain ⟨u,h1,h2,_⟩:=hfl k _ hk
    have:FzR (iC W) ys u:=h2
    simpa [h1] using this)
  (fun c hc=>by
    obtain ⟨k,hk⟩:=List.mem_iff_getElem?.1 hc
    obtain ⟨u,_,_,h3⟩:=hfl k c hk
    exact h3)
 simpa using hr
theorem nQ (hok:xY P ts=true):∀ (n:Nat) (t:TypeId) (cs:List Value) (y:DataW H × List MemPlace),t ∈ ts->DataW.trod enc P W 0 (fun _=>true) true n t cs=some y->
 ∃ xs,Fit P t xs/\All2 (C.fv (iC W)) xs cs/\∀ c ∈ xs,c.shut=true
 | 0,t,cs,y,_,h=>by simp [DataW.trod] at h
 | n + 1,t,cs,y,ht,h=>by
  have h1:=List.all_eq_true.1 hok t ht
  split at h1
  · rename_i k hu
    obtain ⟨m,rfl,_,hw⟩:=DataW.trod_int hu h
    exact ⟨_,.int hu hw,.cons rfl .nil,fun c hc=>by simp at hc; subst hc; rfl⟩
  · rename_i hu
    obtain ⟨b,rfl,_⟩:=DataW.trod_bool hu h
    exact ⟨_,.bool hu,.cons rfl .nil,fun c hc=>by simp at hc; subst hc; rfl⟩
  · rename_i hu
    obtain ⟨s,rfl,_,hs⟩:=DataW.trod_string hu h
    exact ⟨_,.str hu hs,.cons rfl .nil,fun c hc=>by simp at hc; subst hc; rfl⟩
  · rename_i e hu
    simp only [Bool.and_eq_true,List.contains_iff_mem,decide_eq_true_eq] at h1
    obtain ⟨he,hpos⟩:=h1
    rcases DataW.trod_slice hu h with ⟨rfl,_⟩ | ⟨a,len,cap,elems,rest,n',hn',rfl,_,_,hl,hm,hel,hi,_⟩
    · exact ⟨_,.sl hu (Nat.zero_le _) (fun r hr=>by cases hr),.cons (ME _) .nil,fun c hc=>by simp at hc; subst hc; rfl⟩
    · obtain rfl:n=n':=by omega
      have hall:∀ i,i < len->∃ x:List C,Fit P e x/\x.length=P.cellsOf e/\(∀ j c,x[j]? = some c->∃ v,W.cell? ((a.add (i * P.cellsOf e)).add j)=some v/\c.fv (iC W) v/\c.shut=true):=fun i hil=>by
       have h1:=hi i hil
       rw [aW (by omega)] at h1
       obtain ⟨cs',h2,h3⟩:=Option.bind_eq_some_iff.1 h1
       obtain ⟨x,h4,h5,h6⟩:=nQ hok n e cs' _ he h3
       obtain ⟨_,h7,h8⟩:=World.cells?_some h2
       refine ⟨x,h4,h5.1.trans h7,fun j c hj=>?_⟩
       obtain ⟨v,h9,h10⟩:=h5.get hj
       have hjl:j < P.cellsOf e:=by rw [<-h7,<-h5.1]; exact (bH.1 hj).1
       refine ⟨v,?_,h10,h6 c (cC hj)⟩
       have:=h8 j hjl
       rwa [h9] at this
      by_cases h0:len=0
      · subst h0
        refine ⟨[.fz []],.sl hu (Nat.zero_le _) (fun r hr=>by cases hr),.cons ?_ .nil,fun c hc=>by simp at hc; subst hc; rfl⟩
        exact wF (b:=0) (off:=0) (fun h=>absurd rfl h) hpos (fun _=>[]) (fun i hi=>by omega) (Nat.zero_le _) (fun i hi=>by omega)
      · obtain ⟨x0,_,hx0l,hx0⟩:=hall 0 (by omega)
        have hsp:a.spot=none:=by
         have hx:∃ c,x0[0]? = some c:=⟨_,aW (by omega)⟩
         obtain ⟨c,hc⟩:=hx
         obtain ⟨v,hv,_⟩:=hx0 0 c hc
         unfold World.cell? at hv
         split at hv
         · split at hv
           · cases hv
           · rename_i hs; simpa [Addr.add] using hs
         · cases hv
        obtain ⟨b,off,spot⟩:=a
        obtain rfl:spot=none:=hsp
        haveI:Inhabited (List C):=⟨[]⟩
        obtain ⟨X,hX⟩:=Go.Deep.choose_lt hall
        refine ⟨[.fz ((List.range len).map X)],.sl hu (by simp; omega) (fun r hr=>?_),.cons ?_ .nil,fun c hc=>by simp at hc; subst hc; rfl⟩
        · obtain ⟨i,hi,rfl⟩:=List.mem_map.1 hr
          exact (hX i (List.mem_range.1 hi)).1
        · exact wF (fun _=>rfl) hpos X (fun i hi=>(hX i hi).2.1) hl (fun i hi j c hj=>by
           obtain ⟨v,h2,h3⟩:=(hX i hi).2.2 j c hj
           exact ⟨v,by simpa [Go.WideShapes.add_plain,Nat.add_assoc] using h2,h3⟩)
  · rename_i fs hu
    simp only [Bool.and_eq_true,List.all_eq_true,List.contains_iff_mem,beq_iff_eq] at h1
    obtain ⟨hft,hof⟩:=h1
    obtain ⟨ys,n',hn,_,hcl,hyl,hf⟩:=DataW.trod_struct hu h
    obtain rfl:n=n':=by omega
    obtain ⟨parts,k1,k2,k3⟩:=PO (P:=P) (R:=fun c v=>C.fv (iC W) c v/\c.shut=true) (Q:=fun f p=>Fit P f.type p) (cs:=cs) fs.toList 0 (by rw [hcl]; exact hof) (fun i f hfi=>by
     have hfi':fs[i]? = some f:=by simpa using hfi
     have h2:=hf i f hfi'
     have hil:i < fs.size:=(Array.getElem?_eq_some_iff.1 hfi').1
     rw [aW (by omega)] at h2
     obtain ⟨x,h4,h5,h6⟩:=nQ hok n f.type _ _ (hft f (cC hfi)) h2
     exact ⟨x,h4,⟨h5.1,fun j c v hc hv=>⟨h5.2 j c v hc hv,h6 c (cC hc)⟩⟩⟩)
    refine ⟨parts.flatten,.st hu (by simpa using k1) (fun i f p hfi hp=>k2 i f p (by simpa using hfi) hp),?_,fun c hc=>?_⟩
    · simpa using k3.imp (fun _ _ h=>h.1)
    · obtain ⟨j,hj⟩:=List.mem_iff_getElem?.1 hc
      obtain ⟨v,_,_,h3⟩:=k3.get hj
      exact h3
  · cases h1
theorem xI (hok:xY P ts=true) {t:TypeId} {v:Value} {d:DataW H} {ps:List MemPlace} (ht:t ∈ ts) (h:DataW.Trod enc P W 0 (fun _=>true) true t v d ps):∃ xs,Fit P t xs/\All2 (C.fv (iC W)) xs v.cells.toList/\∀ c ∈ xs,c.shut=true:=by
 obtain ⟨n,h⟩:=h
 exact nQ hok n t _ _ ht h
theorem NY {c:C} {v:Value} (h:All2 (C.fv (iC W)) [c] v.cells.toList) (hv:v.cells.toList=[v]) (hs:c.shut=true):(S.va (.c1 c)).rel (gm []) (iC W) v:=by
 rw [hv] at h
 exact (C.rel_shut hs).2 (h.2 0 c v rfl rfl)
theorem aCU {cs:List C} {vs:Array Value} (h:All2 (C.fv (iC W)) cs (Value.agg vs).cells.toList) (hs:∀ c ∈ cs,c.shut=true):(S.va (.gs cs)).rel (gm []) (iC W) (.agg vs):=
 ⟨vs.toList,by simp,⟨by simpa [Value.cells] using h.1,fun i c v hc hv=>(C.rel_shut (hs c (cC hc))).2 (h.2 i c v hc (by simpa [Value.cells] using hv))⟩⟩
end
end Go.W
namespace Go.Proofs.YthpbnmebjocbeaaGreat
open Go.W
theorem v3:Tryz.prog.underlying 3=some (.int .i64):=by kernel_rfl
theorem v4:Tryz.prog.underlying 4=some .bool:=by kernel_rfl
theorem v9:Tryz.prog.underlying 9=some .string:=by kernel_rfl
theorem v22:Tryz.prog.underlying 22=some (.slice 118):=by kernel_rfl
theorem v23:Tryz.prog.underlying 23=some (.slice 48):=by kernel_rfl
theorem v30:Tryz.prog.underlying 46=some (.slice 52):=by kernel_rfl
theorem v35:Tryz.prog.underlying 116=some (.slice 9):=by kernel_rfl
theorem NB:Tryz.prog.underlying 40=some (.slice 42):=by kernel_rfl
theorem v45:Tryz.prog.underlying 64=some (.slice 3):=by kernel_rfl
theorem N4:Tryz.prog.underlying 42=some (.struct #[⟨"Kind",3,0,false,"","",0⟩,⟨"Size",3,1,false,"","",8⟩,⟨"Name",9,2,false,"","",16⟩,⟨"Elem",40,3,false,"","",32⟩]):=by kernel_rfl
theorem v53:Tryz.prog.underlying 52=some (.struct #[⟨"Number",3,0,false,"","",0⟩,⟨"Name",9,1,false,"","",8⟩,⟨"Type",42,2,false,"","",24⟩,⟨"Optional",4,6,false,"","",80⟩]):=by kernel_rfl
theorem v32:Tryz.prog.underlying 48=some (.struct #[⟨"Name",9,0,false,"","",0⟩,⟨"Fields",46,1,false,"","",16⟩]):=by kernel_rfl
theorem v47:Tryz.prog.underlying 118=some (.struct #[⟨"Name",9,0,false,"","",0⟩,⟨"Names",116,1,false,"","",16⟩,⟨"Numbers",64,2,false,"","",40⟩]):=by kernel_rfl
theorem v25:Tryz.prog.underlying 25=some (.struct #[⟨"Version",3,0,false,"","",0⟩,⟨"Enums",22,1,false,"","",8⟩,⟨"Structs",23,2,false,"","",32⟩]):=by kernel_rfl
theorem mC {α:Type} {row:α->List C} {Q:α->Prop} {ys:List (List C)} (h:∀ r ∈ ys,∃ a,r=row a/\Q a):∃ l:List α,ys=l.map row/\∀ a ∈ l,Q a:=by
 induction ys with
 | nil=>exact ⟨[],rfl,fun a h=>by cases h⟩
 | cons r ys ih=>
  obtain ⟨l,h1,h2⟩:=ih fun r hr=>h r (List.mem_cons_of_mem _ hr)
  obtain ⟨a,h3,h4⟩:=h r List.mem_cons_self
  refine ⟨a :: l,by rw [h1,h3]; rfl,fun x hx=>?_⟩
  rcases List.mem_cons.1 hx with rfl | hx
  · exact h4
  · exact h2 x hx
theorem D6 {n:Int} (h:(Lit.int .i64 n).wf=true):bU n:=by simpa [bU,Lit.wf,IntKind.min,IntKind.max,IntKind.signed,IntKind.bits] using h
theorem u5 {n:Nat} (h:n<=maxLen):n<=9223372036854775807:=by unfold maxLen at h; exact h
theorem u0 {H:Type} {d:DataW H}:∀ {l:List (DataW H)},d ∈ l->Rows.uptoBulk d<=Rows.uptoBulkAll l
 | x :: r,h=>by
  simp only [Rows.uptoBulkAll]
  rcases List.mem_cons.1 h with rfl | e
  · omega
  · have:=u0 e; omega
theorem F1 {H:Type} (d:DataW H):0 < Rows.uptoBulk d:=by
 cases d with
 | lit l=>cases l<;>simp [Rows.uptoBulk]
 | _=>simp [Rows.uptoBulk]
theorem B9 {H:Type}:∀ l:List (DataW H),l.length<=Rows.uptoBulkAll l
 | []=>Nat.zero_le _
 | d :: l=>by have:=B9 l; have:=F1 d; simp only [Rows.uptoBulkAll,List.length_cons]; omega
inductive FitB (P:Program):TypeId->List C->Nat->Prop
 | int {t:TypeId} {k:IntKind} {n:Int} {m:Nat}:P.underlying t=some (.int k)->(Lit.int k n).wf=true->FitB P t [.vl (.int k n)] m
 | bool {t:TypeId} {b:Bool} {m:Nat}:P.underlying t=some .bool->FitB P t [.vl (.bool b)] m
 | str {t:TypeId} {s:ByteArray} {m:Nat}:P.underlying t=some .string->s.size<=maxLen->FitB P t [.vl (.string s)] m
 | sl {t e:TypeId} {xs:List (List C)} {m:Nat}:P.underlying t=some (.slice e)->xs.length<=maxLen->xs.length<=m->(∀ r ∈ xs,FitB P e r m)->FitB P t [.fz xs] (m + 1)
 | st {t:TypeId} {fs:Array Field} {parts:List (List C)} {m:Nat}:P.underlying t=some (.struct fs)->parts.length=fs.size->(∀ (i:Nat) (f:Field) (p:List C),fs[i]? = some f->parts[i]? = some p->FitB P f.type p m)->FitB P t parts.flatten (m + 1)
theorem FitB.fit {P:Program} {t:TypeId} {xs:List C} {m:Nat} (h:FitB P t xs m):Fit P t xs:=by
 induction h with
 | int h1 h2=>exact .int h1 h2
 | bool h1=>exact .bool h1
 | str h1 h2=>exact .str h1 h2
 | sl h1 h2 _ _ ih=>exact .sl h1 h2 ih
 | st h1 h2 _ ih=>exact .st h1 h2 ih
theorem FitB.mono {P:Program} {t:TypeId} {xs:List C} {m:Nat} (h:FitB P t xs m):∀ {n:Nat},m<=n->FitB P t xs n:=by
 induction h with
 | int h1 h2=>exact fun _=>.int h1 h2
 | bool h1=>exact fun _=>.bool h1
 | str h1 h2=>exact fun _=>.str h1 h2
 | @sl t e xs m h1 h2 h3 _ ih=>
  intro n hn
  obtain ⟨n,rfl⟩:∃ k,n=k + 1:=⟨n - 1,by omega⟩
  exact .sl h1 h2 (by omega) fun r hr=>ih r hr (by omega)
 | @st t fs parts m h1 h2 _ ih=>
  intro n hn
  obtain ⟨n,rfl⟩:∃ k,n=k + 1:=⟨n - 1,by omega⟩
  exact .st h1 h2 fun i f p hf hp=>ih i f p hf hp (by omega)
section
variable {P:Program} {t e:TypeId} {xs:List C} {m:Nat}
theorem FitB.inv_sl (ht:P.underlying t=some (.slice e)) (h:FitB P t xs (m + 1)):∃ ys:List (List C),xs=[.fz ys]/\ys.length<=m/\∀ r ∈ ys,FitB P e r m:=by
 generalize hm:m + 1=k at h
 cases h with
 | int h1 h2=>rw [ht] at h1; cases h1
 | bool h1=>rw [ht] at h1; cases h1
 | str h1=>rw [ht] at h1; cases h1
 | sl h1 h2 h3 h4=>rw [ht] at h1; cases h1; cases hm; exact ⟨_,rfl,h3,h4⟩
 | st h1 h2 h3=>rw [ht] at h1; cases h1
theorem FitB.inv_st {fs:Array Field} (ht:P.underlying t=some (.struct fs)) (h:FitB P t xs (m + 1)):∃ parts:List (List C),xs=parts.flatten/\parts.length=fs.size/\∀ (i:Nat) (f:Field) (p:List C),fs[i]? = some f->parts[i]? = some p->FitB P f.type p m:=by
 generalize hm:m + 1=k at h
 cases h with
 | int h1 h2=>rw [ht] at h1; cases h1
 | bool h1=>rw [ht] at h1; cases h1
 | str h1=>rw [ht] at h1; cases h1
 | sl h1=>rw [ht] at h1; cases h1
 | st h1 h2 h3=>rw [ht] at h1; cases h1; cases hm; exact ⟨_,rfl,h2,h3⟩
theorem FitB.inv_sl' (ht:P.underlying t=some (.slice e)) (h:FitB P t xs m):∃ ys:List (List C),xs=[.fz ys]/\ys.length<=m/\∀ r ∈ ys,FitB P e r m:=by
 obtain ⟨ys,h1,h2,h3⟩:=FitB.inv_sl ht (h.mono (Nat.le_succ m))
 exact ⟨ys,h1,h2,h3⟩
theorem FitB.inv_st' {fs:Array Field} (ht:P.underlying t=some (.struct fs)) (h:FitB P t xs m):∃ parts:List (List C),xs=parts.flatten/\parts.length=fs.size/\∀ (i:Nat) (f:Field) (p:List C),fs[i]? = some f->parts[i]? = some p->FitB P f.type p m:=
 FitB.inv_st ht (h.mono (Nat.le_succ m))
end
section
variable {H:Type} {enc:TypeId × Value->H} {P:Program} {W:World} {ts:List TypeId}
theorem mG (hok:xY P ts=true):∀ (n:Nat) (t:TypeId) (cs:List Value) (y:DataW H × List MemPlace),t ∈ ts->DataW.trod enc P W 0 (fun _=>true) true n t cs=some y->
 ∃ xs,FitB P t xs (Rows.uptoBulk y.1)/\All2 (C.fv (iC W)) xs cs/\∀ c ∈ xs,c.shut=true
 | 0,t,cs,y,_,h=>by simp [DataW.trod] at h
 | n + 1,t,cs,y,ht,h=>by
  have h1:=List.all_eq_true.1 hok t ht
  split at h1
  · rename_i k hu
    obtain ⟨m,rfl,_,hw⟩:=DataW.trod_int hu h
    exact ⟨_,.int hu hw,.cons rfl .nil,fun c hc=>by simp at hc; subst hc; rfl⟩
  · rename_i hu
    obtain ⟨b,rfl,_⟩:=DataW.trod_bool hu h
    exact ⟨_,.bool hu,.cons rfl .nil,fun c hc=>by simp at hc; subst hc; rfl⟩
  · rename_i hu
    obtain ⟨s,rfl,_,hs⟩:=DataW.trod_string hu h
    exact ⟨_,.str hu hs,.cons rfl .nil,fun c hc=>by simp at hc; subst hc; rfl⟩
  · rename_i e hu
    simp only [Bool.and_eq_true,List.contains_iff_mem,decide_eq_true_eq] at h1
    obtain ⟨he,hpos⟩:=h1
    rcases DataW.trod_slice hu h with ⟨rfl,hy⟩ | ⟨a,len,cap,elems,rest,n',hn',rfl,hy,_,hl,hm,hel,hi,_⟩
    · refine ⟨_,(FitB.sl (m:=0) hu (Nat.zero_le _) (Nat.zero_le _) (fun r hr=>by cases hr)).mono (F1 _),.cons (ME _) .nil,fun c hc=>by simp at hc; subst hc; rfl⟩
    · obtain rfl:n=n':=by omega
      subst hy
      have hbk:Rows.uptoBulk (DataW.slice (elems.map (·.1)) (rest.map (·.1)))=Rows.uptoBulkAll (elems.map (·.1)) + Rows.uptoBulkAll (rest.map (·.1)) + 1:=by simp only [Rows.uptoBulk]
      generalize hM:Rows.uptoBulkAll (elems.map (·.1)) + Rows.uptoBulkAll (rest.map (·.1))=M at hbk
      show ∃ xs,FitB P t xs (Rows.uptoBulk (DataW.slice (elems.map (·.1)) (rest.map (·.1))))/\_
      rw [hbk]
      have hlM:len<=M:=by
       have:=B9 (elems.map (·.1))
       rw [List.length_map,hel] at this
       omega
      have hall:∀ i,i < len->∃ x:List C,FitB P e x M/\x.length=P.cellsOf e/\(∀ j c,x[j]? = some c->∃ v,W.cell? ((a.add (i * P.cellsOf e)).add j)=some v/\c.fv (iC W) v/\c.shut=true):=fun i hil=>by
       have h1:=hi i hil
       rw [aW (by omega)] at h1
       obtain ⟨cs',h2,h3⟩:=Option.bind_eq_some_iff.1 h1
       obtain ⟨x,h4,h5,h6⟩:=mG hok n e cs' _ he h3
       obtain ⟨_,h7,h8⟩:=World.cells?_some h2
       refine ⟨x,h4.mono ?_,h5.1.trans h7,fun j c hj=>?_⟩
       · have:=u0 (List.mem_map_of_mem (f:=(·.1)) (List.getElem_mem (show i < elems.length by omega)))
         omega
       obtain ⟨v,h9,h10⟩:=h5.get hj
       have hjl:j < P.cellsOf e:=by rw [<-h7,<-h5.1]; exact (bH.1 hj).1
       refine ⟨v,?_,h10,h6 c (cC hj)⟩
       have:=h8 j hjl
       rwa [h9] at this
      by_cases h0:len=0
      · subst h0
        refine ⟨[.fz []],.sl hu (Nat.zero_le _) (Nat.zero_le _) (fun r hr=>by cases hr),.cons ?_ .nil,fun c hc=>by simp at hc; subst hc; rfl⟩
        exact wF (b:=0) (off:=0) (fun h=>absurd rfl h) hpos (fun _=>[]) (fun i hi=>by omega) (Nat.zero_le _) (fun i hi=>by omega)
      · obtain ⟨x0,_,hx0l,hx0⟩:=hall 0 (by omega)
        have hsp:a.spot=none:=by
         have hx:∃ c,x0[0]? = some c:=⟨_,aW (by omega)⟩
         obtain ⟨c,hc⟩:=hx
         obtain ⟨v,hv,_⟩:=hx0 0 c hc
         unfold World.cell? at hv
         split at hv
         · split at hv
           · cases hv
           · rename_i hs; simpa [Addr.add] using hs
         · cases hv
        obtain ⟨b,off,spot⟩:=a
        obtain rfl:spot=none:=hsp
        haveI:Inhabited (List C):=⟨[]⟩
        obtain ⟨X,hX⟩:=Go.Deep.choose_lt hall
        refine ⟨[.fz ((List.range len).map X)],.sl hu (by simp; omega) (by simpa using hlM) (fun r hr=>?_),.cons ?_ .nil,fun c hc=>by simp at hc; subst hc; rfl⟩
        · obtain ⟨i,hi,rfl⟩:=List.mem_map.1 hr
          exact (hX i (List.mem_range.1 hi)).1
        · exact wF (fun _=>rfl) hpos X (fun i hi=>(hX i hi).2.1) hl (fun i hi j c hj=>by
           obtain ⟨v,h2,h3⟩:=(hX i hi).2.2 j c hj
           exact ⟨v,by simpa [Go.WideShapes.add_plain,Nat.add_assoc] using h2,h3⟩)
  · rename_i fs hu
    simp only [Bool.and_eq_true,List.all_eq_true,List.contains_iff_mem,beq_iff_eq] at h1
    obtain ⟨hft,hof⟩:=h1
    obtain ⟨ys,n',hn,hy,hcl,hyl,hf⟩:=DataW.trod_struct hu h
    obtain rfl:n=n':=by omega
    subst hy
    show ∃ xs,FitB P t xs (Rows.uptoBulk (DataW.agg (ys.map (·.1))))/\_
    rw [show Rows.uptoBulk (DataW.agg (ys.map (·.1)))=Rows.uptoBulkAll (ys.map (·.1)) + 1 by simp only [Rows.uptoBulk]]
    obtain ⟨parts,k1,k2,k3⟩:=PO (P:=P) (R:=fun c v=>C.fv (iC W) c v/\c.shut=true) (Q:=fun f p=>FitB P f.type p (Rows.uptoBulkAll (ys.map (·.1)))) (cs:=cs) fs.toList 0 (by rw [hcl]; exact hof) (fun i f hfi=>by
     have hfi':fs[i]? = some f:=by simpa using hfi
     have h2:=hf i f hfi'
     have hil:i < fs.size:=(Array.getElem?_eq_some_iff.1 hfi').1
     rw [aW (by omega)] at h2
     obtain ⟨x,h4,h5,h6⟩:=mG hok n f.type _ _ (hft f (cC hfi)) h2
     exact ⟨x,h4.mono (u0 (List.mem_map_of_mem (f:=(·.1)) (List.getElem_mem (show i < ys.length by omega)))),⟨h5.1,fun j c v hc hv=>⟨h5.2 j c v hc hv,h6 c (cC hc)⟩⟩⟩)
    refine ⟨parts.flatten,.st hu (by simpa using k1) (fun i f p hfi hp=>k2 i f p (by simpa using hfi) hp),?_,fun c hc=>?_⟩
    · simpa using k3.imp (fun _ _ h=>h.1)
    · obtain ⟨j,hj⟩:=List.mem_iff_getElem?.1 hc
      obtain ⟨v,_,_,h3⟩:=k3.get hj
      exact h3
  · cases h1
theorem HF (hok:xY P ts=true) {t:TypeId} {v:Value} {d:DataW H} {ps:List MemPlace} (ht:t ∈ ts) (h:DataW.Trod enc P W 0 (fun _=>true) true t v d ps):∃ xs,FitB P t xs (Rows.uptoBulk d)/\All2 (C.fv (iC W)) xs v.cells.toList/\∀ c ∈ xs,c.shut=true:=by
 obtain ⟨n,h⟩:=h
 exact mG hok n t _ _ ht h
end
theorem aHB:∀ {t:TypeId} {cs:List C} {m:Nat},FitB Tryz.prog t cs m->m<=1048576->(t=42->∃ a,cs=aU a/\TyOk a/\TySm a/\(bO a).1<=m)/\(t=40->∃ l:List Ty,cs=[.fz (l.map aU)]/\l.length<=m/\∀ a ∈ l,TyOk a/\TySm a/\(bO a).1 + 1<=m):=by
 intro t cs m h
 induction h with
 | int h1 _=>exact fun _=>⟨fun e=>(by rw [e,N4] at h1; cases h1),fun e=>(by rw [e,NB] at h1; cases h1)⟩
 | bool h1=>exact fun _=>⟨fun e=>(by rw [e,N4] at h1; cases h1),fun e=>(by rw [e,NB] at h1; cases h1)⟩
 | str h1 _=>exact fun _=>⟨fun e=>(by rw [e,N4] at h1; cases h1),fun e=>(by rw [e,NB] at h1; cases h1)⟩
 | @sl t e xs m h1 h2 h3 h4 ih=>
  intro hm
  refine ⟨fun e=>(by rw [e,N4] at h1; cases h1),fun e=>?_⟩
  subst e
  rw [NB] at h1
  cases h1
  obtain ⟨l,rfl,hl⟩:=mC (row:=aU) (Q:=fun a=>TyOk a/\TySm a/\(bO a).1<=m) fun r hr=>(ih r hr (by omega)).1 rfl
  exact ⟨l,rfl,by simp at h3; omega,fun a ha=>⟨(hl a ha).1,(hl a ha).2.1,Nat.succ_le_succ (hl a ha).2.2⟩⟩
 | @st t fs parts m h1 h2 h3 ih=>
  intro hm
  refine ⟨fun e=>?_,fun e=>(by rw [e,NB] at h1; cases h1)⟩
  subst e
  rw [N4] at h1
  cases h1
  match parts,h2 with
  | [p0,p1,p2,p3],_=>
   obtain ⟨k,rfl,hk⟩:=Fit.inv_int v3 (h3 0 _ p0 rfl rfl).fit
   obtain ⟨s,rfl,hs⟩:=Fit.inv_int v3 (h3 1 _ p1 rfl rfl).fit
   obtain ⟨n,rfl,hn⟩:=Fit.inv_str v9 (h3 2 _ p2 rfl rfl).fit
   obtain ⟨l,rfl,hl,ho⟩:=(ih 3 _ p3 rfl rfl (by omega)).2 rfl
   refine ⟨.mk k s n l,by rw [aU,bB]; rfl,.mk (D6 hk) (D6 hs) (u5 hn) (by omega) fun a ha=>(ho a ha).1,.mk (by omega) fun a ha=>(ho a ha).2.1,?_⟩
   rw [bO]
   cases k == 5 with
   | false=>exact Nat.zero_le _
   | true=>
    show (B0 l _).1<=m + 1
    cases l with
    | nil=>rw [B0]; exact Nat.zero_le _
    | cons u r=>rw [B0]; have:=(ho u List.mem_cons_self).2.2; show (bO u).1 + 1<=m + 1; omega
theorem ZL (m:Nat) (hm:m<=1048576) (cs:List C) (h:FitB Tryz.prog 42 cs m):∃ a,cs=aU a/\TyOk a/\TySm a/\(bO a).1<=m:=(aHB h hm).1 rfl
theorem YY {m:Nat} (hm:m<=1048576) {cs:List C} (h:FitB Tryz.prog 52 cs m):∃ a:Fl,cs=aT a/\a.ok/\TySm a.ty/\(bO a.ty).1<=1000000000:=by
 obtain ⟨parts,rfl,h2,h3⟩:=FitB.inv_st' v53 h
 match parts,h2 with
 | [p0,p1,p2,p3],_=>
  obtain ⟨k,rfl,hk⟩:=Fit.inv_int v3 (h3 0 _ p0 rfl rfl).fit
  obtain ⟨n,rfl,hn⟩:=Fit.inv_str v9 (h3 1 _ p1 rfl rfl).fit
  obtain ⟨t,rfl,ht,hs,hl⟩:=ZL _ hm _ (h3 2 _ p2 rfl rfl)
  obtain ⟨b,rfl⟩:=Fit.inv_bool v4 (h3 3 _ p3 rfl rfl).fit
  exact ⟨⟨k,n,t,b⟩,by rw [aL]; rfl,⟨D6 hk,u5 hn,ht⟩,hs,by show (bO t).1<=_; omega⟩
theorem aCM {m:Nat} (hm:m<=1048576) {cs:List C} (h:FitB Tryz.prog 48 cs m):∃ a:St,cs=aI a/\a.ok/\a.fs.length<=1000000000/\(∀ f ∈ a.fs,TySm f.ty)/\∀ f ∈ a.fs,(bO f.ty).1<=1000000000:=by
 obtain ⟨parts,rfl,h2,h3⟩:=FitB.inv_st' v32 h
 match parts,h2 with
 | [p0,p1],_=>
  obtain ⟨n,rfl,hn⟩:=Fit.inv_str v9 (h3 0 _ p0 rfl rfl).fit
  obtain ⟨ys,rfl,hl,hy⟩:=FitB.inv_sl' v30 (h3 1 _ p1 rfl rfl)
  obtain ⟨l,rfl,ho⟩:=mC (row:=aT) (Q:=fun f=>f.ok/\TySm f.ty/\(bO f.ty).1<=1000000000) fun r hr=>YY hm (hy r hr)
  rw [List.length_map] at hl
  exact ⟨⟨n,l⟩,rfl,⟨u5 hn,by show l.length<=_; omega,fun f hf=>(ho f hf).1⟩,by show l.length<=_; omega,fun f hf=>(ho f hf).2.1,fun f hf=>(ho f hf).2.2⟩
theorem aBS {m:Nat} (hm:m<=1048576) {cs:List C} (h:FitB Tryz.prog 118 cs m):∃ a:En,cs=aY a/\a.ok/\a.ns.length<=1000000000/\a.vs.length<=1000000000:=by
 obtain ⟨parts,rfl,h2,h3⟩:=FitB.inv_st' v47 h
 match parts,h2 with
 | [p0,p1,p2],_=>
  obtain ⟨n,rfl,hn⟩:=Fit.inv_str v9 (h3 0 _ p0 rfl rfl).fit
  obtain ⟨ys,rfl,hl,hy⟩:=FitB.inv_sl' v35 (h3 1 _ p1 rfl rfl)
  obtain ⟨zs,rfl,hl2,hz⟩:=FitB.inv_sl' v45 (h3 2 _ p2 rfl rfl)
  obtain ⟨l,rfl,ho⟩:=mC (row:=cE) (Q:=fun b=>b.size<=9223372036854775807) fun r hr=>by
   obtain ⟨s,rfl,hs⟩:=Fit.inv_str v9 (hy r hr).fit; exact ⟨s,rfl,u5 hs⟩
  obtain ⟨k,rfl,hk⟩:=mC (row:=eK) (Q:=bU) fun r hr=>by
   obtain ⟨s,rfl,hs⟩:=Fit.inv_int v3 (hz r hr).fit; exact ⟨s,rfl,D6 hs⟩
  rw [List.length_map] at hl hl2
  exact ⟨⟨n,l,k⟩,rfl,⟨u5 hn,by show l.length<=_; omega,by show k.length<=_; omega,ho,hk⟩,by show l.length<=_; omega,by show k.length<=_; omega⟩
theorem aBY (m:Nat) (hm:m<=1048576) (cs:List C) (h:FitB Tryz.prog 25 cs m):∃ a:Sc,cs=aF a/\a.fit:=by
 obtain ⟨parts,rfl,h2,h3⟩:=FitB.inv_st' v25 h
 match parts,h2 with
 | [p0,p1,p2],_=>
  obtain ⟨n,rfl,hn⟩:=Fit.inv_int v3 (h3 0 _ p0 rfl rfl).fit
  obtain ⟨ys,rfl,hl,hy⟩:=FitB.inv_sl' v22 (h3 1 _ p1 rfl rfl)
  obtain ⟨zs,rfl,hl2,hz⟩:=FitB.inv_sl' v23 (h3 2 _ p2 rfl rfl)
  obtain ⟨l,rfl,ho⟩:=mC (row:=aY) (Q:=fun e:En=>e.ok/\e.ns.length<=1000000000/\e.vs.length<=1000000000) fun r hr=>aBS hm (hy r hr)
  obtain ⟨k,rfl,hk⟩:=mC (row:=aI) (Q:=fun a:St=>a.ok/\a.fs.length<=1000000000/\(∀ f ∈ a.fs,TySm f.ty)/\∀ f ∈ a.fs,(bO f.ty).1<=1000000000) fun r hr=>aCM hm (hz r hr)
  rw [List.length_map] at hl hl2
  exact ⟨⟨n,l,k⟩,rfl,⟨⟨D6 hn,by show l.length<=_; omega,by show k.length<=_; omega,fun e he=>(ho e he).1,fun t ht=>(hk t ht).1⟩,fun t ht=>(hk t ht).2.2.2,fun t ht=>⟨(hk t ht).2.1,(hk t ht).2.2.1⟩,fun e he=>(ho e he).2⟩⟩
end Go.Proofs.YthpbnmebjocbeaaGreat
