/- Lemmas and walks for the proof. -/
import Derived.Test.YthpbnmebjocbeaaGreatEe
import Derived.Test.YthpbnmebjocbeaaGreatProg
import Derived.ProofKit
import Derived.OpenShut
import Derived.ChangeStays
import Derived.Deep.Slices
import Derived.JoinedCond
import Derived.KernelRfl
import Derived.Test.YthpbnmebjocbeaaGreatRows
set_option maxRecDepth 100000
set_option maxHeartbeats 8000000
namespace Go.Proofs.YthpbnmebjocbeaaGreat
open Go.W
def DQ (P:Sc->St->Vl->Prop):List S->Prop:=fun av=>match av with
 | [.va (.gs r),.va (.gs q),.va (.gs p)]=>gC r/\R5 q/\lE p/\P (C.sc r) (C.st q) (C.vv p)
 | _=>False
theorem qC {P:Sc->St->Vl->Prop} {av:List S} (h:DQ P av):∃ s t v,av=[.va (.gs (aC s)),.va (.gs (aH t)),.va (.gs (aP v))]/\s.fit/\t.ok/\VlOk v/\P s t v:=by
 unfold DQ at h
 split at h
 · obtain ⟨⟨s,rfl,hs⟩,⟨t,rfl,ht⟩,⟨v,rfl,hv⟩,h⟩:=h
   rw [dB,wT,fI] at h
   exact ⟨s,t,v,rfl,hs,ht,hv,h⟩
 · exact h.elim
noncomputable def SH (f:Sc->St->Vl->Value):List S->A:=fun av=>match av with
 | [.va (.gs r),.va (.gs q),.va (.gs p)]=>.c1 (.vl (f (C.sc r) (C.st q) (C.vv p)))
 | _=>.gs []
noncomputable def EB (P:Sc->St->Vl->Prop) (f:Sc->St->Vl->Value):Fun:=⟨DQ P,SH f,fun av h=>by obtain ⟨_,_,_,rfl,_⟩:=qC h; trivial⟩
theorem QA {P:Sc->St->Vl->Prop} {f:Sc->St->Vl->Value}:∀ av H K,(EB P f).sp av H K->av.length=3:=fun av H K h=>by obtain ⟨_,_,_,rfl,_⟩:=qC h.1.1; rfl
attribute [go_sem] EB DQ SH
theorem YW {P:Sc->St->Vl->Prop} {f:Sc->St->Vl->Value} {av:List S} {H:Hp} {K:S->Hp->Prop} (h:(EB P f).sp av H K) :
 ∃ s t v,av=[.va (.gs (aC s)),.va (.gs (aH t)),.va (.gs (aP v))]/\H=[]/\s.fit/\t.ok/\VlOk v/\P s t v/\K (.va (.c1 (.vl (f s t v)))) []:=by
 obtain ⟨⟨h,rfl⟩,hK⟩:=h
 obtain ⟨s,t,v,rfl,hs,ht,hv,hp⟩:=qC h
 have:(EB P f).val [.va (.gs (aC s)),.va (.gs (aH t)),.va (.gs (aP v))]=.c1 (.vl (f s t v)):=by simp -dsimp only [go_sem]
 rw [this] at hK
 exact ⟨s,t,v,rfl,rfl,hs,ht,hv,hp,hK⟩
theorem aEJ (t:St):C.st [.vl (.string t.nm),.fz (t.fs.map aN)]=t:=wT t
theorem OI {t:St} (h:t.ok):R5 [.vl (.string t.nm),.fz (t.fs.map aN)]:=XV h
def DY:List S->Prop:=fun xs=>match xs with
 | [.va (.c1 (.vl (.string s)))]=>(bl s).length<=9223372036854775797
 | _=>False
theorem lT {xs:List S} (h:DY xs):∃ s,xs=[tS s]/\(bl s).length<=9223372036854775797:=by
 unfold DY at h
 split at h
 · exact ⟨_,rfl,h⟩
 · exact h.elim
def L8 (f:List UInt8->Value):Fun:=⟨DY,E8 f,fun xs h=>by obtain ⟨s,rfl,_⟩:=lT h; trivial⟩
theorem EF {f:List UInt8->Value}:∀ xs H K,(L8 f).sp xs H K->xs.length=1:=fun xs H K h=>by obtain ⟨s,rfl,_⟩:=lT h.1.1; rfl
attribute [go_sem] L8 DY
theorem KB:Meets Tryz.prog 47 (L8 fun l=>.string (mk (rL l))).sp:=by
 refine aF Tryz.func47 aN1 1 (by rw [Tryz.ntmps47]; decide) (aG x9 (aA _)) EF ?_
 rintro av H K ⟨⟨h,rfl⟩,hK⟩
 obtain ⟨s,rfl,hs⟩:=lT h
 have hK:K (tS (mk (jP (bl s).length ++ bl s))) []:=hK
 have hl:=gL (bl s).length
 simp (maxSteps:=1000000) -dsimp only [go_sem,aDR,aGA,gX,g4,dT]
 exact ⟨by omega,.done hK⟩
structure EsP (N:Nat) (s:Sc) (u:St) (v:Vl):Prop where
 d:Dg s
 n:N<=8
 h:∀ x ∈ v.f,x.2.h<=N
 t:∃ t:Ty,TyOk t/\(t.k == 6)=true/\stOf s t=u/\d9 s t v=0
def HE (N:Nat) (s:Sc) (t:Ty) (v:Vl):Prop:=Dg s/\N<=8/\v.h<=N/\d9 s t v=0
noncomputable def mV (N:Nat):Fun:=fN (HE N) fun s t v=>.string (mk (cG s N t v))
noncomputable def KN (N:Nat):Fun:=EB (EsP N) fun s u v=>.string (mk (fW (cG s N) s u.fs v.f))
theorem HH (R:Ty->Vl->List UInt8) (s:Sc) (fs:List Fl) (F:List (Int × Vl)) (i:Nat):(fW R s (fs.take i) F).length<=(fW R s fs F).length:=by
 have h:fW R s fs F=fW R s (fs.take i) F ++ fW R s (fs.drop i) F:=by unfold fW; rw [<-List.flatMap_append,List.take_append_drop]
 rw [h,List.length_append]; omega
theorem FP {R:Ty->Vl->List UInt8} {s:Sc} {fs:List Fl} {F:List (Int × Vl)} {i:Nat} {g:Fl} (h:fs[i]? = some g):fW R s (fs.take (i + 1)) F=fW R s (fs.take i) F ++ M0 R s F g:=by
 unfold fW; rw [dH h,List.flatMap_append]; simp
theorem JT {s:Sc} (hd:Dg s) {N:Nat} (hN:N<=8) {t:Ty} {v:Vl} (h6:(t.k == 6)=true) (h0:d9 s t v=0) (hh:∀ x ∈ v.f,x.2.h<=N):(fW (cG s N) s (stOf s t).fs v.f).length<=4000000000000000000:=by
 obtain ⟨_,_,_,_,h2⟩:=(l6 h0).st h6
 have hl:=(hd.ni.stOf t).l
 have hB:=nV hN
 have h5:(fW (cG s N) s (stOf s t).fs v.f).length<=(stOf s t).fs.length * (20 + eB N):=oF fun g hg=>J5 hd hg fun x hx=>jA hd N _ x.2 (hh x hx) (h2 x hx)
 have h6:(stOf s t).fs.length * (20 + eB N)<=16 * (20 + eB N):=Nat.mul_le_mul_right _ hl
 omega
theorem qN {N:Nat} (hE:Meets Tryz.prog 48 (mV N).sp):Meets Tryz.prog 26 (KN N).sp:=by
 refine aF Tryz.func26 aRY 3 (by rw [Tryz.ntmps26]; decide) (aE YE (aE UW (aG H8 (aG x9 (aG hE (aG KB (aA _))))))) QA ?_
 intro av H K h
 obtain ⟨s,u,v,rfl,rfl,hs,hu,hv,⟨hd,hN,hh,t,hto,h6,htu,h0⟩,hK⟩:=YW h
 clear h
 have hlen:=JT hd hN h6 h0 hh
 have hc:=l6 h0
 obtain ⟨_,_,_,_,hck⟩:=hc.st h6
 have hkk:v.k=6:=by rw [hc.kk]; exact eq_of_beq h6
 have hnst:=hd.ni.stOf t
 have hul:=hnst.l
 have hfl:∀ g ∈ u.fs,iK (stOf s t) g.num=g:=fun g hg=>AL hd (by rw [htu]; exact hg)
 rw [htu] at hlen hck hnst hfl hul
 have k6:=cV hs
 have k7:=fY s
 simp (maxSteps:=1000000) -dsimp only [go_sem,aC,aH,aJ v,aDZ,aFR]
 refine aL (α:=Nat) (fun i=>[(3,.va (.c1 (.pt 0 0))),(5,.va (.c1 (.pt 2 0))),(7,tS (mk (fW (cG s N) s (u.fs.take i) v.f))),(13,.va (.c1 (.fz (u.fs.map aN)))),(14,iS .i64 u.fs.length),(15,iS .i64 i)])
  (fun _=>[.cells [.vl (.int .i64 s.ver),.fz (s.es.map aX),.fz (s.ss.map aH)] 25,.cells [.vl (.string u.nm),.fz (u.fs.map aN)] 48,.cells [.vl (.int .i64 v.k),.vl (.int .i64 v.n),.vl (.string v.s),.fz (v.l.map aP),.fz (v.f.map a8)] 29])
  (fun i=>i<=u.fs.length) (fun i=>u.fs.length - i) 0 3 (Nat.zero_le _) ?_ ?_ ?_
 · simp -dsimp only [go_sem]<;>simp [fW]
 · simp -dsimp only [go_sem]<;>simp
 intro i hi
 rcases a7 i u.fs.length with hlt | hge
 · have hg:decide ((i:Int) < (u.fs.length:Int))=true:=by simp; omega
   have hx:u.fs[i]? = some u.fs[i]:=aU hlt
   have q2:=aR (row:=aN) hx
   have hgm:=List.getElem_mem hlt
   have hgo:=(hu.fs _ hgm).ty
   have hnx:=FP (R:=cG s N) (s:=s) (F:=v.f) hx
   have hl1:=HH (cG s N) s u.fs v.f (i + 1)
   have hgf:=hfl _ hgm
   generalize u.fs[i]=g at *
   rw [hnx] at hl1
   rw [NF] at hnx hl1
   unfold omG at hnx hl1
   simp (maxSteps:=1000000) -dsimp only [go_sem,hg,↓q2,aN]
   refine ⟨by omega,E4 hv hkk ?_⟩
   cases hvf:dQ v.f g.num with
   | none=>
    rw [hvf] at hnx
    have hnx:fW (cG s N) s (u.fs.take (i + 1)) v.f=fW (cG s N) s (u.fs.take i) v.f:=by rw [hnx]; exact List.append_nil _
    simp (maxSteps:=1000000) -dsimp only [go_sem,Option.map_none,Option.getD_none,Option.isSome_none,s5]
    refine aB rfl (.done ?_)
    simp (maxSteps:=1000000) -dsimp only [go_sem,qX,Bool.false_and,Bool.not_false,Bool.not_true,Bool.true_or]
    refine ⟨by omega,aD (i + 1) 3 (by omega) (by omega) ?_ ?_⟩
    · simp -dsimp only [go_sem,hnx]<;>simp
    · simp -dsimp only [go_sem]<;>simp
   | some x=>
    obtain ⟨hxm,hxe⟩:=s4 hvf
    have hxo:=hv.f x hxm
    have hxc:=hck x hxm
    rw [hxe,hgf] at hxc
    have hxh:=hh x hxm
    rw [hvf] at hnx hl1
    simp only [Option.isSome_some,Bool.not_true,Bool.false_or,Option.map_some,Option.getD_some] at hnx hl1 ⊢
    have k1:=b9 hxo
    have k2:=dS x.2
    have k4:=dO hgo
    have k5:=gO g.ty
    have k8:HE N s g.ty x.2=True:=eq_true ⟨hd,hN,hxh,hxc⟩
    have hvl:=gL g.num
    have k9:=jA hd N g.ty x.2 hxh hxc
    have k10:=nV hN
    have k11:=j9 (cG s N g.ty x.2)
    have k12:((cG s N g.ty x.2).length<=9223372036854775797)=True:=eq_true (by omega)
    simp (maxSteps:=1000000) -dsimp only [go_sem,aJ x.2]
    refine aB rfl (.done ?_)
    cases ho:g.opt with
    | true=>
     simp (maxSteps:=1000000) -dsimp only [go_sem,qX,Bool.true_and,Bool.false_and,Bool.not_false,Bool.not_true,Bool.or_false,Bool.false_or]
     rw [ho] at hnx hl1
     simp only [Bool.not_true,Bool.false_and,cond_false,List.length_append] at hnx hl1
     refine aB rfl (.done ?_)
     simp (maxSteps:=1000000) -dsimp only [go_sem,yM,mV,gX,g4,dT,k1,k2,k4,k5,k6,k7,k8,k12,List.take_succ_cons,List.take_zero,List.length_cons,List.length_nil]
     refine ⟨by omega,by omega,by omega,aD (i + 1) 3 (by omega) (by omega) ?_ ?_⟩
     · simp -dsimp only [go_sem,hnx,k2,k5,k7,dT]<;>simp
     · simp -dsimp only [go_sem]<;>simp
    | false=>
     rw [ho] at hnx hl1
     simp only [Bool.not_false,Bool.true_and] at hnx hl1
     simp (maxSteps:=1000000) -dsimp only [go_sem,qX,Bool.true_and,Bool.false_and,Bool.not_false,Bool.not_true,Bool.or_false,Bool.false_or]
     refine y8 hs hgo ?_
     have hzo:=wV hs 23 g.ty hgo
     generalize zF s 23 g.ty=z at *
     have kz1:=b9 hzo
     have kz2:=dS z
     cases he:eL x.2 z with
     | true=>
      rw [he,cond_true,List.append_nil] at hnx
      simp (maxSteps:=1000000) -dsimp only [go_sem,aJ z,k1,k2,kz1,kz2,he,List.take_succ_cons,List.take_zero,List.length_cons,List.length_nil]
      refine ⟨by omega,aD (i + 1) 3 (by omega) (by omega) ?_ ?_⟩
      · simp -dsimp only [go_sem,hnx]<;>simp
      · simp -dsimp only [go_sem]<;>simp
     | false=>
      rw [he] at hnx hl1
      simp only [cond_false,List.length_append] at hnx hl1
      simp (maxSteps:=1000000) -dsimp only [go_sem,aJ z,k1,k2,kz1,kz2,he,List.take_succ_cons,List.take_zero,List.length_cons,List.length_nil]
      refine aB rfl (.done ?_)
      simp (maxSteps:=1000000) -dsimp only [go_sem,yM,mV,gX,g4,dT,k1,k2,k4,k5,k6,k7,k8,k12,List.take_succ_cons,List.take_zero,List.length_cons,List.length_nil]
      refine ⟨by omega,by omega,by omega,aD (i + 1) 3 (by omega) (by omega) ?_ ?_⟩
      · simp -dsimp only [go_sem,hnx,k2,k5,k7,dT]<;>simp
      · simp -dsimp only [go_sem]<;>simp
 · have hg:decide ((i:Int) < (u.fs.length:Int))=false:=by simp; omega
   rw [List.take_of_length_le hge] at *
   simp (maxSteps:=1000000) -dsimp only [go_sem,hg]
   refine .sel [] (by simp) (by simp) rfl (.done ?_)
   simp -dsimp only [go_sem]
   exact hK
abbrev MS (o:List UInt8):B:=.cells [.vl (.string (mk o))] 9
def aE5 (N:Nat):W.Spec:=fun av H K=>∃ (s:Sc) (t u:Ty) (v:Vl) (o:List UInt8),av=[.va (.gs (aP v)),.va (.c1 (.pt 0 0)),.va (.c1 (.pt 1 0)),.va (.c1 (.pt 2 0))]/\H=[MS o,.cells (aC s) 25,.cells (aQ t) 42]/\
 t.e=[u]/\s.fit/\TyOk u/\VlOk v/\HE N s u v/\o.length<=4000000000000000000/\K (.tu []) [MS (o ++ rL (cG s N u v)),.cells (aC s) 25,.cells (aQ t) 42]
theorem aBK {N:Nat} {s:Sc} {t u:Ty} {v:Vl} {o:List UInt8} {K:S->Hp->Prop} (h1:t.e=[u]) (h2:s.fit) (h3:TyOk u) (h4:VlOk v) (h5:HE N s u v) (h6:o.length<=4000000000000000000)
 (hK:K (.tu []) [MS (o ++ rL (cG s N u v)),.cells (aC s) 25,.cells [.vl (.int .i64 t.k),.vl (.int .i64 t.s),.vl (.string t.n),.fz (t.e.map aQ)] 42]) :
 aE5 N [.va (.gs [.vl (.int .i64 v.k),.vl (.int .i64 v.n),.vl (.string v.s),.fz (v.l.map aP),.fz (v.f.map a8)]),.va (.c1 (.pt 0 0)),.va (.c1 (.pt 1 0)),.va (.c1 (.pt 2 0))]
  [MS o,.cells [.vl (.int .i64 s.ver),.fz (s.es.map aX),.fz (s.ss.map aH)] 25,.cells [.vl (.int .i64 t.k),.vl (.int .i64 t.s),.vl (.string t.n),.fz (t.e.map aQ)] 42] K:=
 ⟨s,t,u,v,o,by rw [aJ],by rw [aM]; rfl,h1,h2,h3,h4,h5,h6,by rw [aM]; exact hK⟩
theorem PT {N:Nat} (hE:Meets Tryz.prog 48 (mV N).sp):Meets Tryz.prog 85 (aE5 N):=by
 refine aF Tryz.func85 aOF 4 (by rw [Tryz.ntmps85]; decide) (aG hE (aG KB (aA _))) (fun av H K h=>by obtain ⟨_,_,_,_,_,rfl,_⟩:=h; rfl) ?_
 rintro av H K ⟨s,t,u,v,o,rfl,rfl,he,hs,hu,hv,hp,ho,hK⟩
 have hd:=hp.1
 have k1:=b9 hv
 have k2:=dS v
 have k4:=dO hu
 have k5:=gO u
 have k6:=cV hs
 have k7:=fY s
 have k8:HE N s u v=True:=eq_true hp
 have k9:=jA hd N u v hp.2.2.1 hp.2.2.2
 have k10:=nV hp.2.1
 have k11:=j9 (cG s N u v)
 have k12:((cG s N u v).length<=9223372036854775797)=True:=eq_true (by omega)
 have z0:(0:Int) < ((1:Nat):Int):=by decide
 have z1:(0:Int)<=0:=by decide
 simp (maxSteps:=1000000) -dsimp only [go_sem,aC,aM t,aJ v,he,aM u,aF1,aEH,mV,k1,k2,k4,k5,k6,k7,k8,k12,forall_eq',z0,z1,List.length_cons,List.length_nil,List.take_succ_cons,List.take_zero]
 refine ⟨by omega,.sel [0,1,2] (by simp) (by simp) rfl (.done ?_)⟩
 simp -dsimp only [aC,aM t,he,List.map_cons,List.map_nil,aM u] at hK
 simp -dsimp only [go_sem]
 exact hK
abbrev e1V:S:=.va (.c1 (.fn 85 [(false,[.pt 3 0]),(false,[.pt 0 0]),(false,[.pt 1 0])]))
theorem G1 (R:Ty->Vl->List UInt8) (t:Ty) (l:List Vl) (i:Nat):(jQ R t (l.take i)).length<=(jQ R t l).length:=by
 have h:jQ R t l=jQ R t (l.take i) ++ jQ R t (l.drop i):=by unfold jQ; rw [<-List.flatMap_append,List.take_append_drop]
 rw [h,List.length_append]; omega
theorem EQ {R:Ty->Vl->List UInt8} {t:Ty} {l:List Vl} {i:Nat} {x:Vl} (h:l[i]? = some x):jQ R t (l.take (i + 1))=jQ R t (l.take i) ++ rL (R t x):=by
 unfold jQ; rw [dH h,List.flatMap_append]; simp
theorem IN {s:Sc} (hd:Dg s) {N:Nat} (hN:N<=8) {u:Ty} {l:List Vl} (h:∀ x ∈ l,x.h<=N/\d9 s u x=0) (hl:l.length<=32):(jQ (cG s N) u l).length<=3000000000000000000:=by
 have hB:=nV hN
 have h5:(jQ (cG s N) u l).length<=l.length * (10 + eB N):=oF fun x hx=>by
  have:=jA hd N u x (h x hx).1 (h x hx).2
  have:=j9 (cG s N u x)
  omega
 have h6:l.length * (10 + eB N)<=32 * (10 + eB N):=Nat.mul_le_mul_right _ hl
 omega
theorem uR:∀ N,Meets Tryz.prog 48 (mV N).sp
 | 0=>⟨by kernel_rfl,by rintro xs vs E ro w K _ _ _ h; obtain ⟨_,_,v,_,_,_,_,_,h,_⟩:=cW h; have:=v.h_pos; have h2:=h.2.2.1; omega⟩
 | N + 1=>by
  refine aF Tryz.func48 aRT 3 (by rw [Tryz.ntmps48]; decide) (aG x9 (aG aIR (aE (PT (uR N)) (aE kB (aG (qN (uR N)) (aA _)))))) eE ?_
  intro av H K h
  obtain ⟨s,t,v,rfl,rfl,hs,ht,hv,⟨hd,hN,hh,h0⟩,hK⟩:=cW h
  clear h
  have fin:∀ (x:List UInt8) (R:Hp),cG s (N + 1) t v=x->W.Fin 0 K (tS (mk x)) R:=fun x R h=>by
   rw [h] at hK; exact .sel [] (by simp) (by simp) rfl (.done (by simpa [go_sem] using hK))
  clear hK
  have hc:=l6 h0
  have hvn:=hv.n
  have k1:=b9 hv
  have k2:=dS v
  have k6:=cV hs
  have k7:=fY s
  rw [uN] at fin
  simp (maxSteps:=1000000) -dsimp only [go_sem,aC,aM t,aJ v,aB0,aGN]
  refine aB rfl (.done ?_)
  cases c1:t.k == 1 || (t.k == 3 || t.k == 7) with
  | true=>
   rw [c1,cond_true] at fin
   have go:∀ b1 b3 b7:Bool,(t.k == 1)=b1->(t.k == 3)=b3->(t.k == 7)=b7->(b1 || (b3 || b7))=true:=fun b1 b3 b7 h1 h3 h7=>by rw [<-h1,<-h3,<-h7]; exact c1
   cases q1:t.k == 1<;>cases q3:t.k == 3<;>cases q7:t.k == 7<;>first
    | exact absurd (go _ _ _ q1 q3 q7) (by decide)
    | (simp (maxSteps:=1000000) -dsimp only [go_sem,mH,q1,q3,q7,gX,g4,dT]
       exact fin _ _ rfl)
  | false=>
  have c1':=c1
  rw [Bool.or_eq_false_iff,Bool.or_eq_false_iff] at c1'
  rw [c1,cond_false] at fin
  cases c2:t.k == 2 with
  | true=>
   rw [c2,cond_true] at fin
   simp (maxSteps:=1000000) -dsimp only [go_sem,mH,c1'.1,c1'.2.1,c1'.2.2,c2,hvn]
   exact fin _ _ rfl
  | false=>
  rw [c2,cond_false] at fin
  cases c4:t.k == 4 with
  | true=>
   rw [c4,cond_true] at fin
   simp (maxSteps:=1000000) -dsimp only [go_sem,mH,c1'.1,c1'.2.1,c1'.2.2,c2,c4]
   have:=fin (bl v.s)
   rw [hY] at this
   exact this _ rfl
  | false=>
  rw [c4,cond_false] at fin
  cases c5:t.k == 5 with
  | true=>
   rw [c5,cond_true] at fin
   obtain ⟨u,he,hu⟩:=AT hc.va c5
   have hto:=ht.e u (by rw [he]; exact List.mem_singleton.2 rfl)
   obtain ⟨_,_,_,e4,e5⟩:=hc.ls c5
   have h32:=(oL hc.va).2 c5
   rw [he] at fin e5
   simp only [List.headD_cons] at fin e5
   have hxs:∀ x ∈ v.l,x.h<=N/\d9 s u x=0:=fun x hx=>⟨by have:=Vl.h_l hx; omega,e5 x hx⟩
   have hlen:=IN hd (N:=N) (by omega) hxs (by omega)
   have hvl:=gL v.l.length
   simp (maxSteps:=1000000) -dsimp only [go_sem,mH,c1'.1,c1'.2.1,c1'.2.2,c2,c4,c5]
   refine aB rfl (.done ?_)
   simp (maxSteps:=1000000) -dsimp only [go_sem,zT,gX,g4,dT]
   refine aL (α:=Nat) (fun i=>[(3,.va (.c1 (.pt 0 0))),(4,.va (.c1 (.pt 1 0))),(7,.va (.c1 (.pt 3 0))),(8,e1V),(41,.va (.c1 (.fz (v.l.map aP)))),(42,iS .i64 v.l.length),(43,iS .i64 i)])
    (fun i=>[.cells [.vl (.int .i64 s.ver),.fz (s.es.map aX),.fz (s.ss.map aH)] 25,.cells [.vl (.int .i64 t.k),.vl (.int .i64 t.s),.vl (.string t.n),.fz (t.e.map aQ)] 42,.cells [.vl (.int .i64 v.k),.vl (.int .i64 v.n),.vl (.string v.s),.fz (v.l.map aP),.fz (v.f.map a8)] 29,MS (jP v.l.length ++ jQ (cG s N) u (v.l.take i))])
    (fun i=>i<=v.l.length) (fun i=>v.l.length - i) 0 4 (Nat.zero_le _) ?_ ?_ ?_
   · simp -dsimp only [go_sem]<;>simp
   · simp -dsimp only [go_sem]<;>simp [jQ]
   intro i hi
   have hlt1:=G1 (cG s N) u v.l i
   rcases a7 i v.l.length with hlt | hge
   · have hg:decide ((i:Int) < (v.l.length:Int))=true:=by simp; omega
     have hx:v.l[i]? = some v.l[i]:=aU hlt
     have q1:=lX hx
     have hxm:=List.getElem_mem hlt
     have hxo:=hv.l _ hxm
     have hxp:=hxs _ hxm
     have hnx:=EQ (R:=cG s N) (t:=u) hx
     generalize v.l[i]=x at *
     simp (maxSteps:=1000000) -dsimp only [go_sem,hg,↓q1]
     refine ⟨by omega,aB rfl (.done ?_)⟩
     simp (maxSteps:=1000000) -dsimp only [go_sem,AH]
     refine aBK he hs hto hxo ⟨hd,by omega,hxp.1,hxp.2⟩ (by rw [List.length_append]; omega) ?_
     simp (maxSteps:=1000000) -dsimp only [go_sem,aC]
     refine ⟨by omega,aD (i + 1) 4 (by omega) (by omega) ?_ ?_⟩
     · simp -dsimp only [go_sem]<;>simp
     · simp -dsimp only [go_sem,hnx]<;>simp
   · have hg:decide ((i:Int) < (v.l.length:Int))=false:=by simp; omega
     rw [List.take_of_length_le hge] at *
     simp (maxSteps:=1000000) -dsimp only [go_sem,hg]
     refine aB rfl (.done ?_)
     simp (maxSteps:=1000000) -dsimp only [go_sem,A1]
     exact fin _ _ rfl
  | false=>
   rw [c5,cond_false] at fin
   have c6:(t.k == 6)=true:=LB hc.va c1'.1 (by rw [c2,c1'.2.1,c1'.2.2]; rfl) c4 c5
   obtain ⟨_,_,_,_,e5⟩:=hc.st c6
   have hst:=gK hs t
   have k4:=OI hst
   have k5:=aEJ (stOf s t)
   have k8:EsP N s (stOf s t) v=True:=eq_true ⟨hd,by omega,fun x hx=>by have:=Vl.h_f hx; omega,t,ht,c6,rfl,h0⟩
   simp (maxSteps:=1000000) -dsimp only [go_sem,mH,c1'.1,c1'.2.1,c1'.2.2,c2,c4,c5]
   refine aB rfl (.done ?_)
   simp (maxSteps:=1000000) -dsimp only [go_sem,y2]
   refine eO hs ?_
   rw [show (fS s.ss t.n).getD default=stOf s t from rfl]
   generalize stOf s t=w at *
   simp (maxSteps:=1000000) -dsimp only [go_sem,aH]
   refine aB rfl (.done ?_)
   simp (maxSteps:=1000000) -dsimp only [go_sem,zK,KN,k1,k2,k4,k5,k6,k7,k8]
   exact fin _ _ rfl
abbrev dR (nm:ByteArray):Ty:=.mk 6 0 nm []
theorem OT {nm:ByteArray} (h:nm.size<=9223372036854775807):TyOk (dR nm):=.mk ⟨by decide,by decide⟩ ⟨by decide,by decide⟩ h (Nat.zero_le _) fun t h=>(by cases h)
def oM (s:Sc) (nm:ByteArray):St × Int:=bif bI s != 0 then (default,bI s) else bif !(cE s.ss nm) then (default,6) else (stOf s (dR nm),0)
def aA6:W.Spec:=fun av H K=>∃ (s:Sc) (nm:ByteArray),av=[.va (.gs (aC s)),tS nm]/\H=[]/\s.fit/\K (.tu [.gs (aH (oM s nm).1),iA .i64 (oM s nm).2]) []
theorem OF {s:Sc} {nm:ByteArray} {K:S->Hp->Prop} (h:s.fit) (hK:K (.tu [.gs (aH (oM s nm).1),iA .i64 (oM s nm).2]) []):aA6 [.va (.gs [.vl (.int .i64 s.ver),.fz (s.es.map aX),.fz (s.ss.map aH)]),tS nm] [] K:=⟨s,nm,rfl,rfl,h,hK⟩
theorem pW:aH default=[.vl (.string (mk [])),.fz []]:=rfl
theorem JO:Meets Tryz.prog 23 aA6:=by
 refine aF Tryz.func23 aRV 2 (by rw [Tryz.ntmps23]; decide) (aG aDW (aE kB (aA _))) (fun av H K h=>by obtain ⟨_,_,rfl,_⟩:=h; rfl) ?_
 rintro av H K ⟨s,nm,rfl,rfl,hs,hK⟩
 have fin:∀ (u:St) (e:Int) (R:Hp),oM s nm=(u,e)->W.Fin 0 K (.tu [.gs (aH u),iA .i64 e]) R:=fun u e R h=>by
  rw [h] at hK; exact .sel [] (by simp) (by simp) rfl (.done (by simpa [go_sem,aH] using hK))
 clear hK
 unfold oM at fin
 have k6:=cV hs
 have k7:=fY s
 simp (maxSteps:=1000000) -dsimp only [go_sem,aC,aD9,aEA,k6,k7]
 refine aB rfl (.done ?_)
 cases c1:bI s != 0 with
 | true=>
  rw [c1,cond_true] at fin
  simp (maxSteps:=1000000) -dsimp only [go_sem,wL,c1]
  exact fin _ _ _ rfl
 | false=>
 rw [c1,cond_false] at fin
 simp (maxSteps:=1000000) -dsimp only [go_sem,wL,c1]
 refine aB rfl (.done ?_)
 simp (maxSteps:=1000000) -dsimp only [go_sem,EW]
 refine eO hs ?_
 rw [show (fS s.ss nm).getD default=stOf s (dR nm) from rfl]
 generalize stOf s (dR nm)=u at *
 simp (maxSteps:=1000000) -dsimp only [go_sem,aH]
 refine aB rfl (.done ?_)
 cases c2:cE s.ss nm with
 | false=>
  rw [c2,Bool.not_false,cond_true] at fin
  simp (maxSteps:=1000000) -dsimp only [go_sem,wG,Bool.not_false]
  exact fin _ _ _ rfl
 | true=>
  rw [c2,Bool.not_true,cond_false] at fin
  simp (maxSteps:=1000000) -dsimp only [go_sem,wG,Bool.not_true]
  exact fin _ _ _ rfl
def aB9:W.Spec:=fun av H K=>∃ nm:ByteArray,av=[tS nm]/\H=[]/\K (.va (.gs (aQ (dR nm)))) []
theorem OW {nm:ByteArray} {K:S->Hp->Prop} (hK:K (.va (.gs (aQ (dR nm)))) []):aB9 [tS nm] [] K:=⟨nm,rfl,rfl,hK⟩
theorem HZ:Meets Tryz.prog 25 aB9:=by
 refine aF Tryz.func25 aRP 1 (by rw [Tryz.ntmps25]; decide) (aA _) (fun av H K h=>by obtain ⟨_,rfl,_⟩:=h; rfl) ?_
 rintro av H K ⟨nm,rfl,rfl,hK⟩
 simp (maxSteps:=1000000) -dsimp only [go_sem,aGI,aBI]
 exact .sel [] (by simp) (by simp) rfl (.done (by simpa [go_sem,aM,Ty.k,Ty.s,Ty.n,Ty.e] using hK))
def GN:W.Spec:=fun av H K=>∃ (s:Sc) (nm:ByteArray) (v:Vl),av=[.va (.gs (aC s)),tS nm,.va (.gs (aP v))]/\H=[]/\s.fit/\nm.size<=9223372036854775807/\VlOk v/\K (.tu [tA (mk (kV s nm v).1),iA .i64 (kV s nm v).2]) []
theorem N2 {s:Sc} {nm:ByteArray} {v:Vl} {K:S->Hp->Prop} (h1:s.fit) (h2:nm.size<=9223372036854775807) (h3:VlOk v) (hK:K (.tu [tA (mk (kV s nm v).1),iA .i64 (kV s nm v).2]) []) :
 GN [.va (.gs [.vl (.int .i64 s.ver),.fz (s.es.map aX),.fz (s.ss.map aH)]),tS nm,.va (.gs [.vl (.int .i64 v.k),.vl (.int .i64 v.n),.vl (.string v.s),.fz (v.l.map aP),.fz (v.f.map a8)])] [] K:=⟨s,nm,v,by rw [aJ]; rfl,rfl,h1,h2,h3,hK⟩
theorem J4:Meets Tryz.prog 9 GN:=by
 refine aF Tryz.func9 ok9 3 (by rw [Tryz.ntmps9]; decide) (aE JO (aE HZ (aG YI (aG (qN (uR 8)) (aA _))))) (fun av H K h=>by obtain ⟨_,_,_,rfl,_⟩:=h; rfl) ?_
 rintro av H K ⟨s,nm,v,rfl,rfl,hs,hnm,hv,hK⟩
 have fin:∀ (x:List UInt8) (e:Int) (R:Hp),kV s nm v=(x,e)->W.Fin 0 K (.tu [tA (mk x),iA .i64 e]) R:=fun x e R h=>by
  rw [h] at hK; exact .sel [] (by simp) (by simp) rfl (.done (by simpa [go_sem] using hK))
 clear hK
 unfold kV at fin
 have hty:=OT hnm
 have k1:=b9 hv
 have k2:=dS v
 have k4:=dO hty
 have k5:=gO (dR nm)
 have k6:=cV hs
 have k7:=fY s
 simp (maxSteps:=1000000) -dsimp only [go_sem,aC,aJ v,pc9,rs9]
 refine OF hs ?_
 have hch:oM s nm=bif bI s != 0 then (default,bI s) else bif !(cE s.ss nm) then (default,6) else (stOf s (dR nm),0):=rfl
 have hst:=gK hs (dR nm)
 cases c1:bI s != 0 with
 | true=>
  rw [c1,cond_true] at fin hch
  rw [hch]
  simp (maxSteps:=1000000) -dsimp only [go_sem,pW]
  refine aB rfl (.done ?_)
  simp (maxSteps:=1000000) -dsimp only [go_sem,rX,c1]
  exact fin _ _ _ rfl
 | false=>
 have hd:=KX hs (qM c1)
 rw [c1,cond_false] at fin hch
 cases c2:cE s.ss nm with
 | false=>
  rw [c2,Bool.not_false,cond_true] at fin hch
  rw [hch]
  simp (maxSteps:=1000000) -dsimp only [go_sem,pW]
  refine aB rfl (.done ?_)
  have g:((6:Int) != 0)=true:=rfl
  simp (maxSteps:=1000000) -dsimp only [go_sem,rX,g]
  exact fin _ _ _ rfl
 | true=>
 rw [c2,Bool.not_true,cond_false] at fin hch
 rw [hch]
 cases c3:jJ s (dR nm) v != 0 with
 | true=>
  rw [c3,cond_true] at fin
  generalize stOf s (dR nm)=w at *
  simp (maxSteps:=1000000) -dsimp only [go_sem,aH]
  refine aB rfl (.done ?_)
  simp (maxSteps:=1000000) -dsimp only [go_sem,rX,bne_self_eq_false]
  refine aB rfl (.done ?_)
  simp (maxSteps:=1000000) -dsimp only [go_sem,D1]
  refine OW ?_
  simp (maxSteps:=1000000) -dsimp only [go_sem,aM (dR nm),k1,k2,k4,k5,k6,k7,c3]
  exact fin _ _ _ rfl
 | false=>
  rw [c3,cond_false] at fin
  have hck:=qM c3
  have h0:=(uV hck).1
  have hh:=aCR hck
  have q4:=OI hst
  have q5:=aEJ (stOf s (dR nm))
  have q8:EsP 8 s (stOf s (dR nm)) v=True:=eq_true ⟨hd,Nat.le_refl _,fun x hx=>by have:=Vl.h_f hx; omega,dR nm,hty,rfl,rfl,h0⟩
  generalize stOf s (dR nm)=w at *
  simp (maxSteps:=1000000) -dsimp only [go_sem,aH]
  refine aB rfl (.done ?_)
  simp (maxSteps:=1000000) -dsimp only [go_sem,rX,bne_self_eq_false]
  refine aB rfl (.done ?_)
  simp (maxSteps:=1000000) -dsimp only [go_sem,D1]
  refine OW ?_
  simp (maxSteps:=1000000) -dsimp only [go_sem,aM (dR nm),k1,k2,k4,k5,k6,k7,c3]
  refine aB rfl (.done ?_)
  cases c4:decide (2000 < ((fW (cG s 8) s w.fs v.f).length:Int)) with
  | true=>
   rw [c4,cond_true] at fin
   simp (maxSteps:=1000000) -dsimp only [go_sem,CZ,KN,k1,k2,q4,q5,k6,k7,q8,c4]
   exact fin _ _ _ rfl
  | false=>
   rw [c4,cond_false] at fin
   simp (maxSteps:=1000000) -dsimp only [go_sem,CZ,KN,k1,k2,q4,q5,k6,k7,q8,c4]
   exact fin _ _ _ rfl
def W8:PC:=.seq (.reg [.q 2 (.mv (.k (.string (mk []))))]) (.seq (.reg [.v 3 0,.a 4 (.cq 132 [(.t 3)]),.a 5 (.cq 36 [(.t 4)]),.v 2 5]) .ret)
def VY:List RV:=[.mv (.t 2)]
theorem aKD:aO Tryz.prog true ⟨fun r k=>if r=1/\k=1 then .q else if r=1/\k=2 then .q else .own [],fun _=>false⟩ Tryz.f93=some (W8,VY):=by kernel_rfl
def FR:PC:=.seq (.reg [.q 2 (.mv (.k (.int .u64 0)))]) (.seq (.seq (.reg [.v 3 0,.q 4 (.bin .lss true (.t 3) (.i 0))]) (.cond (.t 4) (.seq (.reg [.v 5 0,.q 6 (.bin .add true (.t 5) (.i 1)),.q 7 (.bin .sub true (.i 0) (.t 6)),.q 8 (.cvt .u64 (.t 7)),.q 9 (.bin .mul true (.k (.int .u64 2)) (.t 8)),.q 10 (.bin .add true (.t 9) (.k (.int .u64 1))),.v 2 10]) .ret) .skip)) (.seq (.reg [.v 11 0,.q 12 (.cvt .u64 (.t 11)),.q 13 (.bin .mul true (.k (.int .u64 2)) (.t 12)),.v 2 13]) .ret))
def GX:List RV:=[.mv (.t 2)]
theorem aB6:aO Tryz.prog true ⟨fun _ _=>.own [],fun _=>false⟩ Tryz.f132=some (FR,GX):=by kernel_rfl
theorem VT {x:Int} (h0:0<=x) (h:x < 18446744073709551616):IntKind.u64.wrap x=x:=by
 have:=nN (n:=x.toNat) (by omega)
 rwa [Int.toNat_of_nonneg h0] at this
theorem QS:Meets Tryz.prog 132 (HJ fun n=>.int .u64 (lL n)).sp:=by
 refine aF Tryz.func132 aB6 1 (by rw [Tryz.ntmps132]; decide) (aA _) wC ?_
 rintro av H K ⟨⟨h,rfl⟩,hK⟩
 obtain ⟨n,rfl,hn⟩:=jI h
 have hK:K (iS .u64 (lL n)) []:=hK
 clear h
 unfold bR at hn
 unfold lL at hK
 cases c1:decide (n < 0) with
 | true=>
  have g1:=of_decide_eq_true c1
  rw [if_pos g1] at hK
  have e1:IntKind.u64.wrap (0 - (n + 1))=0 - (n + 1):=VT (by omega) (by omega)
  have e2:(2 * (-(n + 1)) + 1).toNat=((2 * (-(n + 1)) + 1).toNat:Int):=rfl
  have e3:((2 * (-(n + 1)) + 1).toNat:Int)=2 * (0 - (n + 1)) + 1:=by omega
  rw [e3] at hK
  simp (maxSteps:=1000000) -dsimp only [go_sem,FR,GX,c1,e1]
  and_intros
  all_goals first | omega | exact .done hK
 | false=>
  have g1:=of_decide_eq_false c1
  rw [if_neg g1] at hK
  have e1:IntKind.u64.wrap n=n:=VT (by omega) (by omega)
  have e3:((2 * n).toNat:Int)=2 * n:=by omega
  rw [e3] at hK
  simp (maxSteps:=1000000) -dsimp only [go_sem,FR,GX,c1,e1]
  and_intros
  all_goals first | omega | exact .done hK
theorem aJ3:Meets Tryz.prog 93 (HJ fun n=>.string (mk (vi (lL n)))).sp:=by
 refine aF Tryz.func93 aKD 1 (by rw [Tryz.ntmps93]; decide) (aG QS (aG w3 (aA _))) wC ?_
 rintro av H K ⟨⟨h,rfl⟩,hK⟩
 obtain ⟨n,rfl,hn⟩:=jI h
 have hK:K (tS (mk (vi (lL n)))) []:=hK
 clear h
 have hz:lL n < 18446744073709551616:=by
  unfold bR at hn
  unfold lL
  split<;>omega
 have k1:bR n=True:=eq_true hn
 simp (maxSteps:=1000000) -dsimp only [go_sem,W8,VY,k1,Int.toNat_natCast]
 exact ⟨⟨by omega,by omega⟩,.done hK⟩
theorem ES {s:Sc} (hs:s.fit) (t:Ty):∀ f ∈ (stOf s t).fs,TySm f.ty:=by
 unfold stOf
 cases h:fS s.ss t.n with
 | none=>exact fun f hf=>by cases hf
 | some u=>exact (hs.sm u (List.mem_of_find?_eq_some h)).2
def aAD (N:Nat):W.Spec:=fun av H K=>∃ (s:Sc) (t:Ty) (n:Nat),av=[.va (.gs (aC s)),.va (.gs (aQ t)),iS .i64 (n:Int)]/\H=[]/\s.fit/\TyOk t/\TySm t/\n < N/\N<=100/\K (.va (.gs (aP (zF s n t)))) []
theorem N1 {N:Nat} {s:Sc} {t:Ty} {n:Nat} {K:S->Hp->Prop} (h1:s.fit) (h2:TyOk t) (h5:TySm t) (h3:n < N) (h4:N<=100) (hK:K (.va (.gs (aP (zF s n t)))) []):aAD N [.va (.gs [.vl (.int .i64 s.ver),.fz (s.es.map aX),.fz (s.ss.map aH)]),.va (.gs [.vl (.int .i64 t.k),.vl (.int .i64 t.s),.vl (.string t.n),.fz (t.e.map aQ)]),iS .i64 (n:Int)] [] K:=⟨s,t,n,by rw [aM]; rfl,rfl,h1,h2,h5,h3,h4,hK⟩
theorem IZ:∀ N,Meets Tryz.prog 92 (aAD N)
 | 0=>⟨by kernel_rfl,by rintro xs vs E ro w K _ _ _ ⟨_,_,n,_,_,_,_,_,h,_⟩; exact absurd h (Nat.not_lt_zero n)⟩
 | N + 1=>by
  refine aF Tryz.func92 aRL 3 (by rw [Tryz.ntmps92]; decide) (aG tO (aE vM (aE (IZ N) (aA _)))) (fun av H K h=>by obtain ⟨_,_,_,rfl,_⟩:=h; rfl) ?_
  rintro av H K ⟨s,t,n,rfl,rfl,hs,ht,htm,hn,hN,hK⟩
  have k4:=dO ht
  have k5:=gO t
  have k6:=cV hs
  have k7:=fY s
  have fin:∀ {v:Vl} (R:Hp),zF s n t=v->W.Fin 0 K (.va (.gs (aP v))) R:=fun {v} R h=>by
   rw [h] at hK; refine .sel [] (by simp) (by simp) rfl (.done ?_)
   rw [aJ] at hK ⊢
   simpa [go_sem] using hK
  cases n with
  | zero=>
   have g:decide (((0:Nat):Int) < 1)=true:=rfl
   simp (maxSteps:=1000000) -dsimp only [go_sem,aC,aM t,GJ,EY,k4,k5,k6,k7,g,Bool.or_true]
   exact fin (v:=.mk 0 0 (mk []) [] []) _ rfl
  | succ n=>
   have g:decide (((n + 1:Nat):Int) < 1)=false:=by rw [decide_eq_false_iff_not]; omega
   have g':((n + 1:Nat):Int) - 1=n:=by omega
   rw [jZ] at fin
   cases h1:valF s.ss s.es t with
   | false=>
    rw [h1,aY] at fin
    simp (maxSteps:=1000000) -dsimp only [go_sem,aC,aM t,GJ,EY,g,k4,k5,k6,k7,h1]
    exact fin _ rfl
   | true=>
   rw [h1,bB] at fin
   cases h2:t.k == 6 with
   | false=>
    have h2':(t.k != 6)=true:=by rw [bne,h2]; rfl
    rw [h2,aY] at fin
    simp (maxSteps:=1000000) -dsimp only [go_sem,aC,aM t,GJ,EY,g,k4,k5,k6,k7,h1,h2',Bool.not_true,Bool.or_self]
    exact fin _ rfl
   | true=>
   have h2':(t.k != 6)=false:=by rw [bne,h2]; rfl
   rw [h2,bB] at fin
   simp (maxSteps:=1000000) -dsimp only [go_sem,aC,aM t,GJ,EY,g,k4,k5,k6,k7,h1,h2',Bool.not_true,Bool.or_self]
   refine eO hs ?_
   rw [show (fS s.ss t.n).getD default=stOf s t from rfl]
   have hok:=gK hs t
   have hsm:=zS hs t
   have htsm:=ES hs t
   have hz6:zF s (n + 1) t=.mk 6 0 (mk []) [] (zE s n (stOf s t).fs):=by rw [jZ,h1,h2]; rfl
   rw [hz6,aJ] at hK
   clear hz6 fin
   generalize stOf s t=u at *
   simp (maxSteps:=1000000) -dsimp only [go_sem,aH]
   have hlen:=fun i=>Nat.le_trans (HB s n (u.fs.take i)) (Nat.le_trans (List.length_take_le' i u.fs) hsm)
   refine cQ (α:=Nat) (fun i=>[(2,iS .i64 ((n + 1:Nat):Int)),(3,.va (.c1 (.pt 0 0))),(4,.va (.c1 (.pt 1 0))),(6,.va (.c1 (.pt 2 0))),(7,.va (.c1 (.pt 3 0))),(8,.va (.c1 (.pt 4 0))),(10,iS .i64 i)])
    (fun i=>[.cells [.vl (.int .i64 s.ver),.fz (s.es.map aX),.fz (s.ss.map aH)] 25,.cells [.vl (.int .i64 t.k),.vl (.int .i64 t.s),.vl (.string t.n),.fz (t.e.map aQ)] 42,.cells [.vl (.int .i64 0),.vl (.int .i64 0),.vl (.string (mk [])),.vl (.slice none 0 0),.vl (.slice none 0 0)] 29,
      .cells [.vl (.int .i64 t.k),.vl (.int .i64 0),.vl (.string (mk [])),.vl (.slice none 0 0),.sl 5 (zE s n (u.fs.take i)).length] 29,.cells [.vl (.string u.nm),.fz (u.fs.map aN)] 48,.row ((zE s n (u.fs.take i)).map a8) 76 6])
    (fun i=>i<=u.fs.length) (fun i=>u.fs.length - i) (.nilc 3 4 76 6 _ _ rfl rfl (jM 0 6 (Nat.zero_le _) ?_ ?_)) ?_
   · simp -dsimp only [go_sem]<;>simp
   · simp -dsimp only [go_sem]<;>simp [zE]
   intro i hi
   have hli:=hlen i
   rcases a7 i u.fs.length with hlt | hge
   · have hg:decide ((i:Int) < (u.fs.length:Int))=true:=by simp; omega
     have hx:u.fs[i]? = some u.fs[i]:=aU hlt
     have q2:=aR (row:=aN) hx
     have hfo:=(hok.fs _ (List.getElem_mem hlt)).ty
     have hfm:=htsm _ (List.getElem_mem hlt)
     generalize u.fs[i]=f at *
     have hz:=JR (s:=s) (n:=n) hx
     cases ho:f.opt with
     | true=>
      rw [ho,bB] at hz
      simp (maxSteps:=1000000) -dsimp only [go_sem,hg,↓q2,aN,ho,List.take_succ_cons,List.take_zero,List.length_cons,Bool.not_true]
      refine ⟨⟨by omega,by omega⟩,⟨by omega,by omega⟩,aD (i + 1) 6 (by omega) (by omega) ?_ ?_⟩
      · simp -dsimp only [go_sem]<;>simp
      · simp -dsimp only [go_sem,hz]<;>simp
     | false=>
      rw [ho,aY] at hz
      simp (maxSteps:=1000000) -dsimp only [go_sem,hg,↓q2,aN,ho,List.take_succ_cons,List.take_zero,List.length_cons,Bool.not_false,g']
      refine ⟨⟨by omega,by omega⟩,⟨by omega,by omega⟩,⟨by omega,by omega⟩,⟨by omega,by omega⟩,N1 hs hfo hfm (by omega) (by omega) ?_⟩
      generalize zF s n f.ty=v at *
      simp (maxSteps:=1000000) -dsimp only [go_sem,aJ v]
      refine ⟨⟨by omega,by omega⟩,by omega,⟨by omega,by omega⟩,aD (i + 1) 6 (by omega) (by omega) ?_ ?_⟩
      · simp -dsimp only [go_sem]<;>simp
      · simp -dsimp only [go_sem,hz]<;>simp [a8,aJ v]
   · have hg:decide ((i:Int) < (u.fs.length:Int))=false:=by simp; omega
     rw [List.take_of_length_le hge] at *
     have h6:t.k=6:=eq_of_beq h2
     simp (maxSteps:=1000000) -dsimp only [go_sem,hg,h6]
     refine .pub 5 _ _ _ rfl (.sel [] (by simp) (by simp [cD]) rfl (.done ?_))
     simp -dsimp only [go_sem,cD]
     exact hK
theorem BM {s:Sc} (hd:Dg s):∀ (M n m:Nat) (t:Ty),lK s t < M->M<=n->M<=m->zF s n t=zF s m t
 | 0,_,_,t,h,_,_=>by have:=BJ s t; omega
 | M + 1,n,m,t,h,hn,hm=>by
  obtain ⟨n,rfl⟩:∃ k,n=k + 1:=⟨n - 1,by omega⟩
  obtain ⟨m,rfl⟩:∃ k,m=k + 1:=⟨m - 1,by omega⟩
  rw [jZ,jZ]
  cases h1:valF s.ss s.es t with
  | false=>rfl
  | true=>
  cases h2:t.k == 6 with
  | false=>rfl
  | true=>
   have hst:=w4 hd h1 h2
   have hfd:=FK (s:=s) h2
   have he:zE s n (stOf s t).fs=zE s m (stOf s t).fs:=by
    unfold zE
    refine List.map_congr_left fun f hf=>?_
    have hf:=(List.mem_filter.1 hf).1
    have h7:=hst.2.2 f hf
    rw [BM hd M n m f.ty (by omega) (by omega) (by omega)]
   rw [he]
def SV:W.Spec:=fun av H K=>∃ (s:Sc) (t:Ty),av=[.va (.gs (aC s)),.va (.gs (aQ t))]/\H=[]/\s.fit/\TyOk t/\TySm t/\K (.va (.gs (aP (zF s 12 t)))) []
theorem Y3 {s:Sc} {t:Ty} {K:S->Hp->Prop} (h1:s.fit) (h2:TyOk t) (h3:TySm t) (hK:K (.va (.gs (aP (zF s 12 t)))) []):SV [.va (.gs [.vl (.int .i64 s.ver),.fz (s.es.map aX),.fz (s.ss.map aH)]),.va (.gs [.vl (.int .i64 t.k),.vl (.int .i64 t.s),.vl (.string t.n),.fz (t.e.map aQ)])] [] K:=⟨s,t,by rw [aM]; rfl,rfl,h1,h2,h3,hK⟩
theorem aAX:Meets Tryz.prog 51 SV:=by
 refine aF Tryz.func51 aPE 2 (by rw [Tryz.ntmps51]; decide) (aE (IZ 13) (aA _)) (fun av H K h=>by obtain ⟨_,_,rfl,_⟩:=h; rfl) ?_
 rintro av H K ⟨s,t,rfl,rfl,hs,ht,htm,hK⟩
 simp (maxSteps:=1000000) -dsimp only [go_sem,aC,aM t,aAV,Z7]
 refine N1 (n:=12) hs ht htm (by decide) (by decide) ?_
 rw [aJ] at hK ⊢
 simp (maxSteps:=1000000) -dsimp only [go_sem]
 refine .sel [] (by simp) (by simp) rfl (.done ?_)
 simp -dsimp only [go_sem]
 exact hK
def leS (a b:List UInt8):Prop:=a.length<=b.length/\(a.length=b.length->a=b)
structure Can (s:Sc) (t:Ty) (v:Vl) (b:List UInt8):Prop where
 ck:d9 s t v=0
 rl:cN v<=lK s t
 le:∀ N,v.h<=N->N<=8->leS (cG s N t v) b
theorem aEE {s:Sc} (hd:Dg s) {nm:ByteArray} (h:cE s.ss nm=true):lK s (.mk 6 0 nm [])<=6/\valF s.ss s.es (.mk 6 0 nm [])=true:=by
 have hv:valF s.ss s.es (.mk 6 0 nm [])=true:=by rw [valF.eq_def]; simp [h]
 have:=(w4 hd hv rfl).2.1
 rw [FK rfl]
 exact ⟨this,hv⟩
def WV:PC:=.seq (.reg [.e 2 (.bx 29 (.t 0)),.e 3 (.bx 29 (.t 1)),.q 4 (.mv (.k (.bool false)))]) (.seq (.reg [.l 5 (.ldn 5 (.t 2)),.l 6 (.ldn 5 (.t 3)),.a 7 (.cl 32 [(.t 5),(.t 6)] []),.q 8 (.bin .eql true (.t 7) (.i 0)),.v 4 8]) .ret)
def TP:List RV:=[.mv (.t 4)]
theorem aIV:aO Tryz.prog true ⟨fun r k=>if r=1/\k=2 then .own [] else .own [],fun _=>false⟩ Tryz.f14=some (WV,TP):=by kernel_rfl
def oZ:PC:=.seq (.gh (.reg [.q 136 (.fa 4 (.t 2)),.l 137 (.ld1 (.t 136)),.q 138 (.lnL (.t 137)),.q 139 (.fa 4 (.t 3)),.l 140 (.ld1 (.t 139)),.q 141 (.lnL (.t 140)),.a 142 (.cq 58 [(.t 138),(.t 141)]),.v 4 142])) .ret
@[go_sem ↓] theorem aJP:aS oZ:=aT _
def uW:PC:=.seq (.seq (.gh (.reg [.q 8 (.mv (.i 0))])) (.block 2 (.loop (.seq (.seq (.reg [.v 80 8,.q 81 (.fa 4 (.t 2)),.l 82 (.ld1 (.t 81)),.q 83 (.lnL (.t 82)),.q 84 (.bin .lss true (.t 80) (.t 83)),.v 85 84,⟨some 86,(some (85,true)),.q (.mv (.t 8))⟩,⟨some 87,(some (85,true)),.q (.fa 4 (.t 3))⟩,⟨some 88,(some (85,true)),.l (.ld1 (.t 87))⟩,⟨some 89,(some (85,true)),.q (.lnL (.t 88))⟩,⟨some 90,(some (85,true)),.q (.bin .lss true (.t 86) (.t 89))⟩,.a 91 (.pick (.t 85) (.t 90) (.k (.bool false)))]) (.cond (.t 91) .skip (.exit 2))) (.seq (.block 3 (.seq (.seq (.reg [.q 94 (.fa 4 (.t 2)),.l 95 (.ld1 (.t 94)),.v 96 8,.l 97 (.ia 6 (.t 95) (.t 96)),.q 98 (.fa 0 (.t 97)),.l 99 (.ld1 (.t 98)),.q 100 (.fa 4 (.t 3)),.l 101 (.ld1 (.t 100)),.v 102 8,.l 103 (.ia 6 (.t 101) (.t 102)),.q 104 (.fa 0 (.t 103)),.l 105 (.ld1 (.t 104)),.q 106 (.bin .neq true (.t 99) (.t 105))]) (.cond (.t 106) (.seq (.reg [.q 107 (.fa 4 (.t 2)),.l 108 (.ld1 (.t 107)),.v 109 8,.l 110 (.ia 6 (.t 108) (.t 109)),.q 111 (.fa 0 (.t 110)),.l 112 (.ld1 (.t 111)),.q 113 (.fa 4 (.t 3)),.l 114 (.ld1 (.t 113)),.v 115 8,.l 116 (.ia 6 (.t 114) (.t 115)),.q 117 (.fa 0 (.t 116)),.l 118 (.ld1 (.t 117)),.a 119 (.cq 58 [(.t 112),(.t 118)]),.v 4 119]) .ret) .skip)) (.seq (.reg [.q 120 (.fa 4 (.t 2)),.l 121 (.ld1 (.t 120)),.v 122 8,.l 123 (.ia 6 (.t 121) (.t 122)),.q 124 (.fa 1 (.t 123)),.l 125 (.ldn 5 (.t 124)),.q 126 (.fa 4 (.t 3)),.l 127 (.ld1 (.t 126)),.v 128 8,.l 129 (.ia 6 (.t 127) (.t 128)),.q 130 (.fa 1 (.t 129)),.l 131 (.ldn 5 (.t 130)),.a 132 (.cl 32 [(.t 125),(.t 131)] []),.v 9 132]) (.seq (.reg [.v 133 9,.q 134 (.bin .neq true (.t 133) (.i 0))]) (.cond (.t 134) (.seq (.reg [.v 135 9,.v 4 135]) .ret) .skip))))) (.reg [.v 92 8,.q 93 (.bin .add true (.t 92) (.i 1)),.v 8 93])))))) (oZ)
@[go_sem ↓] theorem aIX:aS uW:=aT _
def mT:PC:=.seq (.seq (.gh (.reg [.q 66 (.fa 3 (.t 2)),.l 67 (.ld1 (.t 66)),.q 68 (.lnL (.t 67)),.q 69 (.fa 3 (.t 3)),.l 70 (.ld1 (.t 69)),.q 71 (.lnL (.t 70)),.q 72 (.bin .neq true (.t 68) (.t 71))])) (.cond (.t 72) (.seq (.reg [.q 73 (.fa 3 (.t 2)),.l 74 (.ld1 (.t 73)),.q 75 (.lnL (.t 74)),.q 76 (.fa 3 (.t 3)),.l 77 (.ld1 (.t 76)),.q 78 (.lnL (.t 77)),.a 79 (.cq 58 [(.t 75),(.t 78)]),.v 4 79]) .ret) .skip)) (uW)
@[go_sem ↓] theorem aJH:aS mT:=aT _
def vD:PC:=.seq (.seq (.gh (.reg [.q 6 (.mv (.i 0))])) (.block 0 (.loop (.seq (.seq (.reg [.v 38 6,.q 39 (.fa 3 (.t 2)),.l 40 (.ld1 (.t 39)),.q 41 (.lnL (.t 40)),.q 42 (.bin .lss true (.t 38) (.t 41)),.v 43 42,⟨some 44,(some (43,true)),.q (.mv (.t 6))⟩,⟨some 45,(some (43,true)),.q (.fa 3 (.t 3))⟩,⟨some 46,(some (43,true)),.l (.ld1 (.t 45))⟩,⟨some 47,(some (43,true)),.q (.lnL (.t 46))⟩,⟨some 48,(some (43,true)),.q (.bin .lss true (.t 44) (.t 47))⟩,.a 49 (.pick (.t 43) (.t 48) (.k (.bool false)))]) (.cond (.t 49) .skip (.exit 0))) (.seq (.block 1 (.seq (.reg [.q 52 (.fa 3 (.t 2)),.l 53 (.ld1 (.t 52)),.v 54 6,.l 55 (.ia 5 (.t 53) (.t 54)),.l 56 (.ldn 5 (.t 55)),.q 57 (.fa 3 (.t 3)),.l 58 (.ld1 (.t 57)),.v 59 6,.l 60 (.ia 5 (.t 58) (.t 59)),.l 61 (.ldn 5 (.t 60)),.a 62 (.cl 32 [(.t 56),(.t 61)] []),.v 7 62]) (.seq (.reg [.v 63 7,.q 64 (.bin .neq true (.t 63) (.i 0))]) (.cond (.t 64) (.seq (.reg [.v 65 7,.v 4 65]) .ret) .skip)))) (.reg [.v 50 6,.q 51 (.bin .add true (.t 50) (.i 1)),.v 6 51])))))) (mT)
@[go_sem ↓] theorem aKB:aS vD:=aT _
def s3:PC:=.seq (.seq (.gh (.reg [.q 30 (.fa 2 (.t 2)),.l 31 (.ld1 (.t 30)),.q 32 (.fa 2 (.t 3)),.l 33 (.ld1 (.t 32)),.a 34 (.cq 59 [(.t 31),(.t 33)]),.v 5 34])) (.seq (.reg [.v 35 5,.q 36 (.bin .neq true (.t 35) (.i 0))]) (.cond (.t 36) (.seq (.reg [.v 37 5,.v 4 37]) .ret) .skip))) (vD)
@[go_sem ↓] theorem aL3:aS s3:=aT _
def nS:PC:=.seq (.seq (.gh (.reg [.q 20 (.fa 1 (.t 2)),.l 21 (.ld1 (.t 20)),.q 22 (.fa 1 (.t 3)),.l 23 (.ld1 (.t 22)),.q 24 (.bin .lss true (.t 21) (.t 23))])) (.cond (.t 24) (.seq (.reg [.q 4 (.mv (.i (-1)))]) .ret) .skip)) (.seq (.seq (.reg [.q 25 (.fa 1 (.t 2)),.l 26 (.ld1 (.t 25)),.q 27 (.fa 1 (.t 3)),.l 28 (.ld1 (.t 27)),.q 29 (.bin .gtr true (.t 26) (.t 28))]) (.cond (.t 29) (.seq (.reg [.q 4 (.mv (.i 1))]) .ret) .skip)) (s3))
@[go_sem ↓] theorem aK1:aS nS:=aT _
def LR:PC:=.seq (.reg [.e 2 (.bx 29 (.t 0)),.e 3 (.bx 29 (.t 1)),.q 4 (.mv (.i 0))]) (.seq (.seq (.reg [.q 10 (.fa 0 (.t 2)),.l 11 (.ld1 (.t 10)),.q 12 (.fa 0 (.t 3)),.l 13 (.ld1 (.t 12)),.q 14 (.bin .neq true (.t 11) (.t 13))]) (.cond (.t 14) (.seq (.reg [.q 15 (.fa 0 (.t 2)),.l 16 (.ld1 (.t 15)),.q 17 (.fa 0 (.t 3)),.l 18 (.ld1 (.t 17)),.a 19 (.cq 58 [(.t 16),(.t 18)]),.v 4 19]) .ret) .skip)) (nS))
def KL:List RV:=[.mv (.t 4)]
theorem aKG:aO Tryz.prog true ⟨fun r k=>if r=2/\k=4 then .q else if r=7/\k=4 then .q else if r=13/\k=10 then .own [] else if r=17/\k=6 then .q else if r=22/\k=12 then .q else if r=23/\k=12 then .own [] else if r=26/\k=6 then .q else .own [],fun r=>[3,7,10,16,18,26].contains r⟩ Tryz.f32=some (LR,KL):=by kernel_rfl
def C7:List S->Prop:=fun av=>match av with
 | [.va (.c1 (.vl (.string a))),.va (.c1 (.vl (.string b)))]=>a.size<=9223372036854775807/\b.size<=9223372036854775807
 | _=>False
theorem p5 {av:List S} (h:C7 av):∃ a b:List UInt8,av=[tS (mk a),tS (mk b)]/\a.length<=9223372036854775807/\b.length<=9223372036854775807:=by
 unfold C7 at h
 split at h
 · rename_i a b
   rw [dZ,dZ] at h
   exact ⟨bl a,bl b,by rw [hY,hY],h.1,h.2⟩
 · exact h.elim
def soFn:Fun:=⟨C7,LS,fun av h=>by obtain ⟨a,b,rfl,_⟩:=p5 h; trivial⟩
theorem QV:∀ av H K,soFn.sp av H K->av.length=2:=fun av H K h=>by obtain ⟨a,b,rfl,_⟩:=p5 h.1.1; rfl
attribute [go_sem] soFn C7
theorem O3 (x y:UInt8) (a b:List UInt8):Lib.compareBytes (x :: a) (y :: b)=if x < y then -1 else if y < x then 1 else Lib.compareBytes a b:=by rw [Lib.compareBytes]
theorem aDF (x y:UInt8):decide ((x.toNat:Int) < (y.toNat:Int))=decide (x < y):=by
 rw [Bool.eq_iff_iff,decide_eq_true_iff,decide_eq_true_iff,UInt8.lt_iff_toNat_lt]; omega
theorem ZB:Meets Tryz.prog 59 soFn.sp:=by
 refine aF Tryz.func59 aQY 2 (by rw [Tryz.ntmps59]; decide) (aG UU (aA _)) QV ?_
 rintro av H K ⟨⟨h,rfl⟩,hK⟩
 obtain ⟨a,b,rfl,ha,hb⟩:=p5 h
 have hK:K (iS .i64 (Lib.compareBytes a b)) []:=hK
 clear h
 have fin:∀ (r:Int) (R:Hp),Lib.compareBytes a b=r->W.Fin 0 K (iS .i64 r) R:=fun r R h=>by
  rw [h] at hK; exact .sel [] (by simp) (by simp) rfl (.done (by simpa [go_sem] using hK))
 clear hK
 simp (maxSteps:=1000000) -dsimp only [go_sem,aA8,aA5]
 refine aL (α:=Nat) (fun i=>[(0,tS (mk a)),(1,tS (mk b)),(5,iS .i64 i)]) (fun _=>[])
  (fun i=>i<=a.length/\i<=b.length/\Lib.compareBytes (a.drop i) (b.drop i)=Lib.compareBytes a b) (fun i=>a.length - i) 0 0 ⟨Nat.zero_le _,Nat.zero_le _,rfl⟩ ?_ ?_ ?_
 · simp -dsimp only [go_sem]<;>simp
 · simp -dsimp only [go_sem]<;>simp
 rintro i ⟨hi,hib,ho⟩
 rcases a7 i a.length with hlt | hge
 · have hg:decide ((i:Int) < (a.length:Int))=true:=by simp; omega
   obtain ⟨x,hx⟩:∃ c,a[i]? = some c:=⟨_,aU hlt⟩
   have hdx:a.drop i=x :: a.drop (i + 1):=by
    obtain ⟨h,rfl⟩:=bE.1 hx
    exact List.drop_eq_getElem_cons h
   rcases a7 i b.length with hlt2 | hge2
   · have hg2:decide ((i:Int) < (b.length:Int))=true:=by simp; omega
     obtain ⟨y,hy⟩:∃ c,b[i]? = some c:=⟨_,aU hlt2⟩
     have hdy:b.drop i=y :: b.drop (i + 1):=by
      obtain ⟨h,rfl⟩:=bE.1 hy
      exact List.drop_eq_getElem_cons h
     rw [hdx,hdy,O3] at ho
     simp (maxSteps:=1000000) -dsimp only [go_sem,hg,hg2,hx,hy,aI,forall_eq',aDF]
     refine ⟨by omega,by omega,fun h1=>fin _ _ ?_,fun h1=>⟨by omega,by omega,fun h2=>fin _ _ ?_,fun h2=>?_⟩⟩
     · rw [<-ho,if_pos (of_decide_eq_true h1)]
     · rw [<-ho,if_neg (of_decide_eq_false h1),if_pos (of_decide_eq_true h2)]
     · rw [if_neg (of_decide_eq_false h1),if_neg (of_decide_eq_false h2)] at ho
       refine ⟨by omega,aD (i + 1) 0 ⟨by omega,by omega,ho⟩ (by omega) ?_ ?_⟩
       · simp -dsimp only [go_sem]<;>simp
       · simp -dsimp only [go_sem]<;>simp
   · have hg2:decide ((i:Int) < (b.length:Int))=false:=by simp; omega
     have hdy:b.drop i=[]:=List.drop_eq_nil_iff.2 hge2
     rw [hdx,hdy,Lib.compareBytes] at ho
     simp (maxSteps:=1000000) -dsimp only [go_sem,hg,hg2]
     exact fin _ _ (by rw [<-ho]; unfold kZ; rw [decide_eq_false (by omega),decide_eq_true (by omega)]; rfl)
 · have hg:decide ((i:Int) < (a.length:Int))=false:=by simp; omega
   have hdx:a.drop i=[]:=List.drop_eq_nil_iff.2 hge
   rw [hdx] at ho
   simp (maxSteps:=1000000) -dsimp only [go_sem,hg]
   refine fin _ _ ?_
   rw [<-ho]
   unfold kZ
   rcases a7 i b.length with hlt2 | hge2
   · obtain ⟨y,hy⟩:∃ c,b[i]? = some c:=⟨_,aU hlt2⟩
     have hdy:b.drop i=y :: b.drop (i + 1):=by
      obtain ⟨h,rfl⟩:=bE.1 hy
      exact List.drop_eq_getElem_cons h
     rw [hdy,Lib.compareBytes,decide_eq_true (by omega)]; rfl
   · have hdy:b.drop i=[]:=List.drop_eq_nil_iff.2 hge2
     rw [hdy,Lib.compareBytes,decide_eq_false (by omega),decide_eq_false (by omega)]; rfl
theorem B9:∀ N,Meets Tryz.prog 32 (BD N)
 | 0=>⟨by kernel_rfl,by rintro xs vs E ro w K _ _ _ ⟨a,_,_,_,_,_,h,_⟩; have:=a.h_pos; omega⟩
 | N + 1=>by
  refine aF Tryz.func32 aKG 2 (by rw [Tryz.ntmps32]; decide) (aE (B9 N) (aG UU (aG ZB (aA _)))) (fun av H K h=>by obtain ⟨_,_,rfl,_⟩:=h; rfl) ?_
  rintro av H K ⟨a,b,rfl,rfl,ha,hb,hh,hK⟩
  have hE:=M7 a b
  have fin:∀ (r:Int) (R:Hp),(r == 0)=eL a b->W.Fin 0 K (iS .i64 r) R:=fun r R h=>.sel [] (by simp) (by simp) rfl (.done (by simpa [go_sem] using hK r h))
  clear hK
  have hs1:=mO a.k b.k
  have hs3:=EV (bl a.s) (bl b.s)
  have hs5:=mO (a.l.length:Int) (b.l.length:Int)
  have hla:=ha.ll
  have hlb:=hb.ll
  have hfa:=ha.lf
  have hfb:=hb.lf
  have hsa:(a.s.size<=9223372036854775807)=True:=eq_true ha.s
  have hsb:(b.s.size<=9223372036854775807)=True:=eq_true hb.s
  cases c1:a.k == b.k with
  | false=>
   have c1':(a.k != b.k)=true:=by rw [bne,c1]; rfl
   rw [c1] at hs1 hE
   simp (maxSteps:=1000000) -dsimp only [go_sem,aJ a,aJ b,LR,KL,c1']
   exact fin _ _ (by rw [hs1,hE]; rfl)
  | true=>
  have c1':(a.k != b.k)=false:=by rw [bne,c1]; rfl
  rw [c1,Bool.true_and] at hE
  simp (maxSteps:=1000000) -dsimp only [go_sem,aJ a,aJ b,LR,KL,c1']
  refine aB rfl (.done ?_)
  cases c2:decide (a.n < b.n) with
  | true=>
   have c2':=of_decide_eq_true c2
   rw [show (a.n == b.n)=false by simp; omega] at hE
   simp (maxSteps:=1000000) -dsimp only [go_sem,nS,c2]
   exact fin _ _ (by rw [hE]; rfl)
  | false=>
  cases c3:decide (b.n < a.n) with
  | true=>
   have c3':=of_decide_eq_true c3
   rw [show (a.n == b.n)=false by simp; omega] at hE
   simp (maxSteps:=1000000) -dsimp only [go_sem,nS,c2,c3]
   exact fin _ _ (by rw [hE]; rfl)
  | false=>
  have c2':=of_decide_eq_false c2
  have c3':=of_decide_eq_false c3
  rw [show (a.n == b.n)=true by simp; omega,Bool.true_and] at hE
  simp (maxSteps:=1000000) -dsimp only [go_sem,nS,c2,c3]
  refine aB rfl (.done ?_)
  cases c4:Lib.compareBytes (bl a.s) (bl b.s) == 0 with
  | false=>
   have c4':(Lib.compareBytes (bl a.s) (bl b.s) != 0)=true:=by rw [bne,c4]; rfl
   rw [c4] at hs3
   rw [<-hs3] at hE
   simp (maxSteps:=1000000) -dsimp only [go_sem,s3,hsa,hsb,c4']
   exact fin _ _ (by rw [hE,c4]; rfl)
  | true=>
  have c4':(Lib.compareBytes (bl a.s) (bl b.s) != 0)=false:=by rw [bne,c4]; rfl
  rw [c4] at hs3
  rw [<-hs3,Bool.true_and] at hE
  simp (maxSteps:=1000000) -dsimp only [go_sem,s3,hsa,hsb,c4']
  refine aB rfl (.done ?_)
  simp (maxSteps:=1000000) -dsimp only [go_sem,vD]
  refine aL (α:=Nat) (fun i=>[(2,.va (.c1 (.pt 0 0))),(3,.va (.c1 (.pt 1 0))),(6,iS .i64 i)]) (fun _=>[.cells (bL a) 29,.cells (bL b) 29])
   (fun i=>i<=a.l.length/\i<=b.l.length/\f5 (a.l.drop i) (b.l.drop i)=f5 a.l b.l) (fun i=>a.l.length - i) 0 2 ⟨Nat.zero_le _,Nat.zero_le _,rfl⟩ ?_ ?_ ?_
  · simp -dsimp only [go_sem]<;>simp
  · simp -dsimp only [go_sem,bL]<;>simp
  rintro i ⟨hi,hib,ho⟩
  have more:∀ (x y:Vl),a.l[i]? = some x->b.l[i]? = some y->f5 (a.l.drop i) (b.l.drop i)=(eL x y && f5 (a.l.drop (i + 1)) (b.l.drop (i + 1))):=fun x y hx hy=>by
   obtain ⟨h1,rfl⟩:=bE.1 hx
   obtain ⟨h2,rfl⟩:=bE.1 hy
   rw [List.drop_eq_getElem_cons h1,List.drop_eq_getElem_cons h2,G2]
  rcases a7 i a.l.length with hlt | hge
  · rcases a7 i b.l.length with hlt2 | hge2
    · have hg:decide ((i:Int) < (a.l.length:Int))=true:=by simp; omega
      have hg2:decide ((i:Int) < (b.l.length:Int))=true:=by simp; omega
      have hx:a.l[i]? = some a.l[i]:=aU hlt
      have hy:b.l[i]? = some b.l[i]:=aU hlt2
      have q1:=lX hx
      have q2:=lX hy
      have hxm:=List.getElem_mem hlt
      have hym:=List.getElem_mem hlt2
      rw [more _ _ hx hy] at ho
      have hxh:=Vl.h_l hxm
      have hxo:=ha.l _ hxm
      have hyo:=hb.l _ hym
      generalize a.l[i]=x at *
      generalize b.l[i]=y at *
      simp (maxSteps:=1000000) -dsimp only [go_sem,bL,hg,hg2,↓q1,↓q2]
      refine ⟨by omega,by omega,nZ hxo hyo (by omega) fun r hr=>?_⟩
      rw [<-hr] at ho
      simp (maxSteps:=1000000) -dsimp only [go_sem]
      refine ⟨fun h1=>fin r _ ?_,fun h1=>?_⟩
      · have h2:(r == 0)=false:=by simpa using h1
        rw [h2,Bool.false_and] at ho
        rw [h2,hE,<-ho]; rfl
      · have h2:(r == 0)=true:=by simpa using h1
        rw [h2,Bool.true_and] at ho
        refine ⟨by omega,aD (i + 1) 2 ⟨by omega,by omega,ho⟩ (by omega) ?_ ?_⟩
        · simp -dsimp only [go_sem]<;>simp
        · simp -dsimp only [go_sem,bL]<;>simp [bL]
    · have hg:decide ((i:Int) < (a.l.length:Int))=true:=by simp; omega
      have hg2:decide ((i:Int) < (b.l.length:Int))=false:=by simp; omega
      have hne:((a.l.length:Int) != (b.l.length:Int))=true:=by simp; omega
      rw [List.drop_eq_nil_iff.2 hge2,List.drop_eq_getElem_cons hlt,f5] at ho
      simp (maxSteps:=1000000) -dsimp only [go_sem,bL,hg,hg2]
      refine aB rfl (.done ?_)
      simp (maxSteps:=1000000) -dsimp only [go_sem,mT,hne]
      refine fin _ _ ?_
      rw [hs5,hE,<-ho]
      simp; omega
  · have hg:decide ((i:Int) < (a.l.length:Int))=false:=by simp; omega
    obtain rfl:i=a.l.length:=by omega
    rw [List.drop_length] at ho
    simp (maxSteps:=1000000) -dsimp only [go_sem,bL,hg]
    refine aB rfl (.done ?_)
    rcases a7 a.l.length b.l.length with hlt2 | hge2
    · have hne:((a.l.length:Int) != (b.l.length:Int))=true:=by simp; omega
      rw [List.drop_eq_getElem_cons hlt2,f5] at ho
      simp (maxSteps:=1000000) -dsimp only [go_sem,mT,hne]
      refine fin _ _ ?_
      rw [hs5,hE,<-ho]
      simp; omega
    · have hle:a.l.length=b.l.length:=by omega
      have hne:((a.l.length:Int) != (b.l.length:Int))=false:=by simp; omega
      rw [List.drop_eq_nil_iff.2 hge2,f5] at ho
      rw [<-ho,Bool.true_and] at hE
      simp (maxSteps:=1000000) -dsimp only [go_sem,mT,hne]
      refine aB rfl (.done ?_)
      simp (maxSteps:=1000000) -dsimp only [go_sem,uW]
      clear ho more hi hib hge hg hs5 hne hle hge2
      have hs6:=mO (a.f.length:Int) (b.f.length:Int)
      refine aL (α:=Nat) (fun i=>[(2,.va (.c1 (.pt 0 0))),(3,.va (.c1 (.pt 1 0))),(8,iS .i64 i)]) (fun _=>[.cells (bL a) 29,.cells (bL b) 29])
       (fun i=>i<=a.f.length/\i<=b.f.length/\fT (a.f.drop i) (b.f.drop i)=fT a.f b.f) (fun i=>a.f.length - i) 0 2 ⟨Nat.zero_le _,Nat.zero_le _,rfl⟩ ?_ ?_ ?_
      · simp -dsimp only [go_sem]<;>simp
      · simp -dsimp only [go_sem,bL]<;>simp [bL]
      rintro i ⟨hi,hib,ho⟩
      rcases a7 i a.f.length with hlt | hge
      · rcases a7 i b.f.length with hlt2 | hge2
        · have hg:decide ((i:Int) < (a.f.length:Int))=true:=by simp; omega
          have hg2:decide ((i:Int) < (b.f.length:Int))=true:=by simp; omega
          have hx:a.f[i]? = some a.f[i]:=aU hlt
          have hy:b.f[i]? = some b.f[i]:=aU hlt2
          have q1:=gT hx
          have q2:=gT hy
          have hxm:=List.getElem_mem hlt
          have hym:=List.getElem_mem hlt2
          rw [List.drop_eq_getElem_cons hlt,List.drop_eq_getElem_cons hlt2,HC] at ho
          have hxh:=Vl.h_f hxm
          have hxo:=ha.f _ hxm
          have hyo:=hb.f _ hym
          generalize a.f[i]=x at *
          generalize b.f[i]=y at *
          have hs7:=mO x.1 y.1
          cases c7:x.1 == y.1 with
          | false=>
           have c7':(x.1 != y.1)=true:=by rw [bne,c7]; rfl
           rw [c7,Bool.false_and] at ho
           rw [c7] at hs7
           simp (maxSteps:=1000000) -dsimp only [go_sem,bL,hg,hg2,↓q1,↓q2,c7']
           refine ⟨by omega,by omega,by omega,by omega,fin _ _ (by rw [hs7,hE,<-ho])⟩
          | true=>
           have c7':(x.1 != y.1)=false:=by rw [bne,c7]; rfl
           rw [c7,Bool.true_and] at ho
           simp (maxSteps:=1000000) -dsimp only [go_sem,bL,hg,hg2,↓q1,↓q2,c7',List.take_succ_cons,List.take_zero,List.length_cons,List.length_nil]
           refine ⟨by omega,by omega,by omega,by omega,nZ hxo hyo (by omega) fun r hr=>?_⟩
           rw [<-hr] at ho
           simp (maxSteps:=1000000) -dsimp only [go_sem]
           refine ⟨fun h1=>fin r _ ?_,fun h1=>?_⟩
           · have h2:(r == 0)=false:=by simpa using h1
             rw [h2,Bool.false_and] at ho
             rw [h2,hE,<-ho]
           · have h2:(r == 0)=true:=by simpa using h1
             rw [h2,Bool.true_and] at ho
             refine ⟨by omega,aD (i + 1) 2 ⟨by omega,by omega,ho⟩ (by omega) ?_ ?_⟩
             · simp -dsimp only [go_sem]<;>simp
             · simp -dsimp only [go_sem,bL]<;>simp [bL]
        · have hg:decide ((i:Int) < (a.f.length:Int))=true:=by simp; omega
          have hg2:decide ((i:Int) < (b.f.length:Int))=false:=by simp; omega
          have he:∀ x:Int × Vl,fT (x :: a.f.drop (i + 1)) []=false:=fun x=>by obtain ⟨j,x⟩:=x; rw [fT]
          rw [List.drop_eq_nil_iff.2 hge2,List.drop_eq_getElem_cons hlt,he] at ho
          simp (maxSteps:=1000000) -dsimp only [go_sem,bL,hg,hg2]
          refine aB rfl (.done ?_)
          simp (maxSteps:=1000000) -dsimp only [go_sem,oZ]
          refine fin _ _ ?_
          rw [hs6,hE,<-ho]
          simp; omega
      · have hg:decide ((i:Int) < (a.f.length:Int))=false:=by simp; omega
        obtain rfl:i=a.f.length:=by omega
        rw [List.drop_length] at ho
        simp (maxSteps:=1000000) -dsimp only [go_sem,bL,hg]
        refine aB rfl (.done ?_)
        simp (maxSteps:=1000000) -dsimp only [go_sem,oZ]
        refine fin _ _ ?_
        rw [hs6,hE,<-ho]
        rcases a7 a.f.length b.f.length with hlt2 | hge2
        · have he:∀ x:Int × Vl,fT [] (x :: b.f.drop (a.f.length + 1))=false:=fun x=>by obtain ⟨j,x⟩:=x; rw [fT]
          rw [List.drop_eq_getElem_cons hlt2,he]
          simp; omega
        · rw [List.drop_eq_nil_iff.2 hge2,fT]
          simp; omega
theorem PP (N:Nat):Meets Tryz.prog 14 (fun av H K=>∃ a b:Vl,av=[.va (.gs (aP a)),.va (.gs (aP b))]/\H=[]/\VlOk a/\VlOk b/\a.h<=N/\K (bS (eL a b)) []):=by
 refine aF Tryz.func14 aIV 2 (by rw [Tryz.ntmps14]; decide) (aE (B9 N) (aA _)) (fun av H K h=>by obtain ⟨_,_,rfl,_⟩:=h; rfl) ?_
 rintro av H K ⟨a,b,rfl,rfl,ha,hb,hh,hK⟩
 simp (maxSteps:=1000000) -dsimp only [go_sem,aJ a,aJ b,WV,TP]
 refine nZ ha hb hh fun r hr=>?_
 simp (maxSteps:=1000000) -dsimp only [go_sem]
 exact .sel [] (by simp) (by simp) rfl (.done (by rw [hr]; simpa [go_sem] using hK))
theorem JJ:Meets Tryz.prog 14 eqFn2.sp:=dI (0:Nat) PP fun av H K h=>by
 obtain ⟨⟨h,e⟩,hK⟩:=h
 obtain ⟨a,b,rfl,ha,hb⟩:=o9 h
 have hK:K (bS (eL (C.vv (aP a)) (C.vv (aP b)))) []:=hK
 rw [fI,fI] at hK
 exact ⟨a.h,a,b,rfl,e,ha,hb,Nat.le_refl _,hK⟩
def E9:PC:=.seq (.gh (.reg [.v 25 7,.v 26 9,.q 27 (.bin .eql true (.t 25) (.t 26)),.v 28 27,⟨some 29,(some (28,true)),.q (.mv (.t 8))⟩,⟨some 30,(some (28,true)),.q (.mv (.t 10))⟩,⟨some 31,(some (28,true)),.q (.bin .eql true (.t 29) (.t 30))⟩,.a 32 (.pick (.t 28) (.t 31) (.k (.bool false))),.v 33 32,⟨some 34,(some (33,true)),.cq 11 []⟩,.a 35 (.pick (.t 33) (.t 34) (.k (.bool false))),.v 6 35])) .ret
@[go_sem ↓] theorem aPN:aS E9:=aT _
def D2:PC:=.seq (.gh (.reg [.l 19 (.ldn 3 (.t 3)),.v 20 1,.l 21 (.ldn 5 (.t 5)),.a 22 (.cl 10 [(.t 19),(.t 20),(.t 21)] []),.v 18 22,.q 23 (.ex (.t 18) 0),.q 24 (.ex (.t 18) 1),.v 9 23,.v 10 24])) (E9)
@[go_sem ↓] theorem aN2:aS D2:=aT _
def aCP:PC:=.seq (.reg [.e 3 (.bx 25 (.t 0)),.e 5 (.bx 29 (.t 2)),.q 6 (.mv (.k (.bool false)))]) (.seq (.reg [.l 12 (.ldn 3 (.t 3)),.v 13 1,.l 14 (.ldn 5 (.t 5)),.a 15 (.cl 9 [(.t 12),(.t 13),(.t 14)] []),.v 11 15,.q 16 (.ex (.t 11) 0),.q 17 (.ex (.t 11) 1),.v 7 16,.v 8 17]) (D2))
def aC5:List RV:=[.mv (.t 6)]
theorem aPR:aO Tryz.prog true ⟨fun r k=>if r=3/\k=9 then .q else .own [],fun r=>[2,3].contains r⟩ Tryz.f3=some (aCP,aC5):=by kernel_rfl
def oR:PC:=.seq (.gh (.reg [.v 14 8,.q 15 (.bin .neq true (.t 14) (.i 0))])) (.cond (.t 15) (.seq (.reg [.v 16 8,.q 6 (.mv (.k (.string (mk [])))),.v 7 16]) .ret) .skip)
@[go_sem ↓] theorem aMO:aS oR:=aT _
def sD:PC:=.seq (.gh (.reg [.v 22 9,.q 23 (.bin .neq true (.t 22) (.i 0))])) (.cond (.t 23) (.seq (.reg [.v 24 9,.q 6 (.mv (.k (.string (mk [])))),.v 7 24]) .ret) .skip)
@[go_sem ↓] theorem aMC:aS sD:=aT _
def sY:PC:=.seq (.seq (.gh (.reg [.v 29 10,.q 30 (.lnS (.t 29)),.q 31 (.bin .gtr true (.t 30) (.i 2000))])) (.cond (.t 31) (.seq (.reg [.q 6 (.mv (.k (.string (mk [])))),.q 7 (.mv (.i 3))]) .ret) .skip)) (.seq (.reg [.v 32 10,.v 6 32,.q 7 (.mv (.i 0))]) .ret)
@[go_sem ↓] theorem aLU:aS sY:=aT _
def BC:PC:=.seq (.gh (.reg [.l 25 (.ldn 3 (.t 3)),.v 26 1,.l 27 (.ldn 5 (.t 5)),.a 28 (.cq 28 [(.t 25),(.t 26),(.t 27)]),.v 10 28])) (sY)
@[go_sem ↓] theorem aMI:aS BC:=aT _
def zP:PC:=.seq (.seq (.gh (.reg [.l 17 (.ldn 3 (.t 3)),.v 18 1,.q 19 (.bd [(.int .i64 0),(.int .i64 0),(.string (mk [])),(.slice none 0 0)] [(0,1,(.i 6)),(2,1,(.t 18))]),.l 20 (.ldn 5 (.t 5)),.a 21 (.cq 15 [(.t 17),(.t 19),(.t 20)]),.v 9 21])) (sD)) (BC)
@[go_sem ↓] theorem aLV:aS zP:=aT _
def WM:PC:=.seq (.reg [.e 3 (.bx 25 (.t 0)),.e 5 (.bx 29 (.t 2)),.q 6 (.mv (.k (.string (mk [])))),.q 7 (.mv (.i 0))]) (.seq (.seq (.reg [.l 11 (.ldn 3 (.t 3)),.v 12 1,.a 13 (.cq 27 [(.t 11),(.t 12)]),.v 8 13]) (oR)) (zP))
def T9:List RV:=[.mv (.t 6),.mv (.t 7)]
theorem aHG:aO Tryz.prog true ⟨fun r k=>if r=1/\k=2 then .q else if r=4/\k=4 then .q else if r=7/\k=3 then .q else .own [],fun r=>[2,4,5,7,8].contains r⟩ Tryz.f10=some (WM,T9):=by kernel_rfl
def sT:PC:=.seq (.gh (.reg [.v 10 5,.q 11 (.bin .neq true (.t 10) (.i 0))])) (.cond (.t 11) (.seq (.reg [.v 12 5,.v 4 12]) .ret) .skip)
@[go_sem ↓] theorem aLX:aS sT:=aT _
def sB:PC:=.seq (.gh (.reg [.v 19 7,.q 20 (.not (.t 19))])) (.cond (.t 20) (.seq (.reg [.q 4 (.mv (.i 6))]) .ret) .skip)
@[go_sem ↓] theorem aMJ:aS sB:=aT _
def A0:PC:=.seq (.seq (.gh (.reg [.l 14 (.ldn 3 (.t 2)),.v 15 1,.a 16 (.cl 17 [(.t 14),(.t 15)] []),.v 13 16,.q 17 (.ex (.t 13) 0),.q 18 (.ex (.t 13) 1),.e 6 (.al (.agg #[(.string (mk [])),(.slice none 0 0)]) 48),.s (.st 2 (.t 6) (.t 17)),.v 7 18])) (sB)) (.seq (.reg [.q 4 (.mv (.i 0))]) .ret)
@[go_sem ↓] theorem aM0:aS A0:=aT _
def UJ:PC:=.seq (.reg [.e 2 (.bx 25 (.t 0)),.q 4 (.mv (.i 0))]) (.seq (.seq (.reg [.l 8 (.ldn 3 (.t 2)),.a 9 (.cq 49 [(.t 8)]),.v 5 9]) (sT)) (A0))
def WY:List RV:=[.mv (.t 4)]
theorem aKQ:aO Tryz.prog true ⟨fun r k=>if r=1/\k=1 then .q else .own [],fun r=>[2,4,5].contains r⟩ Tryz.f27=some (UJ,WY):=by kernel_rfl
def tH:PC:=.gh (.reg [.v 54 9,.q 55 (.fa 0 (.t 11)),.l 56 (.ld1 (.t 55)),.q 57 (.cvt .u64 (.t 56)),.a 58 (.cq 36 [(.t 57)]),.q 59 (.bin .add true (.t 54) (.t 58)),.l 60 (.ldn 3 (.t 3)),.q 61 (.fa 2 (.t 11)),.l 62 (.ldn 4 (.t 61)),.l 63 (.ldn 5 (.t 12)),.a 64 (.cq 52 [(.t 60),(.t 62),(.t 63)]),.a 65 (.cq 37 [(.t 64)]),.q 66 (.bin .add true (.t 59) (.t 65)),.v 9 66])
@[go_sem ↓] theorem aMM:aS tH:=aT _
def oC:PC:=.seq (.seq (.gh (.ord  [.q (.v 39 13),.q (.q 40 (.not (.t 39))),.q (.v 41 40),.q ⟨some 42,(some (41,false)),.q (.fa 6 (.t 11))⟩,.q ⟨some 43,(some (41,false)),.l (.ld1 (.t 42))⟩,.q ⟨some 44,(some (41,false)),.q (.not (.t 43))⟩,.q ⟨some 45,(some (41,false)),.q (.mv (.t 44))⟩,.q ⟨some 46,(some (45,true)),.l (.ldn 5 (.t 12))⟩,.q ⟨some 47,(some (45,true)),.l (.ldn 3 (.t 3))⟩,.q ⟨some 48,(some (45,true)),.q (.fa 2 (.t 11))⟩,.q ⟨some 49,(some (45,true)),.l (.ldn 4 (.t 48))⟩,.m ⟨some 50,(some (45,true)),.cl 51 [(.t 47),(.t 49)] []⟩,.rc ⟨some 46,(some (45,true)),.l (.ldn 5 (.t 12))⟩,.m ⟨some 51,(some (45,true)),.cq 14 [(.t 46),(.t 50)]⟩,.q ⟨some 52,(some (41,false)),.pick (.t 45) (.t 51) (.k (.bool false))⟩,.q (.a 53 (.pick (.t 41) (.k (.bool true)) (.t 52)))])) (.cond (.t 53) (.exit 1) .skip)) (tH)
@[go_sem ↓] theorem aMP:aS oC:=aT _
def A3:PC:=.seq (.gh (.reg [.l 33 (.ldn 5 (.t 5)),.q 34 (.fa 0 (.t 11)),.l 35 (.ld1 (.t 34)),.a 36 (.cl 50 [(.t 33),(.t 35)] []),.v 32 36,.q 37 (.ex (.t 32) 0),.q 38 (.ex (.t 32) 1),.e 12 (.al (.agg #[(.int .i64 0),(.int .i64 0),(.string (mk [])),(.slice none 0 0),(.slice none 0 0)]) 29),.s (.st 5 (.t 12) (.t 37)),.v 13 38])) (oC)
@[go_sem ↓] theorem aLS:aS A3:=aT _
def TH:PC:=.seq (.reg [.e 3 (.bx 25 (.t 0)),.e 5 (.bx 29 (.t 2)),.q 6 (.mv (.k (.string (mk []))))]) (.seq (.reg [.l 15 (.ldn 3 (.t 3)),.v 16 1,.a 17 (.cl 17 [(.t 15),(.t 16)] []),.v 14 17,.q 18 (.ex (.t 14) 0),.q 19 (.ex (.t 14) 1),.e 7 (.al (.agg #[(.string (mk [])),(.slice none 0 0)]) 48),.s (.st 2 (.t 7) (.t 18)),.v 8 19]) (.seq (.reg [.q 9 (.mv (.k (.string (mk []))))]) (.seq (.seq (.reg [.q 10 (.mv (.i 0))]) (.block 0 (.loop (.seq (.seq (.reg [.v 20 10,.q 21 (.fa 1 (.t 7)),.l 22 (.ld1 (.t 21)),.q 23 (.lnL (.t 22)),.q 24 (.bin .lss true (.t 20) (.t 23))]) (.cond (.t 24) .skip (.exit 0))) (.seq (.block 1 (.seq (.reg [.q 27 (.fa 1 (.t 7)),.l 28 (.ld1 (.t 27)),.v 29 10,.l 30 (.ia 7 (.t 28) (.t 29)),.l 31 (.ldn 7 (.t 30)),.e 11 (.al (.agg #[(.int .i64 0),(.string (mk [])),(.int .i64 0),(.int .i64 0),(.string (mk [])),(.slice none 0 0),(.bool false)]) 52),.s (.st 7 (.t 11) (.t 31))]) (A3))) (.reg [.v 25 10,.q 26 (.bin .add true (.t 25) (.i 1)),.v 10 26])))))) (.seq (.reg [.v 67 9,.v 6 67]) .ret))))
def WW:List RV:=[.mv (.t 6)]
theorem aJJ:aO Tryz.prog true ⟨fun r k=>if r=8/\k=12 then .q else if r=9/\k=4 then .q else if r=9/\k=10 then .q else if r=9/\k=11 then .q else .own [],fun r=>[7,8,9].contains r⟩ Tryz.f28=some (TH,WW):=by kernel_rfl
def vW:PC:=.gh (.reg [.v 48 7,.l 49 (.ldn 3 (.t 3)),.q 50 (.fa 3 (.t 4)),.l 51 (.ld1 (.t 50)),.l 52 (.ia 4 (.t 51) (.i 0)),.l 53 (.ldn 4 (.t 52)),.q 54 (.fa 3 (.t 5)),.l 55 (.ld1 (.t 54)),.v 56 8,.l 57 (.ia 5 (.t 55) (.t 56)),.l 58 (.ldn 5 (.t 57)),.a 59 (.cq 52 [(.t 49),(.t 53),(.t 58)]),.a 60 (.cq 37 [(.t 59)]),.q 61 (.bin .add true (.t 48) (.t 60)),.v 7 61])
@[go_sem ↓] theorem aJK:aS vW:=aT _
def u3:PC:=.seq (.gh (.reg [.v 62 7,.v 6 62])) .ret
@[go_sem ↓] theorem aIW:aS u3:=aT _
def u5:PC:=.seq (.gh (.reg [.q 36 (.fa 3 (.t 5)),.l 37 (.ld1 (.t 36)),.q 38 (.lnL (.t 37)),.q 39 (.cvt .u64 (.t 38)),.a 40 (.cq 36 [(.t 39)]),.v 7 40])) (.seq (.seq (.reg [.q 8 (.mv (.i 0))]) (.block 1 (.loop (.seq (.seq (.reg [.v 41 8,.q 42 (.fa 3 (.t 5)),.l 43 (.ld1 (.t 42)),.q 44 (.lnL (.t 43)),.q 45 (.bin .lss true (.t 41) (.t 44))]) (.cond (.t 45) .skip (.exit 1))) (.seq (.block 2 (vW)) (.reg [.v 46 8,.q 47 (.bin .add true (.t 46) (.i 1)),.v 8 47])))))) (u3))
@[go_sem ↓] theorem aHW:aS u5:=aT _
def gJ:PC:=.seq (.gh (.reg [.q 12 (.bin .eql true (.t 10) (.i 1)),.v 11 12])) (.cond (.t 11) (.seq (.reg [.q 13 (.fa 1 (.t 5)),.l 14 (.ld1 (.t 13)),.q 15 (.cvt .u8 (.t 14)),.e 16 (.bsl 5 1 [(.t 15)]),.q 17 (.b2s (.t 16)),.v 6 17]) .ret) (.seq (.reg [.q 19 (.bin .eql true (.t 10) (.i 2)),.v 18 19]) (.cond (.t 18) (.seq (.reg [.q 20 (.fa 1 (.t 5)),.l 21 (.ld1 (.t 20)),.a 22 (.cq 93 [(.t 21)]),.v 6 22]) .ret) (.seq (.seq (.reg [.q 24 (.bin .eql true (.t 10) (.i 3)),.v 23 24]) (.cond (.t 23) .skip (.reg [.q 25 (.bin .eql true (.t 10) (.i 7)),.v 23 25]))) (.cond (.t 23) (.seq (.reg [.q 26 (.fa 1 (.t 5)),.l 27 (.ld1 (.t 26)),.q 28 (.cvt .u64 (.t 27)),.a 29 (.cq 36 [(.t 28)]),.v 6 29]) .ret) (.seq (.reg [.q 31 (.bin .eql true (.t 10) (.i 4)),.v 30 31]) (.cond (.t 30) (.seq (.reg [.q 32 (.fa 2 (.t 5)),.l 33 (.ld1 (.t 32)),.v 6 33]) .ret) (.seq (.reg [.q 35 (.bin .eql true (.t 10) (.i 5)),.v 34 35]) (.cond (.t 34) (u5) .skip)))))))))
@[go_sem ↓] theorem aM8:aS gJ:=aT _
def u7:PC:=.seq (.gh (.reg [.l 63 (.ldn 3 (.t 3)),.q 64 (.fa 2 (.t 4)),.l 65 (.ld1 (.t 64)),.l 66 (.ldn 5 (.t 5)),.a 67 (.cq 28 [(.t 63),(.t 65),(.t 66)]),.v 6 67])) .ret
@[go_sem ↓] theorem aIU:aS u7:=aT _
def UF:PC:=.seq (.reg [.e 3 (.bx 25 (.t 0)),.e 4 (.bx 42 (.t 1)),.e 5 (.bx 29 (.t 2)),.q 6 (.mv (.k (.string (mk []))))]) (.seq (.seq (.reg [.q 9 (.fa 0 (.t 4)),.l 10 (.ld1 (.t 9))]) (.block 0 (gJ))) (u7))
def WQ:List RV:=[.mv (.t 6)]
theorem aI5:aO Tryz.prog true ⟨fun r k=>if r=5/\k=2 then .q else if r=8/\k=3 then .q else if r=12/\k=4 then .q else if r=16/\k=11 then .q else if r=16/\k=12 then .q else if r=18/\k=4 then .q else .own [],fun r=>[2,12,17,18,16].contains r⟩ Tryz.f52=some (UF,WQ):=by kernel_rfl
theorem J6:Meets Tryz.prog 37 (L8 fun l=>.string (mk (rL l))).sp:=by
 refine aF Tryz.func37 aP1 1 (by rw [Tryz.ntmps37]; decide) (aG w3 (aA _)) EF ?_
 rintro av H K ⟨⟨h,rfl⟩,hK⟩
 obtain ⟨s,rfl,hs⟩:=lT h
 have hK:K (tS (mk (jP (bl s).length ++ bl s))) []:=hK
 have hl:=gL (bl s).length
 simp (maxSteps:=1000000) -dsimp only [go_sem,aAH,aGC,gX,g4,dT]
 exact ⟨by omega,.done hK⟩
def C6 (P:Sc->ByteArray->Vl->Prop):List S->Prop:=fun av=>match av with
 | [.va (.gs r),.va (.c1 (.vl (.string nm))),.va (.gs p)]=>gC r/\lE p/\P (C.sc r) nm (C.vv p)
 | _=>False
theorem pH {P:Sc->ByteArray->Vl->Prop} {av:List S} (h:C6 P av):∃ s nm v,av=[.va (.gs (aC s)),tS nm,.va (.gs (aP v))]/\s.fit/\VlOk v/\P s nm v:=by
 unfold C6 at h
 split at h
 · obtain ⟨⟨s,rfl,hs⟩,⟨v,rfl,hv⟩,h⟩:=h
   rw [dB,fI] at h
   exact ⟨s,_,v,rfl,hs,hv,h⟩
 · exact h.elim
noncomputable def VW (f:Sc->ByteArray->Vl->Value):List S->A:=fun av=>match av with
 | [.va (.gs r),.va (.c1 (.vl (.string nm))),.va (.gs p)]=>.c1 (.vl (f (C.sc r) nm (C.vv p)))
 | _=>.gs []
noncomputable def E6 (P:Sc->ByteArray->Vl->Prop) (f:Sc->ByteArray->Vl->Value):Fun:=⟨C6 P,VW f,fun av h=>by obtain ⟨_,_,_,rfl,_⟩:=pH h; trivial⟩
theorem RT {P:Sc->ByteArray->Vl->Prop} {f:Sc->ByteArray->Vl->Value}:∀ av H K,(E6 P f).sp av H K->av.length=3:=fun av H K h=>by obtain ⟨_,_,_,rfl,_⟩:=pH h.1.1; rfl
attribute [go_sem] E6 C6 VW
theorem YB {P:Sc->ByteArray->Vl->Prop} {f:Sc->ByteArray->Vl->Value} {av:List S} {H:Hp} {K:S->Hp->Prop} (h:(E6 P f).sp av H K) :
 ∃ s nm v,av=[.va (.gs (aC s)),tS nm,.va (.gs (aP v))]/\H=[]/\s.fit/\VlOk v/\P s nm v/\K (.va (.c1 (.vl (f s nm v)))) []:=by
 obtain ⟨⟨h,rfl⟩,hK⟩:=h
 obtain ⟨s,nm,v,rfl,hs,hv,hp⟩:=pH h
 have:(E6 P f).val [.va (.gs (aC s)),tS nm,.va (.gs (aP v))]=.c1 (.vl (f s nm v)):=by simp -dsimp only [go_sem]
 rw [this] at hK
 exact ⟨s,nm,v,rfl,rfl,hs,hv,hp,hK⟩
noncomputable def RY (N:Nat):Fun:=E6 (fun s nm v=>EsP N s (stOf s (dR nm)) v) fun s nm v=>.string (mk (fW (cG s N) s (stOf s (dR nm)).fs v.f))
theorem HD {N:Nat} (hE:Meets Tryz.prog 52 (mV N).sp):Meets Tryz.prog 28 (RY N).sp:=by
 refine aF Tryz.func28 aJJ 3 (by rw [Tryz.ntmps28]; decide) (aE oU (aE J9 (aE aAX (aG JJ (aG w3 (aG hE (aG J6 (aA _)))))))) RT ?_
 intro av H K h
 obtain ⟨s,nm,v,rfl,rfl,hs,hv,⟨hd,hN,hh,t,hto,h6,htu,h0⟩,hK⟩:=YB h
 clear h
 have hlen:=JT hd hN h6 h0 hh
 have hc:=l6 h0
 obtain ⟨_,_,_,_,hck⟩:=hc.st h6
 have hkk:v.k=6:=by rw [hc.kk]; exact eq_of_beq h6
 have hnst:=hd.ni.stOf t
 have hul:=hnst.l
 have hfd:=w4 hd hc.va h6
 have hfl:∀ g ∈ (stOf s t).fs,iK (stOf s t) g.num=g:=fun g hg=>AL hd hg
 have huo:=gK hs t
 have hum:=ES hs t
 rw [htu] at hlen hck hnst hfl hul hfd huo hum
 have k6:=cV hs
 have k7:=fY s
 simp (maxSteps:=1000000) -dsimp only [go_sem,aC,aJ v,TH,WW]
 refine eO hs ?_
 rw [show (fS s.ss nm).getD default=stOf s (dR nm) from rfl]
 generalize stOf s (dR nm)=u at *
 simp (maxSteps:=1000000) -dsimp only [go_sem,aH]
 refine aL (α:=Nat) (fun i=>[(3,.va (.c1 (.pt 0 0))),(5,.va (.c1 (.pt 1 0))),(7,.va (.c1 (.pt 2 0))),(9,tS (mk (fW (cG s N) s (u.fs.take i) v.f))),(10,iS .i64 i)])
  (fun _=>[.cells [.vl (.int .i64 s.ver),.fz (s.es.map aX),.fz (s.ss.map aH)] 25,.cells [.vl (.int .i64 v.k),.vl (.int .i64 v.n),.vl (.string v.s),.fz (v.l.map aP),.fz (v.f.map a8)] 29,.cells [.vl (.string u.nm),.fz (u.fs.map aN)] 48])
  (fun i=>i<=u.fs.length) (fun i=>u.fs.length - i) 0 3 (Nat.zero_le _) ?_ ?_ ?_
 · simp -dsimp only [go_sem]<;>simp [fW]
 · simp -dsimp only [go_sem]<;>simp
 intro i hi
 rcases a7 i u.fs.length with hlt | hge
 · have hg:decide ((i:Int) < (u.fs.length:Int))=true:=by simp; omega
   have hx:u.fs[i]? = some u.fs[i]:=aU hlt
   have q2:=aR (row:=aN) hx
   have hgm:=List.getElem_mem hlt
   have hgo:=(huo.fs _ hgm).ty
   have hgs:=hum _ hgm
   have hgd:=hfd.2.2 _ hgm
   have hnx:=FP (R:=cG s N) (s:=s) (F:=v.f) hx
   have hl1:=HH (cG s N) s u.fs v.f (i + 1)
   have hgf:=hfl _ hgm
   generalize u.fs[i]=g at *
   have hz:zF s 12 g.ty=zF s 23 g.ty:=BM hd 12 12 23 g.ty (by omega) (by decide) (by decide)
   rw [hnx] at hl1
   rw [NF] at hnx hl1
   unfold omG at hnx hl1
   simp (maxSteps:=1000000) -dsimp only [go_sem,hg,↓q2,aN]
   refine ⟨⟨by omega,by omega⟩,?_⟩
   refine aB rfl (.done ?_)
   simp (maxSteps:=1000000) -dsimp only [go_sem,A3]
   refine E4 hv hkk ?_
   cases hvf:dQ v.f g.num with
   | none=>
    rw [hvf] at hnx
    have hnx:fW (cG s N) s (u.fs.take (i + 1)) v.f=fW (cG s N) s (u.fs.take i) v.f:=by rw [hnx]; exact List.append_nil _
    simp (maxSteps:=1000000) -dsimp only [go_sem,Option.map_none,Option.getD_none,Option.isSome_none,s5]
    refine aB rfl (.done ?_)
    simp (maxSteps:=1000000) -dsimp only [go_sem,oC,Bool.false_and,Bool.not_false,Bool.not_true,Bool.true_or]
    refine ⟨⟨by omega,by omega⟩,aD (i + 1) 3 (by omega) (by omega) ?_ ?_⟩
    · simp -dsimp only [go_sem,hnx]<;>simp
    · simp -dsimp only [go_sem]<;>simp
   | some x=>
    obtain ⟨hxm,hxe⟩:=s4 hvf
    have hxo:=hv.f x hxm
    have hxc:=hck x hxm
    rw [hxe,hgf] at hxc
    have hxh:=hh x hxm
    rw [hvf] at hnx hl1
    simp only [Option.isSome_some,Bool.not_true,Bool.false_or,Option.map_some,Option.getD_some] at hnx hl1 ⊢
    have k1:=b9 hxo
    have k2:=dS x.2
    have k4:=dO hgo
    have k5:=gO g.ty
    have k8:HE N s g.ty x.2=True:=eq_true ⟨hd,hN,hxh,hxc⟩
    have hvl:=gL g.num
    have k9:=jA hd N g.ty x.2 hxh hxc
    have k10:=nV hN
    have k11:=j9 (cG s N g.ty x.2)
    have k12:((cG s N g.ty x.2).length<=9223372036854775797)=True:=eq_true (by omega)
    simp (maxSteps:=1000000) -dsimp only [go_sem,aJ x.2]
    refine aB rfl (.done ?_)
    cases ho:g.opt with
    | true=>
     simp (maxSteps:=1000000) -dsimp only [go_sem,oC,Bool.true_and,Bool.false_and,Bool.not_false,Bool.not_true,Bool.or_false,Bool.false_or]
     rw [ho] at hnx hl1
     simp only [Bool.not_true,Bool.false_and,cond_false,List.length_append] at hnx hl1
     refine aB rfl (.done ?_)
     simp (maxSteps:=1000000) -dsimp only [go_sem,tH,mV,gX,g4,dT,k1,k2,k4,k5,k6,k7,k8,k12,List.take_succ_cons,List.take_zero,List.length_cons,List.length_nil]
     refine ⟨by omega,by omega,by omega,aD (i + 1) 3 (by omega) (by omega) ?_ ?_⟩
     · simp -dsimp only [go_sem,hnx,k2,k5,k7,dT]<;>simp
     · simp -dsimp only [go_sem]<;>simp
    | false=>
     rw [ho] at hnx hl1
     simp only [Bool.not_false,Bool.true_and] at hnx hl1
     simp (maxSteps:=1000000) -dsimp only [go_sem,oC,Bool.true_and,Bool.false_and,Bool.not_false,Bool.not_true,Bool.or_false,Bool.false_or]
     refine Y3 hs hgo hgs ?_
     rw [hz]
     have hzo:=wV hs 23 g.ty hgo
     generalize zF s 23 g.ty=z at *
     have kz1:=b9 hzo
     have kz2:=dS z
     cases he:eL x.2 z with
     | true=>
      rw [he,cond_true,List.append_nil] at hnx
      simp (maxSteps:=1000000) -dsimp only [go_sem,aJ z,k1,k2,kz1,kz2,he,List.take_succ_cons,List.take_zero,List.length_cons,List.length_nil]
      refine ⟨⟨by omega,by omega⟩,aD (i + 1) 3 (by omega) (by omega) ?_ ?_⟩
      · simp -dsimp only [go_sem,hnx]<;>simp
      · simp -dsimp only [go_sem]<;>simp
     | false=>
      rw [he] at hnx hl1
      simp only [cond_false,List.length_append] at hnx hl1
      simp (maxSteps:=1000000) -dsimp only [go_sem,aJ z,k1,k2,kz1,kz2,he,List.take_succ_cons,List.take_zero,List.length_cons,List.length_nil]
      refine aB rfl (.done ?_)
      simp (maxSteps:=1000000) -dsimp only [go_sem,tH,mV,gX,g4,dT,k1,k2,k4,k5,k6,k7,k8,k12,List.take_succ_cons,List.take_zero,List.length_cons,List.length_nil]
      refine ⟨by omega,by omega,by omega,aD (i + 1) 3 (by omega) (by omega) ?_ ?_⟩
      · simp -dsimp only [go_sem,hnx,k2,k5,k7,dT]<;>simp
      · simp -dsimp only [go_sem]<;>simp
 · have hg:decide ((i:Int) < (u.fs.length:Int))=false:=by simp; omega
   rw [List.take_of_length_le hge] at *
   simp (maxSteps:=1000000) -dsimp only [go_sem,hg]
   refine .sel [] (by simp) (by simp) rfl (.done ?_)
   simp -dsimp only [go_sem]
   exact hK
theorem rO:∀ N,Meets Tryz.prog 52 (mV N).sp
 | 0=>⟨by kernel_rfl,by rintro xs vs E ro w K _ _ _ h; obtain ⟨_,_,v,_,_,_,_,_,h,_⟩:=cW h; have:=v.h_pos; have h2:=h.2.2.1; omega⟩
 | N + 1=>by
  refine aF Tryz.func52 aI5 3 (by rw [Tryz.ntmps52]; decide) (aG aJ3 (aG w3 (aG (rO N) (aG J6 (aG (HD (rO N)) (aA _)))))) eE ?_
  intro av H K h
  obtain ⟨s,t,v,rfl,rfl,hs,ht,hv,⟨hd,hN,hh,h0⟩,hK⟩:=cW h
  clear h
  have fin:∀ (x:List UInt8) (R:Hp),cG s (N + 1) t v=x->W.Fin 0 K (tS (mk x)) R:=fun x R h=>by
   rw [h] at hK; exact .sel [] (by simp) (by simp) rfl (.done (by simpa [go_sem] using hK))
  clear hK
  have hc:=l6 h0
  have hvn:=hv.n
  have k1:=b9 hv
  have k2:=dS v
  have k6:=cV hs
  have k7:=fY s
  rw [uN] at fin
  simp (maxSteps:=1000000) -dsimp only [go_sem,aC,aM t,aJ v,UF,WQ]
  refine aB rfl (.done ?_)
  cases c1:t.k == 1 with
  | true=>
   rw [c1,Bool.true_or,cond_true] at fin
   obtain ⟨_,_,_,e4⟩:=hc.nu (dY c1 (by decide)) (dY c1 (by decide)) (dY c1 (by decide))
   have e6:v.n=0\/v.n=1:=by unfold iE at e4; rw [c1] at e4; simpa using e4
   have f0:jP 0=[0]:=(I1 (n:=0) (by decide)).trans FA.1
   have f1:jP 1=[1]:=(I1 (n:=1) (by decide)).trans FA.2
   rcases e6 with e6 | e6
   · rw [e6] at fin ⊢
     have w0:IntKind.u8.wrap 0=0:=by decide
     simp (maxSteps:=1000000) -dsimp only [go_sem,gJ,c1,w0]
     exact ⟨rfl,fin [0] _ f0⟩
   · rw [e6] at fin ⊢
     have w0:IntKind.u8.wrap 1=1:=by decide
     simp (maxSteps:=1000000) -dsimp only [go_sem,gJ,c1,w0]
     exact ⟨rfl,fin [1] _ f1⟩
  | false=>
  rw [c1,Bool.false_or] at fin
  cases c2:t.k == 2 with
  | true=>
   have c37:(t.k == 3 || t.k == 7)=false:=by rw [dY c2 (b:=3) (by decide),dY c2 (b:=7) (by decide)]; rfl
   rw [c37,c2,cond_false,cond_true] at fin
   simp (maxSteps:=1000000) -dsimp only [go_sem,gJ,c1,c2,hvn]
   exact fin _ _ rfl
  | false=>
  rw [c2,cond_false] at fin
  cases c3:t.k == 3 || t.k == 7 with
  | true=>
   rw [c3,cond_true] at fin
   cases q3:t.k == 3 with
   | true=>
    simp (maxSteps:=1000000) -dsimp only [go_sem,gJ,c1,c2,q3,gX,g4,dT]
    exact fin _ _ rfl
   | false=>
    have q7:(t.k == 7)=true:=by rw [q3,Bool.false_or] at c3; exact c3
    simp (maxSteps:=1000000) -dsimp only [go_sem,gJ,c1,c2,q3,q7,gX,g4,dT]
    exact fin _ _ rfl
  | false=>
  have c3':=c3
  rw [Bool.or_eq_false_iff] at c3'
  rw [c3,cond_false] at fin
  cases c4:t.k == 4 with
  | true=>
   rw [c4,cond_true] at fin
   simp (maxSteps:=1000000) -dsimp only [go_sem,gJ,c1,c2,c3'.1,c3'.2,c4]
   have:=fin (bl v.s)
   rw [hY] at this
   exact this _ rfl
  | false=>
  rw [c4,cond_false] at fin
  cases c5:t.k == 5 with
  | true=>
   rw [c5,cond_true] at fin
   obtain ⟨u,he,hu⟩:=AT hc.va c5
   have hto:=ht.e u (by rw [he]; exact List.mem_singleton.2 rfl)
   obtain ⟨_,_,_,e4,e5⟩:=hc.ls c5
   have h32:=(oL hc.va).2 c5
   rw [he] at fin e5
   simp only [List.headD_cons] at fin e5
   have hxs:∀ x ∈ v.l,x.h<=N/\d9 s u x=0:=fun x hx=>⟨by have:=Vl.h_l hx; omega,e5 x hx⟩
   have hlen:=IN hd (N:=N) (by omega) hxs (by omega)
   have hvl:=gL v.l.length
   simp (maxSteps:=1000000) -dsimp only [go_sem,gJ,c1,c2,c3'.1,c3'.2,c4,c5]
   refine aB rfl (.done ?_)
   simp (maxSteps:=1000000) -dsimp only [go_sem,u5,gX,g4,dT]
   refine aL (α:=Nat) (fun i=>[(3,.va (.c1 (.pt 0 0))),(4,.va (.c1 (.pt 1 0))),(5,.va (.c1 (.pt 2 0))),(7,tS (mk (jP v.l.length ++ jQ (cG s N) u (v.l.take i)))),(8,iS .i64 i)])
    (fun _=>[.cells [.vl (.int .i64 s.ver),.fz (s.es.map aX),.fz (s.ss.map aH)] 25,.cells [.vl (.int .i64 t.k),.vl (.int .i64 t.s),.vl (.string t.n),.fz (t.e.map aQ)] 42,.cells [.vl (.int .i64 v.k),.vl (.int .i64 v.n),.vl (.string v.s),.fz (v.l.map aP),.fz (v.f.map a8)] 29])
    (fun i=>i<=v.l.length) (fun i=>v.l.length - i) 0 3 (Nat.zero_le _) ?_ ?_ ?_
   · simp -dsimp only [go_sem]<;>simp [jQ]
   · simp -dsimp only [go_sem]<;>simp
   intro i hi
   have hlt1:=G1 (cG s N) u v.l i
   rcases a7 i v.l.length with hlt | hge
   · have hg:decide ((i:Int) < (v.l.length:Int))=true:=by simp; omega
     have hx:v.l[i]? = some v.l[i]:=aU hlt
     have q1:=lX hx
     have hxm:=List.getElem_mem hlt
     have hxo:=hv.l _ hxm
     have hxp:=hxs _ hxm
     have hnx:=EQ (R:=cG s N) (t:=u) hx
     generalize v.l[i]=x at *
     have k1':=b9 hxo
     have k2':=dS x
     have k4:=dO hto
     have k5:=gO u
     have k8:HE N s u x=True:=eq_true ⟨hd,by omega,hxp.1,hxp.2⟩
     have k9:=jA hd N u x hxp.1 hxp.2
     have k10:=nV (N:=N) (by omega)
     have k11:=j9 (cG s N u x)
     have k12:((cG s N u x).length<=9223372036854775797)=True:=eq_true (by omega)
     have z0:(0:Int) < ((1:Nat):Int):=by decide
     have z1:(0:Int)<=0:=by decide
     simp (maxSteps:=1000000) -dsimp only [go_sem,hg,↓q1]
     refine aB rfl (.done ?_)
     simp (maxSteps:=1000000) -dsimp only [go_sem,vW,↓q1,aJ x,he,aM u,mV,k1',k2',k4,k5,k6,k7,k8,k12,forall_eq',z0,z1,List.length_cons,List.length_nil,List.take_succ_cons,List.take_zero,List.map_cons,List.map_nil]
     refine ⟨⟨by omega,by omega⟩,by omega,⟨by omega,by omega⟩,aD (i + 1) 3 (by omega) (by omega) ?_ ?_⟩
     · simp -dsimp only [go_sem,hnx,k2',k5,k7]<;>simp
     · simp -dsimp only [go_sem,he,List.map_cons,List.map_nil,aM u]<;>simp
   · have hg:decide ((i:Int) < (v.l.length:Int))=false:=by simp; omega
     rw [List.take_of_length_le hge] at *
     simp (maxSteps:=1000000) -dsimp only [go_sem,hg]
     refine aB rfl (.done ?_)
     simp (maxSteps:=1000000) -dsimp only [go_sem,u3]
     exact fin _ _ rfl
  | false=>
   rw [c5,cond_false] at fin
   have c6:(t.k == 6)=true:=LB hc.va c1 (by rw [c2,c3'.1,c3'.2]; rfl) c4 c5
   have k8:EsP N s (stOf s (dR t.n)) v=True:=eq_true ⟨hd,by omega,fun x hx=>by have:=Vl.h_f hx; omega,t,ht,c6,rfl,h0⟩
   simp (maxSteps:=1000000) -dsimp only [go_sem,gJ,c1,c2,c3'.1,c3'.2,c4,c5]
   refine aB rfl (.done ?_)
   simp (maxSteps:=1000000) -dsimp only [go_sem,u7,RY,k1,k2,k6,k7,k8]
   exact fin _ _ rfl
theorem PB:Meets Tryz.prog 27 (RM gC C.sc (fun s n=>iA .i64 (oM s n).2) (fun _ _=>trivial)).sp:=by
 refine aF Tryz.func27 aKQ 2 (by rw [Tryz.ntmps27]; decide) (aG Z2 (aE oU (aA _))) PA ?_
 rintro av H K ⟨⟨h,rfl⟩,hK⟩
 obtain ⟨_,nm,rfl,s,rfl,hs⟩:=pM h
 have fin:∀ (e:Int) (R:Hp),(oM s nm).2=e->W.Fin 0 K (iS .i64 e) R:=fun e R h=>by
  have hK:K (iS .i64 (oM (C.sc (aC s)) nm).2) []:=hK
  rw [dB,h] at hK; exact .sel [] (by simp) (by simp) rfl (.done (by simpa [go_sem] using hK))
 clear hK
 unfold oM at fin
 have k6:=cV hs
 have k7:=fY s
 simp (maxSteps:=1000000) -dsimp only [go_sem,aC,UJ,WY,k6,k7]
 refine aB rfl (.done ?_)
 cases c1:bI s != 0 with
 | true=>
  rw [c1,cond_true] at fin
  simp (maxSteps:=1000000) -dsimp only [go_sem,sT,c1]
  exact fin _ _ rfl
 | false=>
 rw [c1,cond_false] at fin
 simp (maxSteps:=1000000) -dsimp only [go_sem,sT,c1]
 refine aB rfl (.done ?_)
 simp (maxSteps:=1000000) -dsimp only [go_sem,A0]
 refine eO hs ?_
 rw [show (fS s.ss nm).getD default=stOf s (dR nm) from rfl]
 generalize stOf s (dR nm)=u at *
 simp (maxSteps:=1000000) -dsimp only [go_sem,aH]
 refine aB rfl (.done ?_)
 cases c2:cE s.ss nm with
 | false=>
  rw [c2,Bool.not_false,cond_true] at fin
  simp (maxSteps:=1000000) -dsimp only [go_sem,sB,Bool.not_false]
  exact fin _ _ rfl
 | true=>
  rw [c2,Bool.not_true,cond_false] at fin
  simp (maxSteps:=1000000) -dsimp only [go_sem,sB,Bool.not_true]
  exact fin _ _ rfl
def S1:W.Spec:=fun av H K=>∃ (s:Sc) (nm:ByteArray) (v:Vl),av=[.va (.gs (aC s)),tS nm,.va (.gs (aP v))]/\H=[]/\s.fit/\nm.size<=9223372036854775807/\VlOk v/\v.h<=1000000/\K (.tu [tA (mk (kV s nm v).1),iA .i64 (kV s nm v).2]) []
theorem X5 {s:Sc} {nm:ByteArray} {v:Vl} {K:S->Hp->Prop} (h1:s.fit) (h2:nm.size<=9223372036854775807) (h3:VlOk v) (h4:v.h<=1000000) (hK:K (.tu [tA (mk (kV s nm v).1),iA .i64 (kV s nm v).2]) []) :
 S1 [.va (.gs [.vl (.int .i64 s.ver),.fz (s.es.map aX),.fz (s.ss.map aH)]),tS nm,.va (.gs [.vl (.int .i64 v.k),.vl (.int .i64 v.n),.vl (.string v.s),.fz (v.l.map aP),.fz (v.f.map a8)])] [] K:=⟨s,nm,v,by rw [aJ]; rfl,rfl,h1,h2,h3,h4,hK⟩
theorem PG:Meets Tryz.prog 10 S1:=by
 refine aF Tryz.func10 aHG 3 (by rw [Tryz.ntmps10]; decide) (aG PB (aG (X8 1000000 (Nat.le_refl _)) (aG (HD (rO 8)) (aA _)))) (fun av H K h=>by obtain ⟨_,_,_,rfl,_⟩:=h; rfl) ?_
 rintro av H K ⟨s,nm,v,rfl,rfl,hs,hnm,hv,hh,hK⟩
 have fin:∀ (x:List UInt8) (e:Int) (R:Hp),kV s nm v=(x,e)->W.Fin 0 K (.tu [tA (mk x),iA .i64 e]) R:=fun x e R h=>by
  rw [h] at hK; exact .sel [] (by simp) (by simp) rfl (.done (by simpa [go_sem] using hK))
 clear hK
 unfold kV at fin
 have hty:=OT hnm
 have k1:=b9 hv
 have k2:=dS v
 have k4:=dO hty
 have k5:=gO (dR nm)
 have k6:=cV hs
 have k7:=fY s
 have k8:uD 1000000 s (dR nm) v=True:=eq_true hh
 have hch:oM s nm=bif bI s != 0 then (default,bI s) else bif !(cE s.ss nm) then (default,6) else (stOf s (dR nm),0):=rfl
 simp (maxSteps:=1000000) -dsimp only [go_sem,aC,aJ v,WM,T9,k6,k7]
 refine aB rfl (.done ?_)
 cases c1:bI s != 0 with
 | true=>
  rw [c1,cond_true] at fin hch
  simp (maxSteps:=1000000) -dsimp only [go_sem,oR,hch,c1]
  exact fin _ _ _ rfl
 | false=>
 have hd:=KX hs (qM c1)
 rw [c1,cond_false] at fin hch
 cases c2:cE s.ss nm with
 | false=>
  rw [c2,Bool.not_false,cond_true] at fin hch
  have g:((6:Int) != 0)=true:=rfl
  simp (maxSteps:=1000000) -dsimp only [go_sem,oR,hch,g]
  exact fin _ _ _ rfl
 | true=>
 rw [c2,Bool.not_true,cond_false] at fin hch
 simp (maxSteps:=1000000) -dsimp only [go_sem,oR,hch,bne_self_eq_false]
 refine aB rfl (.done ?_)
 have k4':gN [.vl (.int .i64 6),.vl (.int .i64 0),.vl (.string nm),.fz []]:=k4
 have k5':C.ty [.vl (.int .i64 6),.vl (.int .i64 0),.vl (.string nm),.fz []]=dR nm:=k5
 simp (maxSteps:=1000000) -dsimp only [go_sem,zP,k1,k2,k4',k5',k6,k7,k8]
 refine aB rfl (.done ?_)
 cases c3:jJ s (dR nm) v != 0 with
 | true=>
  rw [c3,cond_true] at fin
  simp (maxSteps:=1000000) -dsimp only [go_sem,sD,c3]
  exact fin _ _ _ rfl
 | false=>
 rw [c3,cond_false] at fin
 have hck:=qM c3
 have h0:=(uV hck).1
 have hh:=aCR hck
 have q8:EsP 8 s (stOf s (dR nm)) v=True:=eq_true ⟨hd,Nat.le_refl _,fun x hx=>by have:=Vl.h_f hx; omega,dR nm,hty,rfl,rfl,h0⟩
 simp (maxSteps:=1000000) -dsimp only [go_sem,sD,c3]
 refine aB rfl (.done ?_)
 simp (maxSteps:=1000000) -dsimp only [go_sem,BC,RY,k1,k2,k6,k7,q8]
 refine aB rfl (.done ?_)
 generalize fW (cG s 8) s (stOf s (dR nm)).fs v.f=w at *
 cases c4:decide (2000 < (w.length:Int)) with
 | true=>
  rw [c4,cond_true] at fin
  simp (maxSteps:=1000000) -dsimp only [go_sem,sY,c4]
  exact fin _ _ _ rfl
 | false=>
  rw [c4,cond_false] at fin
  simp (maxSteps:=1000000) -dsimp only [go_sem,sY,c4]
  exact fin _ _ _ rfl
def UT:W.Spec:=fun av H K=>∃ x:List UInt8,av=[tS (mk x)]/\H=[]/\x.length<=9223372036854775807/\K (.tu [uA (bF x).1,tA (mk (bF x).2.1),iA .i64 (bF x).2.2]) []
theorem yY {x:List UInt8} {K:S->Hp->Prop} (h:x.length<=9223372036854775807) (hK:K (.tu [uA (bF x).1,tA (mk (bF x).2.1),iA .i64 (bF x).2.2]) []):UT [tS (mk x)] [] K:=⟨x,rfl,rfl,h,hK⟩
theorem uS:Meets Tryz.prog 94 UT:=by
 refine aF Tryz.func94 aN7 1 (by rw [Tryz.ntmps94]; decide) (aE yJ (aE FJ (aE aF3 (aE SI (aA _))))) (fun av H K h=>by obtain ⟨_,rfl,_⟩:=h; rfl) ?_
 rintro av H K ⟨x,rfl,rfl,hx,hK⟩
 have fin:∀ (n:Nat) (r:List UInt8) (e:Int) (R:Hp),bF x=(n,r,e)->W.Fin 0 K (.tu [uA n,tA (mk r),iA .i64 e]) R:=fun n r e R h=>by
  rw [h] at hK; exact .sel [] (by simp) (by simp) rfl (.done (by simpa [go_sem] using hK))
 clear hK
 unfold bF at fin
 simp (maxSteps:=1000000) -dsimp only [go_sem,aF6,aBC]
 refine O1 ?_
 simp (maxSteps:=1000000) -dsimp only [go_sem,dV]
 refine aB rfl (.done ?_)
 simp (maxSteps:=1000000) -dsimp only [go_sem,FI]
 refine GT hx ?_
 simp (maxSteps:=1000000) -dsimp only [go_sem,dV]
 refine aB rfl (.done ?_)
 simp (maxSteps:=1000000) -dsimp only [go_sem,ER]
 refine zR ?_
 simp (maxSteps:=1000000) -dsimp only [go_sem,dV]
 refine aB rfl (.done ?_)
 have hlt:=sK x
 cases c1:(vr x).2.2 != 0 with
 | true=>
  rw [c1,cond_true] at fin
  simp (maxSteps:=1000000) -dsimp only [go_sem,yQ,c1]
  exact fin _ _ _ _ rfl
 | false=>
  rw [c1,cond_false] at fin
  simp (maxSteps:=1000000) -dsimp only [go_sem,yQ,c1]
  obtain ⟨h0,h1,h2,h3,_⟩:(vr x).2.2=0/\(vr x).2.1=(vi (vr x).1).length/\0 < (vr x).2.1/\(vr x).2.1<=x.length/\True:=by
   rcases hlt with ⟨h,_⟩ | ⟨a,b,c,d,_⟩
   · exact absurd (qM c1) h
   · exact ⟨a,b,c,d,trivial⟩
  have e1:((x.length:Int) - ((x.length:Int) - ((vr x).2.1:Int)))=((vr x).2.1:Int):=by omega
  refine aB rfl (.done ?_)
  simp (maxSteps:=1000000) -dsimp only [go_sem,F2]
  refine KA h3 hx ?_
  simp (maxSteps:=1000000) -dsimp only [go_sem,dV,e1,List.take_length]
  refine ⟨by omega,by omega,by omega,by omega,?_⟩
  exact fin _ _ _ _ rfl
def U0:W.Spec:=fun av H K=>∃ x:List UInt8,av=[tS (mk x)]/\H=[]/\x.length<=9223372036854775807/\K (.tu [tA (mk (bT x).1),tA (mk (bT x).2.1),iA .i64 (bT x).2.2]) []
theorem I6 {x:List UInt8} {K:S->Hp->Prop} (h:x.length<=9223372036854775807) (hK:K (.tu [tA (mk (bT x).1),tA (mk (bT x).2.1),iA .i64 (bT x).2.2]) []):U0 [tS (mk x)] [] K:=⟨x,rfl,rfl,h,hK⟩
theorem MZ:Meets Tryz.prog 95 U0:=by
 refine aF Tryz.func95 aNZ 1 (by rw [Tryz.ntmps95]; decide) (aE uS (aA _)) (fun av H K h=>by obtain ⟨_,rfl,_⟩:=h; rfl) ?_
 rintro av H K ⟨x,rfl,rfl,hx,hK⟩
 have fin:∀ (n r:List UInt8) (e:Int) (R:Hp),bT x=(n,r,e)->W.Fin 0 K (.tu [tA (mk n),tA (mk r),iA .i64 e]) R:=fun n r e R h=>by
  rw [h] at hK; exact .sel [] (by simp) (by simp) rfl (.done (by simpa [go_sem] using hK))
 clear hK
 unfold bT at fin
 have hl:=(rQ x).1
 simp (maxSteps:=1000000) -dsimp only [go_sem,aAE,aE3]
 refine yY hx ?_
 simp (maxSteps:=1000000) -dsimp only [go_sem]
 refine aB rfl (.done ?_)
 generalize bF x=z at *
 obtain ⟨n,r,e⟩:=z
 simp only at fin hl ⊢
 cases c1:e != 0 with
 | true=>
  rw [c1,cond_true] at fin
  simp (maxSteps:=1000000) -dsimp only [go_sem,rH,c1]
  exact fin _ _ _ _ rfl
 | false=>
 rw [c1,cond_false] at fin
 have hu:IntKind.u64.wrap (r.length:Int)=(r.length:Int):=nN (by omega)
 have hd:decide ((r.length:Int) < (n:Int))=decide (r.length < n):=by rw [Bool.eq_iff_iff]; simp
 cases c2:decide (r.length < n) with
 | true=>
  rw [c2,cond_true] at fin
  simp (maxSteps:=1000000) -dsimp only [go_sem,rH,c1,hu,hd,c2]
  exact fin _ _ _ _ rfl
 | false=>
  rw [c2,cond_false] at fin
  have c2':=of_decide_eq_false c2
  simp (maxSteps:=1000000) -dsimp only [go_sem,rH,c1,hu,hd,c2,List.drop_zero,List.take_length]
  refine ⟨by omega,by omega,?_⟩
  exact fin _ _ _ _ rfl
def fdC (x:Int × List UInt8):List C:=[.vl (.int .i64 x.1),.vl (.string (mk x.2))]
def DF:W.Spec:=fun av H K=>∃ (x:List UInt8) (last:Int),av=[tS (mk x),iS .i64 last]/\H=[]/\x.length<=9223372036854775807/\K (.tu [.gs (fdC (bJ x last).1),tA (mk (bJ x last).2.1),iA .i64 (bJ x last).2.2]) []
theorem ZU {x:List UInt8} {last:Int} {K:S->Hp->Prop} (h:x.length<=9223372036854775807) (hK:K (.tu [.gs [.vl (.int .i64 (bJ x last).1.1),.vl (.string (mk (bJ x last).1.2))],tA (mk (bJ x last).2.1),iA .i64 (bJ x last).2.2]) []):DF [tS (mk x),iS .i64 last] [] K:=⟨x,last,rfl,rfl,h,hK⟩
theorem YT:Meets Tryz.prog 53 DF:=by
 refine aF Tryz.func53 aOO 2 (by rw [Tryz.ntmps53]; decide) (aE uS (aE MZ (aA _))) (fun av H K h=>by obtain ⟨_,_,rfl,_⟩:=h; rfl) ?_
 rintro av H K ⟨x,last,rfl,rfl,hx,hK⟩
 have fin:∀ (a:Int) (c r:List UInt8) (e:Int) (R:Hp),bJ x last=((a,c),r,e)->W.Fin 0 K (.tu [.gs [.vl (.int .i64 a),.vl (.string (mk c))],tA (mk r),iA .i64 e]) R:=fun a c r e R h=>by
  rw [h] at hK; exact .sel [] (by simp) (by simp) rfl (.done (by simpa [go_sem,fdC] using hK))
 clear hK
 unfold bJ at fin
 have hl:=(rQ x).1
 simp (maxSteps:=1000000) -dsimp only [go_sem,aE9,aFF]
 refine yY hx ?_
 generalize bF x=z at *
 obtain ⟨n,r,e⟩:=z
 simp only at fin hl ⊢
 have hd:decide ((2147483647:Int) < (n:Int))=decide (2147483647 < n):=by rw [Bool.eq_iff_iff]; simp; omega
 cases c1:e != 0 with
 | true=>
  rw [c1,cond_true] at fin
  simp (maxSteps:=1000000) -dsimp only [go_sem,c1]
  exact fin _ _ _ _ _ rfl
 | false=>
 rw [c1,cond_false] at fin
 cases c2:decide (2147483647 < n) with
 | true=>
  rw [c2,cond_true] at fin
  simp (maxSteps:=1000000) -dsimp only [go_sem,c1,hd,c2]
  exact fin _ _ _ _ _ rfl
 | false=>
 rw [c2,cond_false] at fin
 have c2':=of_decide_eq_false c2
 have hw:IntKind.i64.wrap (n:Int)=(n:Int):=A7 ⟨by omega,by omega⟩
 cases c3:decide ((n:Int)<=last) with
 | true=>
  rw [c3,cond_true] at fin
  simp (maxSteps:=1000000) -dsimp only [go_sem,c1,hd,c2,hw,c3]
  exact fin _ _ _ _ _ rfl
 | false=>
  rw [c3,cond_false] at fin
  simp (maxSteps:=1000000) -dsimp only [go_sem,c1,hd,c2,hw,c3]
  refine I6 (by omega) ?_
  simp (maxSteps:=1000000) -dsimp only [go_sem]
  refine aB rfl (.done ?_)
  simp (maxSteps:=1000000) -dsimp only [go_sem,E7,hw]
  exact fin _ _ _ _ _ rfl
def aF9:W.Spec:=fun av H K=>∃ b:List UInt8,av=[tS (mk b)]/\H=[]/\b.length<=9223372036854775807/\K (.tu [.gs (aP (tN b).1),iA .i64 (tN b).2]) []
theorem aGS {b:List UInt8} {K:S->Hp->Prop} (h:b.length<=9223372036854775807) (hK:K (.tu [.gs (aP (tN b).1),iA .i64 (tN b).2]) []):aF9 [tS (mk b)] [] K:=⟨b,rfl,rfl,h,hK⟩
theorem HY:Meets Tryz.prog 97 aF9:=by
 refine aF Tryz.func97 aQG 1 (by rw [Tryz.ntmps97]; decide) (aA _) (fun av H K h=>by obtain ⟨_,rfl,_⟩:=h; rfl) ?_
 rintro av H K ⟨b,rfl,rfl,hb,hK⟩
 have fin:∀ (v:Vl) (e:Int) (R:Hp),tN b=(v,e)->W.Fin 0 K (.tu [.gs (aP v),iA .i64 e]) R:=fun v e R h=>by
  rw [h] at hK; exact .sel [] (by simp) (by simp) rfl (.done (by rw [aJ] at hK ⊢; simpa [go_sem] using hK))
 clear hK
 unfold tN at fin
 cases b with
 | nil=>
  have e0:(([]:List UInt8) == [])=true:=rfl
  simp (maxSteps:=1000000) -dsimp only [go_sem,RK,P0,e0]
  exact fin v0 1 _ rfl
 | cons c r=>
  have e0:(c :: r == [])=false:=rfl
  rw [e0,cond_false,List.headD_cons,List.length_cons] at fin
  have e1:decide ((1:Int) < (c.toNat:Int))=decide (1 < c.toNat):=by rw [Bool.eq_iff_iff]; simp; omega
  have e2:decide ((1:Int) < ((r.length + 1:Nat):Int))=decide (1 < r.length + 1):=by rw [Bool.eq_iff_iff]; simp; omega
  have e3:IntKind.i64.wrap (c.toNat:Int)=(c.toNat:Int):=A7 ⟨by omega,by have:=c.toNat_lt; omega⟩
  have z0:(0:Int) < ((r.length + 1:Nat):Int):=by omega
  have z1:(c :: r)[0]? = some c:=rfl
  have z2:(0:Int)<=0:=by decide
  cases c1:decide (1 < c.toNat)<;>cases c2:decide (1 < r.length + 1)<;>rw [c1,c2] at fin <;>
  · simp (maxSteps:=1000000) -dsimp only [go_sem,RK,P0,e0,e1,e2,c1,c2,z0,z1,z2,aI,forall_eq',Bool.false_or,Bool.true_or,Bool.or_self]
    try simp only [e3]
    first
     | exact fin v0 2 _ rfl
     | exact fin (.mk 1 (c.toNat:Int) (mk []) [] []) 0 _ rfl
def DW:List S->Prop:=fun av=>match av with
 | [.va (.gs r),.va (.c1 (.vl (.string _))),.va (.c1 (.vl (.int .i64 _)))]=>gC r
 | _=>False
theorem qA {av:List S} (h:DW av):∃ (s:Sc) (nm:ByteArray) (n:Int),av=[.va (.gs (aC s)),tS nm,iS .i64 n]/\s.fit:=by
 unfold DW at h
 split at h
 · obtain ⟨s,rfl,hs⟩:=h; exact ⟨s,_,_,rfl,hs⟩
 · exact h.elim
noncomputable def TC:List S->A:=fun av=>match av with
 | [.va (.gs r),.va (.c1 (.vl (.string nm))),.va (.c1 (.vl (.int .i64 n)))]=>bA (((dL (C.sc r).es nm).getD default).vs.any fun x=>x == n)
 | _=>.gs []
noncomputable def n3Fn:Fun:=⟨DW,TC,fun av h=>by obtain ⟨_,_,_,rfl,_⟩:=qA h; trivial⟩
theorem QP:∀ av H K,n3Fn.sp av H K->av.length=3:=fun av H K h=>by obtain ⟨_,_,_,rfl,_⟩:=qA h.1.1; rfl
attribute [go_sem] n3Fn DW TC
theorem MW:Meets Tryz.prog 139 n3Fn.sp:=by
 refine aF Tryz.func139 aII 3 (by rw [Tryz.ntmps139]; decide) (aE GM (aA _)) QP ?_
 rintro av H K ⟨⟨h,rfl⟩,hK⟩
 obtain ⟨s,nm,n,rfl,hs⟩:=qA h
 have hK:K (bS (((dL (C.sc (aC s)).es nm).getD default).vs.any fun x=>x == n)) []:=hK
 rw [dB] at hK
 clear h
 have heo:((dL s.es nm).getD default).vs.length<=1000000000:=by
  cases hf:dL s.es nm with
  | none=>exact Nat.zero_le _
  | some e=>exact (hs.en e (KH hf).1).2
 simp (maxSteps:=1000000) -dsimp only [go_sem,aC,WO,TM]
 refine l8 hs ?_
 generalize (dL s.es nm).getD default=e at *
 simp (maxSteps:=1000000) -dsimp only [go_sem,aX]
 refine aB rfl (.done ?_)
 have fin:∀ (b:Bool) (R:Hp),(e.vs.any fun x=>x == n)=b->W.Fin 0 K (bS b) R:=fun b R h=>by
  rw [h] at hK; exact .sel [] (by simp) (by simp) rfl (.done (by simpa [go_sem] using hK))
 simp (maxSteps:=1000000) -dsimp only [go_sem,zI]
 refine aL (α:=Nat) (fun i=>[(2,iS .i64 n),(18,.va (.c1 (.fz (e.vs.map cH)))),(19,iS .i64 e.vs.length),(20,iS .i64 i)]) (fun _=>[])
  (fun i=>i<=e.vs.length/\(e.vs.drop i).any (fun x=>x == n)=e.vs.any fun x=>x == n) (fun i=>e.vs.length - i) 0 0 ⟨Nat.zero_le _,rfl⟩ ?_ ?_ ?_
 · simp -dsimp only [go_sem]<;>simp
 · simp -dsimp only [go_sem]<;>simp
 rintro i ⟨hi,ho⟩
 rcases a7 i e.vs.length with hlt | hge
 · have hg:decide ((i:Int) < (e.vs.length:Int))=true:=by simp; omega
   have hx:e.vs[i]? = some e.vs[i]:=aU hlt
   have q2:=aR (row:=cH) hx
   rw [List.drop_eq_getElem_cons hlt,List.any_cons] at ho
   generalize e.vs[i]=y at *
   cases hc:y == n with
   | true=>
    rw [hc,Bool.true_or] at ho
    simp (maxSteps:=1000000) -dsimp only [go_sem,hg,↓q2,hc]
    exact ⟨by omega,fin _ _ ho.symm⟩
   | false=>
    rw [hc,Bool.false_or] at ho
    simp (maxSteps:=1000000) -dsimp only [go_sem,hg,↓q2,hc]
    refine ⟨by omega,by omega,aD (i + 1) 0 ⟨by omega,ho⟩ (by omega) ?_ ?_⟩
    · simp -dsimp only [go_sem]<;>simp
    · simp -dsimp only [go_sem]<;>simp
 · have hg:decide ((i:Int) < (e.vs.length:Int))=false:=by simp; omega
   have:e.vs.drop i=[]:=List.drop_eq_nil_iff.2 (by omega)
   rw [this] at ho
   simp (maxSteps:=1000000) -dsimp only [go_sem,hg]
   exact fin _ _ ho.symm
def aBB:W.Spec:=fun av H K=>∃ (s:Sc) (t:Ty) (b:List UInt8),av=[.va (.gs (aC s)),.va (.gs (aQ t)),tS (mk b)]/\H=[]/\Dg s/\s.fit/\TyOk t/\valF s.ss s.es t=true/\(t.k == 2 || (t.k == 3 || t.k == 7))=true/\b.length<=9223372036854775807/\K (.tu [.gs (aP (t6 s t b).1),iA .i64 (t6 s t b).2]) []
theorem aBV {s:Sc} {t:Ty} {b:List UInt8} {K:S->Hp->Prop} (hd:Dg s) (hs:s.fit) (ht:TyOk t) (hv:valF s.ss s.es t=true) (hk:(t.k == 2 || (t.k == 3 || t.k == 7))=true) (hb:b.length<=9223372036854775807)
 (hK:K (.tu [.gs (aP (t6 s t b).1),iA .i64 (t6 s t b).2]) []) :
 aBB [.va (.gs [.vl (.int .i64 s.ver),.fz (s.es.map aX),.fz (s.ss.map aH)]),.va (.gs [.vl (.int .i64 t.k),.vl (.int .i64 t.s),.vl (.string t.n),.fz (t.e.map aQ)]),tS (mk b)] [] K:=⟨s,t,b,by rw [aM]; rfl,rfl,hd,hs,ht,hv,hk,hb,hK⟩
theorem aQ3 (n:Nat):IntKind.u64.wrap ((BitVec.ofInt IntKind.u64.bits (n:Int) &&& BitVec.ofInt IntKind.u64.bits 4294967295).toNat:Int)=((n % 4294967296:Nat):Int):=by
 have hb:IntKind.u64.bits=64:=rfl
 have e:(BitVec.ofInt 64 (n:Int) &&& BitVec.ofInt 64 4294967295).toNat=n % 4294967296:=by
  rw [BitVec.toNat_and,BitVec.ofInt_natCast,BitVec.toNat_ofNat,show (BitVec.ofInt 64 4294967295).toNat=2 ^ 32 - 1 from rfl,Nat.and_two_pow_sub_one_eq_mod]
  omega
 rw [hb,e,nN (by omega)]
noncomputable def tL:cP:=[(133,.s LT),(138,.s DK),(134,.s LK),(135,.s DM),(136,.s DH),(139,.f n3Fn)]
theorem aAT:sp tL 133=LT:=rfl
theorem aCM:sp tL 138=DK:=rfl
theorem aGJ:sp tL 134=LK:=rfl
theorem NQ:sp tL 135=DM:=rfl
theorem aEW:sp tL 136=DH:=rfl
theorem MO:nO tL 139=some n3Fn:=rfl
theorem CX:Meets Tryz.prog 98 aBB:=by
 refine aF (Γ:=tL) Tryz.func98 aQZ 3 (by rw [Tryz.ntmps98]; decide) (aE yJ (aE aJM (aE FJ (aE aF3 (aE SI (aG MW (aA _))))))) (fun av H K h=>by obtain ⟨_,_,_,rfl,_⟩:=h; rfl) ?_
 rintro av H K ⟨s,t,b,rfl,rfl,hd,hs,ht,hv,hk,hb,hK⟩
 have fin:∀ (v:Vl) (e:Int) (R:Hp),t6 s t b=(v,e)->W.Fin 0 K (.tu [.gs (aP v),iA .i64 e]) R:=fun v e R h=>by
  rw [h] at hK; exact .sel [] (by simp) (by simp) rfl (.done (by rw [aJ] at hK ⊢; simpa [go_sem] using hK))
 clear hK
 unfold t6 at fin
 have hvr:=sK b
 have hnr:(vr b).2.2=0->iE s t (jS t.k (vr b).1)=true->bR (jS t.k (vr b).1)/\((t.k == 2)=false->jS t.k (vr b).1=(vr b).1/\(vr b).1 < 4294967296):=fun _=>S4 hd hv hk (K0 b)
 have hlt:=K0 b
 have tail:∀ (n:Int) (ok:Bool),((vr b).2.2=0->(ok=iE s t (jS t.k (vr b).1)/\(ok=true->n=jS t.k (vr b).1)))->
  vc tL 0 pc98_13.ungh (eY [(4,.va (.c1 (.pt 1 0))),(6,.va (.c1 (.pt 2 0))),(8,.va (.c1 (.pt 3 0))),(9,iS .i64 n),(10,bS ok)])
   [.cells [.vl (.int .i64 s.ver),.fz (s.es.map aX),.fz (s.ss.map aH)] 25,.cells [.vl (.int .i64 t.k),.vl (.int .i64 t.s),.vl (.string t.n),.fz (t.e.map aQ)] 42,.cells [.vl (.int .i64 0),.vl (.int .i64 0),.vl (.string (mk [])),.vl (.slice none 0 0),.vl (.slice none 0 0)] 29,gY b (vr b).2.1 (vr b).2.2]
   (fun e fr' H'=>match e with
     | .e j=>if j=0 then vc tL 0 n5 fr' H' (jE 0 rA K) else jE 0 rA K (.e j) fr' H'
     | e=>match e with
      | .n=>vc tL 0 n5 fr' H' (jE 0 rA K)
      | e=>jE 0 rA K e fr' H'):=by
  intro n ok hnk
  simp (maxSteps:=1000000) -dsimp only [go_sem,pc98_13,rA,NQ,dV]
  refine zR ?_
  cases c1:(vr b).2.2 != 0 with
  | true=>
   rw [c1,cond_true] at fin
   simp (maxSteps:=1000000) -dsimp only [go_sem,NQ,dV,c1]
   refine zR ?_
   simp (maxSteps:=1000000) -dsimp only [go_sem,dV]
   exact fin v0 _ _ rfl
  | false=>
   rw [c1,cond_false] at fin
   obtain ⟨h0,hle⟩:(vr b).2.2=0/\(vr b).2.1<=b.length:=by
    rcases hvr with ⟨h,_⟩ | ⟨a,_,_,d,_⟩
    · exact absurd (qM c1) h
    · exact ⟨a,d⟩
   obtain ⟨hok,hn⟩:=hnk h0
   simp (maxSteps:=1000000) -dsimp only [go_sem,dV,c1]
   refine aB rfl (.done ?_)
   simp (maxSteps:=1000000) -dsimp only [go_sem,zY,aEW,dV]
   refine KA hle hb ?_
   have e1:decide ((0:Int) < (b.length:Int) - ((vr b).2.1:Int))=decide ((vr b).2.1 < b.length):=by rw [Bool.eq_iff_iff,decide_eq_true_iff,decide_eq_true_iff]; omega
   cases c2:decide ((vr b).2.1 < b.length) with
   | true=>
    rw [c2,cond_true] at fin
    simp (maxSteps:=1000000) -dsimp only [go_sem,dV,e1,c2]
    exact fin v0 _ _ rfl
   | false=>
    rw [c2,cond_false] at fin
    simp (maxSteps:=1000000) -dsimp only [go_sem,dV,e1,c2]
    refine aB rfl (.done ?_)
    rw [<-hok] at fin
    cases ok with
    | false=>
     simp (maxSteps:=1000000) -dsimp only [go_sem,sM,Bool.not_false]
     exact fin v0 _ _ rfl
    | true=>
     rw [hn rfl]
     simp (maxSteps:=1000000) -dsimp only [go_sem,sM,Bool.not_true]
     refine aB rfl (.done ?_)
     simp (maxSteps:=1000000) -dsimp only [go_sem,n5,rA]
     exact fin (.mk t.k (jS t.k (vr b).1) (mk []) [] []) 0 _ rfl
 simp (maxSteps:=1000000) -dsimp only [go_sem,aC,aM t,aCU,rA,aAT]
 refine O1 ?_
 simp (maxSteps:=1000000) -dsimp only [go_sem,dV]
 refine aB rfl (.done ?_)
 simp (maxSteps:=1000000) -dsimp only [go_sem,E0]
 refine aB rfl (.done ?_)
 simp (maxSteps:=1000000) -dsimp only [go_sem,F6]
 refine aB rfl (.done ?_)
 cases c2:t.k == 2 with
 | true=>
  simp (maxSteps:=1000000) -dsimp only [go_sem,wU,c2,aCM]
  refine ZC hb ?_
  simp (maxSteps:=1000000) -dsimp only [go_sem,dV]
  refine aB rfl (.done ?_)
  have hnu:jS t.k (vr b).1=wQ (vr b).1:=by unfold jS; rw [c2,cond_true]
  have hrg:∀ n:Int,iE s t n=(t.s == 64 || (decide (-(2 ^ (t.s.toNat - 1):Int)<=n) && decide (n < (2 ^ (t.s.toNat - 1):Int)))):=fun n=>by
   unfold iE; rw [dY c2 (b:=1) (by decide),c2]; rfl
  generalize hN:wQ (vr b).1=n at *
  cases h64:t.s == 64 with
  | true=>
   simp (maxSteps:=1000000) -dsimp only [go_sem,w5,h64,Bool.false_and]
   refine fC 4 (tail n true fun h0=>⟨by rw [hrg,h64]; rfl,fun _=>hnu.symm⟩) ?_ ?_
   · simp -dsimp only [go_sem,hZ]<;>simp
   · simp -dsimp only [go_sem,dV]<;>simp [dV]
  | false=>
   obtain ⟨b1,b2,e1,e2⟩:8<=t.s/\t.s<=32/\IntKind.i64.wrap (-1 * 2 ^ min (t.s - 1).toNat 64)=-(2 ^ (t.s.toNat - 1):Int)/\IntKind.i64.wrap (1 * 2 ^ min (t.s - 1).toNat 64)=(2 ^ (t.s.toNat - 1):Int):=by
    rcases aDK hv c2 with hz | hz | hz | hz
    · rw [hz]; decide
    · rw [hz]; decide
    · rw [hz]; decide
    · rw [hz] at h64; simp at h64
   have f1:(0<=t.s - 1)=True:=eq_true (by omega)
   have f2:(-9223372036854775808<=t.s - 1)=True:=eq_true (by omega)
   have f3:(t.s - 1<=9223372036854775807)=True:=eq_true (by omega)
   have hrg':=hrg n
   rw [h64,Bool.false_or] at hrg'
   generalize (2 ^ (t.s.toNat - 1):Int)=hi at *
   cases h4:decide (-hi<=n)<;>cases h5:decide (n < hi) <;>
   · rw [h4,h5] at hrg'
     simp (maxSteps:=1000000) -dsimp only [go_sem,w5,h64,h4,h5,f1,f2,f3,e1,e2,Bool.and_self,Bool.and_true,Bool.and_false,Bool.true_and,Bool.false_and]
     rw [<-hnu] at hrg'
     refine fC 4 (tail n _ fun h0=>⟨hrg'.symm,fun _=>hnu.symm⟩) ?_ ?_
     · simp -dsimp only [go_sem,hZ]<;>simp
     · simp -dsimp only [go_sem,dV]<;>simp [dV]
 | false=>
  simp (maxSteps:=1000000) -dsimp only [go_sem,wU,c2,aGJ]
  refine GT hb ?_
  simp (maxSteps:=1000000) -dsimp only [go_sem,dV]
  refine aB rfl (.done ?_)
  simp (maxSteps:=1000000) -dsimp only [go_sem,EU]
  refine aB rfl (.done ?_)
  simp (maxSteps:=1000000) -dsimp only [go_sem,FY,aQ3]
  refine aB rfl (.done ?_)
  generalize hU:(vr b).1=U at *
  have hnu:jS t.k U=U:=by unfold jS; rw [c2,cond_false]
  have hw:IntKind.i64.wrap ((U % 4294967296:Nat):Int)=((U % 4294967296:Nat):Int):=A7 ⟨by omega,by omega⟩
  have e0:decide ((U:Int) < 4294967296)=decide (U < 4294967296):=by rw [Bool.eq_iff_iff,decide_eq_true_iff,decide_eq_true_iff]; omega
  rw [hnu] at hnr
  have hbig:(vr b).2.2=0->decide (U < 4294967296)=false->iE s t U=false:=fun h0 h1=>by
   cases h:iE s t U with
   | false=>rfl
   | true=>have:=((hnr h0 h).2 c2).2; have:=of_decide_eq_false h1; omega
  cases c3:t.k == 3 with
  | true=>
   obtain ⟨b1,b2,e1⟩:8<=t.s/\t.s<=32/\IntKind.i64.wrap (1 * 2 ^ min t.s.toNat 64)=(2 ^ t.s.toNat:Int):=by
    rcases PU hv c3 with hz | hz | hz<;>rw [hz]<;>decide
   have f1:(0<=t.s)=True:=eq_true (by omega)
   have hrg:=rg3 (s:=s) (n:=(U:Int)) c3
   rw [decide_eq_true (show (0:Int)<=(U:Int) by omega),Bool.true_and] at hrg
   generalize (2 ^ t.s.toNat:Int)=hi at *
   cases h4:decide (U < 4294967296) with
   | true=>
    have hm:U % 4294967296=U:=Nat.mod_eq_of_lt (of_decide_eq_true h4)
    rw [hm] at hw ⊢
    cases h5:decide ((U:Int) < hi) <;>
    · rw [h5] at hrg
      simp (maxSteps:=1000000) -dsimp only [go_sem,l0,c3,hw,e0,h4]
      refine aB rfl (.done ?_)
      simp (maxSteps:=1000000) -dsimp only [go_sem,sU,f1,e1,h5]
      have hx:=hrg
      rw [<-hnu] at hx
      refine fC 4 (tail U _ fun h0=>⟨hx.symm,fun _=>hnu.symm⟩) ?_ ?_
      · simp -dsimp only [go_sem,hZ]<;>simp
      · simp -dsimp only [go_sem,dV]<;>simp [dV,hU]
   | false=>
    simp (maxSteps:=1000000) -dsimp only [go_sem,l0,c3,hw,e0,h4]
    refine aB rfl (.done ?_)
    simp (maxSteps:=1000000) -dsimp only [go_sem,sU,f1,e1]
    refine fC 4 (tail ((U % 4294967296:Nat):Int) false fun h0=>⟨by rw [hnu]; exact (hbig h0 h4).symm,fun h=>(by cases h)⟩) ?_ ?_
    · simp -dsimp only [go_sem,hZ]<;>simp
    · simp -dsimp only [go_sem,dV]<;>simp [dV,hU]
  | false=>
   have c7:(t.k == 7)=true:=by rw [c2,c3] at hk; simpa using hk
   have hrg:=rg7 (s:=s) (n:=(U:Int)) c7
   have k6:=cV hs
   have k7:=fY s
   have heo:(dL s.es t.n).getD default=enOf s t:=rfl
   cases h4:decide (U < 4294967296) with
   | true=>
    have hm:U % 4294967296=U:=Nat.mod_eq_of_lt (of_decide_eq_true h4)
    rw [hm] at hw ⊢
    simp (maxSteps:=1000000) -dsimp only [go_sem,l0,c3,hw,e0,h4]
    refine aB rfl (.done ?_)
    simp (maxSteps:=1000000) -dsimp only [go_sem,sO,MO,k6,k7,heo]
    have hx:iE s t (jS t.k U)=(enOf s t).vs.any (fun x=>x == (U:Int)):=by rw [hnu]; exact hrg
    refine fC 4 (tail U _ fun h0=>⟨hx.symm,fun _=>hnu.symm⟩) ?_ ?_
    · simp -dsimp only [go_sem,hZ]<;>simp
    · simp -dsimp only [go_sem,dV]<;>simp [dV,hU]
   | false=>
    simp (maxSteps:=1000000) -dsimp only [go_sem,l0,c3,hw,e0,h4]
    refine aB rfl (.done ?_)
    simp (maxSteps:=1000000) -dsimp only [go_sem,sO,MO,k6,k7,heo]
    refine fC 4 (tail ((U % 4294967296:Nat):Int) false fun h0=>⟨by rw [hnu]; exact (hbig h0 h4).symm,fun h=>(by cases h)⟩) ?_ ?_
    · simp -dsimp only [go_sem,hZ]<;>simp
    · simp -dsimp only [go_sem,dV]<;>simp [dV,hU]
def AN (N:Nat):W.Spec:=fun av H K=>∃ (s:Sc) (t:Ty) (b:List UInt8),av=[.va (.gs (aC s)),.va (.gs (aQ t)),tS (mk b)]/\H=[]/\Dg s/\s.fit/\TyOk t/\valF s.ss s.es t=true/\lK s t < N/\b.length<=1000000000/\K (.tu [.gs (aP (cK s N t b).1),iA .i64 (cK s N t b).2]) []
theorem OG {N:Nat} {s:Sc} {t:Ty} {b:List UInt8} {K:S->Hp->Prop} (hd:Dg s) (hs:s.fit) (ht:TyOk t) (hv:valF s.ss s.es t=true) (hf:lK s t < N) (hb:b.length<=1000000000)
 (hK:K (.tu [.gs [.vl (.int .i64 (cK s N t b).1.k),.vl (.int .i64 (cK s N t b).1.n),.vl (.string (cK s N t b).1.s),.fz ((cK s N t b).1.l.map aP),.fz ((cK s N t b).1.f.map a8)],iA .i64 (cK s N t b).2]) []) :
 AN N [.va (.gs [.vl (.int .i64 s.ver),.fz (s.es.map aX),.fz (s.ss.map aH)]),.va (.gs [.vl (.int .i64 t.k),.vl (.int .i64 t.s),.vl (.string t.n),.fz (t.e.map aQ)]),tS (mk b)] [] K:=⟨s,t,b,by rw [aM]; rfl,rfl,hd,hs,ht,hv,hf,hb,by rw [aJ]; exact hK⟩
def tV (acc:List Vl) (q:(List Vl × List UInt8) × Int):(List Vl × List UInt8) × Int:=bif q.2 != 0 then (([],[]),q.2) else ((acc ++ q.1.1,q.1.2),0)
theorem aAI (a b:List Vl) (q:(List Vl × List UInt8) × Int):tV a (tV b q)=tV (a ++ b) q:=by
 unfold tV
 cases hq:q.2 != 0 with
 | true=>simp only [cond_true,hq]
 | false=>simp only [cond_false]; rw [show ((0:Int) != 0)=false from rfl,cond_false,List.append_assoc]
theorem KI (a:List Vl) {e:Int} (h:(e != 0)=true) (x:List Vl × List UInt8):tV a (x,e)=(([],[]),e):=by unfold tV; rw [h]; rfl
theorem aJY {R:List UInt8->Vl × Int}:∀ (n:Nat) (b:List UInt8),(eX R n b).2 ≠ 0->(eX R n b).1=([],[])
 | 0,_,h=>absurd rfl h
 | n + 1,b,h=>by
  rw [wB] at h ⊢
  cases c1:(bT b).2.2 != 0 with
  | true=>rfl
  | false=>
  rw [c1,cond_false] at h
  rw [cond_false]
  cases c2:(R (bT b).1).2 != 0 with
  | true=>rfl
  | false=>
  rw [c2,cond_false] at h
  rw [cond_false]
  cases c:(eX R n (bT b).2.1).2 != 0 with
  | true=>rfl
  | false=>rw [c] at h; exact absurd rfl h
theorem QQ (R:List UInt8->Vl × Int) (n:Nat) (b:List UInt8):eX R (n + 1) b=bif (bT b).2.2 != 0 then (([],[]),(bT b).2.2) else bif (R (bT b).1).2 != 0 then (([],[]),(R (bT b).1).2) else tV [(R (bT b).1).1] (eX R n (bT b).2.1):=by
 rw [wB]; rfl
theorem XQ {R:List UInt8->Vl × Int} (n:Nat) (b:List UInt8):tV [] (eX R n b)=eX R n b:=by
 have h:=aJY (R:=R) n b
 unfold tV
 generalize eX R n b=q at *
 obtain ⟨⟨x,y⟩,e⟩:=q
 cases hq:e != 0 with
 | true=>
  have h2:(x,y)=([],[]):=h (OB hq)
  rw [cond_true,h2]
 | false=>
  have:=qM hq
  subst this; rfl
def aDM (N:Nat):W.Spec:=fun av H K=>∃ (s:Sc) (t:Ty) (b:List UInt8),av=[.va (.gs (aC s)),.va (.gs (aQ t)),tS (mk b)]/\H=[]/\Dg s/\s.fit/\TyOk t/\valF s.ss s.es t=true/\(t.k == 5)=true/\lK s t < N + 1/\b.length<=1000000000/\
 K (.tu [.gs (aP (lJ (cK s N (t.e.headD default)) t.s b).1),iA .i64 (lJ (cK s N (t.e.headD default)) t.s b).2]) []
theorem aGZ {N:Nat} {s:Sc} {t:Ty} {b:List UInt8} {K:S->Hp->Prop} (hd:Dg s) (hs:s.fit) (ht:TyOk t) (hv:valF s.ss s.es t=true) (h5:(t.k == 5)=true) (hf:lK s t < N + 1) (hb:b.length<=1000000000)
 (hK:K (.tu [.gs (aP (lJ (cK s N (t.e.headD default)) t.s b).1),iA .i64 (lJ (cK s N (t.e.headD default)) t.s b).2]) []) :
 aDM N [.va (.gs [.vl (.int .i64 s.ver),.fz (s.es.map aX),.fz (s.ss.map aH)]),.va (.gs [.vl (.int .i64 t.k),.vl (.int .i64 t.s),.vl (.string t.n),.fz (t.e.map aQ)]),tS (mk b)] [] K:=⟨s,t,b,by rw [aM]; rfl,rfl,hd,hs,ht,hv,h5,hf,hb,hK⟩
theorem HX {N:Nat} (hD:Meets Tryz.prog 55 (AN N)):Meets Tryz.prog 99 (aDM N):=by
 refine aF Tryz.func99 aQM 3 (by rw [Tryz.ntmps99]; decide) (aE uS (aE MZ (aE hD (aA _)))) (fun av H K h=>by obtain ⟨_,_,_,rfl,_⟩:=h; rfl) ?_
 rintro av H K ⟨s,t,b,rfl,rfl,hd,hs,ht,hv,h5,hf,hb,hK⟩
 obtain ⟨u,he,hu⟩:=AT hv h5
 have hto:=ht.e u (by rw [he]; exact List.mem_singleton.2 rfl)
 have hfd:=Y7 (s:=s) h5 he
 have h32:=(oL hv).2 h5
 have h45:=aOT hv (.inr h5)
 rw [he] at hK
 have fin:∀ (v:Vl) (e:Int) (R:Hp),lJ (cK s N u) t.s b=(v,e)->W.Fin 0 K (.tu [.gs (aP v),iA .i64 e]) R:=fun v e R h=>by
  have hK:K (.tu [.gs (aP (lJ (cK s N u) t.s b).1),iA .i64 (lJ (cK s N u) t.s b).2]) []:=hK
  rw [h] at hK; exact .sel [] (by simp) (by simp) rfl (.done (by rw [aJ] at hK ⊢; simpa [go_sem] using hK))
 have fin2:∀ (l:List Vl),lJ (cK s N u) t.s b=(.mk 5 0 (mk []) l [],0)->K (.tu [.gs (aP (.mk 5 0 (mk []) l [])),iA .i64 0]) []:=fun l h=>by
  have hK:K (.tu [.gs (aP (lJ (cK s N u) t.s b).1),iA .i64 (lJ (cK s N u) t.s b).2]) []:=hK
  rw [h] at hK; exact hK
 clear hK
 unfold lJ at fin fin2
 have hcl:=rQ b
 have hcn:=aJX b
 simp (maxSteps:=1000000) -dsimp only [go_sem,aC,aM t,aGW,aDX]
 refine yY (by omega) ?_
 generalize bF b=z at *
 obtain ⟨n,r,e⟩:=z
 simp only at fin fin2 hcl hcn ⊢
 simp (maxSteps:=1000000) -dsimp only [go_sem]
 refine aB rfl (.done ?_)
 cases c1:e != 0 with
 | true=>
  rw [c1,cond_true] at fin
  simp (maxSteps:=1000000) -dsimp only [go_sem,w9,c1]
  exact fin v0 _ _ rfl
 | false=>
 rw [c1,cond_false] at fin fin2
 simp (maxSteps:=1000000) -dsimp only [go_sem,w9,c1]
 refine aB rfl (.done ?_)
 have hw:IntKind.u64.wrap t.s=t.s:=by
  have:=nN (n:=t.s.toNat) (by omega)
  rwa [Int.toNat_of_nonneg (by omega)] at this
 cases c2:decide (t.s < (n:Int)) with
 | true=>
  rw [c2,cond_true] at fin
  simp (maxSteps:=1000000) -dsimp only [go_sem,xH,hw,c2]
  exact fin v0 _ _ rfl
 | false=>
 rw [c2,cond_false] at fin fin2
 have c2':=of_decide_eq_false c2
 simp (maxSteps:=1000000) -dsimp only [go_sem,xH,hw,c2]
 refine aB rfl (.done ?_)
 simp (maxSteps:=1000000) -dsimp only [go_sem,EN]
 refine aB rfl (.done ?_)
 simp (maxSteps:=1000000) -dsimp only [go_sem,G3]
 refine cQ (α:=Nat × List UInt8 × List Vl) (fun z=>[(2,tS (mk z.2.1)),(3,.va (.c1 (.pt 0 0))),(4,.va (.c1 (.pt 1 0))),(6,.va (.c1 (.pt 2 0))),(10,.va (.c1 (.pt 3 0))),(32,iS .u64 n),(33,iS .u64 z.1)])
  (fun z=>[.cells [.vl (.int .i64 s.ver),.fz (s.es.map aX),.fz (s.ss.map aH)] 25,.cells [.vl (.int .i64 t.k),.vl (.int .i64 t.s),.vl (.string t.n),.fz (t.e.map aQ)] 42,.cells [.vl (.int .i64 0),.vl (.int .i64 0),.vl (.string (mk [])),.vl (.slice none 0 0),.vl (.slice none 0 0)] 29,
    .cells [.vl (.int .i64 5),.vl (.int .i64 0),.vl (.string (mk [])),.sl 4 z.2.2.length,.vl (.slice none 0 0)] 29,.row (z.2.2.map aP) 29 5])
  (fun z=>z.1<=n/\z.2.2.length=z.1/\z.2.1.length<=b.length/\tV z.2.2 (eX (cK s N u) (n - z.1) z.2.1)=eX (cK s N u) n r) (fun z=>n - z.1)
  (.nilc 3 3 29 5 [.vl (.int .i64 5),.vl (.int .i64 0),.vl (.string (mk [])),.vl (.slice none 0 0),.vl (.slice none 0 0)] 29 rfl rfl (jM (0,r,[]) 5 ⟨Nat.zero_le _,rfl,hcl.1,by rw [Nat.sub_zero]; exact XQ _ _⟩ ?_ ?_)) ?_
 · simp -dsimp only [go_sem]<;>simp
 · simp -dsimp only [go_sem]<;>simp
 rintro ⟨i,x,acc⟩ ⟨hi,hal,hxl,ho⟩
 simp only at hi hal hxl ho ⊢
 rcases a7 i n with hlt | hge
 · have hg:decide ((i:Int) < (n:Int))=true:=by simp; omega
   obtain ⟨m,hm⟩:∃ m,n - i=m + 1:=⟨n - i - 1,by omega⟩
   have hm':m=n - (i + 1):=by omega
   rw [hm,QQ] at ho
   have htl:=FL x
   simp (maxSteps:=1000000) -dsimp only [go_sem,hg]
   refine aB rfl (.done ?_)
   simp (maxSteps:=1000000) -dsimp only [go_sem,GW]
   refine I6 (by omega) ?_
   generalize bT x=z at *
   obtain ⟨c,q,e2⟩:=z
   simp only at ho htl ⊢
   simp (maxSteps:=1000000) -dsimp only [go_sem]
   refine aB rfl (.done ?_)
   cases d1:e2 != 0 with
   | true=>
    rw [d1,cond_true,KI acc d1] at ho
    rw [<-ho] at fin
    simp only [d1,cond_true] at fin
    simp (maxSteps:=1000000) -dsimp only [go_sem,tG,d1]
    exact fin v0 _ _ rfl
   | false=>
    rw [d1,cond_false] at ho
    simp (maxSteps:=1000000) -dsimp only [go_sem,tG,d1]
    refine aB rfl (.done ?_)
    have z0:(0:Int) < ((1:Nat):Int):=by decide
    have z1:(0:Int)<=0:=by decide
    have hvo:=sL hs hd N u c hto hu (by omega)
    simp (maxSteps:=1000000) -dsimp only [go_sem,AW,he,aM u,forall_eq',z0,z1,List.length_cons,List.length_nil,List.take_succ_cons,List.take_zero]
    refine OG hd hs hto hu (by omega) (by omega) ?_
    generalize cK s N u c=w at *
    obtain ⟨y,e3⟩:=w
    simp only at ho hvo ⊢
    simp (maxSteps:=1000000) -dsimp only [go_sem]
    refine aB rfl (.done ?_)
    cases d2:e3 != 0 with
    | true=>
     rw [d2,cond_true,KI acc d2] at ho
     rw [<-ho] at fin
     simp only [d2,cond_true] at fin
     simp (maxSteps:=1000000) -dsimp only [go_sem,s7,d2]
     exact fin v0 _ _ rfl
    | false=>
     rw [d2,cond_false,aAI,hm'] at ho
     simp (maxSteps:=1000000) -dsimp only [go_sem,s7,d2]
     refine aB rfl (.done ?_)
     simp (maxSteps:=1000000) -dsimp only [go_sem,y6,List.take_succ_cons,List.take_zero,List.length_cons,List.length_nil]
     refine ⟨by omega,by omega,aD (i + 1,q,acc ++ [y]) 5 ⟨by simp only; omega,by simp only [List.length_append,List.length_singleton]; omega,by simp only; omega,ho⟩ (by simp only; omega) ?_ ?_⟩
     · simp -dsimp only [go_sem]<;>simp
     · simp -dsimp only [go_sem,he,aM u]<;>simp [he,aM u,aJ y]
 · have hg:decide ((i:Int) < (n:Int))=false:=by simp; omega
   obtain rfl:i=n:=by omega
   rw [Nat.sub_self] at ho
   have ho:((acc ++ [],x),(0:Int))=eX (cK s N u) i r:=ho
   rw [List.append_nil] at ho
   rw [<-ho] at fin fin2
   simp only [bne_self_eq_false,cond_false] at fin fin2
   simp (maxSteps:=1000000) -dsimp only [go_sem,hg]
   refine aB rfl (.done ?_)
   cases d1:x == [] with
   | false=>
    rw [d1] at fin
    simp (maxSteps:=1000000) -dsimp only [go_sem,tC,d1,Bool.not_false]
    exact fin v0 _ _ rfl
   | true=>
    rw [d1] at fin2
    simp (maxSteps:=1000000) -dsimp only [go_sem,tC,d1,Bool.not_true]
    refine .pub 4 _ _ _ rfl (.sel [] (by simp) (by simp [cD]) rfl (.done ?_))
    have:=fin2 acc rfl
    rw [aJ] at this
    simp -dsimp only [go_sem,cD]
    simpa [Vl.k,Vl.n,Vl.s,Vl.l,Vl.f,hal] using this
def lH (L:List (Int × Vl)):List Value:=L.map fun y=>.int .i64 y.1
def mW (L:List (Int × Vl)):List A:=L.map fun y=>.gs (aP y.2)
theorem MR (k:Int):∀ (L:List (Int × Vl)),eZ (lH L) (mW L) (.int .i64 k)=(dQ L k).map fun y=>.gs (aP y.2)
 | []=>rfl
 | y :: L=>by
  have ih:=MR k L
  unfold eZ at ih ⊢
  show ((gP (.int .i64 y.1 :: lH L) (.int .i64 k)).bind fun i=>(A.gs (aP y.2) :: mW L)[i]?)=_
  rw [gP,RH]
  show ((bif k == y.1 then some 0 else (gP (lH L) (.int .i64 k)).map (· + 1)).bind fun i=>(A.gs (aP y.2) :: mW L)[i]?)=_
  by_cases h:y.1=k
  · rw [if_pos h,show (k == y.1)=true by simp [h]]; rfl
  · rw [if_neg h,show (k == y.1)=false by simp; omega,cond_false,<-ih]
    cases gP (lH L) (.int .i64 k)<;>rfl
theorem OS {L:List (Int × Vl)} {k:Int} (h:∀ x ∈ L,x.1 < k):gP (lH L) (.int .i64 k)=none:=by
 induction L with
 | nil=>rfl
 | cons y L ih=>
  show gP (.int .i64 y.1 :: lH L) (.int .i64 k)=none
  rw [gP]
  show (bif k == y.1 then some 0 else (gP (lH L) (.int .i64 k)).map (· + 1))=none
  have:=h y (List.mem_cons_self ..)
  rw [show (k == y.1)=false by simp; omega,cond_false,ih fun x hx=>h x (List.mem_cons_of_mem _ hx)]; rfl
theorem Y2 {L:List (Int × Vl)} {k:Int} (h:∀ x ∈ L,x.1 < k) (v:Vl):gU (lH L) (.int .i64 k)=lH (L ++ [(k,v)]):=by
 unfold gU
 rw [OS h]
 unfold lH
 rw [List.map_append]; rfl
theorem ZY {L:List (Int × Vl)} {k:Int} (h:∀ x ∈ L,x.1 < k) (v:Vl):hT (lH L) (mW L) (.int .i64 k) (.gs (aP v))=mW (L ++ [(k,v)]):=by
 unfold hT
 rw [OS h]
 unfold mW
 rw [List.map_append]; rfl
theorem Z3 {s:Sc} {t:Ty} {z:Vl} {K:S->Hp->Prop} (h1:s.fit) (h2:TyOk t) (hz:z=zF s 23 t) (hK:K (.va (.gs [.vl (.int .i64 z.k),.vl (.int .i64 z.n),.vl (.string z.s),.fz (z.l.map aP),.fz (z.f.map a8)])) []) :
 GA [.va (.gs [.vl (.int .i64 s.ver),.fz (s.es.map aX),.fz (s.ss.map aH)]),.va (.gs [.vl (.int .i64 t.k),.vl (.int .i64 t.s),.vl (.string t.n),.fz (t.e.map aQ)])] [] K:=by
 subst hz
 exact y8 h1 h2 (by rw [aJ]; exact hK)
theorem ZI (f:Nat->Option Nat) (v:Vl):(aP v).map (C.ren f)=aP v:=by rw [aJ]; rfl
theorem iZ (f:Nat->Option Nat) (L:List (Int × Vl)):(mW L).map (A.ren f)=mW L:=by
 unfold mW
 rw [List.map_map]
 refine List.map_congr_left fun y _=>?_
 show A.gs ((aP y.2).map (C.ren f))=_
 rw [ZI]
theorem QE {s:Sc} {fs:List Fl} {L:List (Int × Vl)} {i:Nat} {f:Fl} (h:fs[i]? = some f):m6 s (fs.take (i + 1)) L=m6 s (fs.take i) L ++ J2 s L f:=by
 unfold m6; rw [dH h,List.flatMap_append]; simp
structure DsP (N:Nat) (s:Sc) (u:St):Prop where
 d:Dg s
 f:s.fit
 t:∃ t:Ty,stOf s t=u
 n:∀ f ∈ u.fs,lK s f.ty < N
def U1 (N:Nat):W.Spec:=fun av H K=>∃ (s:Sc) (u:St) (b:List UInt8),av=[.va (.gs (aC s)),.va (.gs (aH u)),tS (mk b)]/\H=[]/\DsP N s u/\b.length<=1000000000/\K (.tu [.gs (aP (m8 (cK s N) s u.fs b).1),iA .i64 (m8 (cK s N) s u.fs b).2]) []
theorem H7 {N:Nat} {s:Sc} {u:St} {b:List UInt8} {K:S->Hp->Prop} (hp:DsP N s u) (hb:b.length<=1000000000) (hK:K (.tu [.gs (aP (m8 (cK s N) s u.fs b).1),iA .i64 (m8 (cK s N) s u.fs b).2]) []) :
 U1 N [.va (.gs [.vl (.int .i64 s.ver),.fz (s.es.map aX),.fz (s.ss.map aH)]),.va (.gs [.vl (.string u.nm),.fz (u.fs.map aN)]),tS (mk b)] [] K:=⟨s,u,b,rfl,rfl,hp,hb,hK⟩
noncomputable def JM (N:Nat):cP:=[(53,.s DF),(54,.s pV),(55,.s (AN N)),(45,.s GA),(44,.f eqFn2)]
theorem aEN (N:Nat):sp (JM N) 53=DF:=rfl
theorem aC0 (N:Nat):sp (JM N) 54=pV:=rfl
theorem aD8 (N:Nat):sp (JM N) 55=AN N:=rfl
theorem MP (N:Nat):sp (JM N) 45=GA:=rfl
theorem yO (N:Nat):nO (JM N) 44=some eqFn2:=rfl
abbrev zvC:List C:=[.vl (.int .i64 0),.vl (.int .i64 0),.vl (.string (mk [])),.vl (.slice none 0 0),.vl (.slice none 0 0)]
theorem qI {N:Nat} (hD:Meets Tryz.prog 55 (AN N)):Meets Tryz.prog 30 (U1 N):=by
 refine aF (Γ:=JM N) Tryz.func30 aNR 3 (by rw [Tryz.ntmps30]; decide) (aE YT (aE qT (aE hD (aE UW (aG H8 (aA _)))))) (fun av H K h=>by obtain ⟨_,_,_,rfl,_⟩:=h; rfl) ?_
 rintro av H K ⟨s,u,b,rfl,rfl,⟨hd,hs,⟨t,htu⟩,hfd⟩,hb,hK⟩
 have hnst:=hd.ni.stOf t
 have huo:=gK hs t
 rw [htu] at hnst huo
 have hus:∀ f ∈ u.fs,TySm f.ty:=by
  rw [<-htu]
  unfold stOf
  cases hf:fS s.ss t.n with
  | none=>exact fun f hf=>(List.not_mem_nil hf).elim
  | some w=>exact (hs.sm w (fG hf).1).2
 have hul:=hnst.l
 have fin:∀ (v:Vl) (e:Int) (R:Hp),m8 (cK s N) s u.fs b=(v,e)->W.Fin 0 K (.tu [.gs (aP v),iA .i64 e]) R:=fun v e R h=>by
  rw [h] at hK; exact .sel [] (by simp) (by simp) rfl (.done (by rw [aJ] at hK ⊢; simpa [go_sem] using hK))
 have fin2:∀ (l:List (Int × Vl)),m8 (cK s N) s u.fs b=(.mk 6 0 (mk []) [] l,0)->K (.tu [.gs (aP (.mk 6 0 (mk []) [] l)),iA .i64 0]) []:=fun l h=>by rw [h] at hK; exact hK
 clear hK
 unfold m8 at fin fin2
 simp (maxSteps:=1000000) -dsimp only [go_sem,aC,aH,aD3,aAN]
 refine aL (α:=Nat × Int × List UInt8 × List (Int × Vl)) (fun z=>[(2,tS (mk z.2.2.1)),(3,.va (.c1 (.pt 0 0))),(4,.va (.c1 (.pt 1 0))),(6,.va (.c1 (.pt 2 0))),(8,.va (.c1 (.mp 3))),(9,iS .i64 z.2.1)])
  (fun z=>[.cells [.vl (.int .i64 s.ver),.fz (s.es.map aX),.fz (s.ss.map aH)] 25,.cells [.vl (.string u.nm),.fz (u.fs.map aN)] 48,.cells zvC 29,.map (.int .i64) (lH z.2.2.2) (mW z.2.2.2)])
  (fun z=>z.2.2.1.length<=z.1/\z.2.2.1.length<=b.length/\(∀ x ∈ z.2.2.2,x.1<=z.2.1/\VlOk x.2)/\nG z.2.2.2 (gQ (cK s N) s u.fs z.1 z.2.1 z.2.2.1)=gQ (cK s N) s u.fs b.length 0 b) (fun z=>z.1) (b.length,0,b,[]) 4
  ⟨Nat.le_refl _,Nat.le_refl _,fun x h=>(by cases h),X1 (V8 _ _ _)⟩ ?_ ?_ ?_
 · simp -dsimp only [go_sem]<;>simp
 · simp -dsimp only [go_sem]<;>simp [lH,mW]
 rintro ⟨g,last,x,acc⟩ ⟨hg,hl,ha,ho⟩
 simp only at hg hl ha ho ⊢
 by_cases hb0:x=[]
 · subst hb0
   have e0:(([]:List UInt8) == [])=true:=rfl
   rw [IU,aB7,List.append_nil] at ho
   rw [<-ho] at fin2
   have fin2:=fin2 (m6 s u.fs acc) rfl
   simp (maxSteps:=1000000) -dsimp only [go_sem,e0,Bool.not_true]
   refine aB rfl (.done ?_)
   simp (maxSteps:=1000000) -dsimp only [go_sem,zU]
   refine aB rfl (.done ?_)
   simp (maxSteps:=1000000) -dsimp only [go_sem,BA]
   clear ho hg hl e0
   refine cQ (α:=Nat) (fun i=>[(3,.va (.c1 (.pt 0 0))),(6,.va (.c1 (.pt 2 0))),(8,.va (.c1 (.mp 3))),(16,.va (.c1 (.pt 4 0))),(92,.va (.c1 (.fz (u.fs.map aN)))),(93,iS .i64 u.fs.length),(94,iS .i64 i)])
    (fun i=>[.cells [.vl (.int .i64 s.ver),.fz (s.es.map aX),.fz (s.ss.map aH)] 25,.cells [.vl (.string u.nm),.fz (u.fs.map aN)] 48,.cells zvC 29,.map (.int .i64) (lH acc) (mW acc),
      .cells [.vl (.int .i64 6),.vl (.int .i64 0),.vl (.string (mk [])),.vl (.slice none 0 0),.sl 5 (m6 s (u.fs.take i) acc).length] 29,.row ((m6 s (u.fs.take i) acc).map a8) 76 6])
    (fun i=>i<=u.fs.length) (fun i=>u.fs.length - i) (.nilc 4 4 76 6 _ _ rfl rfl (jM 0 6 (Nat.zero_le _) ?_ ?_)) ?_
   · simp -dsimp only [go_sem]<;>simp
   · simp -dsimp only [go_sem]<;>simp [m6,iZ]
   intro i hi
   have hli:=Nat.le_trans (IP s (u.fs.take i) acc) (List.length_take_le i u.fs)
   rcases a7 i u.fs.length with hlt | hge
   · have hg:decide ((i:Int) < (u.fs.length:Int))=true:=by simp; omega
     have hx:u.fs[i]? = some u.fs[i]:=aU hlt
     have q2:=aR (row:=aN) hx
     have hfo:=(huo.fs _ (List.getElem_mem hlt)).ty
     have hnx:=QE (s:=s) (L:=acc) hx
     generalize u.fs[i]=f at *
     unfold J2 at hnx
     have hmi:=MR f.num acc
     simp (maxSteps:=1000000) -dsimp only [go_sem,hg,↓q2,aN]
     refine ⟨by omega,aB rfl (.done ?_)⟩
     cases hv:dQ acc f.num with
     | some y=>
      rw [hv] at hmi hnx
      have hmi:eZ (lH acc) (mW acc) (.int .i64 f.num)=some (.gs [.vl (.int .i64 y.2.k),.vl (.int .i64 y.2.n),.vl (.string y.2.s),.fz (y.2.l.map aP),.fz (y.2.f.map a8)]):=by rw [hmi,<-aJ]; rfl
      have hnx:m6 s (u.fs.take (i + 1)) acc=m6 s (u.fs.take i) acc ++ [(f.num,y.2)]:=hnx
      simp (maxSteps:=1000000) -dsimp only [go_sem,tJ,hmi,WL]
      refine aB rfl (.done ?_)
      simp (maxSteps:=1000000) -dsimp only [go_sem,oP,Bool.not_true,Bool.false_and]
      refine aB rfl (.done ?_)
      simp (maxSteps:=1000000) -dsimp only [go_sem,sJ,Bool.not_true]
      refine aB rfl (.done ?_)
      simp (maxSteps:=1000000) -dsimp only [go_sem,tE,List.take_succ_cons,List.take_zero,List.length_cons,List.length_nil]
      refine ⟨by omega,by omega,aD (i + 1) 6 (by omega) (by omega) ?_ ?_⟩
      · simp -dsimp only [go_sem]<;>simp
      · simp -dsimp only [go_sem,hnx]<;>simp [iZ,jO]
     | none=>
      rw [hv] at hmi hnx
      have hmi:eZ (lH acc) (mW acc) (.int .i64 f.num)=none:=hmi
      have hnx:m6 s (u.fs.take (i + 1)) acc=m6 s (u.fs.take i) acc ++ (bif f.opt then [] else [(f.num,zF s 23 f.ty)]):=hnx
      simp (maxSteps:=1000000) -dsimp only [go_sem,tJ,hmi,WL]
      refine aB rfl (.done ?_)
      cases hopt:f.opt with
      | true=>
       rw [hopt,cond_true,List.append_nil] at hnx
       simp (maxSteps:=1000000) -dsimp only [go_sem,oP,Bool.not_false,Bool.true_and,hopt]
       refine ⟨by omega,aD (i + 1) 6 (by omega) (by omega) ?_ ?_⟩
       · simp -dsimp only [go_sem]<;>simp
       · simp -dsimp only [go_sem,hnx]<;>simp [iZ]
      | false=>
       rw [hopt,cond_false] at hnx
       simp (maxSteps:=1000000) -dsimp only [go_sem,oP,Bool.not_false,Bool.true_and,hopt]
       refine aB rfl (.done ?_)
       simp (maxSteps:=1000000) -dsimp only [go_sem,sJ,Bool.not_false]
       refine aB rfl (.done ?_)
       simp (maxSteps:=1000000) -dsimp only [go_sem,AD,MP,List.take_succ_cons,List.take_zero,List.drop_succ_cons,List.drop_zero,List.length_cons,List.length_nil]
       refine y8 hs hfo ?_
       generalize zF s 23 f.ty=w at *
       simp (maxSteps:=1000000) -dsimp only [go_sem,aJ w]
       refine aB rfl (.done ?_)
       simp (maxSteps:=1000000) -dsimp only [go_sem,tE,List.take_succ_cons,List.take_zero,List.length_cons,List.length_nil]
       refine ⟨by omega,by omega,aD (i + 1) 6 (by omega) (by omega) ?_ ?_⟩
       · simp -dsimp only [go_sem]<;>simp
       · simp -dsimp only [go_sem,hnx]<;>simp [iZ,jO]
   · have hg:decide ((i:Int) < (u.fs.length:Int))=false:=by simp; omega
     rw [List.take_of_length_le hge] at *
     simp (maxSteps:=1000000) -dsimp only [go_sem,hg]
     refine .pub 5 _ _ _ rfl (.sel [] (by simp) (by simp [cD]) rfl (.done ?_))
     rw [aJ] at fin2
     simp -dsimp only [go_sem,cD]
     simpa [Vl.k,Vl.n,Vl.s,Vl.l,Vl.f] using fin2
 · have e0:(x == [])=false:=by simpa using hb0
   obtain ⟨g,rfl⟩:∃ k,g=k + 1:=⟨g - 1,by have:=List.length_pos_iff.2 hb0; omega⟩
   rw [uM hb0] at ho
   have hfl:=MA x last
   have hfo:=aJ6 x last
   simp (maxSteps:=1000000) -dsimp only [go_sem,e0,Bool.not_false]
   refine aB rfl (.done ?_)
   simp (maxSteps:=1000000) -dsimp only [go_sem,HO,aEN]
   refine ZU (by omega) ?_
   generalize bJ x last=z at *
   obtain ⟨⟨a,c⟩,r,e⟩:=z
   simp only at ho hfl hfo ⊢
   simp (maxSteps:=1000000) -dsimp only [go_sem]
   refine aB rfl (.done ?_)
   cases c1:e != 0 with
   | true=>
    rw [c1,cond_true,yX acc c1] at ho
    rw [<-ho] at fin
    simp only [c1,cond_true] at fin
    simp (maxSteps:=1000000) -dsimp only [go_sem,xU,c1]
    exact fin v0 _ _ rfl
   | false=>
   rw [c1,cond_false] at ho
   have hlt:=hfl.2.2 (qM c1)
   obtain ⟨ha1,ha2,ha3⟩:last < a/\0<=a/\a<=2147483647:=by
    rcases hfo with h | ⟨_,h1,h2,h3,_⟩
    · exact absurd (qM c1) h
    · exact ⟨h1,h2,h3⟩
   simp (maxSteps:=1000000) -dsimp only [go_sem,xU,c1]
   refine aB rfl (.done ?_)
   simp (maxSteps:=1000000) -dsimp only [go_sem,E5]
   refine aB rfl (.done ?_)
   simp (maxSteps:=1000000) -dsimp only [go_sem,HS,aC0]
   refine zW (t:=u) huo hus ?_
   cases hf:fF u.fs a with
   | none=>
    rw [hf] at ho
    simp only [Option.isSome_none,Bool.not_false,cond_true] at ho
    simp (maxSteps:=1000000) -dsimp only [go_sem,Option.getD_none,Option.isSome_none,sG]
    refine aB rfl (.done ?_)
    simp (maxSteps:=1000000) -dsimp only [go_sem,wF,Bool.not_false]
    refine aD (g,a,r,acc) 4 ⟨by simp only; omega,by simp only; omega,fun y hy=>⟨by have:=(ha y hy).1; simp only; omega,(ha y hy).2⟩,ho⟩ (by simp only; omega) ?_ ?_
    · simp -dsimp only [go_sem]<;>simp
    · simp -dsimp only [go_sem]<;>simp [iZ]
   | some f=>
    obtain ⟨hfm,hfe⟩:=YX hf
    have hfo:=(huo.fs f hfm).ty
    have hfv:=hnst.v f hfm
    have hfN:=hfd f hfm
    have hvo:=sL hs hd N f.ty c hfo hfv (by omega)
    have hnew:∀ y ∈ acc,y.1 < a:=fun y hy=>by have:=(ha y hy).1; omega
    rw [hf] at ho
    simp only [Option.isSome_some,Bool.not_true,cond_false,Option.getD_some] at ho
    unfold EP at ho
    simp (maxSteps:=1000000) -dsimp only [go_sem,Option.getD_some,Option.isSome_some,aN]
    refine aB rfl (.done ?_)
    simp (maxSteps:=1000000) -dsimp only [go_sem,wF,Bool.not_true]
    refine aB rfl (.done ?_)
    simp (maxSteps:=1000000) -dsimp only [go_sem,AI,aD8]
    refine OG hd hs hfo hfv hfN (by omega) ?_
    generalize cK s N f.ty c=w at *
    obtain ⟨v,e2⟩:=w
    simp only at ho hvo ⊢
    simp (maxSteps:=1000000) -dsimp only [go_sem]
    refine aB rfl (.done ?_)
    cases d1:e2 != 0 with
    | true=>
     have d0:(e2 == 0)=false:=by simpa using OB d1
     rw [d1,cond_true,d1,cond_true,yX acc d1] at ho
     rw [<-ho] at fin
     simp only [d1,cond_true] at fin
     simp (maxSteps:=1000000) -dsimp only [go_sem,oQ,iX,d0,Bool.false_and]
     refine aB rfl (.done ?_)
     simp (maxSteps:=1000000) -dsimp only [go_sem,i5,d1]
     exact fin v0 _ _ rfl
    | false=>
     have d0:=qM d1
     subst d0
     have e00:((0:Int) == 0)=true:=rfl
     have e20:((2:Int) != 0)=true:=rfl
     rw [d1,cond_false] at ho
     have hpk:=Y2 hnew v
     have hpv:=ZY hnew v
     rw [aJ v] at hpv
     have bad:(!f.opt && (eL v (zF s 23 f.ty) && (f.ty.k != 6 || c == [])))=true->∀ R:Hp,W.Fin 0 K (.tu [.gs (aP v0),iA .i64 2]) R:=fun h R=>by
      rw [h,cond_true,e20,cond_true,yX acc e20] at ho
      rw [<-ho] at fin
      exact fin v0 2 R rfl
     have good:(!f.opt && (eL v (zF s 23 f.ty) && (f.ty.k != 6 || c == [])))=false->nG (acc ++ [(a,v)]) (gQ (cK s N) s u.fs g a r)=gQ (cK s N) s u.fs b.length 0 b:=fun h=>by
      rw [h,cond_false,d1,cond_false,aFK] at ho
      exact ho
     have hacc:∀ y ∈ acc ++ [(a,v)],y.1<=a/\VlOk y.2:=fun y hy=>by
      rcases List.mem_append.1 hy with hy | hy
      · exact ⟨by have:=hnew y hy; omega,(ha y hy).2⟩
      · obtain rfl:=List.mem_singleton.1 hy; exact ⟨Int.le_refl _,hvo⟩
     clear ho fin fin2
     cases hopt:f.opt with
     | true=>
      rw [hopt] at good
      have good:=good rfl
      simp (maxSteps:=1000000) -dsimp only [go_sem,oQ,iX,e00,hopt,Bool.not_true,Bool.true_and,Bool.false_and]
      refine aB rfl (.done ?_)
      simp (maxSteps:=1000000) -dsimp only [go_sem,i5,d1]
      refine aB rfl (.done ?_)
      simp (maxSteps:=1000000) -dsimp only [go_sem,oD,hpk,hpv]
      refine aD (g,a,r,acc ++ [(a,v)]) 4 ⟨by simp only; omega,by simp only; omega,hacc,good⟩ (by simp only; omega) ?_ ?_
      · simp -dsimp only [go_sem]<;>simp
      · simp -dsimp only [go_sem]<;>simp [iZ]
     | false=>
      rw [hopt] at good bad
      simp only [Bool.not_false,Bool.true_and] at good bad
      have hzo:=wV hs 23 f.ty hfo
      obtain ⟨z,hz⟩:∃ z,z=zF s 23 f.ty:=⟨_,rfl⟩
      rw [<-hz] at good bad hzo
      simp (maxSteps:=1000000) -dsimp only [go_sem,oQ,e00,hopt,Bool.not_false,Bool.not_true,Bool.true_and,Bool.false_and,MP]
      refine Z3 hs hfo hz ?_
      clear hz
      have k1:=b9 hvo
      have k2:=dS v
      have kz1:=b9 hzo
      have kz2:=dS z
      cases heq:eL v z with
      | false=>
       rw [heq] at good
       have good:=good rfl
       simp (maxSteps:=1000000) -dsimp only [go_sem,iX,yO,k1,k2,kz1,kz2,heq,Bool.true_and,Bool.false_and]
       refine aB rfl (.done ?_)
       simp (maxSteps:=1000000) -dsimp only [go_sem,i5,d1]
       refine aB rfl (.done ?_)
       simp (maxSteps:=1000000) -dsimp only [go_sem,oD,hpk,hpv]
       refine aD (g,a,r,acc ++ [(a,v)]) 4 ⟨by simp only; omega,by simp only; omega,hacc,good⟩ (by simp only; omega) ?_ ?_
       · simp -dsimp only [go_sem]<;>simp
       · simp -dsimp only [go_sem]<;>simp [iZ]
      | true=>
       rw [heq] at good bad
       simp only [Bool.true_and] at good bad
       cases h6:f.ty.k != 6 with
       | true=>
        rw [h6] at bad
        have bad:=bad rfl
        simp (maxSteps:=1000000) -dsimp only [go_sem,iX,yO,k1,k2,kz1,kz2,heq,h6,Bool.true_and,Bool.true_or]
        refine aB rfl (.done ?_)
        simp (maxSteps:=1000000) -dsimp only [go_sem,i5,e20]
        exact bad _
       | false=>
        rw [h6] at good bad
        simp only [Bool.false_or] at good bad
        cases hc:c == [] with
        | true=>
         have bad:=bad hc
         simp (maxSteps:=1000000) -dsimp only [go_sem,iX,yO,k1,k2,kz1,kz2,heq,h6,hc,Bool.true_and,Bool.false_or]
         refine aB rfl (.done ?_)
         simp (maxSteps:=1000000) -dsimp only [go_sem,i5,e20]
         exact bad _
        | false=>
         have good:=good hc
         simp (maxSteps:=1000000) -dsimp only [go_sem,iX,yO,k1,k2,kz1,kz2,heq,h6,hc,Bool.true_and,Bool.false_or]
         refine aB rfl (.done ?_)
         simp (maxSteps:=1000000) -dsimp only [go_sem,i5,d1]
         refine aB rfl (.done ?_)
         simp (maxSteps:=1000000) -dsimp only [go_sem,oD,hpk,hpv]
         refine aD (g,a,r,acc ++ [(a,v)]) 4 ⟨by simp only; omega,by simp only; omega,hacc,good⟩ (by simp only; omega) ?_ ?_
         · simp -dsimp only [go_sem]<;>simp
         · simp -dsimp only [go_sem]<;>simp [iZ]
theorem uU:∀ N,Meets Tryz.prog 55 (AN N)
 | 0=>⟨by kernel_rfl,by rintro xs vs E ro w K _ _ _ ⟨s,t,_,_,_,_,_,_,_,h,_⟩; have:=BJ s t; omega⟩
 | N + 1=>by
  refine aF Tryz.func55 aRB 3 (by rw [Tryz.ntmps55]; decide) (aE HY (aE CX (aE (HX (uU N)) (aE kB (aE (qI (uU N)) (aA _)))))) (fun av H K h=>by obtain ⟨_,_,_,rfl,_⟩:=h; rfl) ?_
  rintro av H K ⟨s,t,b,rfl,rfl,hd,hs,ht,hv,hf,hb,hK⟩
  have fin:∀ (v:Vl) (e:Int) (R:Hp),cK s (N + 1) t b=(v,e)->W.Fin 0 K (.tu [.gs [.vl (.int .i64 v.k),.vl (.int .i64 v.n),.vl (.string v.s),.fz (v.l.map aP),.fz (v.f.map a8)],iA .i64 e]) R:=fun v e R h=>by
   rw [h] at hK; exact .sel [] (by simp) (by simp) rfl (.done (by rw [aJ] at hK; simpa [go_sem] using hK))
  clear hK
  rw [FV] at fin
  simp (maxSteps:=1000000) -dsimp only [go_sem,aC,aM t,aFU,aA0]
  refine aB rfl (.done ?_)
  cases c1:t.k == 1 with
  | true=>
   rw [c1,cond_true] at fin
   simp (maxSteps:=1000000) -dsimp only [go_sem,kR,c1]
   refine aGS (by omega) ?_
   generalize tN b=w at *
   obtain ⟨v,e⟩:=w
   simp (maxSteps:=1000000) -dsimp only [go_sem,aJ v]
   exact fin _ _ _ rfl
  | false=>
  rw [c1,cond_false] at fin
  cases c2:t.k == 2 || (t.k == 3 || t.k == 7) with
  | true=>
   rw [c2,cond_true] at fin
   have go:∀ b2 b3 b7:Bool,(t.k == 2)=b2->(t.k == 3)=b3->(t.k == 7)=b7->(b2 || (b3 || b7))=true:=fun b2 b3 b7 h1 h3 h7=>by rw [<-h1,<-h3,<-h7]; exact c2
   cases q2:t.k == 2<;>cases q3:t.k == 3<;>cases q7:t.k == 7<;>first
    | exact absurd (go _ _ _ q2 q3 q7) (by decide)
    | (simp (maxSteps:=1000000) -dsimp only [go_sem,kR,c1,q2,q3,q7]
       refine aBV hd hs ht hv c2 (by omega) ?_
       generalize t6 s t b=w at *
       obtain ⟨v,e⟩:=w
       simp (maxSteps:=1000000) -dsimp only [go_sem,aJ v]
       exact fin _ _ _ rfl)
  | false=>
  have c2':=c2
  rw [Bool.or_eq_false_iff,Bool.or_eq_false_iff] at c2'
  rw [c2,cond_false] at fin
  cases c4:t.k == 4 with
  | true=>
   rw [c4,cond_true] at fin
   unfold UL at fin
   cases d:decide (t.s < (b.length:Int)) with
   | true=>
    rw [d,cond_true] at fin
    simp (maxSteps:=1000000) -dsimp only [go_sem,kR,c1,c2'.1,c2'.2.1,c2'.2.2,c4,d]
    exact fin v0 _ _ rfl
   | false=>
    rw [d,cond_false] at fin
    simp (maxSteps:=1000000) -dsimp only [go_sem,kR,c1,c2'.1,c2'.2.1,c2'.2.2,c4,d]
    exact fin (.mk 4 0 (mk b) [] []) _ _ rfl
  | false=>
  rw [c4,cond_false] at fin
  cases c5:t.k == 5 with
  | true=>
   rw [c5,cond_true] at fin
   simp (maxSteps:=1000000) -dsimp only [go_sem,kR,c1,c2'.1,c2'.2.1,c2'.2.2,c4,c5]
   refine aGZ hd hs ht hv c5 hf hb ?_
   generalize lJ (cK s N (t.e.headD default)) t.s b=w at *
   obtain ⟨v,e⟩:=w
   simp (maxSteps:=1000000) -dsimp only [go_sem,aJ v]
   exact fin _ _ _ rfl
  | false=>
   rw [c5,cond_false] at fin
   have c6:=LB hv c1 c2 c4 c5
   have hst:=w4 hd hv c6
   have hfd:=FK (s:=s) c6
   have hp:DsP N s (stOf s t):=⟨hd,hs,⟨t,rfl⟩,fun f hf=>by have:=hst.2.2 f hf; omega⟩
   simp (maxSteps:=1000000) -dsimp only [go_sem,kR,c1,c2'.1,c2'.2.1,c2'.2.2,c4,c5]
   refine aB rfl (.done ?_)
   simp (maxSteps:=1000000) -dsimp only [go_sem,AJ]
   refine eO hs ?_
   rw [show (fS s.ss t.n).getD default=stOf s t from rfl]
   generalize stOf s t=u at *
   simp (maxSteps:=1000000) -dsimp only [go_sem,aH]
   refine aB rfl (.done ?_)
   simp (maxSteps:=1000000) -dsimp only [go_sem,A9]
   refine H7 hp hb ?_
   generalize m8 (cK s N) s u.fs b=w at *
   obtain ⟨v,e⟩:=w
   simp (maxSteps:=1000000) -dsimp only [go_sem,aJ v]
   exact fin _ _ _ rfl
def F8:W.Spec:=fun av H K=>∃ (s:Sc) (nm:ByteArray) (b:List UInt8),av=[.va (.gs (aC s)),tS nm,tS (mk b)]/\H=[]/\s.fit/\b.length<=9223372036854775807/\K (.tu [.gs (aP (oK s nm b).1),iA .i64 (oK s nm b).2]) []
theorem aBY {s:Sc} {nm:ByteArray} {b:List UInt8} {K:S->Hp->Prop} (h1:s.fit) (h2:b.length<=9223372036854775807)
 (hK:K (.tu [.gs [.vl (.int .i64 (oK s nm b).1.k),.vl (.int .i64 (oK s nm b).1.n),.vl (.string (oK s nm b).1.s),.fz ((oK s nm b).1.l.map aP),.fz ((oK s nm b).1.f.map a8)],iA .i64 (oK s nm b).2]) []) :
 F8 [.va (.gs [.vl (.int .i64 s.ver),.fz (s.es.map aX),.fz (s.ss.map aH)]),tS nm,tS (mk b)] [] K:=⟨s,nm,b,rfl,rfl,h1,h2,by rw [aJ]; exact hK⟩
theorem ZF:Meets Tryz.prog 12 F8:=by
 refine aF Tryz.func12 aRM 3 (by rw [Tryz.ntmps12]; decide) (aE JO (aE (qI (uU 8)) (aA _))) (fun av H K h=>by obtain ⟨_,_,_,rfl,_⟩:=h; rfl) ?_
 rintro av H K ⟨s,nm,b,rfl,rfl,hs,hb,hK⟩
 have fin:∀ (v:Vl) (e:Int) (R:Hp),oK s nm b=(v,e)->W.Fin 0 K (.tu [.gs [.vl (.int .i64 v.k),.vl (.int .i64 v.n),.vl (.string v.s),.fz (v.l.map aP),.fz (v.f.map a8)],iA .i64 e]) R:=fun v e R h=>by
  rw [h] at hK; exact .sel [] (by simp) (by simp) rfl (.done (by rw [aJ] at hK; simpa [go_sem] using hK))
 clear hK
 unfold oK at fin
 simp (maxSteps:=1000000) -dsimp only [go_sem,aC,aFT,aDA]
 refine OF hs ?_
 have hch:oM s nm=bif bI s != 0 then (default,bI s) else bif !(cE s.ss nm) then (default,6) else (stOf s (dR nm),0):=rfl
 cases c1:bI s != 0 with
 | true=>
  rw [c1,cond_true] at fin hch
  rw [hch]
  simp (maxSteps:=1000000) -dsimp only [go_sem,pW]
  refine aB rfl (.done ?_)
  simp (maxSteps:=1000000) -dsimp only [go_sem,oI,c1]
  exact fin v0 _ _ rfl
 | false=>
 have hd:=KX hs (qM c1)
 rw [c1,cond_false] at fin hch
 cases c2:cE s.ss nm with
 | false=>
  rw [c2,Bool.not_false,cond_true] at fin hch
  rw [hch]
  simp (maxSteps:=1000000) -dsimp only [go_sem,pW]
  refine aB rfl (.done ?_)
  have g:((6:Int) != 0)=true:=rfl
  simp (maxSteps:=1000000) -dsimp only [go_sem,oI,g]
  exact fin v0 _ _ rfl
 | true=>
 rw [c2,Bool.not_true,cond_false] at fin hch
 rw [hch]
 obtain ⟨hfd,hv⟩:=aEE hd c2
 have hst:=w4 hd hv rfl
 have hp:DsP 8 s (stOf s (dR nm)):=⟨hd,hs,⟨dR nm,rfl⟩,fun f hf=>by have:=hst.2.2 f hf; have:=hst.2.1; omega⟩
 cases c3:decide (2000 < (b.length:Int)) with
 | true=>
  rw [c3,cond_true] at fin
  generalize stOf s (dR nm)=w at *
  simp (maxSteps:=1000000) -dsimp only [go_sem,aH]
  refine aB rfl (.done ?_)
  simp (maxSteps:=1000000) -dsimp only [go_sem,oI,bne_self_eq_false,c3]
  exact fin v0 _ _ rfl
 | false=>
  rw [c3,cond_false] at fin
  have hb2:=of_decide_eq_false c3
  generalize stOf s (dR nm)=w at *
  simp (maxSteps:=1000000) -dsimp only [go_sem,aH]
  refine aB rfl (.done ?_)
  simp (maxSteps:=1000000) -dsimp only [go_sem,oI,bne_self_eq_false,c3]
  refine aB rfl (.done ?_)
  simp (maxSteps:=1000000) -dsimp only [go_sem,FG]
  refine H7 hp (by omega) ?_
  generalize m8 (cK s 8) s w.fs b=z at *
  obtain ⟨v,e⟩:=z
  simp (maxSteps:=1000000) -dsimp only [go_sem,aJ v]
  exact fin _ _ _ rfl
def GQ:PC:=.seq (.gh (.reg [.v 32 3,.q 33 (.bin .eql true (.t 32) (.k (.string (mk [1,1,3,2,1,1])))),.v 34 33,⟨some 35,(some (34,true)),.q (.mv (.t 4))⟩,⟨some 36,(some (34,true)),.q (.bin .eql true (.t 35) (.i 0))⟩,.a 37 (.pick (.t 34) (.t 36) (.k (.bool false))),.v 38 37,⟨some 39,(some (38,true)),.l (.ldn 5 (.t 5))⟩,⟨some 40,(some (38,true)),.l (.ldn 5 (.t 2))⟩,⟨some 41,(some (38,true)),.cq 14 [(.t 39),(.t 40)]⟩,.a 42 (.pick (.t 38) (.t 41) (.k (.bool false))),.v 43 42,⟨some 44,(some (43,true)),.q (.mv (.t 6))⟩,⟨some 45,(some (43,true)),.q (.bin .eql true (.t 44) (.i 0))⟩,.a 46 (.pick (.t 43) (.t 45) (.k (.bool false))),.v 47 46,⟨some 48,(some (47,true)),.q (.mv (.t 8))⟩,⟨some 49,(some (47,true)),.q (.bin .eql true (.t 48) (.i 2))⟩,.a 50 (.pick (.t 47) (.t 49) (.k (.bool false))),.v 0 50])) .ret
@[go_sem ↓] theorem aPM:aS GQ:=aT _
def GB:PC:=.seq (.gh (.reg [.l 28 (.ldn 3 (.t 1)),.a 29 (.cl 12 [(.t 28),(.k (.string (mk [80]))),(.k (.string (mk [1,1,0])))] []),.v 27 29,.q 30 (.ex (.t 27) 0),.q 31 (.ex (.t 27) 1),.e 7 (.al (.agg #[(.int .i64 0),(.int .i64 0),(.string (mk [])),(.slice none 0 0),(.slice none 0 0)]) 29),.s (.st 5 (.t 7) (.t 30)),.v 8 31])) (GQ)
@[go_sem ↓] theorem aRX:aS GB:=aT _
def G9:PC:=.seq (.gh (.reg [.l 23 (.ldn 3 (.t 1)),.a 24 (.cl 12 [(.t 23),(.k (.string (mk [80]))),(.k (.string (mk [1,1,3,2,1,1])))] []),.v 22 24,.q 25 (.ex (.t 22) 0),.q 26 (.ex (.t 22) 1),.e 5 (.al (.agg #[(.int .i64 0),(.int .i64 0),(.string (mk [])),(.slice none 0 0),(.slice none 0 0)]) 29),.s (.st 5 (.t 5) (.t 25)),.v 6 26])) (GB)
@[go_sem ↓] theorem aPJ:aS G9:=aT _
def GY:PC:=.seq (.gh (.reg [.l 17 (.ldn 3 (.t 1)),.l 18 (.ldn 5 (.t 2)),.a 19 (.cl 9 [(.t 17),(.k (.string (mk [80]))),(.t 18)] []),.v 16 19,.q 20 (.ex (.t 16) 0),.q 21 (.ex (.t 16) 1),.v 3 20,.v 4 21])) (G9)
@[go_sem ↓] theorem aPZ:aS GY:=aT _
def aD2:PC:=.seq (.reg [.q 0 (.mv (.k (.bool false)))]) (.seq (.reg [.a 9 (.cl 29 [] []),.e 1 (.al (.agg #[(.int .i64 0),(.slice none 0 0),(.slice none 0 0)]) 25),.s (.st 3 (.t 1) (.t 9))]) (.seq (.reg [.q 10 (.bd [(.int .i64 0),(.int .i64 0),(.string (mk [])),(.slice none 0 0),(.slice none 0 0)] [(0,1,(.i 2)),(1,1,(.i (-2)))]),.q 11 (.bd [(.int .i64 0),(.int .i64 0),(.int .i64 0),(.string (mk [])),(.slice none 0 0),(.slice none 0 0)] [(0,1,(.i 1)),(1,5,(.t 10))]),.q 12 (.bd [(.int .i64 0),(.int .i64 0),(.string (mk [])),(.slice none 0 0),(.slice none 0 0)] [(0,1,(.i 1)),(1,1,(.i 1))]),.q 13 (.bd [(.int .i64 0),(.int .i64 0),(.int .i64 0),(.string (mk [])),(.slice none 0 0),(.slice none 0 0)] [(0,1,(.i 2)),(1,5,(.t 12))]),.e 14 (.bsl 76 6 [(.t 11),(.t 13)]),.q 15 (.bd [(.int .i64 0),(.int .i64 0),(.string (mk [])),(.slice none 0 0),(.slice none 0 0)] [(0,1,(.i 6)),(4,1,(.t 14))]),.e 2 (.al (.agg #[(.int .i64 0),(.int .i64 0),(.string (mk [])),(.slice none 0 0),(.slice none 0 0)]) 29),.s (.st 5 (.t 2) (.t 15))]) (GY)))
def aAK:List RV:=[.mv (.t 0)]
theorem aQ4:aO Tryz.prog true ⟨fun r k=>if r=6/\k=9 then .q else .own [],fun r=>[3,4,5,6].contains r⟩ Tryz.f11=some (aD2,aAK):=by kernel_rfl
def aFZ:PC:=.seq (.reg [.e 0 (.al (.agg #[(.int .i64 0),(.slice none 0 0),(.slice none 0 0)]) 25)]) (.seq (.reg [.q 1 (.bd [(.int .i64 0),(.int .i64 0),(.string (mk [])),(.slice none 0 0)] [(0,1,(.i 2)),(1,1,(.i 32))]),.q 2 (.bd [(.int .i64 0),(.string (mk [])),(.int .i64 0),(.int .i64 0),(.string (mk [])),(.slice none 0 0),(.bool false)] [(0,1,(.i 1)),(1,1,(.k (.string (mk [120])))),(2,4,(.t 1))]),.q 3 (.bd [(.int .i64 0),(.int .i64 0),(.string (mk [])),(.slice none 0 0)] [(0,1,(.i 1))]),.q 4 (.bd [(.int .i64 0),(.string (mk [])),(.int .i64 0),(.int .i64 0),(.string (mk [])),(.slice none 0 0),(.bool false)] [(0,1,(.i 2)),(1,1,(.k (.string (mk [111,110])))),(2,4,(.t 3))]),.e 5 (.bsl 52 7 [(.t 2),(.t 4)]),.q 6 (.bd [(.string (mk [])),(.slice none 0 0)] [(0,1,(.k (.string (mk [80])))),(1,1,(.t 5))]),.e 7 (.bslx 48 2 [(.t 6)]),.q 8 (.bd [(.int .i64 0),(.slice none 0 0),(.slice none 0 0)] [(0,1,(.i 1)),(2,1,(.t 7))]),.s (.st 3 (.t 0) (.t 8))]) .ret)
def aDP:List RV:=[.ld (.ldn 3 (.t 0))]
theorem aPI:aO Tryz.prog true ⟨fun r k=>if r=1/\k=6 then .q else .own [],fun _=>false⟩ Tryz.f29=some (aFZ,aDP):=by kernel_rfl
def yF1:Fl:=⟨1,mk [120],.mk 2 32 (mk []) [],false⟩
def yF2:Fl:=⟨2,mk [111,110],.mk 1 0 (mk []) [],false⟩
def ySt:St:=⟨mk [80],[yF1,yF2]⟩
def yS:Sc:=⟨1,[],[ySt]⟩
def ySp:W.Spec:=fun av H K=>av=[]/\H=[]/\K (.va (.gs (aC yS))) []
theorem KS:Meets Tryz.prog 29 ySp:=by
 refine aF Tryz.func29 aPI 0 (by rw [Tryz.ntmps29]; decide) (aA _) (fun av H K h=>by obtain ⟨rfl,_⟩:=h; rfl) ?_
 rintro av H K ⟨rfl,rfl,hK⟩
 simp (maxSteps:=1000000) -dsimp only [go_sem,aFZ,aDP]
 refine .opn 1 _ _ _ rfl (.nfr 1 _ _ _ rfl (.shu 1 _ _ _ rfl ?_ (.pub 1 _ _ _ rfl ?_)))
 · simp [C.nf,C.shut]
 simp -dsimp only [go_sem,cD,C.nf,C.pub]
 refine .shu 2 _ _ _ rfl ?_ (.pub 2 _ _ _ rfl ?_)
 · simp [C.shut]
 simp -dsimp only [go_sem,cD,C.pub]
 refine .sel [] (by simp) (by simp) rfl (.done ?_)
 simp -dsimp only [go_sem]
 exact hK
def yV:Vl:=.mk 6 0 (mk []) [] [(1,.mk 2 (-2) (mk []) [] []),(2,.mk 1 1 (mk []) [] [])]
abbrev yN:ByteArray:=mk [80]
theorem ye1:kV yS yN yV=([1,1,3,2,1,1],0):=by kernel_rfl
theorem ye2:oK yS yN [1,1,3,2,1,1]=(yV,0):=by kernel_rfl
theorem ye3:oK yS yN [1,1,0]=(v0,2):=by kernel_rfl
theorem aJB:yS.ok:=by
 refine ⟨⟨by decide,by decide⟩,by decide,by decide,fun e he=>(by cases he),fun u hu=>?_⟩
 rw [List.mem_singleton.1 hu]
 refine ⟨by decide,by decide,fun f hf=>?_⟩
 have:f=yF1\/f=yF2:=by simpa [ySt] using hf
 rcases this with rfl | rfl
 · exact ⟨⟨by decide,by decide⟩,by decide,ty0 _ _ _ ⟨by decide,by decide⟩ ⟨by decide,by decide⟩ (by decide)⟩
 · exact ⟨⟨by decide,by decide⟩,by decide,ty0 _ _ _ ⟨by decide,by decide⟩ ⟨by decide,by decide⟩ (by decide)⟩
theorem aGY:QY yS=true:=by kernel_rfl
theorem NY:yS.fit:=YK aJB aGY
theorem SG:VlOk yV:=by
 have hf:∀ k n:Int,bR k->bR n->VlOk (.mk k n (mk []) [] []):=fun k n h1 h2=>FS h1 h2 (by decide)
 refine .mk ⟨by decide,by decide⟩ ⟨by decide,by decide⟩ (by decide) (by decide) (by decide) (fun x h=>by cases h) (fun x hx=>?_) (fun x hx=>?_)
 · have:x=(1,.mk 2 (-2) (mk []) [] [])\/x=(2,.mk 1 1 (mk []) [] []):=by simpa using hx
   rcases this with rfl | rfl<;>exact ⟨by decide,by decide⟩
 · have:x=(1,.mk 2 (-2) (mk []) [] [])\/x=(2,.mk 1 1 (mk []) [] []):=by simpa using hx
   rcases this with rfl | rfl
   · exact hf _ _ ⟨by decide,by decide⟩ ⟨by decide,by decide⟩
   · exact hf _ _ ⟨by decide,by decide⟩ ⟨by decide,by decide⟩
noncomputable def yE:cP:=[(29,.s ySp),(9,.s GN),(12,.s F8),(14,.f eqFn2)]
theorem aIQ:sp yE 29=ySp:=rfl
theorem aKN:sp yE 9=GN:=rfl
theorem TA:sp yE 12=F8:=rfl
theorem aIO:nO yE 14=some eqFn2:=rfl
theorem aQ8 {K:S->Hp->Prop} (hK:K (.tu [tA (mk [1,1,3,2,1,1]),iA .i64 0]) []) :
 GN [.va (.gs [.vl (.int .i64 yS.ver),.fz (yS.es.map aX),.fz (yS.ss.map aH)]),tS yN,.va (.gs [.vl (.int .i64 yV.k),.vl (.int .i64 yV.n),.vl (.string yV.s),.fz (yV.l.map aP),.fz (yV.f.map a8)])] [] K:=
 N2 NY (by decide) SG (by rw [ye1]; exact hK)
theorem aFD {b:List UInt8} {v:Vl} {e:Int} {K:S->Hp->Prop} (h:oK yS yN b=(v,e)) (hb:b.length<=9223372036854775807) (hK:K (.tu [.gs [.vl (.int .i64 v.k),.vl (.int .i64 v.n),.vl (.string v.s),.fz (v.l.map aP),.fz (v.f.map a8)],iA .i64 e]) []) :
 F8 [.va (.gs [.vl (.int .i64 yS.ver),.fz (yS.es.map aX),.fz (yS.ss.map aH)]),tS yN,tS (mk b)] [] K:=aBY NY hb (by rw [h]; exact hK)
theorem RJ:Meets Tryz.prog 11 qTrue.sp:=by
 refine aF (Γ:=yE) Tryz.func11 aQ4 0 (by rw [Tryz.ntmps11]; decide) (aE KS (aE J4 (aE ZF (aG JJ (aA _))))) N0 ?_
 rintro av H K ⟨⟨h,rfl⟩,hK⟩
 obtain rfl:av=[]:=h
 have hK:K (bS true) []:=hK
 have fin:∀ R:Hp,W.Fin 0 K (bS true) R:=fun R=>.sel [] (by simp) (by simp) rfl (.done (by simpa [go_sem] using hK))
 clear hK
 simp (maxSteps:=1000000) -dsimp only [go_sem,aD2,aAK,aIQ]
 refine ⟨rfl,rfl,?_⟩
 simp (maxSteps:=1000000) -dsimp only [go_sem,aC]
 refine aB rfl (.opn 1 _ _ _ rfl (.nfr 1 _ _ _ rfl (.shu 1 _ _ _ rfl ?_ (.pub 1 _ _ _ rfl (.done ?_)))))
 · simp [C.nf,C.shut]
 have g0:(0:Int)=0:=rfl
 simp (maxSteps:=1000000) -dsimp only [go_sem,cD,C.nf,C.pub,GY,aKN]
 refine aQ8 ?_
 simp (maxSteps:=1000000) -dsimp only [go_sem]
 refine aB rfl (.done ?_)
 simp (maxSteps:=1000000) -dsimp only [go_sem,G9,TA]
 refine aFD ye2 (by decide) ?_
 simp (maxSteps:=1000000) -dsimp only [go_sem]
 refine aB rfl (.done ?_)
 simp (maxSteps:=1000000) -dsimp only [go_sem,GB,TA]
 refine aFD ye3 (by decide) ?_
 simp (maxSteps:=1000000) -dsimp only [go_sem]
 refine aB rfl (.done ?_)
 have k1:=b9 SG
 have k2:=dS yV
 have kx1:lE [.vl (.int .i64 6),.vl (.int .i64 0),.vl (.string (mk [])),.fz [],.fz [[.vl (.int .i64 1),.vl (.int .i64 2),.vl (.int .i64 (-2)),.vl (.string (mk [])),.fz [],.fz []],[.vl (.int .i64 2),.vl (.int .i64 1),.vl (.int .i64 1),.vl (.string (mk [])),.fz [],.fz []]]]:=k1
 have kx2:C.vv [.vl (.int .i64 6),.vl (.int .i64 0),.vl (.string (mk [])),.fz [],.fz [[.vl (.int .i64 1),.vl (.int .i64 2),.vl (.int .i64 (-2)),.vl (.string (mk [])),.fz [],.fz []],[.vl (.int .i64 2),.vl (.int .i64 1),.vl (.int .i64 1),.vl (.string (mk [])),.fz [],.fz []]]]=yV:=k2
 have g0:(([1,1,3,2,1,1]:List UInt8) == [1,1,3,2,1,1])=true:=by decide
 have g1:((0:Int) == 0)=true:=rfl
 have g2:((2:Int) == 2)=true:=rfl
 have g3:=PJ yV
 simp (maxSteps:=1000000) -dsimp only [go_sem,GQ,aIO,k1,k2,kx1,kx2,g0,g1,g2,g3,Bool.true_and]
 exact fin _
theorem aD0 (b:ByteArray):(b == b)=true:=by
 cases b
 show (Array.isEqv _ _ _)=true
 simp [Array.isEqv_eq_decide]
def DV:List S->Prop:=fun av=>match av with
 | [.va (.gs r),.va (.c1 (.vl (.string nm))),.va (.gs p)]=>gC r/\nm.size<=9223372036854775807/\∃ v,p=aP v/\VlOk v/\v.h<=1000000
 | _=>False
theorem xG {av:List S} (h:DV av):∃ (s:Sc) (nm:ByteArray) (v:Vl),av=[.va (.gs (aC s)),tS nm,.va (.gs (aP v))]/\s.fit/\nm.size<=9223372036854775807/\VlOk v/\v.h<=1000000:=by
 unfold DV at h
 split at h
 · obtain ⟨⟨s,rfl,hs⟩,hn,⟨v,rfl,hv,hh⟩⟩:=h; exact ⟨s,_,v,rfl,hs,hn,hv,hh⟩
 · exact h.elim
def lzFn:Fun:=⟨DV,fun _=>bA true,fun _ _=>trivial⟩
attribute [go_sem] lzFn DV
theorem H0:Meets Tryz.prog 3 lzFn.sp:=by
 refine aF Tryz.func3 aPR 3 (by rw [Tryz.ntmps3]; decide) (aE J4 (aE PG (aG RJ (aA _)))) (fun av H K h=>by obtain ⟨_,_,_,rfl,_⟩:=xG h.1.1; rfl) ?_
 rintro av H K ⟨⟨h,rfl⟩,hK⟩
 obtain ⟨s,nm,v,rfl,hs,hnm,hv,hh⟩:=xG h
 have hK:K (bS true) []:=hK
 clear h
 have fin:∀ R:Hp,W.Fin 0 K (bS true) R:=fun R=>.sel [] (by simp) (by simp) rfl (.done (by simpa [go_sem] using hK))
 clear hK
 simp (maxSteps:=1000000) -dsimp only [go_sem,aC,aJ v,aCP,aC5]
 refine N2 hs hnm hv ?_
 simp (maxSteps:=1000000) -dsimp only [go_sem]
 refine aB rfl (.done ?_)
 simp (maxSteps:=1000000) -dsimp only [go_sem,D2]
 refine X5 hs hnm hv hh ?_
 have e1:(mk (kV s nm v).1 == mk (kV s nm v).1)=true:=aD0 _
 have e2:((kV s nm v).2 == (kV s nm v).2)=true:=beq_self_eq_true _
 simp (maxSteps:=1000000) -dsimp only [go_sem]
 refine aB rfl (.done ?_)
 simp (maxSteps:=1000000) -dsimp only [go_sem,E9,e1,e2]
 exact fin _
end Go.Proofs.YthpbnmebjocbeaaGreat
namespace Go.W
open Go.RowKit
structure Stay (w w':World):Prop where
 os:w'.os=w.os
 out:w'.output=w.output
 size:w.heap.size<=w'.heap.size
 keep:∀ b:Nat,b < w.heap.size->w'.heap[b]? = w.heap[b]?
theorem Stay.kept {w w':World} (h:Stay w w') (may:MemPlace->Prop):w.keptBut w' may:=by
 refine ⟨h.os,h.out,fun i hi=>?_⟩
 rw [h.keep i hi]
 split
 · rename_i h1 h2; rw [h1] at h2; cases h2; exact ⟨rfl,rfl,rfl,fun _ _=>rfl⟩
 · rename_i h1 h2; rw [h1] at h2; cases h2; exact Or.inr ⟨rfl,rfl⟩
 · rfl
theorem Stay.frozen {w w':World} (h:Stay w w') {a:Addr} (ha:a.block < w.heap.size):w'.frozen? a=w.frozen? a:=by
 unfold World.frozen?; rw [h.keep _ ha]
theorem Stay.cell {w w':World} (h:Stay w w') {a:Addr} (ha:a.block < w.heap.size):w'.cell? a=w.cell? a:=by
 unfold World.cell?; rw [h.keep _ ha]
theorem ZO {w:World} {ro:RO} (h:∀ (b off:Nat) (v:Value),ro b off=some v->w.cell? ⟨b,off,none⟩=some v):Rel ⟨w,cX [],ro,gm []⟩ [] ro w where
 own:=fun n g blk h=>by simp at h
 inj:=fun n m gn gm bn bm b h=>by simp at h
 apart:=fun b off v _ n g blk h=>by simp at h
 rd:=h
 ro0:=fun _ _ _ h=>h
 rob:=fun b off v h=>.inl h
 par:=fun n b g blk h=>by simp at h
 gx:=.refl _
 sz:=Nat.le_refl _
 keep:=fun b _ _=>rfl
 os:=rfl
 tape:=rfl
 output:=rfl
theorem Meets.run {P:Program} {f:FuncId} {s:Fun} (hm:Meets P f s.sp) {av:List S} {vs:List Value} {ro:RO} {w:World} {x:A} (hpre:s.pre av) (hval:s.val av=x) (hl:av.length=vs.length)
 (hrel:∀ (i:Nat) (x:S) (v:Value),av[i]? = some x->vs[i]? = some v->x.rel (gm []) ro v) (hro:∀ (b off:Nat) (v:Value),ro b off=some v->w.cell? ⟨b,off,none⟩=some v) (hG:GR P ro w) :
 Calls P f vs.toArray w fun e w'=>∃ v γ ro',e=.returned v/\S.rel γ ro' (.va x) v/\Stay w w':=by
 subst hval
 refine (hm.2 av vs [] ro w (fun r H=>r=.va (s.val av)/\H=[]) hl hrel (ZO hro) ⟨⟨hpre,rfl⟩,rfl,rfl⟩ hG).mono ?_
 rintro e w' ⟨r,v,E',ro',rfl,h1,⟨rfl,h2⟩,h3⟩
 exact ⟨v,_,ro',rfl,h1,h3.os,h3.output,h3.sz,fun b hb=>h3.keep b hb (by simp [cX])⟩
theorem Meets.yes {P:Program} {f:FuncId} {s:Fun} (hm:Meets P f s.sp) {av:List S} {vs:List Value} {ro:RO} {w:World} (hpre:s.pre av) (hval:s.val av=.c1 (.vl (.bool true))) (hl:av.length=vs.length)
 (hrel:∀ (i:Nat) (x:S) (v:Value),av[i]? = some x->vs[i]? = some v->x.rel (gm []) ro v) (hro:∀ (b off:Nat) (v:Value),ro b off=some v->w.cell? ⟨b,off,none⟩=some v) (hG:GR P ro w) :
 Calls P f vs.toArray w fun e w'=>e=.returned (.bool true)/\Stay w w':=by
 refine (hm.run hpre hval hl hrel hro hG).mono ?_
 rintro e w' ⟨v,γ,ro',rfl,h1,h2⟩
 have:v=.bool true:=h1
 exact ⟨by rw [this],h2⟩
section
variable {H:Type} {enc:TypeId × Value->H} {P:Program}
theorem FC {f:Func} {s:ChangeSpec} {apart fresh handsOn again:Bool} {W W':World} {args:Array Value} {v:Value} {ds gs:List (DataW H)} {before pa pv:List MemPlace}
 (hW:DataW.Whole enc P f.params.toList s.vars apart W args.toList ds gs before)
 (hres:∀ (b:Nat) (sp:Nat->Bool) (hd:Bool),DataW.TrodAll enc P W' b sp hd f.resultTypes.toList (v.resultList f.resultTypes.size) (s.fn H (ds ++ gs)).results [])
 (hargs:∀ sp:Nat->Bool,(∀ p ∈ before,sp p.block=true)->DataW.TrodAll enc P W' 0 sp true f.params.toList args.toList (s.fn H (ds ++ gs)).args pa)
 (hvars:∀ sp:Nat->Bool,(∀ p ∈ before,sp p.block=true)->DataW.TrodVars enc P W' sp s.vars (s.fn H (ds ++ gs)).vars pv)
 (hps:before=pa ++ pv) (hs:Stay W W')
 (hok:∀ (j:Nat) (t:TypeId) (r:Value),f.resultTypes[j]? = some t->(v.resultList f.resultTypes.size)[j]? = some r->Value.okWide P W' .any 0 t r) :
 s.post enc P f apart fresh handsOn again W args v W':=by
 have hlt:∀ p ∈ before,p.block < W.heap.size:=fun p hp=>hW.lt p hp
 have hsp:∀ p ∈ before,(fun b=>decide (b < W.heap.size)) p.block=true:=fun p hp=>by simpa using hlt p hp
 have hall:∀ p ∈ before,(fun _:Nat=>true) p.block=true:=fun _ _=>rfl
 obtain ⟨_,_,_,_,_,hz,hn⟩:=id hW
 refine ⟨ds,gs,before,[],pa,pv,hW,hres _ _ _,hargs _ hsp,hvars _ hsp,World.keptBut_mono (fun p hp=>⟨hp,.inr ?_⟩) (hs.kept (· ∈ before)),fun _=>⟨hok,_,_,([] ++ pa) ++ pv,
  ⟨[] ++ pa,pv,ChangeShapes.trodAll_append (hargs _ hall) (hres _ _ _),hvars _ hall,rfl,fun b off hp=>?_,fun ha=>?_⟩,fun p hp _=>?_⟩⟩
 · rw [hps,List.mem_append] at hp; exact hp
 · have hb:MemPlace.cell b off ∈ before:=by rw [hps]; simpa using hp
   rw [hs.frozen (hlt _ hb)]
   exact hz b off hb
 · have:=hn ha
   rw [hps] at this
   simpa using this
 · rw [hps]
   simpa using hp
end
open Go.RowKit
def iM (W:World):RO:=fun b off=>W.cell? ⟨b,off,none⟩
theorem aCB (W:World):∀ (b off:Nat) (v:Value),iM W b off=some v->W.cell? ⟨b,off,none⟩=some v:=fun _ _ _ h=>h
theorem M9 (ro:RO):FzR ro [] (.slice none 0 0):=
 FzR.mk [] 1 none none (fun h=>absurd rfl h) 0 (fun _=>.bool true) (by simp) (by simp) (by simp) (by simp) (by simp) (by simp) (by simp)
def pN (P:Program):Bool:=(List.range P.types.size).all fun t=>match P.underlying t with | some (.slice e)=>decide (0 < P.cellsOf e) | _=>true
section
variable {H:Type} {enc:TypeId × Value->H} {P:Program}
theorem OV {W W':World} (h:Stay W W') {p:MemPlace} (hp:p.block < W.heap.size):W.sameAt W' p:=by
 cases p with
 | cell b off=>exact h.cell (a:=⟨b,off,none⟩) hp
 | map b=>exact h.keep b hp
theorem rJ {W W':World} {sp:Nat->Bool} (hl:laidOutB P=true) (hm:mapsRowed P=true) (hs:pN P=true) (hst:Stay W W') :
 ∀ {ts:List TypeId} {vs:List Value} {ds:List (DataW H)} {ps:List MemPlace},(∀ t ∈ ts,t < P.types.size)->DataW.TrodAll enc P W 0 (fun _=>true) true ts vs ds ps->(∀ p ∈ ps,p.block < W.heap.size)->(∀ p ∈ ps,sp p.block=true)->
  DataW.TrodAll enc P W' 0 sp true ts vs ds ps
 | [],[],[],ps,_,h,_,_=>h
 | t :: ts,v :: vs,d :: ds,ps,ht,h,hb,hp=>by
  obtain ⟨p,q,⟨n,h1⟩,h2,rfl⟩:=h
  have hsz:∀ {t e:TypeId},t < P.types.size->P.underlying t=some (.slice e)->0 < P.cellsOf e:=fun {t e} ht hu=>by
   have:=List.all_eq_true.1 hs t (List.mem_range.2 ht)
   rw [hu] at this
   simpa using this
  exact ⟨p,q,⟨n,DataW.trod_stays (T:=(· < P.types.size)) (kids_rows hl hm) hsz (fun h=>by cases h) (ht t (by simp)) h1 (fun x hx=>OV hst (hb x (by simp [hx]))) (fun x hx=>hp x (by simp [hx]))⟩,
   rJ hl hm hs hst (fun u hu=>ht u (by simp [hu])) h2 (fun x hx=>hb x (by simp [hx])) (fun x hx=>hp x (by simp [hx])),rfl⟩
 | [],_ :: _,_,_,_,h,_,_=>h.elim
 | [],[],_ :: _,_,_,h,_,_=>h.elim
 | _ :: _,[],_,_,_,h,_,_=>h.elim
 | _ :: _,_ :: _,[],_,_,h,_,_=>h.elim
theorem RG {f:Func} {s:ChangeSpec} {apart fresh handsOn again:Bool} {W W':World} {args:Array Value} {ds gs:List (DataW H)} {before:List MemPlace} {tb:TypeId}
 (hl:laidOutB P=true) (hm:mapsRowed P=true) (hsr:pN P=true) (hps:∀ t ∈ f.params.toList,t < P.types.size) (hrt:f.resultTypes=#[tb]) (htb:P.underlying tb=some .bool)
 (hvars:s.vars=[]) (hW:DataW.Whole enc P f.params.toList s.vars apart W args.toList ds gs before) (hfn:s.fn H (ds ++ gs)={ results:=[.lit (.bool true)],args:=ds,vars:=[] }) (hst:Stay W W') :
 s.post enc P f apart fresh handsOn again W args (.bool true) W':=by
 have hlt:∀ p ∈ before,p.block < W.heap.size:=fun p hp=>hW.lt p hp
 obtain ⟨p,q,hA,hV,hb,_,_⟩:=id hW
 have hq:q=[]:=by
  rw [hvars] at hV
  cases gs with
  | nil=>exact hV
  | cons g gs=>exact hV.elim
 subst hq
 have hbp:before=p:=by rw [hb]; simp
 refine FC (pa:=p) (pv:=[]) hW (fun b sp hd=>?_) (fun sp hsp=>?_) (fun sp hsp=>?_) hb hst ?_
 · rw [hrt,hfn]
   exact ⟨[],[],⟨1,by simp [DataW.trod,Value.cells,htb]⟩,rfl,rfl⟩
 · rw [hfn]
   rw [hbp] at hlt hsp
   exact rJ hl hm hsr hst hps hA hlt hsp
 · rw [hfn,hvars]; rfl
 · intro j t r h1 h2
   rw [hrt] at h1 h2
   match j with
   | 0=>
    cases h1
    cases h2
    simp [Value.okWide,Cell.okWide,Cell.ok,htb]
   | j + 1=>cases h1
end
open Go.RowKit
inductive Fit (P:Program):TypeId->List C->Prop
 | int {t:TypeId} {k:IntKind} {n:Int}:P.underlying t=some (.int k)->(Lit.int k n).wf=true->Fit P t [.vl (.int k n)]
 | bool {t:TypeId} {b:Bool}:P.underlying t=some .bool->Fit P t [.vl (.bool b)]
 | str {t:TypeId} {s:ByteArray}:P.underlying t=some .string->s.size<=maxLen->Fit P t [.vl (.string s)]
 | sl {t e:TypeId} {xs:List (List C)}:P.underlying t=some (.slice e)->xs.length<=maxLen->(∀ r ∈ xs,Fit P e r)->Fit P t [.fz xs]
 | st {t:TypeId} {fs:Array Field} {parts:List (List C)}:P.underlying t=some (.struct fs)->parts.length=fs.size->(∀ (i:Nat) (f:Field) (p:List C),fs[i]? = some f->parts[i]? = some p->Fit P f.type p)->Fit P t parts.flatten
section
variable {P:Program} {t e:TypeId} {xs:List C}
theorem Fit.inv_int {k:IntKind} (ht:P.underlying t=some (.int k)) (h:Fit P t xs):∃ n:Int,xs=[.vl (.int k n)]/\(Lit.int k n).wf=true:=by
 cases h with
 | int h1 h2=>rw [ht] at h1; cases h1; exact ⟨_,rfl,h2⟩
 | bool h1=>rw [ht] at h1; cases h1
 | str h1=>rw [ht] at h1; cases h1
 | sl h1=>rw [ht] at h1; cases h1
 | st h1=>rw [ht] at h1; cases h1
theorem Fit.inv_bool (ht:P.underlying t=some .bool) (h:Fit P t xs):∃ b:Bool,xs=[.vl (.bool b)]:=by
 cases h with
 | int h1 h2=>rw [ht] at h1; cases h1
 | bool h1=>exact ⟨_,rfl⟩
 | str h1=>rw [ht] at h1; cases h1
 | sl h1=>rw [ht] at h1; cases h1
 | st h1=>rw [ht] at h1; cases h1
theorem Fit.inv_str (ht:P.underlying t=some .string) (h:Fit P t xs):∃ s:ByteArray,xs=[.vl (.string s)]/\s.size<=maxLen:=by
 cases h with
 | int h1 h2=>rw [ht] at h1; cases h1
 | bool h1=>rw [ht] at h1; cases h1
 | str h1 h2=>exact ⟨_,rfl,h2⟩
 | sl h1=>rw [ht] at h1; cases h1
 | st h1=>rw [ht] at h1; cases h1
theorem Fit.inv_sl (ht:P.underlying t=some (.slice e)) (h:Fit P t xs):∃ ys:List (List C),xs=[.fz ys]/\ys.length<=maxLen/\∀ r ∈ ys,Fit P e r:=by
 cases h with
 | int h1 h2=>rw [ht] at h1; cases h1
 | bool h1=>rw [ht] at h1; cases h1
 | str h1=>rw [ht] at h1; cases h1
 | sl h1 h2 h3=>rw [ht] at h1; cases h1; exact ⟨_,rfl,h2,h3⟩
 | st h1=>rw [ht] at h1; cases h1
theorem Fit.inv_st {fs:Array Field} (ht:P.underlying t=some (.struct fs)) (h:Fit P t xs):∃ parts:List (List C),xs=parts.flatten/\parts.length=fs.size/\∀ (i:Nat) (f:Field) (p:List C),fs[i]? = some f->parts[i]? = some p->Fit P f.type p:=by
 cases h with
 | int h1 h2=>rw [ht] at h1; cases h1
 | bool h1=>rw [ht] at h1; cases h1
 | str h1=>rw [ht] at h1; cases h1
 | sl h1=>rw [ht] at h1; cases h1
 | st h1 h2 h3=>rw [ht] at h1; cases h1; exact ⟨_,rfl,h2,h3⟩
end
theorem Fit.rows {P:Program} {e:TypeId} {α:Type} {row:α->List C} {Q:α->Prop} {ys:List (List C)} (hi:∀ r,Fit P e r->∃ a,r=row a/\Q a) (h:∀ r ∈ ys,Fit P e r):∃ l:List α,ys=l.map row/\∀ a ∈ l,Q a:=by
 induction ys with
 | nil=>exact ⟨[],rfl,fun a h=>by cases h⟩
 | cons r ys ih=>
  obtain ⟨l,h1,h2⟩:=ih fun r hr=>h r (List.mem_cons_of_mem _ hr)
  obtain ⟨a,h3,h4⟩:=hi r (h r (by simp))
  refine ⟨a :: l,by rw [h1,h3]; rfl,fun x hx=>?_⟩
  rcases List.mem_cons.1 hx with rfl | hx
  · exact h4
  · exact h2 x hx
def HT (P:Program):Nat->List Field->Option Nat
 | o,[]=>some o
 | o,f :: r=>if f.offset=o then HT P (o + P.cellsOf f.type) r else none
def yI (P:Program) (ts:List TypeId):Bool:=ts.all fun t=>match P.underlying t with
 | some (.int _) | some .bool | some .string=>true
 | some (.slice e)=>ts.contains e && decide (0 < P.cellsOf e)
 | some (.struct fs)=>fs.toList.all (fun f=>ts.contains f.type) && HT P 0 fs.toList == some (P.cellsOf t)
 | _=>false
theorem QL {P:Program} {R:C->Value->Prop} {Q:Field->List C->Prop} {cs:List Value}:∀ (fs:List Field) (o:Nat),HT P o fs=some cs.length->
 (∀ (i:Nat) (f:Field),fs[i]? = some f->∃ p,Q f p/\All2 R p ((cs.drop f.offset).take (P.cellsOf f.type)))->
 ∃ parts:List (List C),parts.length=fs.length/\(∀ (i:Nat) (f:Field) (p:List C),fs[i]? = some f->parts[i]? = some p->Q f p)/\All2 R parts.flatten (cs.drop o)
 | [],o,ho,_=>by
  simp only [HT,aI] at ho
  subst ho
  exact ⟨[],rfl,fun i f p h=>by simp at h,by simpa using All2.nil⟩
 | f :: fs,o,ho,h=>by
  simp only [HT] at ho
  split at ho
  · rename_i hf
    obtain ⟨parts,h1,h2,h3⟩:=QL fs _ ho fun i f hf=>h (i + 1) f (by simpa using hf)
    obtain ⟨p,h4,h5⟩:=h 0 f rfl
    refine ⟨p :: parts,by simp [h1],fun i g q hg hq=>?_,?_⟩
    · cases i with
      | zero=>simp at hg hq; subst hg hq; exact h4
      | succ i=>exact h2 i g q (by simpa using hg) (by simpa using hq)
    · have:cs.drop o=(cs.drop f.offset).take (P.cellsOf f.type) ++ cs.drop (o + P.cellsOf f.type):=by
       rw [hf,<-List.drop_drop,List.take_append_drop]
      rw [List.flatten_cons,this]
      exact h5.app h3
  · cases ho
section
variable {H:Type} {enc:TypeId × Value->H} {P:Program} {W:World} {ts:List TypeId}
theorem wN {b off len cap sz:Nat} {oa:Option Addr} (hoa:len ≠ 0->oa=some ⟨b,off,none⟩) (hsz:0 < sz) (X:Nat->List C) (hl:∀ i,i < len->(X i).length=sz) (hc:len<=cap)
 (h:∀ i,i < len->∀ j c,(X i)[j]? = some c->∃ v,W.cell? ⟨b,off + (i * sz + j),none⟩=some v/\c.fv (iM W) v/\c.shut=true) :
 FzR (iM W) ((List.range len).map X) (.slice oa len cap):=by
 have hz:∀ x ∈ (List.range len).map X,x.length=sz:=fun x hx=>by
  obtain ⟨i,hi,rfl⟩:=List.mem_map.1 hx
  exact hl i (List.mem_range.1 hi)
 have hfl:∀ k c,((List.range len).map X).flatten[k]? = some c->∃ v,W.cell? ⟨b,off + k,none⟩=some v/\c.fv (iM W) v/\c.shut=true:=fun k c hk=>by
  have hkl:k < len * sz:=by
   have h1:=(bE.1 hk).1
   rw [uP _ hz] at h1
   simpa using h1
  have hi:k / sz < len:=(Nat.div_lt_iff_lt_mul hsz).2 hkl
  have hj:=Nat.mod_lt k hsz
  have hg:=mP hz (i:=k / sz) (j:=k % sz) (by simpa using hi) hj
  rw [Nat.mul_comm,Nat.div_add_mod,hk] at hg
  have hxi:((List.range len).map X)[k / sz]? = some (X (k / sz)):=by simp [hi]
  rw [hxi,Option.bind_some] at hg
  have:=h (k / sz) hi (k % sz) c hg.symm
  rwa [Nat.mul_comm,Nat.div_add_mod] at this
 have hr:=FzR.mk (ro:=iM W) ((List.range len).map X) sz (some (b,off)) oa (fun hne=>hoa (fun e=>by subst e; simp at hne)) cap (fun k=>(W.cell? ⟨b,off + k,none⟩).getD undef) hz (by simpa using hc) (fun _=>rfl)
  (fun k c hk=>by
    obtain ⟨v,h2,_⟩:=hfl k c hk
    simp [iM,h2])
  (fun k v hk=>by
    obtain ⟨u,h1,h2,_⟩:=hfl k _ hk
    have:u=v:=h2
    simp [h1,this])
  (fun k ys hk=>by
    obtain ⟨u,h1,h2,_⟩:=hfl k _ hk
    have:FzR (iM W) ys u:=h2
    simpa [h1] using this)
  (fun c hc=>by
    obtain ⟨k,hk⟩:=List.mem_iff_getElem?.1 hc
    obtain ⟨u,_,_,h3⟩:=hfl k c hk
    exact h3)
 simpa using hr
theorem nP (hok:yI P ts=true):∀ (n:Nat) (t:TypeId) (cs:List Value) (y:DataW H × List MemPlace),t ∈ ts->DataW.trod enc P W 0 (fun _=>true) true n t cs=some y->
 ∃ xs,Fit P t xs/\All2 (C.fv (iM W)) xs cs/\∀ c ∈ xs,c.shut=true
 | 0,t,cs,y,_,h=>by simp [DataW.trod] at h
 | n + 1,t,cs,y,ht,h=>by
  have h1:=List.all_eq_true.1 hok t ht
  split at h1
  · rename_i k hu
    obtain ⟨m,rfl,_,hw⟩:=DataW.trod_int hu h
    exact ⟨_,.int hu hw,.cons rfl .nil,fun c hc=>by simp at hc; subst hc; rfl⟩
  · rename_i hu
    obtain ⟨b,rfl,_⟩:=DataW.trod_bool hu h
    exact ⟨_,.bool hu,.cons rfl .nil,fun c hc=>by simp at hc; subst hc; rfl⟩
  · rename_i hu
    obtain ⟨s,rfl,_,hs⟩:=DataW.trod_string hu h
    exact ⟨_,.str hu hs,.cons rfl .nil,fun c hc=>by simp at hc; subst hc; rfl⟩
  · rename_i e hu
    simp only [Bool.and_eq_true,List.contains_iff_mem,decide_eq_true_eq] at h1
    obtain ⟨he,hpos⟩:=h1
    rcases DataW.trod_slice hu h with ⟨rfl,_⟩ | ⟨a,len,cap,elems,rest,n',hn',rfl,_,_,hl,hm,hel,hi,_⟩
    · exact ⟨_,.sl hu (Nat.zero_le _) (fun r hr=>by cases hr),.cons (M9 _) .nil,fun c hc=>by simp at hc; subst hc; rfl⟩
    · obtain rfl:n=n':=by omega
      have hall:∀ i,i < len->∃ x:List C,Fit P e x/\x.length=P.cellsOf e/\(∀ j c,x[j]? = some c->∃ v,W.cell? ((a.add (i * P.cellsOf e)).add j)=some v/\c.fv (iM W) v/\c.shut=true):=fun i hil=>by
       have h1:=hi i hil
       rw [aU (by omega)] at h1
       obtain ⟨cs',h2,h3⟩:=Option.bind_eq_some_iff.1 h1
       obtain ⟨x,h4,h5,h6⟩:=nP hok n e cs' _ he h3
       obtain ⟨_,h7,h8⟩:=World.cells?_some h2
       refine ⟨x,h4,h5.1.trans h7,fun j c hj=>?_⟩
       obtain ⟨v,h9,h10⟩:=h5.get hj
       have hjl:j < P.cellsOf e:=by rw [<-h7,<-h5.1]; exact (bE.1 hj).1
       refine ⟨v,?_,h10,h6 c (bV hj)⟩
       have:=h8 j hjl
       rwa [h9] at this
      by_cases h0:len=0
      · subst h0
        refine ⟨[.fz []],.sl hu (Nat.zero_le _) (fun r hr=>by cases hr),.cons ?_ .nil,fun c hc=>by simp at hc; subst hc; rfl⟩
        exact wN (b:=0) (off:=0) (fun h=>absurd rfl h) hpos (fun _=>[]) (fun i hi=>by omega) (Nat.zero_le _) (fun i hi=>by omega)
      · obtain ⟨x0,_,hx0l,hx0⟩:=hall 0 (by omega)
        have hsp:a.spot=none:=by
         have hx:∃ c,x0[0]? = some c:=⟨_,aU (by omega)⟩
         obtain ⟨c,hc⟩:=hx
         obtain ⟨v,hv,_⟩:=hx0 0 c hc
         unfold World.cell? at hv
         split at hv
         · split at hv
           · cases hv
           · rename_i hs; simpa [Addr.add] using hs
         · cases hv
        obtain ⟨b,off,spot⟩:=a
        obtain rfl:spot=none:=hsp
        haveI:Inhabited (List C):=⟨[]⟩
        obtain ⟨X,hX⟩:=Go.Deep.choose_lt hall
        refine ⟨[.fz ((List.range len).map X)],.sl hu (by simp; omega) (fun r hr=>?_),.cons ?_ .nil,fun c hc=>by simp at hc; subst hc; rfl⟩
        · obtain ⟨i,hi,rfl⟩:=List.mem_map.1 hr
          exact (hX i (List.mem_range.1 hi)).1
        · exact wN (fun _=>rfl) hpos X (fun i hi=>(hX i hi).2.1) hl (fun i hi j c hj=>by
           obtain ⟨v,h2,h3⟩:=(hX i hi).2.2 j c hj
           exact ⟨v,by simpa [Go.WideShapes.add_plain,Nat.add_assoc] using h2,h3⟩)
  · rename_i fs hu
    simp only [Bool.and_eq_true,List.all_eq_true,List.contains_iff_mem,beq_iff_eq] at h1
    obtain ⟨hft,hof⟩:=h1
    obtain ⟨ys,n',hn,_,hcl,hyl,hf⟩:=DataW.trod_struct hu h
    obtain rfl:n=n':=by omega
    obtain ⟨parts,k1,k2,k3⟩:=QL (P:=P) (R:=fun c v=>C.fv (iM W) c v/\c.shut=true) (Q:=fun f p=>Fit P f.type p) (cs:=cs) fs.toList 0 (by rw [hcl]; exact hof) (fun i f hfi=>by
     have hfi':fs[i]? = some f:=by simpa using hfi
     have h2:=hf i f hfi'
     have hil:i < fs.size:=(Array.getElem?_eq_some_iff.1 hfi').1
     rw [aU (by omega)] at h2
     obtain ⟨x,h4,h5,h6⟩:=nP hok n f.type _ _ (hft f (bV hfi)) h2
     exact ⟨x,h4,⟨h5.1,fun j c v hc hv=>⟨h5.2 j c v hc hv,h6 c (bV hc)⟩⟩⟩)
    refine ⟨parts.flatten,.st hu (by simpa using k1) (fun i f p hfi hp=>k2 i f p (by simpa using hfi) hp),?_,fun c hc=>?_⟩
    · simpa using k3.imp (fun _ _ h=>h.1)
    · obtain ⟨j,hj⟩:=List.mem_iff_getElem?.1 hc
      obtain ⟨v,_,_,h3⟩:=k3.get hj
      exact h3
  · cases h1
theorem LP (hok:yI P ts=true) {t:TypeId} {v:Value} {d:DataW H} {ps:List MemPlace} (ht:t ∈ ts) (h:DataW.Trod enc P W 0 (fun _=>true) true t v d ps):∃ xs,Fit P t xs/\All2 (C.fv (iM W)) xs v.cells.toList/\∀ c ∈ xs,c.shut=true:=by
 obtain ⟨n,h⟩:=h
 exact nP hok n t _ _ ht h
theorem aF7 {c:C} {v:Value} (h:All2 (C.fv (iM W)) [c] v.cells.toList) (hv:v.cells.toList=[v]) (hs:c.shut=true):(S.va (.c1 c)).rel (gm []) (iM W) v:=by
 rw [hv] at h
 exact (C.rel_shut hs).2 (h.2 0 c v rfl rfl)
theorem OH {cs:List C} {vs:Array Value} (h:All2 (C.fv (iM W)) cs (Value.agg vs).cells.toList) (hs:∀ c ∈ cs,c.shut=true):(S.va (.gs cs)).rel (gm []) (iM W) (.agg vs):=
 ⟨vs.toList,by simp,⟨by simpa [Value.cells] using h.1,fun i c v hc hv=>(C.rel_shut (hs c (bV hc))).2 (h.2 i c v hc (by simpa [Value.cells] using hv))⟩⟩
end
end Go.W
namespace Go.Proofs.YthpbnmebjocbeaaGreat
open Go.W
theorem v3:Tryz.prog.underlying 3=some (.int .i64):=by kernel_rfl
theorem v4:Tryz.prog.underlying 4=some .bool:=by kernel_rfl
theorem v9:Tryz.prog.underlying 9=some .string:=by kernel_rfl
theorem v22:Tryz.prog.underlying 22=some (.slice 118):=by kernel_rfl
theorem v23:Tryz.prog.underlying 23=some (.slice 48):=by kernel_rfl
theorem v30:Tryz.prog.underlying 46=some (.slice 52):=by kernel_rfl
theorem v35:Tryz.prog.underlying 116=some (.slice 9):=by kernel_rfl
theorem OC:Tryz.prog.underlying 40=some (.slice 42):=by kernel_rfl
theorem v45:Tryz.prog.underlying 64=some (.slice 3):=by kernel_rfl
theorem O2:Tryz.prog.underlying 42=some (.struct #[⟨"Kind",3,0,false,"","",0⟩,⟨"Size",3,1,false,"","",8⟩,⟨"Name",9,2,false,"","",16⟩,⟨"Elem",40,3,false,"","",32⟩]):=by kernel_rfl
theorem v53:Tryz.prog.underlying 52=some (.struct #[⟨"Number",3,0,false,"","",0⟩,⟨"Name",9,1,false,"","",8⟩,⟨"Type",42,2,false,"","",24⟩,⟨"Optional",4,6,false,"","",80⟩]):=by kernel_rfl
theorem v32:Tryz.prog.underlying 48=some (.struct #[⟨"Name",9,0,false,"","",0⟩,⟨"Fields",46,1,false,"","",16⟩]):=by kernel_rfl
theorem v47:Tryz.prog.underlying 118=some (.struct #[⟨"Name",9,0,false,"","",0⟩,⟨"Names",116,1,false,"","",16⟩,⟨"Numbers",64,2,false,"","",40⟩]):=by kernel_rfl
theorem v25:Tryz.prog.underlying 25=some (.struct #[⟨"Version",3,0,false,"","",0⟩,⟨"Enums",22,1,false,"","",8⟩,⟨"Structs",23,2,false,"","",32⟩]):=by kernel_rfl
theorem jC {α:Type} {row:α->List C} {Q:α->Prop} {ys:List (List C)} (h:∀ r ∈ ys,∃ a,r=row a/\Q a):∃ l:List α,ys=l.map row/\∀ a ∈ l,Q a:=by
 induction ys with
 | nil=>exact ⟨[],rfl,fun a h=>by cases h⟩
 | cons r ys ih=>
  obtain ⟨l,h1,h2⟩:=ih fun r hr=>h r (List.mem_cons_of_mem _ hr)
  obtain ⟨a,h3,h4⟩:=h r List.mem_cons_self
  refine ⟨a :: l,by rw [h1,h3]; rfl,fun x hx=>?_⟩
  rcases List.mem_cons.1 hx with rfl | hx
  · exact h4
  · exact h2 x hx
theorem qR {n:Int} (h:(Lit.int .i64 n).wf=true):bR n:=by simpa [bR,Lit.wf,IntKind.min,IntKind.max,IntKind.signed,IntKind.bits] using h
theorem vG {n:Nat} (h:n<=maxLen):n<=9223372036854775807:=by unfold maxLen at h; exact h
theorem vB {H:Type} {d:DataW H}:∀ {l:List (DataW H)},d ∈ l->Rows.uptoBulk d<=Rows.uptoBulkAll l
 | x :: r,h=>by
  simp only [Rows.uptoBulkAll]
  rcases List.mem_cons.1 h with rfl | e
  · omega
  · have:=vB e; omega
theorem GK {H:Type} (d:DataW H):0 < Rows.uptoBulk d:=by
 cases d with
 | lit l=>cases l<;>simp [Rows.uptoBulk]
 | _=>simp [Rows.uptoBulk]
theorem CK {H:Type}:∀ l:List (DataW H),l.length<=Rows.uptoBulkAll l
 | []=>Nat.zero_le _
 | d :: l=>by have:=CK l; have:=GK d; simp only [Rows.uptoBulkAll,List.length_cons]; omega
inductive FitB (P:Program):TypeId->List C->Nat->Prop
 | int {t:TypeId} {k:IntKind} {n:Int} {m:Nat}:P.underlying t=some (.int k)->(Lit.int k n).wf=true->FitB P t [.vl (.int k n)] m
 | bool {t:TypeId} {b:Bool} {m:Nat}:P.underlying t=some .bool->FitB P t [.vl (.bool b)] m
 | str {t:TypeId} {s:ByteArray} {m:Nat}:P.underlying t=some .string->s.size<=maxLen->FitB P t [.vl (.string s)] m
 | sl {t e:TypeId} {xs:List (List C)} {m:Nat}:P.underlying t=some (.slice e)->xs.length<=maxLen->xs.length<=m->(∀ r ∈ xs,FitB P e r m)->FitB P t [.fz xs] (m + 1)
 | st {t:TypeId} {fs:Array Field} {parts:List (List C)} {m:Nat}:P.underlying t=some (.struct fs)->parts.length=fs.size->(∀ (i:Nat) (f:Field) (p:List C),fs[i]? = some f->parts[i]? = some p->FitB P f.type p m)->FitB P t parts.flatten (m + 1)
theorem FitB.fit {P:Program} {t:TypeId} {xs:List C} {m:Nat} (h:FitB P t xs m):Fit P t xs:=by
 induction h with
 | int h1 h2=>exact .int h1 h2
 | bool h1=>exact .bool h1
 | str h1 h2=>exact .str h1 h2
 | sl h1 h2 _ _ ih=>exact .sl h1 h2 ih
 | st h1 h2 _ ih=>exact .st h1 h2 ih
theorem FitB.mono {P:Program} {t:TypeId} {xs:List C} {m:Nat} (h:FitB P t xs m):∀ {n:Nat},m<=n->FitB P t xs n:=by
 induction h with
 | int h1 h2=>exact fun _=>.int h1 h2
 | bool h1=>exact fun _=>.bool h1
 | str h1 h2=>exact fun _=>.str h1 h2
 | @sl t e xs m h1 h2 h3 _ ih=>
  intro n hn
  obtain ⟨n,rfl⟩:∃ k,n=k + 1:=⟨n - 1,by omega⟩
  exact .sl h1 h2 (by omega) fun r hr=>ih r hr (by omega)
 | @st t fs parts m h1 h2 _ ih=>
  intro n hn
  obtain ⟨n,rfl⟩:∃ k,n=k + 1:=⟨n - 1,by omega⟩
  exact .st h1 h2 fun i f p hf hp=>ih i f p hf hp (by omega)
section
variable {P:Program} {t e:TypeId} {xs:List C} {m:Nat}
theorem FitB.inv_sl (ht:P.underlying t=some (.slice e)) (h:FitB P t xs (m + 1)):∃ ys:List (List C),xs=[.fz ys]/\ys.length<=m/\∀ r ∈ ys,FitB P e r m:=by
 generalize hm:m + 1=k at h
 cases h with
 | int h1 h2=>rw [ht] at h1; cases h1
 | bool h1=>rw [ht] at h1; cases h1
 | str h1=>rw [ht] at h1; cases h1
 | sl h1 h2 h3 h4=>rw [ht] at h1; cases h1; cases hm; exact ⟨_,rfl,h3,h4⟩
 | st h1 h2 h3=>rw [ht] at h1; cases h1
theorem FitB.inv_st {fs:Array Field} (ht:P.underlying t=some (.struct fs)) (h:FitB P t xs (m + 1)):∃ parts:List (List C),xs=parts.flatten/\parts.length=fs.size/\∀ (i:Nat) (f:Field) (p:List C),fs[i]? = some f->parts[i]? = some p->FitB P f.type p m:=by
 generalize hm:m + 1=k at h
 cases h with
 | int h1 h2=>rw [ht] at h1; cases h1
 | bool h1=>rw [ht] at h1; cases h1
 | str h1=>rw [ht] at h1; cases h1
 | sl h1=>rw [ht] at h1; cases h1
 | st h1 h2 h3=>rw [ht] at h1; cases h1; cases hm; exact ⟨_,rfl,h2,h3⟩
theorem FitB.inv_sl' (ht:P.underlying t=some (.slice e)) (h:FitB P t xs m):∃ ys:List (List C),xs=[.fz ys]/\ys.length<=m/\∀ r ∈ ys,FitB P e r m:=by
 obtain ⟨ys,h1,h2,h3⟩:=FitB.inv_sl ht (h.mono (Nat.le_succ m))
 exact ⟨ys,h1,h2,h3⟩
theorem FitB.inv_st' {fs:Array Field} (ht:P.underlying t=some (.struct fs)) (h:FitB P t xs m):∃ parts:List (List C),xs=parts.flatten/\parts.length=fs.size/\∀ (i:Nat) (f:Field) (p:List C),fs[i]? = some f->parts[i]? = some p->FitB P f.type p m:=
 FitB.inv_st ht (h.mono (Nat.le_succ m))
end
section
variable {H:Type} {enc:TypeId × Value->H} {P:Program} {W:World} {ts:List TypeId}
theorem mD (hok:yI P ts=true):∀ (n:Nat) (t:TypeId) (cs:List Value) (y:DataW H × List MemPlace),t ∈ ts->DataW.trod enc P W 0 (fun _=>true) true n t cs=some y->
 ∃ xs,FitB P t xs (Rows.uptoBulk y.1)/\All2 (C.fv (iM W)) xs cs/\∀ c ∈ xs,c.shut=true
 | 0,t,cs,y,_,h=>by simp [DataW.trod] at h
 | n + 1,t,cs,y,ht,h=>by
  have h1:=List.all_eq_true.1 hok t ht
  split at h1
  · rename_i k hu
    obtain ⟨m,rfl,_,hw⟩:=DataW.trod_int hu h
    exact ⟨_,.int hu hw,.cons rfl .nil,fun c hc=>by simp at hc; subst hc; rfl⟩
  · rename_i hu
    obtain ⟨b,rfl,_⟩:=DataW.trod_bool hu h
    exact ⟨_,.bool hu,.cons rfl .nil,fun c hc=>by simp at hc; subst hc; rfl⟩
  · rename_i hu
    obtain ⟨s,rfl,_,hs⟩:=DataW.trod_string hu h
    exact ⟨_,.str hu hs,.cons rfl .nil,fun c hc=>by simp at hc; subst hc; rfl⟩
  · rename_i e hu
    simp only [Bool.and_eq_true,List.contains_iff_mem,decide_eq_true_eq] at h1
    obtain ⟨he,hpos⟩:=h1
    rcases DataW.trod_slice hu h with ⟨rfl,hy⟩ | ⟨a,len,cap,elems,rest,n',hn',rfl,hy,_,hl,hm,hel,hi,_⟩
    · refine ⟨_,(FitB.sl (m:=0) hu (Nat.zero_le _) (Nat.zero_le _) (fun r hr=>by cases hr)).mono (GK _),.cons (M9 _) .nil,fun c hc=>by simp at hc; subst hc; rfl⟩
    · obtain rfl:n=n':=by omega
      subst hy
      have hbk:Rows.uptoBulk (DataW.slice (elems.map (·.1)) (rest.map (·.1)))=Rows.uptoBulkAll (elems.map (·.1)) + Rows.uptoBulkAll (rest.map (·.1)) + 1:=by simp only [Rows.uptoBulk]
      generalize hM:Rows.uptoBulkAll (elems.map (·.1)) + Rows.uptoBulkAll (rest.map (·.1))=M at hbk
      show ∃ xs,FitB P t xs (Rows.uptoBulk (DataW.slice (elems.map (·.1)) (rest.map (·.1))))/\_
      rw [hbk]
      have hlM:len<=M:=by
       have:=CK (elems.map (·.1))
       rw [List.length_map,hel] at this
       omega
      have hall:∀ i,i < len->∃ x:List C,FitB P e x M/\x.length=P.cellsOf e/\(∀ j c,x[j]? = some c->∃ v,W.cell? ((a.add (i * P.cellsOf e)).add j)=some v/\c.fv (iM W) v/\c.shut=true):=fun i hil=>by
       have h1:=hi i hil
       rw [aU (by omega)] at h1
       obtain ⟨cs',h2,h3⟩:=Option.bind_eq_some_iff.1 h1
       obtain ⟨x,h4,h5,h6⟩:=mD hok n e cs' _ he h3
       obtain ⟨_,h7,h8⟩:=World.cells?_some h2
       refine ⟨x,h4.mono ?_,h5.1.trans h7,fun j c hj=>?_⟩
       · have:=vB (List.mem_map_of_mem (f:=(·.1)) (List.getElem_mem (show i < elems.length by omega)))
         omega
       obtain ⟨v,h9,h10⟩:=h5.get hj
       have hjl:j < P.cellsOf e:=by rw [<-h7,<-h5.1]; exact (bE.1 hj).1
       refine ⟨v,?_,h10,h6 c (bV hj)⟩
       have:=h8 j hjl
       rwa [h9] at this
      by_cases h0:len=0
      · subst h0
        refine ⟨[.fz []],.sl hu (Nat.zero_le _) (Nat.zero_le _) (fun r hr=>by cases hr),.cons ?_ .nil,fun c hc=>by simp at hc; subst hc; rfl⟩
        exact wN (b:=0) (off:=0) (fun h=>absurd rfl h) hpos (fun _=>[]) (fun i hi=>by omega) (Nat.zero_le _) (fun i hi=>by omega)
      · obtain ⟨x0,_,hx0l,hx0⟩:=hall 0 (by omega)
        have hsp:a.spot=none:=by
         have hx:∃ c,x0[0]? = some c:=⟨_,aU (by omega)⟩
         obtain ⟨c,hc⟩:=hx
         obtain ⟨v,hv,_⟩:=hx0 0 c hc
         unfold World.cell? at hv
         split at hv
         · split at hv
           · cases hv
           · rename_i hs; simpa [Addr.add] using hs
         · cases hv
        obtain ⟨b,off,spot⟩:=a
        obtain rfl:spot=none:=hsp
        haveI:Inhabited (List C):=⟨[]⟩
        obtain ⟨X,hX⟩:=Go.Deep.choose_lt hall
        refine ⟨[.fz ((List.range len).map X)],.sl hu (by simp; omega) (by simpa using hlM) (fun r hr=>?_),.cons ?_ .nil,fun c hc=>by simp at hc; subst hc; rfl⟩
        · obtain ⟨i,hi,rfl⟩:=List.mem_map.1 hr
          exact (hX i (List.mem_range.1 hi)).1
        · exact wN (fun _=>rfl) hpos X (fun i hi=>(hX i hi).2.1) hl (fun i hi j c hj=>by
           obtain ⟨v,h2,h3⟩:=(hX i hi).2.2 j c hj
           exact ⟨v,by simpa [Go.WideShapes.add_plain,Nat.add_assoc] using h2,h3⟩)
  · rename_i fs hu
    simp only [Bool.and_eq_true,List.all_eq_true,List.contains_iff_mem,beq_iff_eq] at h1
    obtain ⟨hft,hof⟩:=h1
    obtain ⟨ys,n',hn,hy,hcl,hyl,hf⟩:=DataW.trod_struct hu h
    obtain rfl:n=n':=by omega
    subst hy
    show ∃ xs,FitB P t xs (Rows.uptoBulk (DataW.agg (ys.map (·.1))))/\_
    rw [show Rows.uptoBulk (DataW.agg (ys.map (·.1)))=Rows.uptoBulkAll (ys.map (·.1)) + 1 by simp only [Rows.uptoBulk]]
    obtain ⟨parts,k1,k2,k3⟩:=QL (P:=P) (R:=fun c v=>C.fv (iM W) c v/\c.shut=true) (Q:=fun f p=>FitB P f.type p (Rows.uptoBulkAll (ys.map (·.1)))) (cs:=cs) fs.toList 0 (by rw [hcl]; exact hof) (fun i f hfi=>by
     have hfi':fs[i]? = some f:=by simpa using hfi
     have h2:=hf i f hfi'
     have hil:i < fs.size:=(Array.getElem?_eq_some_iff.1 hfi').1
     rw [aU (by omega)] at h2
     obtain ⟨x,h4,h5,h6⟩:=mD hok n f.type _ _ (hft f (bV hfi)) h2
     exact ⟨x,h4.mono (vB (List.mem_map_of_mem (f:=(·.1)) (List.getElem_mem (show i < ys.length by omega)))),⟨h5.1,fun j c v hc hv=>⟨h5.2 j c v hc hv,h6 c (bV hc)⟩⟩⟩)
    refine ⟨parts.flatten,.st hu (by simpa using k1) (fun i f p hfi hp=>k2 i f p (by simpa using hfi) hp),?_,fun c hc=>?_⟩
    · simpa using k3.imp (fun _ _ h=>h.1)
    · obtain ⟨j,hj⟩:=List.mem_iff_getElem?.1 hc
      obtain ⟨v,_,_,h3⟩:=k3.get hj
      exact h3
  · cases h1
theorem uG (hok:yI P ts=true) {t:TypeId} {v:Value} {d:DataW H} {ps:List MemPlace} (ht:t ∈ ts) (h:DataW.Trod enc P W 0 (fun _=>true) true t v d ps):∃ xs,FitB P t xs (Rows.uptoBulk d)/\All2 (C.fv (iM W)) xs v.cells.toList/\∀ c ∈ xs,c.shut=true:=by
 obtain ⟨n,h⟩:=h
 exact mD hok n t _ _ ht h
end
theorem aJ5:∀ {t:TypeId} {cs:List C} {m:Nat},FitB Tryz.prog t cs m->m<=1048576->(t=42->∃ a,cs=aQ a/\TyOk a/\TySm a/\(bK a).1<=m)/\(t=40->∃ l:List Ty,cs=[.fz (l.map aQ)]/\l.length<=m/\∀ a ∈ l,TyOk a/\TySm a/\(bK a).1 + 1<=m):=by
 intro t cs m h
 induction h with
 | int h1 _=>exact fun _=>⟨fun e=>(by rw [e,O2] at h1; cases h1),fun e=>(by rw [e,OC] at h1; cases h1)⟩
 | bool h1=>exact fun _=>⟨fun e=>(by rw [e,O2] at h1; cases h1),fun e=>(by rw [e,OC] at h1; cases h1)⟩
 | str h1 _=>exact fun _=>⟨fun e=>(by rw [e,O2] at h1; cases h1),fun e=>(by rw [e,OC] at h1; cases h1)⟩
 | @sl t e xs m h1 h2 h3 h4 ih=>
  intro hm
  refine ⟨fun e=>(by rw [e,O2] at h1; cases h1),fun e=>?_⟩
  subst e
  rw [OC] at h1
  cases h1
  obtain ⟨l,rfl,hl⟩:=jC (row:=aQ) (Q:=fun a=>TyOk a/\TySm a/\(bK a).1<=m) fun r hr=>(ih r hr (by omega)).1 rfl
  exact ⟨l,rfl,by simp at h3; omega,fun a ha=>⟨(hl a ha).1,(hl a ha).2.1,Nat.succ_le_succ (hl a ha).2.2⟩⟩
 | @st t fs parts m h1 h2 h3 ih=>
  intro hm
  refine ⟨fun e=>?_,fun e=>(by rw [e,OC] at h1; cases h1)⟩
  subst e
  rw [O2] at h1
  cases h1
  match parts,h2 with
  | [p0,p1,p2,p3],_=>
   obtain ⟨k,rfl,hk⟩:=Fit.inv_int v3 (h3 0 _ p0 rfl rfl).fit
   obtain ⟨s,rfl,hs⟩:=Fit.inv_int v3 (h3 1 _ p1 rfl rfl).fit
   obtain ⟨n,rfl,hn⟩:=Fit.inv_str v9 (h3 2 _ p2 rfl rfl).fit
   obtain ⟨l,rfl,hl,ho⟩:=(ih 3 _ p3 rfl rfl (by omega)).2 rfl
   refine ⟨.mk k s n l,by rw [aQ,aZ]; rfl,.mk (qR hk) (qR hs) (vG hn) (by omega) fun a ha=>(ho a ha).1,.mk (by omega) fun a ha=>(ho a ha).2.1,?_⟩
   rw [bK]
   cases k == 5 with
   | false=>exact Nat.zero_le _
   | true=>
    show (CB l _).1<=m + 1
    cases l with
    | nil=>rw [CB]; exact Nat.zero_le _
    | cons u r=>rw [CB]; have:=(ho u List.mem_cons_self).2.2; show (bK u).1 + 1<=m + 1; omega
theorem aBP (m:Nat) (hm:m<=1048576) (cs:List C) (h:FitB Tryz.prog 42 cs m):∃ a,cs=aQ a/\TyOk a/\TySm a/\(bK a).1<=m:=(aJ5 h hm).1 rfl
theorem aAZ {m:Nat} (hm:m<=1048576) {cs:List C} (h:FitB Tryz.prog 52 cs m):∃ a:Fl,cs=aN a/\a.ok/\TySm a.ty/\(bK a.ty).1<=1000000000:=by
 obtain ⟨parts,rfl,h2,h3⟩:=FitB.inv_st' v53 h
 match parts,h2 with
 | [p0,p1,p2,p3],_=>
  obtain ⟨k,rfl,hk⟩:=Fit.inv_int v3 (h3 0 _ p0 rfl rfl).fit
  obtain ⟨n,rfl,hn⟩:=Fit.inv_str v9 (h3 1 _ p1 rfl rfl).fit
  obtain ⟨t,rfl,ht,hs,hl⟩:=aBP _ hm _ (h3 2 _ p2 rfl rfl)
  obtain ⟨b,rfl⟩:=Fit.inv_bool v4 (h3 3 _ p3 rfl rfl).fit
  exact ⟨⟨k,n,t,b⟩,by rw [aM]; rfl,⟨qR hk,vG hn,ht⟩,hs,by show (bK t).1<=_; omega⟩
theorem aE0 {m:Nat} (hm:m<=1048576) {cs:List C} (h:FitB Tryz.prog 48 cs m):∃ a:St,cs=aH a/\a.ok/\a.fs.length<=1000000000/\(∀ f ∈ a.fs,TySm f.ty)/\∀ f ∈ a.fs,(bK f.ty).1<=1000000000:=by
 obtain ⟨parts,rfl,h2,h3⟩:=FitB.inv_st' v32 h
 match parts,h2 with
 | [p0,p1],_=>
  obtain ⟨n,rfl,hn⟩:=Fit.inv_str v9 (h3 0 _ p0 rfl rfl).fit
  obtain ⟨ys,rfl,hl,hy⟩:=FitB.inv_sl' v30 (h3 1 _ p1 rfl rfl)
  obtain ⟨l,rfl,ho⟩:=jC (row:=aN) (Q:=fun f=>f.ok/\TySm f.ty/\(bK f.ty).1<=1000000000) fun r hr=>aAZ hm (hy r hr)
  rw [List.length_map] at hl
  exact ⟨⟨n,l⟩,rfl,⟨vG hn,by show l.length<=_; omega,fun f hf=>(ho f hf).1⟩,by show l.length<=_; omega,fun f hf=>(ho f hf).2.1,fun f hf=>(ho f hf).2.2⟩
theorem aD5 {m:Nat} (hm:m<=1048576) {cs:List C} (h:FitB Tryz.prog 118 cs m):∃ a:En,cs=aX a/\a.ok/\a.ns.length<=1000000000/\a.vs.length<=1000000000:=by
 obtain ⟨parts,rfl,h2,h3⟩:=FitB.inv_st' v47 h
 match parts,h2 with
 | [p0,p1,p2],_=>
  obtain ⟨n,rfl,hn⟩:=Fit.inv_str v9 (h3 0 _ p0 rfl rfl).fit
  obtain ⟨ys,rfl,hl,hy⟩:=FitB.inv_sl' v35 (h3 1 _ p1 rfl rfl)
  obtain ⟨zs,rfl,hl2,hz⟩:=FitB.inv_sl' v45 (h3 2 _ p2 rfl rfl)
  obtain ⟨l,rfl,ho⟩:=jC (row:=bC) (Q:=fun b=>b.size<=9223372036854775807) fun r hr=>by
   obtain ⟨s,rfl,hs⟩:=Fit.inv_str v9 (hy r hr).fit; exact ⟨s,rfl,vG hs⟩
  obtain ⟨k,rfl,hk⟩:=jC (row:=cH) (Q:=bR) fun r hr=>by
   obtain ⟨s,rfl,hs⟩:=Fit.inv_int v3 (hz r hr).fit; exact ⟨s,rfl,qR hs⟩
  rw [List.length_map] at hl hl2
  exact ⟨⟨n,l,k⟩,rfl,⟨vG hn,by show l.length<=_; omega,by show k.length<=_; omega,ho,hk⟩,by show l.length<=_; omega,by show k.length<=_; omega⟩
theorem aEB (m:Nat) (hm:m<=1048576) (cs:List C) (h:FitB Tryz.prog 25 cs m):∃ a:Sc,cs=aC a/\a.fit:=by
 obtain ⟨parts,rfl,h2,h3⟩:=FitB.inv_st' v25 h
 match parts,h2 with
 | [p0,p1,p2],_=>
  obtain ⟨n,rfl,hn⟩:=Fit.inv_int v3 (h3 0 _ p0 rfl rfl).fit
  obtain ⟨ys,rfl,hl,hy⟩:=FitB.inv_sl' v22 (h3 1 _ p1 rfl rfl)
  obtain ⟨zs,rfl,hl2,hz⟩:=FitB.inv_sl' v23 (h3 2 _ p2 rfl rfl)
  obtain ⟨l,rfl,ho⟩:=jC (row:=aX) (Q:=fun e:En=>e.ok/\e.ns.length<=1000000000/\e.vs.length<=1000000000) fun r hr=>aD5 hm (hy r hr)
  obtain ⟨k,rfl,hk⟩:=jC (row:=aH) (Q:=fun a:St=>a.ok/\a.fs.length<=1000000000/\(∀ f ∈ a.fs,TySm f.ty)/\∀ f ∈ a.fs,(bK f.ty).1<=1000000000) fun r hr=>aE0 hm (hz r hr)
  rw [List.length_map] at hl hl2
  exact ⟨⟨n,l,k⟩,rfl,⟨⟨qR hn,by show l.length<=_; omega,by show k.length<=_; omega,fun e he=>(ho e he).1,fun t ht=>(hk t ht).1⟩,fun t ht=>(hk t ht).2.2.2,fun t ht=>⟨(hk t ht).2.1,(hk t ht).2.2.1⟩,fun e he=>(ho e he).2⟩⟩
theorem MD:Tryz.prog.underlying 29=some (.struct #[⟨"Kind",3,0,false,"","",0⟩,⟨"N",2,1,false,"","",8⟩,⟨"S",9,2,false,"","",16⟩,⟨"L",26,3,false,"","",32⟩,⟨"F",27,4,false,"","",56⟩]):=by kernel_rfl
theorem MF:Tryz.prog.underlying 76=some (.struct #[⟨"Number",3,0,false,"","",0⟩,⟨"Value",29,1,false,"","",8⟩]):=by kernel_rfl
theorem F1:Tryz.prog.underlying 26=some (.slice 29):=by kernel_rfl
theorem G5:Tryz.prog.underlying 27=some (.slice 76):=by kernel_rfl
theorem yIn:Tryz.prog.underlying 2=some (.int .i64):=by kernel_rfl
theorem NT {m:Nat}:∀ {l:List Vl},(∀ v ∈ l,v.h<=m)->Vl.hl l<=m
 | [],_=>by rw [Vl.hl]; exact Nat.zero_le _
 | v :: l,h=>by rw [Vl.hl]; have:=h v List.mem_cons_self; have:=NT fun x hx=>h x (List.mem_cons_of_mem _ hx); omega
theorem NV {m:Nat}:∀ {l:List (Int × Vl)},(∀ x ∈ l,x.2.h<=m)->Vl.hf l<=m
 | [],_=>by rw [Vl.hf]; exact Nat.zero_le _
 | (i,v) :: l,h=>by rw [Vl.hf]; have:=h (i,v) List.mem_cons_self; have:=NV fun x hx=>h x (List.mem_cons_of_mem _ hx); dsimp only at *; omega
theorem aKH:∀ {t:TypeId} {cs:List C} {m:Nat},FitB Tryz.prog t cs m->m<=1048576->(t=29->∃ a,cs=aP a/\VlOk a/\2 * a.h<=m)/\(t=26->∃ l:List Vl,cs=[.fz (l.map aP)]/\l.length<=m/\1<=m/\∀ a ∈ l,VlOk a/\2 * a.h + 1<=m)/\
 (t=76->∃ x:Int × Vl,cs=a8 x/\(bR x.1/\VlOk x.2/\2 * x.2.h + 1<=m))/\(t=27->∃ l:List (Int × Vl),cs=[.fz (l.map a8)]/\l.length<=m/\∀ x ∈ l,bR x.1/\VlOk x.2/\2 * x.2.h + 1<=m):=by
 intro t cs m h
 induction h with
 | int h1 _=>exact fun _=>⟨fun e=>(by rw [e,MD] at h1; cases h1),fun e=>(by rw [e,F1] at h1; cases h1),fun e=>(by rw [e,MF] at h1; cases h1),fun e=>(by rw [e,G5] at h1; cases h1)⟩
 | bool h1=>exact fun _=>⟨fun e=>(by rw [e,MD] at h1; cases h1),fun e=>(by rw [e,F1] at h1; cases h1),fun e=>(by rw [e,MF] at h1; cases h1),fun e=>(by rw [e,G5] at h1; cases h1)⟩
 | str h1 _=>exact fun _=>⟨fun e=>(by rw [e,MD] at h1; cases h1),fun e=>(by rw [e,F1] at h1; cases h1),fun e=>(by rw [e,MF] at h1; cases h1),fun e=>(by rw [e,G5] at h1; cases h1)⟩
 | @sl t e xs m h1 h2 h3 h4 ih=>
  intro hm
  refine ⟨fun e=>(by rw [e,MD] at h1; cases h1),fun e=>?_,fun e=>(by rw [e,MF] at h1; cases h1),fun e=>?_⟩
  · subst e
    rw [F1] at h1
    cases h1
    obtain ⟨l,rfl,hl⟩:=jC (row:=aP) (Q:=fun a=>VlOk a/\2 * a.h<=m) fun r hr=>(ih r hr (by omega)).1 rfl
    rw [List.length_map] at h3
    exact ⟨l,rfl,by omega,by omega,fun a ha=>⟨(hl a ha).1,Nat.succ_le_succ (hl a ha).2⟩⟩
  · subst e
    rw [G5] at h1
    cases h1
    obtain ⟨l,rfl,hl⟩:=jC (row:=a8) (Q:=fun x:Int × Vl=>bR x.1/\VlOk x.2/\2 * x.2.h + 1<=m) fun r hr=>(ih r hr (by omega)).2.2.1 rfl
    rw [List.length_map] at h3
    exact ⟨l,rfl,by omega,fun a ha=>⟨(hl a ha).1,(hl a ha).2.1,Nat.le_succ_of_le (hl a ha).2.2⟩⟩
 | @st t fs parts m h1 h2 h3 ih=>
  intro hm
  refine ⟨fun e=>?_,fun e=>(by rw [e,F1] at h1; cases h1),fun e=>?_,fun e=>(by rw [e,G5] at h1; cases h1)⟩
  · subst e
    rw [MD] at h1
    cases h1
    match parts,h2 with
    | [p0,p1,p2,p3,p4],_=>
     obtain ⟨k,rfl,hk⟩:=Fit.inv_int v3 (h3 0 _ p0 rfl rfl).fit
     obtain ⟨n,rfl,hn⟩:=Fit.inv_int yIn (h3 1 _ p1 rfl rfl).fit
     obtain ⟨s,rfl,hs⟩:=Fit.inv_str v9 (h3 2 _ p2 rfl rfl).fit
     obtain ⟨l,rfl,hl,hm1,ho⟩:=(ih 3 _ p3 rfl rfl (by omega)).2.1 rfl
     obtain ⟨f,rfl,hf,hp⟩:=(ih 4 _ p4 rfl rfl (by omega)).2.2.2 rfl
     refine ⟨.mk k n s l f,by rw [aP,vC,uT]; rfl,.mk (qR hk) (qR hn) (vG hs) (by omega) (by omega) (fun x hx=>(ho x hx).1) (fun x hx=>(hp x hx).1) (fun x hx=>(hp x hx).2.1),?_⟩
     rw [Vl.h]
     have a1:Vl.hl l<=(m - 1) / 2:=NT fun x hx=>by have:=(ho x hx).2; omega
     have a2:Vl.hf f<=(m - 1) / 2:=NV fun x hx=>by have:=(hp x hx).2.2; omega
     omega
  · subst e
    rw [MF] at h1
    cases h1
    match parts,h2 with
    | [p0,p1],_=>
     obtain ⟨k,rfl,hk⟩:=Fit.inv_int v3 (h3 0 _ p0 rfl rfl).fit
     obtain ⟨v,rfl,hv,hh⟩:=(ih 1 _ p1 rfl rfl (by omega)).1 rfl
     exact ⟨(k,v),by simp [a8],qR hk,hv,Nat.succ_le_succ hh⟩
theorem aAQ (m:Nat) (hm:m<=1048576) (cs:List C) (h:FitB Tryz.prog 29 cs m):∃ a,cs=aP a/\VlOk a/\2 * a.h<=m:=(aKH h hm).1 rfl
end Go.Proofs.YthpbnmebjocbeaaGreat
