/- Lemmas and walks for the proof. -/
import Derived.Test.YthpbnmebjocbeaaGreatDd
import Derived.Test.YthpbnmebjocbeaaGreatProg
set_option maxRecDepth 100000
set_option maxHeartbeats 8000000
namespace Go.Proofs.YthpbnmebjocbeaaGreat
open Go.W
abbrev ZM (s:Sc) (t:Ty) (v:Vl):Value:=.int .i64 (cT s t v)
abbrev ckH (N:Nat):Sc->Ty->Vl->Prop:=fun _ _ v=>v.h<=N
def NF (s:Sc) (t:Ty) (v:Vl):Int:=bif v.n != 0||!(bl v.s==[])||decide (0<(v.f.length:Int)) then 13 else bif decide (t.s<(v.l.length:Int)) then 3 else g8 s (t.e.headD default) v.l
def NV (s:Sc) (t:Ty) (v:Vl):Int:=bif v.n != 0||!(bl v.s==[])||decide (0<(v.l.length:Int))||!(dG ((fS s.ss t.n).getD default).fs v.f) then 13 else jL s ((fS s.ss t.n).getD default).fs v.f
theorem gL {t:Ty} (h:TyOk t):iO [.vl (.int .i64 t.k),.vl (.int .i64 t.s),.vl (.string t.n),.fz (t.e.map aQ)]:=by rw[<-aR];exact fQ h
theorem lM (t:Ty):C.ty [.vl (.int .i64 t.k),.vl (.int .i64 t.s),.vl (.string t.n),.fz (t.e.map aQ)]=t:=by rw[<-aR,g4]
theorem dQ {s:Sc} (h:s.fit):gK [.vl (.int .i64 s.ver),.fz (s.es.map aZ),.fz (s.ss.map aH)]:=fJ h
theorem gV (s:Sc):C.sc [.vl (.int .i64 s.ver),.fz (s.es.map aZ),.fz (s.ss.map aH)]=s:=dF s
theorem rV {ss:List St} {es:List En} {t:Ty} (h:valF ss es t=true) (k:(t.k==5)=true):∃u,t.e=[u]/\valF ss es u=true:=by
 cases t with
 |mk k0 s n e=>
  obtain rfl:k0=5:=by have k:(k0==5)=true:=k;simpa using k
  exact yO h
theorem aH6 (N:Nat) (hc:Meets Tryz.prog 42 (kM (ckH N) ZM).sp):Meets Tryz.prog 78 (kM (fun s t v=>valF s.ss s.es t=true/\(t.k==5)=true/\v.h<=N+1) fun s t v=>.int .i64 (NF s t v)).sp:=by
 refine aF Tryz.func78 aTB 3 (by rw[Tryz.ntmps78];decide) (aG hc (aB _)) iV ?_
 intro av H K h
 obtain ⟨s,t,v,rfl,rfl,hs,ht,hv,⟨hp,hk,hh⟩,hK⟩:=fV h
 clear h
 have fin:∀(z:Int) (R:Hp),NF s t v=z->W.Fin 0 K (iS .i64 z) R:=fun z R h=>by
  rw[h] at hK;exact .z ((by simpa[go_sem] using hK))
 clear hK
 unfold NF at fin
 obtain ⟨u,he,hu⟩:=rV hp hk
 have huo:TyOk u:=ht.e u (by rw[he];simp)
 have hll:=hv.ll
 rw[he] at fin
 simp only[List.headD_cons] at fin
 cases h0:(v.n != 0||!(bl v.s==[])||decide (0<(v.f.length:Int))) with
 |true=>
  rw[h0] at fin
  cases h1:v.n != 0<;>cases h2:bl v.s==[]<;>cases h3:decide (0<(v.f.length:Int)) <;>
  first
   | (exfalso;rw[h1,h2,h3] at h0;exact absurd h0 (by decide))
   | (simp(maxSteps:=9^6)-dsimp only[go_sem,aD,aR t,aJ v,OS,NK,h1,h2,h3]
      exact fin _ _ rfl)
 |false=>
 rw[h0] at fin
 obtain ⟨h1,h2,h3⟩:(v.n != 0)=false/\(bl v.s==[])=true/\decide (0<(v.f.length:Int))=false:=by
  simp only[Bool.or_eq_false_iff,Bool.not_eq_false'] at h0;exact ⟨h0.1.1,h0.1.2,h0.2⟩
 cases h4:decide (t.s<(v.l.length:Int)) with
 |true=>
  rw[h4] at fin
  simp(maxSteps:=9^6)-dsimp only[go_sem,aD,aR t,aJ v,OS,NK,h1,h2,h3,h4]
  exact fin _ _ rfl
 |false=>
 rw[h4] at fin
 simp only[a8] at fin
 simp(maxSteps:=9^6)-dsimp only[go_sem,aD,aR t,aJ v,OS,NK,h1,h2,h3,h4]
 refine aL (α:=Nat) (fun i=>[(3,.va (.c1 (.pt 0 0))),(4,.va (.c1 (.pt 1 0))),(5,.va (.c1 (.pt 2 0))),(33,.va (.c1 (.fz (v.l.map aP)))),(34,iS .i64 v.l.length),(35,iS .i64 i)]) (fun _=>[.cells (aD s) 93,.cells [.vl (.int .i64 t.k),.vl (.int .i64 t.s),.vl (.string t.n),.fz (t.e.map aQ)] 42,.cells (bP v) 29])
  (fun i=>i<=v.l.length/\g8 s u (v.l.drop i)=g8 s u v.l) (fun i=>v.l.length-i) 0 3 ⟨Nat.zero_le _,rfl⟩ ?_ ?_ ?_
 · simp -dsimp only[go_sem]<;>simp
 · simp -dsimp only[go_sem,bP,aD]<;>simp
 rintro i ⟨hi,ho⟩
 rcases bB i v.l.length with hlt|hge
 · have hg:decide ((i:Int)<(v.l.length:Int))=true:=by simp;omega
   obtain ⟨x,hx⟩:∃t,v.l[i]? = some t:=⟨_,aU hlt⟩
   have q1:=m0 hx
   have hxm:=bY hx
   have k1:=cY (hv.l x hxm)
   have k2:=gD x
   have k3:x.h<=N:=by have:=Vl.h_l hxm;omega
   have hdr:v.l.drop i=x::v.l.drop (i+1):=by
    obtain ⟨h,rfl⟩:=bJ.1 hx
    exact List.drop_eq_getElem_cons h
   have k4:=gL huo
   have k5:=lM u
   have k6:=dQ hs
   have k7:=gV s
   rw[hdr,g8] at ho
   rw[he]
   cases h5:cT s u x != 0 with
   |true=>
    rw[h5,bE] at ho
    simp(maxSteps:=9^6)-dsimp only[go_sem,hg,↓q1,bP,aD,aR u,k1,k2,k3,k4,k5,k6,k7,h5,List.getElem?_cons_zero,aI,forall_eq']
    exact ⟨by omega,by omega,fin _ _ ho.symm⟩
   |false=>
    rw[h5,a8] at ho
    simp(maxSteps:=9^6)-dsimp only[go_sem,hg,↓q1,bP,aD,aR u,k1,k2,k3,k4,k5,k6,k7,h5,List.getElem?_cons_zero,aI,forall_eq']
    refine ⟨by omega,by omega,by omega,aE (i+1) 3 ⟨by omega,ho⟩ (by omega) ?_ ?_⟩
    · simp -dsimp only[go_sem]<;>simp
    · simp -dsimp only[go_sem,bP,aD]<;>simp[aR u]
 · have hg:decide ((i:Int)<(v.l.length:Int))=false:=by simp;omega
   obtain rfl:i=v.l.length:=by omega
   rw[List.drop_length,g8] at ho
   simp(maxSteps:=9^6)-dsimp only[go_sem,hg,bP,aD]
   exact fin _ _ ho.symm
theorem G7:TyOk default:=.mk (by unfold bT;decide) (by unfold bT;decide) (by decide) (by decide) (fun _ h=>by cases h)
theorem aJA {fs:List Fl} {u:St} (hu:u.ok) (e:fs=u.fs) (k:Int):TyOk ((fF fs k).getD default).ty:=by
 subst e
 cases hf:fF u.fs k with
 |none=>exact G7
 |some g=>exact (hu.fs g (List.mem_of_find?_eq_some hf)).ty
theorem QZ (N:Nat) (hc:Meets Tryz.prog 42 (kM (ckH N) ZM).sp):Meets Tryz.prog 79 (kM (fun _ _ v=>v.h<=N+1) fun s t v=>.int .i64 (NV s t v)).sp:=by
 refine aF Tryz.func79 aUE 3 (by rw[Tryz.ntmps79];decide) (aG hc (aC lL (aG aGL (aC s8 (aB _))))) iV ?_
 intro av H K h
 obtain ⟨s,t,v,rfl,rfl,hs,ht,hv,hh,hK⟩:=fV h
 clear h
 have fin:∀(z:Int) (R:Hp),NV s t v=z->W.Fin 0 K (iS .i64 z) R:=fun z R h=>by
  rw[h] at hK;exact .z ((by simpa[go_sem] using hK))
 clear hK
 unfold NV at fin
 have hlf:=hv.lf
 have kS:=TS hs t.n
 have kE:=aBC hv
 simp(maxSteps:=9^6)-dsimp only[go_sem,aD,aR t,aJ v,aGJ,aH2]
 refine fU (s:=s) hs ?_
 generalize (fS s.ss t.n).getD default=u at *
 obtain ⟨huo,hus⟩:u.ok/\∀f∈u.fs,TySm f.ty:=by
  obtain ⟨w,hw,h1,h2⟩:=kS
  obtain rfl:=vK hw
  exact ⟨h1,h2⟩
 have kd:=HK u
 have kv:=aHS v.f
 rw[aH] at kS kd
 simp(maxSteps:=9^6)-dsimp only[go_sem,aH]
 refine aA rfl (.done ?_)
 cases h0:(v.n != 0||!(bl v.s==[])||decide (0<(v.l.length:Int))||!(dG u.fs v.f)) with
 |true=>
  rw[h0] at fin
  cases h1:v.n != 0<;>cases h2:bl v.s==[]<;>cases h3:decide (0<(v.l.length:Int))<;>cases h4:dG u.fs v.f <;>
  first
   | (exfalso;rw[h1,h2,h3,h4] at h0;exact absurd h0 (by decide))
   | (simp(maxSteps:=9^6)-dsimp only[go_sem,A5,h1,h2,h3,h4,kS,kE,kd]
      exact fin _ _ rfl)
 |false=>
 rw[h0] at fin
 simp only[a8] at fin
 obtain ⟨h1,h2,h3,h4⟩:(v.n != 0)=false/\(bl v.s==[])=true/\decide (0<(v.l.length:Int))=false/\dG u.fs v.f=true:=by
  simp only[Bool.or_eq_false_iff,Bool.not_eq_false'] at h0;exact ⟨h0.1.1.1,h0.1.1.2,h0.1.2,h0.2⟩
 simp(maxSteps:=9^6)-dsimp only[go_sem,A5,h1,h2,h3,h4,kS,kE,kd]
 refine aL (α:=Nat) (fun i=>[(3,.va (.c1 (.pt 0 0))),(4,.va (.c1 (.pt 1 0))),(5,.va (.c1 (.pt 2 0))),(7,.va (.c1 (.pt 3 0))),(44,.va (.c1 (.fz (v.f.map bD)))),(45,iS .i64 v.f.length),(46,iS .i64 i)]) (fun _=>[.cells (aD s) 93,.cells [.vl (.int .i64 t.k),.vl (.int .i64 t.s),.vl (.string t.n),.fz (t.e.map aQ)] 42,.cells (bP v) 29,.cells (aH u) 48])
  (fun i=>i<=v.f.length/\jL s u.fs (v.f.drop i)=jL s u.fs v.f) (fun i=>v.f.length-i) 0 4 ⟨Nat.zero_le _,rfl⟩ ?_ ?_ ?_
 · simp -dsimp only[go_sem]<;>simp
 · simp -dsimp only[go_sem,bP,aD,aH]<;>simp
 rintro i ⟨hi,ho⟩
 rcases bB i v.f.length with hlt|hge
 · have hg:decide ((i:Int)<(v.f.length:Int))=true:=by simp;omega
   obtain ⟨x,hx⟩:∃t,v.f[i]? = some t:=⟨_,aU hlt⟩
   have q1:=kO hx
   have hxm:=bY hx
   have k1:=cY (hv.f x hxm)
   have k2:=gD x.2
   have k3:x.2.h<=N:=by have:=Vl.h_f hxm;omega
   have hdr:v.f.drop i=x::v.f.drop (i+1):=by
    obtain ⟨h,rfl⟩:=bJ.1 hx
    exact List.drop_eq_getElem_cons h
   have k6:=dQ hs
   have k7:=gV s
   rw[hdr,xB] at ho
   have hgo:=aJA huo rfl x.1
   simp(maxSteps:=9^6)-dsimp only[go_sem,hg,↓q1,bP,aD,aH]
   refine ⟨by omega,aA rfl (.done ?_)⟩
   simp(maxSteps:=9^6)-dsimp only[go_sem,JB]
   refine u4 (t:=u) huo hus ?_
   generalize (fF u.fs x.1).getD default=g at *
   have k4:=gL hgo
   have k5:=lM g.ty
   simp(maxSteps:=9^6)-dsimp only[go_sem,aS]
   refine aA rfl (.done ?_)
   simp(maxSteps:=9^6)-dsimp only[go_sem,GZ,k1,k2,k3,k4,k5,k6,k7]
   refine aA rfl (.done ?_)
   cases h5:cT s g.ty x.2 != 0 with
   |true=>
    rw[h5,bE] at ho
    simp(maxSteps:=9^6)-dsimp only[go_sem,A8,h5]
    exact fin _ _ ho.symm
   |false=>
    rw[h5,a8] at ho
    simp(maxSteps:=9^6)-dsimp only[go_sem,A8,h5]
    refine ⟨by omega,aE (i+1) 4 ⟨by omega,ho⟩ (by omega) ?_ ?_⟩
    · simp -dsimp only[go_sem]<;>simp
    · simp -dsimp only[go_sem,bP,aD,aH]<;>simp[bP,aD,aH]
 · have hg:decide ((i:Int)<(v.f.length:Int))=false:=by simp;omega
   obtain rfl:i=v.f.length:=by omega
   rw[List.drop_length,jL] at ho
   simp(maxSteps:=9^6)-dsimp only[go_sem,hg,bP,aD,aH]
   exact fin _ _ ho.symm
theorem DV:∀N,Meets Tryz.prog 42 (kM (ckH N) ZM).sp
 |0=>⟨by kernel_rfl,by rintro xs vs E ro w K _ _ _ h;obtain ⟨_,_,v,_,_,_,_,_,h,_⟩:=fV h;have:=v.h_pos;have h:v.h<=0:=h;omega⟩
 |N+1=>by
  refine aF Tryz.func42 aVG 3 (by rw[Tryz.ntmps42];decide) (aG w6 (aG UH (aG aJ7 (aG (aH6 N (DV N)) (aG (QZ N (DV N)) (aB _)))))) iV ?_
  intro av H K h
  obtain ⟨s,t,v,rfl,rfl,hs,ht,hv,hh,hK⟩:=fV h
  clear h
  have hh:v.h<=N+1:=hh
  have fin:∀(z:Int) (R:Hp),cT s t v=z->W.Fin 0 K (iS .i64 z) R:=fun z R h=>by
   have hK:K (iS .i64 (cT s t v)) []:=hK
   rw[h] at hK;exact .z ((by simpa[go_sem] using hK))
  clear hK
  rw[l0] at fin
  have k1:=cY hv
  have k2:=gD v
  have k4:=gL ht
  have k5:=lM t
  have k6:=dQ hs
  have k7:=gV s
  cases h1:valF s.ss s.es t with
  |false=>
   rw[h1] at fin
   simp(maxSteps:=9^6)-dsimp only[go_sem,aD,aR t,aJ v,yY,w9,k4,k5,k6,k7,h1]
   exact fin _ _ rfl
  |true=>
  cases h2:v.k != t.k with
  |true=>
   rw[h1,h2] at fin
   simp(maxSteps:=9^6)-dsimp only[go_sem,aD,aR t,aJ v,yY,w9,k4,k5,k6,k7,h1,h2]
   exact fin _ _ rfl
  |false=>
  rw[h1,h2] at fin
  simp only[Bool.not_true,Bool.or_self,a8] at fin
  cases h4:t.k==4 with
  |true=>
   rw[h4,bE] at fin
   simp(maxSteps:=9^6)-dsimp only[go_sem,aD,aR t,aJ v,yY,w9,k1,k2,k4,k5,k6,k7,h1,h2,h4,List.all_cons,List.all_nil]
   exact fin _ _ rfl
  |false=>
  rw[h4,a8] at fin
  cases h5:t.k==5 with
  |true=>
   rw[h5,bE] at fin
   simp(maxSteps:=9^6)-dsimp only[go_sem,aD,aR t,aJ v,yY,w9,k1,k2,k4,k5,k6,k7,h1,h2,h4,h5,hh,List.all_cons,List.all_nil]
   exact fin _ _ rfl
  |false=>
  rw[h5,a8] at fin
  cases h6:t.k==6 with
  |true=>
   rw[h6,bE] at fin
   simp(maxSteps:=9^6)-dsimp only[go_sem,aD,aR t,aJ v,yY,w9,k1,k2,k4,k5,k6,k7,h1,h2,h4,h5,h6,hh,List.all_cons,List.all_nil]
   exact fin _ _ rfl
  |false=>
  rw[h6,a8] at fin
  simp(maxSteps:=9^6)-dsimp only[go_sem,aD,aR t,aJ v,yY,w9,k1,k2,k4,k5,k6,k7,h1,h2,h4,h5,h6,List.all_cons,List.all_nil]
  exact fin _ _ rfl
def lA (s:Sc) (t:Ty) (v:Vl):Int:=bif decide (6<s5 7 v) then 9 else cT s t v
theorem aBT:Meets Tryz.prog 42 (kM (fun _ _ _=>True) ZM).sp:=dW 0 DV fun av H K h=>by
 obtain ⟨s,t,v,rfl,rfl,hs,ht,hv,_,hK⟩:=fV h
 refine ⟨v.h,⟨⟨fJ hs,fQ ht,LF hv,?_⟩,rfl⟩,?_⟩
 · show (C.vv (aP v)).h<=v.h;rw[iR];exact Nat.le_refl _
 · simpa -dsimp only[go_sem] using hK
theorem aBY:Meets Tryz.prog 24 (kM (fun _ _ _=>True) fun s t v=>.int .i64 (lA s t v)).sp:=by
 refine aF Tryz.func24 aS8 3 (by rw[Tryz.ntmps24];decide) (aG (MW 8) (aG aBT (aB _))) iV ?_
 intro av H K h
 obtain ⟨s,t,v,rfl,rfl,hs,ht,hv,_,hK⟩:=fV h
 clear h
 have fin:∀(z:Int) (R:Hp),lA s t v=z->W.Fin 0 K (iS .i64 z) R:=fun z R h=>by
  rw[h] at hK;exact .z ((by simpa[go_sem] using hK))
 clear hK
 unfold lA at fin
 have k1:=cY hv
 have k2:=gD v
 have k4:=gL ht
 have k5:=lM t
 have k6:=dQ hs
 have k7:=gV s
 have e8:((6:Int)=((8:Nat):Int)-2)=True:=by decide
 have e9:iP 8 v=s5 7 v:=rfl
 cases h1:decide (6<s5 7 v) with
 |true=>
  rw[h1] at fin
  simp(maxSteps:=9^6)-dsimp only[go_sem,aD,aR t,aJ v,U1,UP,k1,k2,e8,e9,h1]
  exact fin _ _ rfl
 |false=>
  rw[h1] at fin
  simp(maxSteps:=9^6)-dsimp only[go_sem,aD,aR t,aJ v,U1,UP,k1,k2,k4,k5,k6,k7,e8,e9,h1]
  exact fin _ _ rfl
structure Told (l:List UInt8) (p:Nat) (k:Int) (x:List UInt8) (n:Int) (z:Nat):Prop where
 zero:k=0->p=l.length/\x=[]/\n=0
 one:k≠0->∃c,l[p]? = some c/\p<z/\z<=l.length/\0<k/\k<=4/\32<c.toNat/\c.toNat≠35/\(c==34)=(k==3)/\(k==1)=cE c.toNat
def Got:R->ByteArray->Int->Int->Int->Int->Prop
 |.ok _ x n z,x',n',z',e',t'=>x'=mk x/\n'=n/\z'=z/\e'=0/\t'=0
 |.bad e t,_,_,_,e',t'=>e'=e/\t'=t
theorem Got.bad {r:R} {e t:Int} (h:r=.bad e t) {x:ByteArray} {n z:Int}:Got r x n z e t:=by subst h;exact ⟨rfl,rfl⟩
theorem Got.ok {r:R} {k:Int} {x:List UInt8} {n:Int} {z:Nat} (h:r=.ok k x n z):Got r (mk x) n z 0 0:=by subst h;exact ⟨rfl,rfl,rfl,rfl,rfl⟩
structure Ends (ts:List Tk):Prop where
 pos:0<ts.length
 le:ts.length<=4001
 last:∀(i:Nat) (t:Tk),ts[i]? = some t->(t.k=0 ↔ i+1=ts.length)
def dM (ts:List Tk) (n:Nat):Nat:=if n+1<ts.length then n+1 else n
def xU (k:Int) (w:List UInt8) (t:Tk):Bool:=t.k==k&&t.x==w
def TE (n:Nat):List UInt8:=(if h:n<10 then [] else TE (n / 10))++[(48+n % 10).toUInt8]
 termination_by n
 decreasing_by omega
def aS4 (n:Int):List UInt8:=bif decide (n<0) then 45::TE n.natAbs else TE n.natAbs
def aT0 (c:UInt8):List UInt8:=bif c==34||c==92 then [92,c] else [c]
def aSP (l:List UInt8):List UInt8:=34::l.flatMap aT0++[34]
def prB (c:UInt8):Bool:=decide (32<=c)&&decide (c<=126)
def okK (k:Int) (x:List UInt8) (n:Int):Bool:=
 bif k==1 then n==0&&cO x else bif k==2 then x==[] else bif k==3 then n==0&&(decide (x.length<=200)&&x.all prB) else bif k==4 then n==0&&(match x with|[c]=>y5 c.toNat|_=>false) else false
structure Tx where
 k:Int
 x:List UInt8
 n:Int
 a:Int
structure TkFit (t:Tx):Prop where
 lo:-9223372036854775808<=t.n
 hi:t.n<=9223372036854775807
 len:t.x.length<=100000
structure Fs where
 bad:Bool
 off:Int
 n:Nat
instance:Inhabited Tk:=⟨⟨0,[],0,0⟩⟩
def hY (ts:List Tk) (n:Nat):Tk:=ts.getD n default
structure Tks (ts:List Tk):Prop where
 e:Ends ts
 n:∀t∈ts,bT t.n
 x:∀t∈ts,t.x.length<=4000
 a:∀t∈ts,t.a<=4000
def jZ (ts:List Tk) (z:Fs):Fs:=bif z.bad then z else ⟨true,(hY ts z.n).a,z.n⟩
def kR (w:List UInt8) (ts:List Tk) (z:Fs):Bool:=!z.bad&&xU 4 w (hY ts z.n)
def v6 (w:List UInt8) (ts:List Tk) (z:Fs):Fs:=bif kR w ts z then ⟨false,z.off,dM ts z.n⟩ else z
def fY (w:List UInt8) (ts:List Tk) (z:Fs):Fs:=bif kR w ts z then ⟨false,z.off,dM ts z.n⟩ else jZ ts z
def mZ (k:Int) (ts:List Tk) (z:Fs):Bool:=!z.bad&&(hY ts z.n).k==k
def VJ (k:Int) (ts:List Tk) (z:Fs):Tk:=bif mZ k ts z then hY ts z.n else default
def XP (k:Int) (ts:List Tk) (z:Fs):Fs:=bif mZ k ts z then ⟨false,z.off,dM ts z.n⟩ else jZ ts z
theorem HQ {ts:List Tk} {n:Nat} (h:n<ts.length):ts[n]? = some (hY ts n):=by simp[hY,List.getD_eq_getElem?_getD,aU h]
def XM:List UInt8:=[116,114,117,101]
def PD:List UInt8:=[102,97,108,115,101]
def aNR (ts:List Tk) (z:Fs):Vl×Fs:=
 bif !z.bad&&xU 1 XM (hY ts z.n) then (.mk 1 1 (mk []) [] [],⟨false,z.off,dM ts z.n⟩)
 else bif !z.bad&&xU 1 PD (hY ts z.n) then (.mk 1 0 (mk []) [] [],⟨false,z.off,dM ts z.n⟩)
 else (.mk 1 0 (mk []) [] [],jZ ts z)
def aUJ (k:Int) (ts:List Tk) (z:Fs):Vl×Fs:=(.mk k (VJ 2 ts z).n (mk []) [] [],XP 2 ts z)
def aLL (ts:List Tk) (z:Fs):Vl×Fs:=(.mk 4 0 (mk (VJ 3 ts z).x) [] [],XP 3 ts z)
def TK (e:En) (ts:List Tk) (z:Fs):Int:=bif !z.bad&&(hY ts z.n).k==1 then pX e.ns (mk (hY ts z.n).x) 0 else -1
def aMN (e:En) (ts:List Tk) (z:Fs):Vl×Fs:=
 bif decide (TK e ts z<0)||decide ((e.vs.length:Int)<=TK e ts z) then (.mk 7 0 (mk []) [] [],jZ ts z)
 else (.mk 7 (e.vs.getD (TK e ts z).toNat 0) (mk []) [] [],⟨false,z.off,dM ts z.n⟩)
abbrev KX:Type:=Sc->List Tk->Ty->Fs->Vl×Fs
def BI {α:Type} (one:α->Fs->α×Fs) (ts:List Tk):Nat->α->Fs->α×Fs
 |0,a,z=>(a,z)
 |f+1,a,z=>bif z.bad then (a,z) else bif kR [44] ts (one a z).2 then BI one ts f (one a z).1 (v6 [44] ts (one a z).2) else one a z
theorem QR {α:Type} (one:α->Fs->α×Fs) (ts:List Tk) (f:Nat) (a:α) (z:Fs):BI one ts (f+1) a z=bif z.bad then (a,z) else bif kR [44] ts (one a z).2 then BI one ts f (one a z).1 (v6 [44] ts (one a z).2) else one a z:=rfl
def NS {α:Type} (one:α->Fs->α×Fs) (op sh:List UInt8) (ts:List Tk) (a:α) (z:Fs):α×Fs:=
 bif kR sh ts (fY op ts z) then (a,v6 sh ts (fY op ts z))
 else ((BI one ts (ts.length+1) a (fY op ts z)).1,fY sh ts (BI one ts (ts.length+1) a (fY op ts z)).2)
theorem aIN {ts:List Tk} {n:Nat} (h:n<ts.length):n<=dM ts n/\dM ts n<ts.length:=by
 unfold dM;split<;>omega
theorem aCW (ts:List Tk) (z:Fs):(jZ ts z).n=z.n:=by unfold jZ;cases z.bad<;>rfl
theorem KZ {w:List UInt8} {ts:List Tk} {z:Fs} (h:z.n<ts.length):z.n<=(fY w ts z).n/\(fY w ts z).n<ts.length:=by
 unfold fY
 cases kR w ts z
 · rw[a8,aCW];exact ⟨Nat.le_refl _,h⟩
 · exact aIN h
def Onw {α:Type} (one:α->Fs->α×Fs) (ts:List Tk):Prop:=∀a z,z.n<ts.length->z.n<=(one a z).2.n/\(one a z).2.n<ts.length
def aHC (P:KX) (s:Sc) (ts:List Tk) (u:Ty):List Vl->Fs->List Vl×Fs:=fun l z=>(l++[(P s ts u z).1],(P s ts u z).2)
def aNU (P:KX) (s:Sc) (ts:List Tk) (u:Ty) (z:Fs):Vl×Fs:=(.mk 5 0 (mk []) (NS (aHC P s ts u) [91] [93] ts [] z).1 [],(NS (aHC P s ts u) [91] [93] ts [] z).2)
def aHJ (n:List UInt8):List Fl->Nat->Int
 |[],_=>-1
 |x::l,i=>bif bl x.nm==n then (i:Int) else aHJ n l (i+1)
abbrev Fst:Type:=Int×List (Int×Vl)
def u7 (ts:List Tk) (u:St) (z:Fs):Int:=aHJ (hY ts z.n).x u.fs 0
def aGP (ts:List Tk) (u:St) (last:Int) (z:Fs):Bool:=(hY ts z.n).k != 1||decide (u7 ts u z<0)||decide ((u.fs.getD (u7 ts u z).toNat default).num<=last)
def aJH (ts:List Tk) (z:Fs):Fs:=fY [61] ts ⟨z.bad,z.off,dM ts z.n⟩
def aIG (P:KX) (s:Sc) (ts:List Tk) (u:St):Fst->Fs->Fst×Fs:=fun a z=>
 bif aGP ts u a.1 z then (a,jZ ts z)
 else (((u.fs.getD (u7 ts u z).toNat default).num,a.2++[((u.fs.getD (u7 ts u z).toNat default).num,(P s ts (u.fs.getD (u7 ts u z).toNat default).ty (aJH ts z)).1)]),(P s ts (u.fs.getD (u7 ts u z).toNat default).ty (aJH ts z)).2)
def stOf (s:Sc) (t:Ty):St:=(fS s.ss t.n).getD default
def aC1 (P:KX) (s:Sc) (ts:List Tk) (u:St) (z:Fs):Vl×Fs:=(.mk 6 0 (mk []) [] (NS (aIG P s ts u) [123] [125] ts (0,[]) z).1.2,(NS (aIG P s ts u) [123] [125] ts (0,[]) z).2)
theorem eZ {s:Sc} (hs:s.fit) (t:Ty):(stOf s t).ok:=by
 unfold stOf
 cases h:fS s.ss t.n with
 |none=>exact ⟨by decide,by decide,fun _ h=>(by cases h)⟩
 |some u=>exact hs.ok.ss u (List.mem_of_find?_eq_some h)
def pP:Nat->KX
 |0=>fun _ _ _ z=>(default,z)
 |N+1=>fun s ts t z=>bif t.k==1 then aNR ts z else bif t.k==4 then aLL ts z else bif t.k==7 then aMN ((d8 s.es t.n).getD default) ts z
  else bif t.k==5 then aNU (pP N) s ts (t.e.headD default) z else bif t.k==6 then aC1 (pP N) s ts (stOf s t) z else aUJ t.k ts z
def zF (s:Sc):Nat->Ty->Vl
 |0,_=>.mk 0 0 (mk []) [] []
 |n+1,t=>bif valF s.ss s.es t then (bif t.k==6 then .mk 6 0 (mk []) [] (((stOf s t).fs.filter fun f=>!f.opt).map fun f=>(f.num,zF s n f.ty)) else .mk t.k 0 (mk []) [] []) else .mk 0 0 (mk []) [] []
def zE (s:Sc) (n:Nat) (l:List Fl):List (Int×Vl):=(l.filter fun f=>!f.opt).map fun f=>(f.num,zF s n f.ty)
theorem fR (s:Sc) (n:Nat) (t:Ty):zF s (n+1) t=bif valF s.ss s.es t then (bif t.k==6 then .mk 6 0 (mk []) [] (zE s n (stOf s t).fs) else .mk t.k 0 (mk []) [] []) else .mk 0 0 (mk []) [] []:=rfl
theorem MG {s:Sc} {n i:Nat} {l:List Fl} {f:Fl} (h:l[i]? = some f):zE s n (l.take (i+1))=bif f.opt then zE s n (l.take i) else zE s n (l.take i)++[(f.num,zF s n f.ty)]:=by
 unfold zE
 rw[List.take_add_one,h,List.filter_append,List.map_append]
 cases hf:f.opt<;>simp[hf]
theorem JO (s:Sc) (n:Nat) (l:List Fl):(zE s n l).length<=l.length:=by
 unfold zE;rw[List.length_map];exact List.length_filter_le _ _
theorem B6 {s:Sc} (hs:s.fit) (t:Ty):(stOf s t).fs.length<=1000000000:=by
 unfold stOf
 cases h:fS s.ss t.n with
 |none=>exact Nat.zero_le _
 |some u=>exact (hs.sm u (List.mem_of_find?_eq_some h)).1
def aIP (N:Nat):W.Spec:=fun av H K=>∃(s:Sc) (t:Ty) (n:Nat),av=[.va (.gs (aD s)),.va (.gs (aQ t)),iS .i64 ((n:Int)-1)]/\H=[]/\s.fit/\TyOk t/\n<N/\N<=100/\K (.va (.gs (aP (zF s n t)))) []
theorem QG {N:Nat} {s:Sc} {t:Ty} {n:Nat} {K:S->Hp->Prop} (h1:s.fit) (h2:TyOk t) (h3:n<N) (h4:N<=100) (hK:K (.va (.gs (aP (zF s n t)))) []):aIP N [.va (.gs [.vl (.int .i64 s.ver),.fz (s.es.map aZ),.fz (s.ss.map aH)]),.va (.gs [.vl (.int .i64 t.k),.vl (.int .i64 t.s),.vl (.string t.n),.fz (t.e.map aQ)]),iS .i64 ((n:Int)-1)] [] K:=⟨s,t,n,by rw[aR];rfl,rfl,h1,h2,h3,h4,hK⟩
theorem P2:∀N,Meets Tryz.prog 83 (aIP N)
 |0=>⟨by kernel_rfl,by rintro xs vs E ro w K _ _ _ ⟨_,_,n,_,_,_,_,h,_⟩;exact absurd h (Nat.not_lt_zero n)⟩
 |N+1=>by
  refine aF Tryz.func83 aV2 3 (by rw[Tryz.ntmps83];decide) (aG w6 (aC lL (aC (P2 N) (aB _)))) (fun av H K h=>by obtain ⟨_,_,_,rfl,_⟩:=h;rfl) ?_
  rintro av H K ⟨s,t,n,rfl,rfl,hs,ht,hn,hN,hK⟩
  have k4:=gL ht
  have k5:=lM t
  have k6:=dQ hs
  have k7:=gV s
  have fin:∀{v:Vl} (R:Hp),zF s n t=v->W.Fin 0 K (.va (.gs (aP v))) R:=fun {v} R h=>by
   rw[h] at hK;refine .z (?_)
   rw[aJ] at hK ⊢
   simpa[go_sem] using hK
  cases n with
  |zero=>
   have g:decide (((0:Nat):Int)-1<0)=true:=rfl
   simp(maxSteps:=9^6)-dsimp only[go_sem,aD,aR t,HC,J3,g,k4,k5,k6,k7]
   exact fin (v:=.mk 0 0 (mk []) [] []) _ rfl
  |succ n=>
   have g:decide (((n+1:Nat):Int)-1<0)=false:=by rw[decide_eq_false_iff_not];omega
   have g':((n+1:Nat):Int)-1=n:=by omega
   rw[g'] at g ⊢
   rw[fR] at fin
   cases h1:valF s.ss s.es t with
   |false=>
    rw[h1,a8] at fin
    simp(maxSteps:=9^6)-dsimp only[go_sem,aD,aR t,HC,J3,g,k4,k5,k6,k7,h1]
    exact fin _ rfl
   |true=>
   rw[h1,bE] at fin
   cases h2:t.k==6 with
   |false=>
    have h2':(t.k != 6)=true:=by rw[bne,h2];rfl
    rw[h2,a8] at fin
    simp(maxSteps:=9^6)-dsimp only[go_sem,aD,aR t,HC,J3,g,k4,k5,k6,k7,h1,h2']
    exact fin _ rfl
   |true=>
   have h2':(t.k != 6)=false:=by rw[bne,h2];rfl
   rw[h2,bE] at fin
   simp(maxSteps:=9^6)-dsimp only[go_sem,aD,aR t,HC,J3,g,k4,k5,k6,k7,h1,h2']
   refine fU hs ?_
   rw[show (fS s.ss t.n).getD default=stOf s t from rfl]
   have hok:=eZ hs t
   have hsm:=B6 hs t
   have hz6:zF s (n+1) t=.mk 6 0 (mk []) [] (zE s n (stOf s t).fs):=by rw[fR,h1,h2];rfl
   rw[hz6,aJ] at hK
   clear hz6 fin
   generalize stOf s t=u at *
   simp(maxSteps:=9^6)-dsimp only[go_sem,aH]
   have hlen:=fun i=>Nat.le_trans (JO s n (u.fs.take i)) (Nat.le_trans (List.length_take_le' i u.fs) hsm)
   refine cM (α:=Nat) (fun i=>[(2,iS .i64 n),(3,.va (.c1 (.pt 0 0))),(4,.va (.c1 (.pt 1 0))),(6,.va (.c1 (.pt 2 0))),(7,.va (.c1 (.pt 3 0))),(37,.va (.c1 (.fz (u.fs.map aS)))),(38,iS .i64 u.fs.length),(39,iS .i64 i)])
    (fun i=>[.cells [.vl (.int .i64 s.ver),.fz (s.es.map aZ),.fz (s.ss.map aH)] 93,.cells [.vl (.int .i64 t.k),.vl (.int .i64 t.s),.vl (.string t.n),.fz (t.e.map aQ)] 42,.cells [.vl (.int .i64 0),.vl (.int .i64 0),.vl (.string (mk [])),.vl (.slice none 0 0),.vl (.slice none 0 0)] 29,
      .cells [.vl (.int .i64 t.k),.vl (.int .i64 0),.vl (.string (mk [])),.vl (.slice none 0 0),.sl 5 (zE s n (u.fs.take i)).length] 29,.cells [.vl (.string u.nm),.fz (u.fs.map aS)] 48,.row ((zE s n (u.fs.take i)).map bD) 76 6])
    (fun i=>i<=u.fs.length) (fun i=>u.fs.length-i) (.nilc 3 4 76 6 _ _ rfl rfl (jD 0 6 (Nat.zero_le _) ?_ ?_)) ?_
   · simp -dsimp only[go_sem]<;>simp
   · simp -dsimp only[go_sem]<;>simp[zE]
   intro i hi
   have hli:=hlen i
   rcases bB i u.fs.length with hlt|hge
   · have hg:decide ((i:Int)<(u.fs.length:Int))=true:=by simp;omega
     have hx:u.fs[i]? = some u.fs[i]:=aU hlt
     have q2:=aT (row:=aS) hx
     have hfo:=(hok.fs _ (List.getElem_mem hlt)).ty
     generalize u.fs[i]=f at *
     have hz:=MG (s:=s) (n:=n) hx
     cases ho:f.opt with
     |true=>
      rw[ho,bE] at hz
      simp(maxSteps:=9^6)-dsimp only[go_sem,hg,↓q2,aS,ho,List.take_succ_cons,List.take_zero,List.length_cons]
      refine ⟨by omega,by omega,aE (i+1) 6 (by omega) (by omega) ?_ ?_⟩
      · simp -dsimp only[go_sem]<;>simp
      · simp -dsimp only[go_sem,hz]<;>simp
     |false=>
      rw[ho,a8] at hz
      simp(maxSteps:=9^6)-dsimp only[go_sem,hg,↓q2,aS,ho,List.take_succ_cons,List.take_zero,List.length_cons]
      refine ⟨⟨by omega,by omega⟩,⟨by omega,by omega⟩,QG hs hfo (by omega) (by omega) ?_⟩
      generalize zF s n f.ty=v at *
      simp(maxSteps:=9^6)-dsimp only[go_sem,aJ v]
      refine ⟨by omega,by omega,aE (i+1) 6 (by omega) (by omega) ?_ ?_⟩
      · simp -dsimp only[go_sem]<;>simp
      · simp -dsimp only[go_sem,hz]<;>simp[bD,aJ v]
   · have hg:decide ((i:Int)<(u.fs.length:Int))=false:=by simp;omega
     rw[List.take_of_length_le hge] at *
     have h6:t.k=6:=eq_of_beq h2
     simp(maxSteps:=9^6)-dsimp only[go_sem,hg,h6]
     refine .pub 5 _ _ _ rfl (.sel [] (by simp) (by simp[b5]) rfl (.done ?_))
     simp -dsimp only[go_sem,b5]
     exact hK
def IM:W.Spec:=fun av H K=>∃(s:Sc) (t:Ty),av=[.va (.gs (aD s)),.va (.gs (aQ t))]/\H=[]/\s.fit/\TyOk t/\K (.va (.gs (aP (zF s 23 t)))) []
theorem BM {s:Sc} {t:Ty} {K:S->Hp->Prop} (h1:s.fit) (h2:TyOk t) (hK:K (.va (.gs (aP (zF s 23 t)))) []):IM [.va (.gs [.vl (.int .i64 s.ver),.fz (s.es.map aZ),.fz (s.ss.map aH)]),.va (.gs [.vl (.int .i64 t.k),.vl (.int .i64 t.s),.vl (.string t.n),.fz (t.e.map aQ)])] [] K:=⟨s,t,by rw[aR];rfl,rfl,h1,h2,hK⟩
theorem X2:Meets Tryz.prog 45 IM:=by
 refine aF Tryz.func45 aR7 2 (by rw[Tryz.ntmps45];decide) (aC (P2 24) (aB _)) (fun av H K h=>by obtain ⟨_,_,rfl,_⟩:=h;rfl) ?_
 rintro av H K ⟨s,t,rfl,rfl,hs,ht,hK⟩
 simp(maxSteps:=9^6)-dsimp only[go_sem,aD,aR t,aI3,aGX]
 refine QG (n:=23) hs ht (by decide) (by decide) ?_
 rw[aJ] at hK ⊢
 simp(maxSteps:=9^6)-dsimp only[go_sem]
 refine .z (?_)
 simp -dsimp only[go_sem]
 exact hK
theorem oC {s:Sc} (hs:s.fit):∀(n:Nat) (t:Ty),TyOk t->VlOk (zF s n t)
 |0,t,ht=>.mk ⟨by decide,by decide⟩ ⟨by decide,by decide⟩ (by decide) (by simp) (by simp) (by simp) (by simp) (by simp)
 |n+1,t,ht=>by
  have hok:=eZ hs t
  have hsm:=B6 hs t
  rw[fR]
  cases valF s.ss s.es t with
  |false=>exact .mk ⟨by decide,by decide⟩ ⟨by decide,by decide⟩ (by decide) (by simp) (by simp) (by simp) (by simp) (by simp)
  |true=>
   cases t.k==6 with
   |false=>exact .mk ht.k ⟨by decide,by decide⟩ (by decide) (by simp) (by simp) (by simp) (by simp) (by simp)
   |true=>
    have hl:=JO s n (stOf s t).fs
    have hm:∀x∈zE s n (stOf s t).fs,∃f∈(stOf s t).fs,x=(f.num,zF s n f.ty):=fun x hx=>by
     unfold zE at hx
     obtain ⟨f,hf,rfl⟩:=List.mem_map.1 hx
     exact ⟨f,(List.mem_filter.1 hf).1,rfl⟩
    refine .mk ⟨by decide,by decide⟩ ⟨by decide,by decide⟩ (by decide) (by simp) (by omega) (by simp) (fun x hx=>?_) (fun x hx=>?_)
    · obtain ⟨f,hf,rfl⟩:=hm x hx;exact (hok.fs f hf).num
    · obtain ⟨f,hf,rfl⟩:=hm x hx;exact oC hs n f.ty (hok.fs f hf).ty
def pmF (s:Sc) (t:Ty):Bool:=lA s t (zF s 23 t)==0
theorem H3 {k n:Int} {s:ByteArray} (hk:bT k) (hn:bT n) (hs:s.size<=9223372036854775807):VlOk (.mk k n s [] []):=.mk hk hn hs (by simp) (by simp) (by simp) (by simp) (by simp)
def v0:Vl:=.mk 0 0 (mk []) [] []
def aFG (ts:List Tk) (z:Fs):Fs:=bif (hY ts z.n).k != 0 then jZ ts z else z
def aUD (s:Sc) (t:Ty) (ts:List Tk) (r:Vl×Fs):Vl×Int×Int:=
 bif (aFG ts r.2).bad then (v0,2,(aFG ts r.2).off) else bif lA s t r.1 != 0 then (v0,lA s t r.1,0) else (r.1,0,0)
def NZ (P:KX) (s:Sc) (t:Ty) (x:List UInt8):Vl×Int×Int:=
 bif !pmF s t then (v0,13,0) else bif (A9 x).err != 0 then (v0,(A9 x).err,(A9 x).off) else aUD s t (A9 x).toks (P s (A9 x).toks t ⟨false,0,0⟩)
abbrev RE:Type:=Sc->Ty->Vl->List UInt8×Bool
def tvB (n:Int):List UInt8:=bif n==1 then XM else PD
def tvT (x:List UInt8):List UInt8:=bif decide (x.length<=200)&&x.all prB then aSP x else []
def nmF (ns:List ByteArray) (n:Int):List Int->Nat->ByteArray
 |[],_=>mk []
 |m::l,i=>bif m==n&&decide ((i:Int)<(ns.length:Int)) then ns.getD i (mk []) else nmF ns n l (i+1)
def enOf (s:Sc) (t:Ty):En:=(d8 s.es t.n).getD default
theorem aB8 {s:Sc} (hs:s.fit) (t:Ty):(enOf s t).ok:=by
 unfold enOf
 cases h:d8 s.es t.n with
 |none=>exact ⟨by decide,by decide,by decide,fun _ h=>(by cases h),fun _ h=>(by cases h)⟩
 |some e=>exact hs.ok.es e (List.mem_of_find?_eq_some h)
def TU:Bool->List (List UInt8)->List UInt8
 |_,[]=>[]
 |c,x::r=>(bif c then [44,32] else [])++x++TU true r
def aOY (F:RE) (s:Sc) (u:Ty) (l:List Vl):List UInt8×Bool:=([91]++TU false (l.map fun x=>(F s u x).1)++[93],l.any fun x=>(F s u x).2)
def kT (u:St) (n:Int):Fl:=(fF u.fs n).getD default
def itF (F:RE) (s:Sc) (u:St) (x:Int×Vl):List UInt8:=bl (kT u x.1).nm++[32,61,32]++(F s (kT u x.1).ty x.2).1
def aB9 (F:RE) (s:Sc) (u:St) (l:List (Int×Vl)):List UInt8×Bool:=([123]++TU false (l.map (itF F s u))++[125],l.any fun x=>(F s (kT u x.1).ty x.2).2)
def fP:Nat->RE
 |0=>fun _ _ _=>([],false)
 |N+1=>fun s t v=>bif t.k==1 then (tvB v.n,false) else bif t.k==4 then (tvT (bl v.s),tvT (bl v.s)==[]) else bif t.k==7 then (bl (nmF (enOf s t).ns v.n (enOf s t).vs 0),false)
  else bif t.k==5 then aOY (fP N) s (t.e.headD default) v.l else bif t.k==6 then aB9 (fP N) s (stOf s t) v.f else (aS4 v.n,false)
def aUV (F:RE) (s:Sc) (t:Ty) (v:Vl):List UInt8:=bif lA s t v != 0 then [] else bif (F s t v).2||decide (4000<((F s t v).1.length:Int)) then [] else (F s t v).1
theorem T9:Meets Tryz.prog 62 uQ:=by
 refine aF Tryz.func62 aWT 2 (by rw[Tryz.ntmps62];decide) (aB _) (fun av H K h=>by obtain ⟨_,_,rfl,_⟩:=h;rfl) ?_
 rintro av H K ⟨s,n,rfl,rfl,hs,hK⟩
 rw[<-pQ] at hK
 have hl:=hs.ok.ls
 simp -dsimp only[go_sem,aD,aKJ,aGN]
 refine aL (α:=Nat) (fun i=>[(1,tS n),(2,.va (.c1 (.pt 0 0))),(4,.va (.c1 (.pt 1 0))),(6,iS .i64 i)]) (fun _=>[.cells (aD s) 25,.cells [.vl (.string (mk [])),.vl (.slice none 0 0)] 48])
  (fun i=>i<=s.ss.length/\fS (s.ss.drop i) n=fS s.ss n) (fun i=>s.ss.length-i) 0 2 ⟨Nat.zero_le _,rfl⟩ ?_ ?_ ?_
 · simp[go_sem]
 · simp[go_sem,aD]
 rintro i ⟨hi,ho⟩
 rcases bB i s.ss.length with hlt|hge
 · have hg:decide ((i:Int)<(s.ss.length:Int))=true:=by simp;omega
   obtain ⟨t,hx⟩:∃e,s.ss[i]? = some e:=⟨_,aU hlt⟩
   have q2:=aT (row:=aH) hx
   rw[fS,iQ hx] at ho
   cases hc:decide (t.nm=n) with
   |true=>
    rw[hc,bE] at ho
    rw[<-ho] at hK
    simp(maxSteps:=9^6)-dsimp only[go_sem,hg,↓q2,aH,aD,cN,hc]
    refine ⟨by omega,by omega,.z ((by simpa[go_sem,aH] using hK))⟩
   |false=>
    rw[hc,a8] at ho
    simp(maxSteps:=9^6)-dsimp only[go_sem,hg,↓q2,aH,aD,cN,hc]
    refine ⟨by omega,by omega,aE (i+1) 2 ⟨by omega,ho⟩ (by omega) ?_ ?_⟩
    · simp[go_sem]
    · simp[go_sem,aD]
 · have hg:decide ((i:Int)<(s.ss.length:Int))=false:=by simp;omega
   obtain rfl:i=s.ss.length:=by omega
   rw[List.drop_length] at ho
   rw[<-ho] at hK
   simp -dsimp only[go_sem,hg,aD]
   exact .z ((by simpa[go_sem,fS,BH] using hK))
def bR (l:List (Int×Vl)) (k:Int):Option (Int×Vl):=l.find? fun x=>decide (x.1=k)
def SP:W.Spec:=fun av H K=>∃(v:Vl) (k:Int),av=[.va (.gs (aP v)),iS .i64 k]/\H=[]/\VlOk v/\v.k=6/\K (.tu [.gs (aP (((bR v.f k).map (·.2)).getD default)),bA (bR v.f k).isSome]) []
theorem HG {v:Vl} {k:Int} {K:S->Hp->Prop} (h:VlOk v) (h6:v.k=6) (hK:K (.tu [.gs (aP (((bR v.f k).map (·.2)).getD default)),bA (bR v.f k).isSome]) []):SP [.va (.gs [.vl (.int .i64 v.k),.vl (.int .i64 v.n),.vl (.string v.s),.fz (v.l.map aP),.fz (v.f.map bD)]),iS .i64 k] [] K:=⟨v,k,by rw[aJ],rfl,h,h6,hK⟩
theorem vW:aP default=[.vl (.int .i64 0),.vl (.int .i64 0),.vl (.string (mk [])),.fz [],.fz []]:=rfl
theorem MY:Meets Tryz.prog 50 SP:=by
 refine aF Tryz.func50 aWS 2 (by rw[Tryz.ntmps50];decide) (aB _) (fun av H K h=>by obtain ⟨_,_,rfl,_⟩:=h;rfl) ?_
 rintro av H K ⟨v,k,rfl,rfl,hv,h6,hK⟩
 have hl:=hv.lf
 simp -dsimp only[go_sem,aJ v,aD1,aHN]
 refine aL (α:=Nat) (fun i=>[(1,iS .i64 k),(2,.va (.c1 (.pt 0 0))),(4,.va (.c1 (.pt 1 0))),(6,iS .i64 i)]) (fun _=>[.cells [.vl (.int .i64 v.k),.vl (.int .i64 v.n),.vl (.string v.s),.fz (v.l.map aP),.fz (v.f.map bD)] 29,.cells [.vl (.int .i64 0),.vl (.int .i64 0),.vl (.string (mk [])),.vl (.slice none 0 0),.vl (.slice none 0 0)] 29])
  (fun i=>i<=v.f.length/\bR (v.f.drop i) k=bR v.f k) (fun i=>v.f.length-i) 0 2 ⟨Nat.zero_le _,rfl⟩ ?_ ?_ ?_
 · simp -dsimp only[go_sem]<;>simp
 · simp -dsimp only[go_sem]<;>simp
 rintro i ⟨hi,ho⟩
 rcases bB i v.f.length with hlt|hge
 · have hg:decide ((i:Int)<(v.f.length:Int))=true:=by simp;omega
   have g6:(v.k==6)=true:=by rw[h6];rfl
   obtain ⟨x,hx⟩:∃x,v.f[i]? = some x:=⟨_,aU hlt⟩
   have q2:=aT (row:=bD) hx
   rw[bR,iQ hx] at ho
   obtain ⟨n,w⟩:=x
   cases hc:decide (n=k) with
   |true=>
    simp only[hc,bE] at ho
    rw[<-ho] at hK
    have hc':(n==k)=true:=by simpa using hc
    simp(maxSteps:=9^6)-dsimp only[go_sem,hg,g6,↓q2,bD,aJ w,hc',List.take_succ_cons,List.take_zero,List.length_cons]
    exact ⟨⟨by omega,by omega⟩,⟨by omega,by omega⟩,.z ((by simpa[go_sem,aJ w] using hK))⟩
   |false=>
    simp only[hc,a8] at ho
    have hc':(n==k)=false:=by simpa using hc
    simp(maxSteps:=9^6)-dsimp only[go_sem,hg,g6,↓q2,bD,aJ w,hc']
    refine ⟨⟨by omega,by omega⟩,⟨by omega,by omega⟩,aE (i+1) 2 ⟨by omega,ho⟩ (by omega) ?_ ?_⟩
    · simp -dsimp only[go_sem]<;>simp
    · simp -dsimp only[go_sem]<;>simp
 · have hg:decide ((i:Int)<(v.f.length:Int))=false:=by simp;omega
   obtain rfl:i=v.f.length:=by omega
   rw[List.drop_length] at ho
   rw[<-ho] at hK
   simp(maxSteps:=9^6)-dsimp only[go_sem,hg]
   exact .z ((by simpa[go_sem,bR,vW] using hK))
theorem J9:Meets Tryz.prog 103 r0Fn.sp:=by
 refine aF Tryz.func103 aK8 2 (by rw[Tryz.ntmps103];decide) (aG L4 (aB _)) (fun av H K h=>by obtain ⟨_,_,rfl,_⟩:=kN h.1.1;rfl) ?_
 rintro av H K ⟨⟨h,rfl⟩,hK⟩
 obtain ⟨s,t,rfl,hs,ht⟩:=kN h
 have k4:=gL ht
 have k5:=lM t
 have k6:=dQ hs
 have k7:=gV s
 have e:r0Fn.val [.va (.gs (aD s)),.va (.gs (aQ t))]=bA (valF s.ss s.es t):=by
  show bA (valF (C.sc (aD s)).ss (C.sc (aD s)).es (C.ty (aQ t)))=_
  rw[dF,g4]
 rw[e] at hK
 simp(maxSteps:=9^6)-dsimp only[go_sem,aD,aR t,YX,XC,k4,k5,k6,k7]
 exact .z ((by simpa[go_sem] using hK))
def SH (v:Vl):Bool:=(v.k != 4&&!(bl v.s==[]))||(v.k != 5&&decide (0<(v.l.length:Int)))||(v.k != 6&&decide (0<(v.f.length:Int)))
def U6 (v:Vl):Bool:=(v.k==4||v.k==5||v.k==6)&&v.n != 0
def RC (s:Sc) (t:Ty) (v:Vl):Bool:=bif !(valF s.ss s.es t)||v.k != t.k||SH v then false else bif U6 v then false else bif v.k != 6 then true else dG (stOf s t).fs v.f
theorem va2 {ss:List St} {es:List En} {t:Ty} (h:valF ss es t=true) (hk:(t.k==2)=true):t.s=8\/t.s=16\/t.s=32\/t.s=64:=by
 obtain ⟨k,s,n,e⟩:=t
 have hk:k=2:=eq_of_beq hk
 subst hk
 rw[valF] at h
 simp at h
 show s=8\/s=16\/s=32\/s=64
 omega
theorem va3 {ss:List St} {es:List En} {t:Ty} (h:valF ss es t=true) (hk:(t.k==3)=true):t.s=8\/t.s=16\/t.s=32:=by
 obtain ⟨k,s,n,e⟩:=t
 have hk:k=3:=eq_of_beq hk
 subst hk
 rw[valF] at h
 simp at h
 show s=8\/s=16\/s=32
 omega
def AZ (s:Sc) (t:Ty) (n:Int):Bool:=
 bif t.k==1 then n==0||n==1
 else bif t.k==2 then t.s==64||(decide (-(2 ^ (t.s.toNat-1):Int)<=n)&&decide (n<(2 ^ (t.s.toNat-1):Int)))
 else bif t.k==3 then decide (0<=n)&&decide (n<(2 ^ t.s.toNat:Int))
 else bif t.k==7 then (enOf s t).vs.any fun x=>x==n else true
def aJ8 (t:Ty) (a b:Int):Bool:=(t.k==4&&decide (t.s<a))||(t.k==5&&decide (t.s<b))
mutual
def LQ (s:Sc) (t:Ty):Vl->Int
 |.mk k n str l f=>bif !(RC s t (.mk k n str l f)) then 13 else bif !(AZ s t n) then 4 else bif aJ8 t (bl str).length l.length then 3
  else bif GO s (t.e.headD default) l != 0 then GO s (t.e.headD default) l else M7 s (stOf s t) f
def GO (s:Sc) (t:Ty):List Vl->Int
 |[]=>0
 |v::r=>bif LQ s t v != 0 then LQ s t v else GO s t r
def M7 (s:Sc) (u:St):List (Int×Vl)->Int
 |[]=>0
 | (i,v)::r=>bif LQ s (kT u i).ty v != 0 then LQ s (kT u i).ty v else M7 s u r
end
theorem pJ {α:Type} {l:List α} (h:decide (0<(l.length:Int))=false):l=[]:=by
 have:=of_decide_eq_false h
 exact List.length_eq_zero_iff.1 (by omega)
theorem aEF {s:Sc} {t:Ty} {n:Int} (hp:valF s.ss s.es t=true) (h4:(t.k==4)=false) (h5:(t.k==5)=false) (h6:(t.k==6)=false):AZ s t n=eX s t n:=by
 unfold AZ eX
 cases h1:t.k==1 with
 |true=>rfl
 |false=>
 cases h2:t.k==2 with
 |true=>rfl
 |false=>
 cases h3:t.k==3 with
 |true=>rfl
 |false=>
 cases h7:t.k==7 with
 |true=>rfl
 |false=>
  exfalso
  obtain ⟨k,sz,nm,e⟩:=t
  have h1:(k==1)=false:=h1
  have h2:(k==2)=false:=h2
  have h3:(k==3)=false:=h3
  have h4:(k==4)=false:=h4
  have h5:(k==5)=false:=h5
  have h6:(k==6)=false:=h6
  have h7:(k==7)=false:=h7
  rw[valF,h1,h2,h3,h4,h5,h6,h7] at hp
  cases hp
mutual
theorem QB (s:Sc) (t:Ty):∀v:Vl,LQ s t v=cT s t v
 |.mk k n str l f=>by
  have hL:∀u,GO s u l=g8 s u l:=fun u=>O6 s u l
  have hE:M7 s (stOf s t) f=jL s ((fS s.ss t.n).getD default).fs f:=QO s (stOf s t) f
  rw[LQ,cT,hL,hE]
  unfold RC
  cases hp:valF s.ss s.es t with
  |false=>rfl
  |true=>
  show (bif !(bif !true||k != t.k||SH (.mk k n str l f) then false else bif U6 (.mk k n str l f) then false else bif k != 6 then true else dG (stOf s t).fs f) then 13 else _)=_
  cases hk:k != t.k with
  |true=>rfl
  |false=>
  have hk':k=t.k:=by simpa using hk
  subst hk'
  have eA:SH (.mk t.k n str l f)=((t.k != 4&&!(bl str==[]))||(t.k != 5&&decide (0<(l.length:Int)))||(t.k != 6&&decide (0<(f.length:Int)))):=rfl
  have eB:U6 (.mk t.k n str l f)=((t.k==4||t.k==5||t.k==6)&&n != 0):=rfl
  rw[eA,eB]
  unfold aJ8
  cases h4:t.k==4 with
  |true=>
   have e4:t.k=4:=eq_of_beq h4
   have er:AZ s t n=true:=by unfold AZ;rw[e4];rfl
   rw[er,e4]
   unfold jX
   cases hn:n != 0<;>cases hl:decide (0<(l.length:Int))<;>cases hf:decide (0<(f.length:Int))<;>cases hs:decide (t.s<((bl str).length:Int))<;>(try rw[pJ hl])<;>(try rw[pJ hf])<;>simp[g8,jL]
  |false=>
  cases h5:t.k==5 with
  |true=>
   have e5:t.k=5:=eq_of_beq h5
   have er:AZ s t n=true:=by unfold AZ;rw[e5];rfl
   rw[er,e5]
   generalize g8 s (t.e.headD default) l=q
   have hq:(bif q != 0 then q else 0)=q:=by
    cases hz:q != 0 with
    |true=>rfl
    |false=>
     have hq0:q=0:=by simpa using hz
     rw[hq0];rfl
   cases hn:n != 0<;>cases hb:bl str==[]<;>cases hf:decide (0<(f.length:Int))<;>cases hs:decide (t.s<(l.length:Int))<;>(try rw[pJ hf])<;>simp[jL,hq]
  |false=>
  cases h6:t.k==6 with
  |true=>
   have e6:t.k=6:=eq_of_beq h6
   have er:AZ s t n=true:=by unfold AZ;rw[e6];rfl
   have ef:(stOf s t).fs=((fS s.ss t.n).getD default).fs:=rfl
   rw[er,e6,ef]
   cases hn:n != 0<;>cases hb:bl str==[]<;>cases hl:decide (0<(l.length:Int))<;>cases hs:dG ((fS s.ss t.n).getD default).fs f<;>(try rw[pJ hl])<;>simp[g8]
  |false=>
   rw[aEF hp h4 h5 h6]
   have c4:(t.k != 4)=true:=by rw[bne,h4];rfl
   have c5:(t.k != 5)=true:=by rw[bne,h5];rfl
   have c6:(t.k != 6)=true:=by rw[bne,h6];rfl
   rw[c4,c5,c6]
   unfold kW
   cases hb:bl str==[]<;>cases hl:decide (0<(l.length:Int))<;>cases hf:decide (0<(f.length:Int))<;>cases hr:eX s t n<;>(try rw[pJ hl])<;>(try rw[pJ hf])<;>simp[g8,jL]
theorem O6 (s:Sc) (t:Ty):∀l:List Vl,GO s t l=g8 s t l
 |[]=>by rw[GO,g8]
 |v::r=>by rw[GO,g8,QB s t v,O6 s t r]
theorem QO (s:Sc) (u:St):∀l:List (Int×Vl),M7 s u l=jL s u.fs l
 |[]=>by rw[M7,jL]
 | (i,v)::r=>by
  rw[M7,jL,QB s (kT u i).ty v,QO s u r];rfl
end
mutual
def cX:Vl->Int
 |.mk k n s l f=>bif mM (.mk k n s l f) then 0 else 1+iD (fW 0 l) f
def fW (d:Int):List Vl->Int
 |[]=>d
 |v::r=>fW (max d (cX v)) r
def iD (d:Int):List (Int×Vl)->Int
 |[]=>d
 | (_,v)::r=>iD (max d (cX v)) r
end
theorem nQ (v:Vl):cX v=bif mM v then 0 else 1+iD (fW 0 v.l) v.f:=by cases v;rw[cX];rfl
theorem GY {g:Vl->Int} {n:Nat} (hg:∀x,g x=min (cX x) n) (D:Int) (x:Vl):mI g ((n:Int)-1) (min D n) x=min (max D (cX x)) n:=by
 unfold mI
 rw[hg x]
 cases h:decide (min D (n:Int)<=(n:Int)-1) with
 |true=>have:=of_decide_eq_true h;rw[bE];omega
 |false=>have:=of_decide_eq_false h;rw[a8];omega
theorem VO {g:Vl->Int} {n:Nat} (hg:∀x,g x=min (cX x) n):∀(l:List Vl) (D:Int),l.foldl (mI g ((n:Int)-1)) (min D n)=min (fW D l) n
 |[],D=>by rw[fW];rfl
 |x::l,D=>by rw[List.foldl_cons,GY hg,VO hg l,fW]
theorem XR {g:Vl->Int} {n:Nat} (hg:∀x,g x=min (cX x) n):∀(l:List (Int×Vl)) (D:Int),l.foldl (pO g ((n:Int)-1)) (min D n)=min (iD D l) n
 |[],D=>by rw[iD];rfl
 | (i,x)::l,D=>by
  rw[List.foldl_cons,show pO g ((n:Int)-1) (min D n) (i,x)=mI g ((n:Int)-1) (min D n) x from rfl,GY hg,XR hg l,iD]
theorem Y0 {g:Vl->Int} {n:Nat} (hg:∀x,g x=min (cX x) n) (v:Vl):JN g ((n:Int)-1) v=min (cX v) ((n:Int)+1):=by
 unfold JN
 rw[nQ]
 cases mM v with
 |true=>rw[bE,bE];omega
 |false=>
  rw[a8,a8]
  have h1:=VO hg v.l 0
  rw[show min (0:Int) (n:Int)=0 by omega] at h1
  rw[h1,XR hg v.f]
  omega
mutual
theorem aA6:∀v:Vl,0<=cX v
 |.mk k n s l f=>by
  rw[cX]
  have h1:=u5 l 0
  have h2:=uH f (fW 0 l)
  cases mM (.mk k n s l f) with
  |true=>exact Int.le_refl _
  |false=>rw[a8];omega
theorem u5:∀(l:List Vl) (d:Int),d<=fW d l
 |[],d=>by rw[fW];exact Int.le_refl _
 |v::r,d=>by
  rw[fW]
  have:=u5 r (max d (cX v))
  omega
theorem uH:∀(l:List (Int×Vl)) (d:Int),d<=iD d l
 |[],d=>by rw[iD];exact Int.le_refl _
 | (_,v)::r,d=>by
  rw[iD]
  have:=uH r (max d (cX v))
  omega
end
theorem MQ:∀(n:Nat) (x:Vl),iP n x=min (cX x) n
 |0,x=>by have:=aA6 x;show (0:Int)=min (cX x) 0;omega
 |n+1,x=>by
  rw[iP,AL,Y0 (MQ n) x]
  omega
theorem aBF (n:Nat) (v:Vl):s5 n v=min (cX v) ((n:Int)+1):=by rw[AL,Y0 (MQ n) v]
theorem LO (v:Vl):decide (6<s5 7 v)=decide (6<cX v):=by
 rw[aBF]
 rw[Bool.eq_iff_iff,decide_eq_true_iff,decide_eq_true_iff]
 omega
mutual
theorem ZH:∀v:Vl,cX v<=v.h
 |.mk k n s l f=>by
  rw[cX,Vl.h]
  have h1:=YE l 0
  have h2:=XX f (fW 0 l)
  cases mM (.mk k n s l f) with
  |true=>rw[bE];omega
  |false=>rw[a8];omega
theorem YE:∀(l:List Vl) (d:Int),fW d l<=max d (Vl.hl l)
 |[],d=>by rw[fW,Vl.hl];omega
 |v::r,d=>by
  rw[fW,Vl.hl]
  have h1:=ZH v
  have h2:=YE r (max d (cX v))
  omega
theorem XX:∀(l:List (Int×Vl)) (d:Int),iD d l<=max d (Vl.hf l)
 |[],d=>by rw[iD,Vl.hf];omega
 | (i,v)::r,d=>by
  rw[iD,Vl.hf]
  have h1:=ZH v
  have h2:=XX r (max d (cX v))
  omega
end
mutual
def prV:Vl->Bool
 |.mk _ _ s l f=>(decide ((bl s).length<=200)&&(bl s).all prB)&&(prL l&&prG f)
def prL:List Vl->Bool
 |[]=>true
 |v::r=>prV v&&prL r
def prG:List (Int×Vl)->Bool
 |[]=>true
 | (_,v)::r=>prV v&&prG r
end
def aUK (s:Sc):Prop:=∀e∈s.es,e.ns.length=e.vs.length
structure NSt (ss:List St) (es:List En) (u:St):Prop where
 l:u.fs.length<=16
 n:∀f∈u.fs,1<=f.num/\f.num<=127
 m:∀f∈u.fs,cO (bl f.nm)=true
 v:∀f∈u.fs,valF ss es f.ty=true
 a:∀k f g,0<k->u.fs[k-1]? = some g->u.fs[k]? = some f->g.num<f.num
 d:∀k f,u.fs[k]? = some f->(u.fs.take k).any (fun g=>decide (g.nm=f.nm))=false
structure NEn (e:En):Prop where
 l:e.ns.length=e.vs.length
 s:e.ns.length<=16
 m:∀n∈e.ns,cO (bl n)=true
 d:∀k x,e.ns[k]? = some x->bW (e.ns.take k) x=false
 a:∀k x y,0<k->e.vs[k-1]? = some x->e.vs[k]? = some y->x<y
 n:∀x∈e.vs,0<=x/\x<=127
structure Nice (s:Sc):Prop where
 st:∀u∈s.ss,NSt s.ss s.es u
 en:∀e∈s.es,NEn e
theorem f8 {b:Bool} {x y:Int} (h:(bif b then x else y)=0) (hx:x≠0):b=false/\y=0:=by
 cases b with
 |true=>exact absurd h hx
 |false=>exact ⟨rfl,h⟩
theorem Q9 {x y:Int} (h:(bif x != 0 then x else y)=0):x=0/\y=0:=by
 by_cases c:x=0
 · subst c;exact ⟨rfl,h⟩
 · rw[show (x != 0)=true by simpa using c] at h;exact absurd h c
theorem QF {ss:List St} {es:List En} {t:St} {k:Nat} {f:Fl} (hx:t.fs[k]? = some f) (h:jN ss es t k=0) :
 (1<=f.num/\f.num<=127)/\(∀g,0<k->t.fs[k-1]? = some g->g.num<f.num)/\cO (bl f.nm)=true/\(t.fs.take k).any (fun g=>decide (g.nm=f.nm))=false/\valF ss es f.ty=true:=by
 unfold jN at h
 rw[hx] at h
 simp only at h
 obtain ⟨c1,h⟩:=f8 h (by decide)
 obtain ⟨c2,h⟩:=f8 h (by decide)
 obtain ⟨c3,h⟩:=f8 h (by decide)
 obtain ⟨c4,h⟩:=f8 h (by decide)
 obtain ⟨c5,h⟩:=f8 h (by decide)
 simp only[Bool.or_eq_false_iff,decide_eq_false_iff_not] at c1
 refine ⟨⟨by omega,by omega⟩,fun g hk hg=>?_,by simpa using c3,c4,by simpa using c5⟩
 rw[hg] at c2
 simp only at c2
 rw[show decide (0<(k:Int))=true by simp;omega,Bool.true_and] at c2
 have:=of_decide_eq_false c2
 omega
theorem D2 {e:En} {k:Nat} {x:ByteArray} {n:Int} (hx:e.ns[k]? = some x) (hn:e.vs[k]? = some n) (h:fI e k=0) :
 cO (bl x)=true/\bW (e.ns.take k) x=false/\(0<=n/\n<=127)/\(k=0->n=0)/\∀m,0<k->e.vs[k-1]? = some m->m<n:=by
 unfold fI at h
 rw[hx,hn] at h
 simp only at h
 obtain ⟨c3,h⟩:=f8 h (by decide)
 obtain ⟨c4,h⟩:=f8 h (by decide)
 obtain ⟨c1,h⟩:=f8 h (by decide)
 obtain ⟨c2,h⟩:=f8 h (by decide)
 rw[Bool.or_eq_false_iff] at c1 c2
 have a1:=of_decide_eq_false c1.1
 have a2:=of_decide_eq_false c1.2
 refine ⟨by simpa using c3,c4,⟨by omega,by omega⟩,fun hk=>?_,fun m hk hm=>?_⟩
 · have c2:=c2.1
   rw[show decide ((k:Int)=0)=true by simp;omega,Bool.true_and] at c2
   exact Decidable.of_not_not (of_decide_eq_false c2)
 · have c2:=c2.2
   rw[hm] at c2
   simp only at c2
   rw[show decide (0<(k:Int))=true by simp;omega,Bool.true_and] at c2
   have:=of_decide_eq_false c2
   omega
theorem L9 {e:En} (h:l9 e=0):0<e.ns.length/\e.ns.length=e.vs.length/\∀k<e.ns.length,fI e k=0:=by
 unfold l9 at h
 obtain ⟨c1,h⟩:=f8 h (by decide)
 simp only[Bool.or_eq_false_iff,decide_eq_false_iff_not] at c1
 exact ⟨by omega,by omega,fun k hk=>lS (m:=e.ns.length) (by rw[Nat.sub_zero];exact h) k hk⟩
theorem sG {s:Sc} (h:bI s=0):cG s=false/\t8 s=0/\s4 s=0/\iZ s.ss=0:=by
 unfold bI at h
 obtain ⟨_,h⟩:=f8 h (by decide)
 obtain ⟨c2,h⟩:=f8 h (by decide)
 obtain ⟨c3,h⟩:=Q9 h
 obtain ⟨c4,h⟩:=Q9 h
 exact ⟨c2,c3,c4,h⟩
theorem aB3 {s:Sc} (h:bI s=0):Nice s:=by
 obtain ⟨c2,c3,c4,_⟩:=sG h
 obtain ⟨l1,l2,l3,l4⟩:=wT c2
 refine ⟨fun u hu=>?_,fun e he=>?_⟩
 · obtain ⟨i,hi⟩:=List.mem_iff_getElem?.1 hu
   have hc:=(KQ hi (lS c4 i (bJ.1 hi).1)).2
   have key:=fun k f (hx:u.fs[k]? = some f)=>QF hx (lS hc k (bJ.1 hx).1)
   have mem:∀f∈u.fs,∃k,u.fs[k]? = some f:=fun f hf=>List.mem_iff_getElem?.1 hf
   exact ⟨l4 u hu,fun f hf=>(mem f hf).elim fun k hx=>(key k f hx).1,fun f hf=>(mem f hf).elim fun k hx=>(key k f hx).2.2.1,fun f hf=>(mem f hf).elim fun k hx=>(key k f hx).2.2.2.2,
    fun k f g hk hg hf=>(key k f hf).2.1 g hk hg,fun k f hf=>(key k f hf).2.2.2.1⟩
 · obtain ⟨i,hi⟩:=List.mem_iff_getElem?.1 he
   obtain ⟨hp,hl,hc⟩:=L9 (L2 hi (lS c3 i (bJ.1 hi).1)).2.2
   have key:=fun k x n (hx:e.ns[k]? = some x) (hn:e.vs[k]? = some n)=>D2 hx hn (hc k (bJ.1 hx).1)
   have oth:∀k x,e.ns[k]? = some x->∃n,e.vs[k]? = some n:=fun k x hx=>⟨_,aU (hl ▸ (bJ.1 hx).1)⟩
   have oth2:∀k n,e.vs[k]? = some n->∃x,e.ns[k]? = some x:=fun k x hx=>⟨_,aU (hl ▸ (bJ.1 hx).1)⟩
   refine ⟨hl,l3 e he,fun x hx=>?_,fun k x hx=>?_,fun k x y hk hx hy=>?_,fun n hn=>?_⟩
   · obtain ⟨k,hk⟩:=List.mem_iff_getElem?.1 hx
     obtain ⟨n,hn⟩:=oth k x hk
     exact (key k x n hk hn).1
   · obtain ⟨n,hn⟩:=oth k x hx
     exact (key k x n hx hn).2.1
   · obtain ⟨z,hz⟩:=oth2 k y hy
     exact (key k z y hz hy).2.2.2.2 x hk hx
   · obtain ⟨k,hk⟩:=List.mem_iff_getElem?.1 hn
     obtain ⟨z,hz⟩:=oth2 k n hk
     exact (key k z n hz hk).2.2.1
theorem SU {s:Sc} (h:bI s=0) {e:En} (he:e∈s.es):e.vs[0]? = some 0:=by
 obtain ⟨c2,c3,c4,_⟩:=sG h
 obtain ⟨i,hi⟩:=List.mem_iff_getElem?.1 he
 obtain ⟨hp,hl,hc⟩:=L9 (L2 hi (lS c3 i (bJ.1 hi).1)).2.2
 have h1:e.ns[0]? = some e.ns[0]:=aU hp
 have h2:e.vs[0]? = some (e.vs[0]'(hl ▸ hp)):=aU (hl ▸ hp)
 rw[h2,(D2 h1 h2 (hc 0 hp)).2.2.2.1 rfl]
theorem Nice.stOf {s:Sc} (h:Nice s) (t:Ty):NSt s.ss s.es (stOf s t):=by
 unfold Proofs.YthpbnmebjocbeaaGreat.stOf
 cases h1:fS s.ss t.n with
 |none=>exact ⟨by decide,fun _ h=>(by cases h),fun _ h=>(by cases h),fun _ h=>(by cases h),fun _ _ _ _ h=>(by cases h),fun _ _ h=>(by cases h)⟩
 |some u=>exact h.st u (List.mem_of_find?_eq_some h1)
theorem Nice.enOf {s:Sc} (h:Nice s) (t:Ty):NEn (enOf s t):=by
 unfold Proofs.YthpbnmebjocbeaaGreat.enOf
 cases h1:d8 s.es t.n with
 |none=>exact ⟨rfl,by decide,fun _ h=>(by cases h),fun _ _ h=>(by cases h),fun _ _ _ _ h=>(by cases h),fun _ h=>(by cases h)⟩
 |some u=>exact h.en u (List.mem_of_find?_eq_some h1)
theorem Nice.eq {s:Sc} (h:Nice s):aUK s:=fun e he=>(h.en e he).l
theorem S1 {x:List UInt8} (h:cO x=true):x.length<=16:=by
 rcases bB 16 x.length with h1|h1
 · rw[tO h1] at h;cases h
 · exact h1
structure Ck (s:Sc) (t:Ty) (v:Vl):Prop where
 va:valF s.ss s.es t=true
 kk:v.k=t.k
 tx:(t.k==4)=true->v.n=0/\v.l=[]/\v.f=[]/\((bl v.s).length:Int)<=t.s
 ls:(t.k==5)=true->v.n=0/\bl v.s=[]/\v.f=[]/\(v.l.length:Int)<=t.s/\∀x∈v.l,cT s (t.e.headD default) x=0
 st:(t.k==6)=true->v.n=0/\bl v.s=[]/\v.l=[]/\dG (stOf s t).fs v.f=true/\∀x∈v.f,cT s (kT (stOf s t) x.1).ty x.2=0
 nu:(t.k==4)=false->(t.k==5)=false->(t.k==6)=false->bl v.s=[]/\v.l=[]/\v.f=[]/\eX s t v.n=true
theorem H5 {s:Sc} {t:Ty}:∀{l:List Vl},g8 s t l=0->∀x∈l,cT s t x=0
 |[],_,_,h=>by cases h
 |y::l,h,x,hx=>by
  rw[g8] at h
  by_cases c:cT s t y=0
  · rw[c] at h
    rcases List.mem_cons.1 hx with rfl|hx
    · exact c
    · exact H5 h x hx
  · rw[show (cT s t y != 0)=true by simpa using c] at h;exact absurd h c
theorem H4 {s:Sc} {fs:List Fl}:∀{l:List (Int×Vl)},jL s fs l=0->∀x∈l,cT s ((fF fs x.1).getD default).ty x.2=0
 |[],_,_,h=>by cases h
 |y::l,h,x,hx=>by
  rw[xB] at h
  by_cases c:cT s ((fF fs y.1).getD default).ty y.2=0
  · rw[c] at h
    rcases List.mem_cons.1 hx with rfl|hx
    · exact c
    · exact H4 h x hx
  · rw[show (cT s ((fF fs y.1).getD default).ty y.2 != 0)=true by simpa using c] at h;exact absurd h c
theorem m2 {α:Type} {l:List α} (h:¬ 0<(l.length:Int)):l=[]:=List.eq_nil_of_length_eq_zero (by omega)
theorem bG {k a b:Int} (h:(k==a)=true) (hab:a≠b):(k==b)=false:=by
 have:=eq_of_beq h;simp;omega
theorem i6 {s:Sc} {t:Ty} {v:Vl} (h:cT s t v=0):Ck s t v:=by
 rw[l0] at h
 cases c1:!(valF s.ss s.es t)||v.k != t.k with
 |true=>rw[c1] at h;simp at h
 |false=>
 rw[c1,a8] at h
 rw[Bool.or_eq_false_iff] at c1
 have va:valF s.ss s.es t=true:=by simpa using c1.1
 have kk:v.k=t.k:=by simpa using c1.2
 cases c4:t.k==4 with
 |true=>
  rw[c4,bE] at h
  unfold jX at h
  cases d1:v.n != 0||decide (0<(v.l.length:Int))||decide (0<(v.f.length:Int)) with
  |true=>rw[d1] at h;simp at h
  |false=>
   rw[d1,a8] at h
   cases d2:decide (t.s<((bl v.s).length:Int)) with
   |true=>rw[d2] at h;simp at h
   |false=>
    simp only[Bool.or_eq_false_iff,decide_eq_false_iff_not,bne_eq_false_iff_eq] at d1 d2
    refine ⟨va,kk,fun _=>⟨d1.1.1,m2 d1.1.2,m2 d1.2,by omega⟩,fun h=>?_,fun h=>?_,fun h _ _=>?_⟩
    · rw[bG c4 (by decide)] at h;cases h
    · rw[bG c4 (by decide)] at h;cases h
    · rw[c4] at h;cases h
 |false=>
 rw[c4,a8] at h
 cases c5:t.k==5 with
 |true=>
  rw[c5,bE] at h
  cases d1:v.n != 0||!(bl v.s==[])||decide (0<(v.f.length:Int)) with
  |true=>rw[d1] at h;simp at h
  |false=>
   rw[d1,a8] at h
   cases d2:decide (t.s<(v.l.length:Int)) with
   |true=>rw[d2] at h;simp at h
   |false=>
    rw[d2,a8] at h
    simp only[Bool.or_eq_false_iff,decide_eq_false_iff_not,bne_eq_false_iff_eq,Bool.not_eq_false'] at d1 d2
    refine ⟨va,kk,fun h=>?_,fun _=>⟨d1.1.1,eq_of_beq d1.1.2,m2 d1.2,by omega,H5 h⟩,fun h=>?_,fun _ h _=>?_⟩
    · rw[c4] at h;cases h
    · rw[bG c5 (by decide)] at h;cases h
    · rw[c5] at h;cases h
 |false=>
 rw[c5,a8] at h
 cases c6:t.k==6 with
 |true=>
  rw[c6,bE] at h
  cases d1:v.n != 0||!(bl v.s==[])||decide (0<(v.l.length:Int))||!(dG ((fS s.ss t.n).getD default).fs v.f) with
  |true=>rw[d1] at h;simp at h
  |false=>
   rw[d1,a8] at h
   simp only[Bool.or_eq_false_iff,decide_eq_false_iff_not,bne_eq_false_iff_eq,Bool.not_eq_false'] at d1
   refine ⟨va,kk,fun h=>?_,fun h=>?_,fun _=>⟨d1.1.1.1,eq_of_beq d1.1.1.2,m2 d1.1.2,d1.2,H4 h⟩,fun _ _ h=>?_⟩
   · rw[c4] at h;cases h
   · rw[c5] at h;cases h
   · rw[c6] at h;cases h
 |false=>
 rw[c6,a8] at h
 unfold kW at h
 cases d1:!(bl v.s==[])||decide (0<(v.l.length:Int))||decide (0<(v.f.length:Int)) with
 |true=>rw[d1] at h;simp at h
 |false=>
  rw[d1,a8] at h
  cases d2:eX s t v.n with
  |false=>rw[d2] at h;simp at h
  |true=>
   simp only[Bool.or_eq_false_iff,decide_eq_false_iff_not,Bool.not_eq_false'] at d1
   refine ⟨va,kk,fun h=>?_,fun h=>?_,fun h=>?_,fun _ _ _=>⟨eq_of_beq d1.1.1,m2 d1.1.2,m2 d1.2,d2⟩⟩
   · rw[c4] at h;cases h
   · rw[c5] at h;cases h
   · rw[c6] at h;cases h
def g5:Nat->Nat
 |0=>500
 |m+1=>40*g5 m
theorem xK {s:Sc} {t:Ty} {v:Vl} (h:lA s t v=0):cT s t v=0/\cX v<=6:=by
 unfold lA at h
 rw[LO] at h
 cases c:decide (6<cX v) with
 |true=>rw[c] at h;simp at h
 |false=>rw[c] at h;exact ⟨h,by have:=of_decide_eq_false c;omega⟩
def sZ (a b:Int×Int):Int×Int:=(IntKind.i64.wrap (a.1+b.1),max a.2 b.2)
mutual
def oI:Vl->Int->Int×Int
 |.mk _ _ _ l f,lev=>bif decide (20<lev) then (1,lev) else JJ f (lev+1) (wW l (lev+1) (1,lev))
def wW:List Vl->Int->Int×Int->Int×Int
 |[],_,a=>a
 |v::r,lev,a=>wW r lev (sZ a (oI v lev))
def JJ:List (Int×Vl)->Int->Int×Int->Int×Int
 |[],_,a=>a
 | (_,v)::r,lev,a=>JJ r lev (sZ a (oI v lev))
end
mutual
theorem aCJ:∀(v:Vl) (lev:Int),lev<=(oI v lev).2
 |.mk k n s l f,lev=>by
  rw[oI]
  cases decide (20<lev) with
  |true=>exact Int.le_refl _
  |false=>
   have h1:=uS l (lev+1) (1,lev)
   have h2:=vP f (lev+1) (wW l (lev+1) (1,lev))
   rw[a8]
   simp only at h1
   omega
theorem uS:∀(l:List Vl) (lev:Int) (a:Int×Int),a.2<=(wW l lev a).2
 |[],_,_=>by rw[wW];exact Int.le_refl _
 |v::r,lev,a=>by
  have h:=uS r lev (sZ a (oI v lev))
  rw[wW]
  unfold sZ at h ⊢
  simp only at h
  omega
theorem vP:∀(l:List (Int×Vl)) (lev:Int) (a:Int×Int),a.2<=(JJ l lev a).2
 |[],_,_=>by rw[JJ];exact Int.le_refl _
 | (i,v)::r,lev,a=>by
  have h:=vP r lev (sZ a (oI v lev))
  rw[JJ]
  unfold sZ at h ⊢
  simp only at h
  omega
end
mutual
theorem VZ:∀(v:Vl) (lev:Int),(oI v lev).2<=12->lev+v.h<=13
 |.mk k n s l f,lev,h=>by
  have h0:=aCJ (.mk k n s l f) lev
  rw[oI] at h h0
  cases c:decide (20<lev) with
  |true=>have:=of_decide_eq_true c;rw[c,bE] at h;simp only at h;omega
  |false=>
   rw[c,a8] at h h0
   have h1:=uS l (lev+1) (1,lev)
   have h2:=vP f (lev+1) (wW l (lev+1) (1,lev))
   have h3:=YP f (lev+1) (wW l (lev+1) (1,lev)) h
   have h4:=YT l (lev+1) (1,lev) (by omega)
   rw[Vl.h]
   simp only at h1
   omega
theorem YT:∀(l:List Vl) (lev:Int) (a:Int×Int),(wW l lev a).2<=12->Vl.hl l=0\/lev+Vl.hl l<=13
 |[],_,_,_=>.inl (by rw[Vl.hl])
 |v::r,lev,a,h=>by
  rw[wW] at h
  have h1:=uS r lev (sZ a (oI v lev))
  have h2:(oI v lev).2<=(sZ a (oI v lev)).2:=by unfold sZ;simp only;omega
  have h3:=VZ v lev (by omega)
  have h4:=YT r lev _ h
  rw[Vl.hl]
  omega
theorem YP:∀(l:List (Int×Vl)) (lev:Int) (a:Int×Int),(JJ l lev a).2<=12->Vl.hf l=0\/lev+Vl.hf l<=13
 |[],_,_,_=>.inl (by rw[Vl.hf])
 | (i,v)::r,lev,a,h=>by
  rw[JJ] at h
  have h1:=vP r lev (sZ a (oI v lev))
  have h2:(oI v lev).2<=(sZ a (oI v lev)).2:=by unfold sZ;simp only;omega
  have h3:=VZ v lev (by omega)
  have h4:=YP r lev _ h
  rw[Vl.hf]
  omega
end
theorem aHI {ts:List Tk} {n:Nat} (he:Ends ts) (hn:n<ts.length) (hk:(hY ts n).k≠0):dM ts n=n+1:=by
 have h:=he.last n _ (HQ hn)
 unfold dM
 rw[if_pos]
 by_cases e:n+1=ts.length
 · exact absurd (h.2 e) hk
 · omega
abbrev jM (n:Nat):Fs:=⟨false,0,n⟩
def moN (w:List UInt8) (ts:List Tk) (n:Nat):Fs:=bif kR [44] ts (jM n) then v6 [44] ts (jM n) else fY w ts (jM n)
theorem QH {ts:List Tk} {z:Fs} (h:z.bad=true):jZ ts z=z:=by unfold jZ;rw[h];rfl
theorem I6 {w:List UInt8} {ts:List Tk} {z:Fs} (h:z.bad=true):kR w ts z=false:=by unfold kR;rw[h];rfl
theorem D6 {w:List UInt8} {ts:List Tk} {z:Fs} (h:z.bad=true):fY w ts z=z:=by unfold fY;rw[I6 h];exact QH h
structure Vr {α:Type} (ts:List Tk) (r:α×Fs) (v:α) (n:Nat) (b:Bool):Prop where
 hb:r.2.bad=b
 hn:n<ts.length
 ok:b=false->v=r.1/\r.2=jM n
 er:b=true->r.2.off=((hY ts n).a:Int)
theorem aBH {ts:List Tk} {n:Nat} (he:Ends ts) (hn:n<ts.length) (hk:(hY ts n).k≠0):n+1<ts.length:=by
 have h:=he.last n _ (HQ hn)
 by_cases e:n+1=ts.length
 · exact absurd (h.2 e) hk
 · omega
theorem RU {k:Int} {w:List UInt8} {t:Tk} (h:xU k w t=true):t.k=k:=by unfold xU at h;rw[Bool.and_eq_true] at h;exact eq_of_beq h.1
end Go.Proofs.YthpbnmebjocbeaaGreat
namespace Go.W
section
variable {P:Program} {f:FuncId} {s t:Spec}
def C.pl:C->C->Prop
 |.vl v,c'=>c'=.vl v
 |c,c'=>∃u,c'=.vl u/\(c.one->u.oneCell'=true)
def A.pl:A->A->Prop
 |.c1 c,.c1 c'=>C.pl c c'
 |.gs cs,.gs cs'=>All2 C.pl cs cs'
 |_,_=>False
def S.pl:S->S->Prop
 |.va a,s=>∃b,s=.va b/\A.pl a b
 |.tu l,s=>∃m,s=.tu m/\All2 A.pl l m
 |_,s=>s=.un
end
end Go.W
namespace Go.Proofs.YthpbnmebjocbeaaGreat
open Go.W
theorem aON {α:Type} {ts:List Tk} {n:Nat} {v:α} {z:Fs} (h:z=jM z.n\/z=jZ ts (jM n)) (hn:n<ts.length) (hz:z.n<ts.length):Vr ts (v,z) v z.n z.bad:=by
 rcases h with h|h
 · rw[h];exact ⟨rfl,hz,fun _=>⟨rfl,rfl⟩,fun h=>(by cases h)⟩
 · rw[h];exact ⟨rfl,hn,fun h=>(by cases h),fun _=>rfl⟩
theorem SQ (w:List UInt8) (ts:List Tk) (n:Nat):fY w ts (jM n)=jM (fY w ts (jM n)).n\/fY w ts (jM n)=jZ ts (jM n):=by
 unfold fY
 cases kR w ts (jM n) with
 |true=>exact .inl rfl
 |false=>exact .inr rfl
abbrev ET:List (Nat×S):=[(0,.va (.c1 (.pt 0 0))),(4,.va (.c1 (.pt 1 0))),(5,.va (.c1 (.pt 2 0))),(6,.va (.c1 (.pt 3 0))),(7,.va (.c1 (.pt 4 0)))]
theorem pT {ss:List St} {es:List En} {t:Ty} (h:valF ss es t=true):(t.k==1)=true\/(t.k==2)=true\/(t.k==3)=true\/(t.k==4)=true\/(t.k==5)=true\/(t.k==6)=true\/(t.k==7)=true:=by
 obtain ⟨k,s,n,e⟩:=t
 show (k==1)=true\/_
 rw[valF.eq_def] at h
 simp only at h
 cases h1:k==1<;>cases h2:k==2<;>cases h3:k==3<;>cases h4:k==4<;>cases h5:k==5<;>cases h6:k==6<;>cases h7:k==7 <;>
 first
  | (simp[Ty.k,h1,h2,h3,h4,h5,h6,h7];done)
  | (rw[h1,h2,h3,h4,h5,h6,h7] at h;cases h)
theorem QD {w:List UInt8} {ts:List Tk} {n:Nat}:kR w ts (jM n)=xU 4 w (hY ts n):=by unfold kR;rw[Bool.not_false,Bool.true_and]
theorem GS {w:List UInt8} {ts:List Tk} {n:Nat} (he:Ends ts) (hn:n<ts.length) (h:xU 4 w (hY ts n)=true):v6 w ts (jM n)=jM (n+1):=by
 unfold v6;rw[QD,h,aHI he hn (by rw[RU h];decide)];rfl
structure Ser {α:Type} (one:α->Fs->α×Fs) (sh:List UInt8) (ts:List Tk) (Q:α×Fs) (f:Nat) (m:Bool) (a:α) (n:Nat) (b:Bool):Prop where
 hn:n<ts.length
 go:m=true->b=false/\ts.length<n+f/\BI one ts f a (jM n)=Q
 no:m=false->Vr ts (Q.1,fY sh ts Q.2) a n b
theorem Ser.next {α:Type} {one:α->Fs->α×Fs} {sh:List UInt8} {ts:List Tk} {Q:α×Fs} {f:Nat} {a a':α} {n n':Nat} {b':Bool} (he:Ends ts) (ho:Onw one ts) (h:Ser one sh ts Q (f+1) true a n false) (hr:Vr ts (one a (jM n)) a' n' b') :
 (b'=true->Ser one sh ts Q f false a' n' true)/\(b'=false->Ser one sh ts Q f (kR [44] ts (jM n')) a' (moN sh ts n').n (moN sh ts n').bad):=by
 obtain ⟨_,h2,h3⟩:=h.go rfl
 rw[QR] at h3
 simp only[a8] at h3
 refine ⟨fun hb=>?_,fun hb=>?_⟩
 · have hbad:(one a (jM n)).2.bad=true:=by rw[hr.hb,hb]
   rw[I6 hbad,a8] at h3
   refine ⟨hr.hn,fun h=>(by cases h),fun _=>?_⟩
   rw[<-h3]
   exact ⟨by rw[D6 hbad,hbad],hr.hn,fun h=>(by cases h),fun _=>by rw[D6 hbad];exact hr.er hb⟩
 · obtain ⟨e1,e2⟩:=hr.ok hb
   have hn':=hr.hn
   rw[e2] at h3
   unfold moN
   cases hc:kR [44] ts (jM n') with
   |true=>
    have hc':=hc
    rw[QD] at hc'
    have hm:=aBH he hn' (by rw[RU hc'];decide)
    rw[hc,bE,GS he hn' hc'] at h3
    rw[bE,GS he hn' hc']
    refine ⟨hm,fun _=>⟨rfl,?_,by rw[e1];exact h3⟩,fun h=>(by cases h)⟩
    have h5:=(ho a (jM n) h.hn).1
    rw[e2] at h5
    show ts.length<n'+1+f
    have h5:n<=n':=h5
    omega
   |false=>
    rw[hc,a8] at h3
    rw[a8]
    have hq:Q=(a',jM n'):=by rw[<-h3,e1,<-e2]
    refine ⟨(KZ (w:=sh) hn').2,fun h=>(by cases h),fun _=>?_⟩
    rw[hq]
    exact aON (SQ sh ts n') hn' (KZ (w:=sh) hn').2
structure Gtk (k:Int) (x:List UInt8) (n:Int):Prop where
 e:k=0->x=[]/\n=0
 o:k≠0->okK k x n=true
 i:bT n
theorem aBX {k:Int} {x:List UInt8} {n:Int} (h:okK k x n=true):x.length<=200:=by
 unfold okK at h
 cases c1:k==1 with
 |true=>rw[c1,bE,Bool.and_eq_true] at h;have:=S1 h.2;omega
 |false=>
 rw[c1,a8] at h
 cases c2:k==2 with
 |true=>rw[c2,bE] at h;rw[eq_of_beq h];exact Nat.zero_le _
 |false=>
 rw[c2,a8] at h
 cases c3:k==3 with
 |true=>rw[c3,bE,Bool.and_eq_true,Bool.and_eq_true] at h;exact of_decide_eq_true h.2.1
 |false=>
 rw[c3,a8] at h
 cases c4:k==4 with
 |false=>rw[c4] at h;cases h
 |true=>
  rw[c4,bE,Bool.and_eq_true] at h
  match x,h with
  |[],_=>exact Nat.zero_le _
  |[_],_=>exact (by decide:1<=200)
  |_::_::_,h=>exact absurd h.2 (by simp)
theorem Gtk.len {k:Int} {x:List UInt8} {n:Int} (h:Gtk k x n):x.length<=200:=by
 by_cases hk:k=0
 · rw[(h.e hk).1];exact Nat.zero_le _
 · exact aBX (h.o hk)
structure Dg (s:Sc):Prop where
 ni:Nice s
 g:Gd s.ss s.es
 ac:tM s.ss
 d6:∀u∈s.ss,dD s.ss u.nm<=6
 z:∀e∈s.es,e.vs[0]? = some 0
theorem zB {s:Sc} (hf:s.fit) (h:bI s=0):Dg s:=by
 obtain ⟨c2,c3,c4,c5⟩:=sG h
 unfold iZ at c5
 obtain ⟨d1,c5⟩:=f8 c5 (by decide)
 obtain ⟨d2,c5⟩:=f8 c5 (by decide)
 exact ⟨aB3 h,CG hf c2 c4,fun t ht=>iX d1 t ht,fun u hu=>by have:=of_decide_eq_false (iX d2 u hu);omega,fun e he=>SU h he⟩
abbrev fK (s:Sc) (t:Ty):Int:=bU (dD s.ss) t
theorem eE (s:Sc) (t:Ty):0<=fK s t:=by
 unfold fK bU
 have:=GE s.ss (bN t).2.n
 cases (bN t).2.k==6 with
 |true=>rw[bE];omega
 |false=>rw[a8];omega
theorem qB {s:Sc} {t u:Ty} (h5:(t.k==5)=true) (he:t.e=[u]):fK s t=fK s u+1:=by
 obtain ⟨k,z,n,e⟩:=t
 have hk:k=5:=eq_of_beq h5
 have he:e=[u]:=he
 subst hk he
 unfold fK bU
 rw[bN,show ((5:Int)==5)=true from rfl,bE,EO]
 simp only
 omega
theorem jS {s:Sc} {t:Ty} (h6:(t.k==6)=true):fK s t=dD s.ss t.n:=by
 obtain ⟨k,z,n,e⟩:=t
 have hk:k=6:=eq_of_beq h6
 subst hk
 unfold fK bU
 rw[bN,show ((6:Int)==5)=false from rfl,a8]
 show ((0:Nat):Int)+(bif (6:Int)==6 then dD s.ss n else 0)=dD s.ss n
 simp
theorem va6 {s:Sc} {t:Ty} (h:valF s.ss s.es t=true) (h6:(t.k==6)=true):∃u,fS s.ss t.n=some u/\stOf s t=u/\u∈s.ss/\u.nm=t.n:=by
 have hh:cD s.ss t.n=true:=by
  obtain ⟨k,z,n,e⟩:=t
  have hk:k=6:=eq_of_beq h6
  subst hk
  rw[valF] at h;simp at h;exact h.1.1
 rw[<-pQ] at hh
 obtain ⟨u,hu⟩:=Option.isSome_iff_exists.1 hh
 exact ⟨u,hu,by unfold stOf;rw[hu];rfl,(f5 hu).1,(f5 hu).2⟩
theorem va7 {s:Sc} {t:Ty} (h:valF s.ss s.es t=true) (h7:(t.k==7)=true):enOf s t∈s.es:=by
 have hh:c8 s.es t.n=true:=by
  obtain ⟨k,z,n,e⟩:=t
  have hk:k=7:=eq_of_beq h7
  subst hk
  rw[valF] at h;simp at h;exact h.1.1
 rw[<-v8] at hh
 obtain ⟨u,hu⟩:=Option.isSome_iff_exists.1 hh
 unfold enOf
 rw[hu]
 exact (DW hu).1
theorem fX {s:Sc} (hd:Dg s) {t:Ty} (h:valF s.ss s.es t=true) (h6:(t.k==6)=true):1<=dD s.ss t.n/\dD s.ss t.n<=6/\∀f∈(stOf s t).fs,fK s f.ty+1<=dD s.ss t.n:=by
 obtain ⟨u,h1,h2,h3,h4⟩:=va6 h h6
 have e:=FZ hd.g hd.ac h1
 have h0:=jT (dD s.ss) u.fs
 refine ⟨by omega,by rw[<-h4];exact hd.d6 u h3,fun f hf=>?_⟩
 rw[h2] at hf
 have:=MT (dp:=dD s.ss) hf
 show bU (dD s.ss) f.ty+1<=_
 omega
theorem uM {ss:List St} {es:List En} {u:St} (hu:NSt ss es u):u.fs.Pairwise fun f g=>f.num<g.num:=by
 have key:∀(l:List Fl),(∀k f g,0<k->l[k-1]? = some g->l[k]? = some f->g.num<f.num)->l.Pairwise fun f g=>f.num<g.num:=by
  intro l
  induction l with
  |nil=>intro _;exact .nil
  |cons y l ih=>
   intro h
   have hl:=ih fun k f g hk h1 h2=>h (k+1) f g (by omega) (by rw[show k+1-1=k-1+1 by omega];simpa using h1) (by simpa using h2)
   refine List.pairwise_cons.2 ⟨fun f hf=>?_,hl⟩
   cases l with
   |nil=>cases hf
   |cons z l=>
    have h1:=h 1 z y (by omega) rfl rfl
    rcases List.mem_cons.1 hf with rfl|hf
    · exact h1
    · exact Int.lt_trans h1 ((List.pairwise_cons.1 hl).1 f hf)
 exact key u.fs hu.a
theorem rD:∀{fs:List Fl} {f:Fl},fs.Pairwise (fun f g=>f.num<g.num)->f∈fs->fF fs f.num=some f
 |y::l,f,hp,hf=>by
  obtain ⟨h1,h2⟩:=List.pairwise_cons.1 hp
  show List.find? _ _=_
  rw[List.find?_cons]
  rcases List.mem_cons.1 hf with rfl|hf
  · simp
  · have:=h1 f hf
    have e:decide (y.num=f.num)=false:=by simp;omega
    rw[e]
    exact rD h2 hf
theorem OV {fs:List Fl}:∀(L:List (Int×Vl)) (p:Option Int),(∀x∈L,(fF fs x.1).isSome=true)->L.Pairwise (fun x y=>x.1<y.1)->(∀q,p=some q->∀x∈L,q<x.1)->ftA fs p L=true
 |[],_,_,_,_=>by rw[LB]
 |x::L,p,h1,h2,h3=>by
  obtain ⟨h4,h5⟩:=List.pairwise_cons.1 h2
  rw[qV,h1 x (List.mem_cons_self ..),OV L (some x.1) (fun y hy=>h1 y (List.mem_cons_of_mem _ hy)) h5 fun q hq y hy=>by cases hq;exact h4 y hy]
  cases p with
  |none=>rfl
  |some q=>
   have:=h3 q rfl x (List.mem_cons_self ..)
   show (true&&decide (q<x.1)&&true)=true
   rw[decide_eq_true this];rfl
theorem BD {s:Sc} {fs:List Fl}:∀(L:List (Int×Vl)),(∀x∈L,cT s ((fF fs x.1).getD default).ty x.2=0)->jL s fs L=0
 |[],_=>by rw[jL]
 |x::L,h=>by
  rw[xB,h x (List.mem_cons_self ..)]
  exact BD L fun y hy=>h y (List.mem_cons_of_mem _ hy)
theorem G1 {B:Int}:∀(L:List (Int×Vl)) (d:Int),d<=B->(∀x∈L,cX x.2<=B)->iD d L<=B
 |[],d,h,_=>by rw[iD];exact h
 | (i,v)::L,d,h,hx=>by
  rw[iD]
  have:=hx (i,v) (List.mem_cons_self ..)
  exact G1 L _ (by simp only at this;omega) fun y hy=>hx y (List.mem_cons_of_mem _ hy)
def zl (s:Sc) (t:Ty):Int:=bif t.k==6 then dD s.ss t.n else bif t.k==5 then 1 else 0
theorem WM {s:Sc} {t:Ty} (hv:valF s.ss s.es t=true):zl s t<=fK s t:=by
 unfold zl
 have h0:=eE s t
 cases h6:t.k==6 with
 |true=>rw[jS h6];exact Int.le_refl _
 |false=>
  cases h5:t.k==5 with
  |true=>
   obtain ⟨u,he,_⟩:=rV hv h5
   have:=qB (s:=s) h5 he
   have:=eE s u
   rw[a8,bE];omega
  |false=>exact h0
theorem JL (n:Nat):(0:Int)<2 ^ n:=Int.pow_pos (by decide)
theorem NP {s:Sc} {t:Ty} (h:valF s.ss s.es t=true) (hk:(t.k==4)=true\/(t.k==5)=true):1<=t.s:=by
 obtain ⟨k,z,n,e⟩:=t
 show 1<=z
 rcases hk with hk|hk
 · have hk:k=4:=eq_of_beq hk
   subst hk
   rw[valF.eq_def] at h
   simp at h
   omega
 · have hk:k=5:=eq_of_beq hk
   subst hk
   rw[valF.eq_def] at h
   simp at h
   omega
theorem KO {s:Sc} (hd:Dg s) (n:Nat) {t:Ty} (hv:valF s.ss s.es t=true) (h6:(t.k==6)=false):cT s t (zF s (n+1) t)=0/\cX (zF s (n+1) t)<=zl s t:=by
 have e:zF s (n+1) t=.mk t.k 0 (mk []) [] []:=by rw[fR,hv,h6];rfl
 rw[e]
 constructor
 · rw[l0,hv]
   show (bif !true||t.k != t.k then (13:Int) else _)=0
   rw[bne_self_eq_false,Bool.not_true,Bool.or_false,a8]
   cases h4:t.k==4 with
   |true=>
    have:=NP hv (.inl h4)
    have d:decide (t.s<(((bl (mk [])).length:Nat):Int))=false:=by rw[iH];simp;omega
    show jX t 0 (mk []) (([]:List Vl).length:Int) (([]:List (Int×Vl)).length:Int)=0
    unfold jX
    rw[d];rfl
   |false=>
   rw[a8]
   cases h5:t.k==5 with
   |true=>
    have:=NP hv (.inr h5)
    have d:decide (t.s<((([]:List Vl).length:Nat):Int))=false:=by simp;omega
    show (bif decide (t.s<((([]:List Vl).length:Nat):Int)) then (3:Int) else g8 s (t.e.headD default) [])=0
    rw[d,g8];rfl
   |false=>
   rw[a8,h6,a8]
   show kW s t 0 (mk []) ((0:Nat):Int) ((0:Nat):Int)=0
   unfold kW
   have hr:eX s t 0=true:=by
    unfold eX
    rcases pT hv with h|h|h|h|h|h|h
    · rw[h];rfl
    · rw[bG h (b:=1) (by decide),h,a8,bE]
      have:=JL (t.s.toNat-1)
      rw[decide_eq_true (show -(2 ^ (t.s.toNat-1):Int)<=0 by omega),decide_eq_true this,Bool.and_true,Bool.or_true]
    · rw[bG h (b:=1) (by decide),bG h (b:=2) (by decide),h,a8,a8,bE]
      have:=JL t.s.toNat
      rw[decide_eq_true this];rfl
    · rw[h4] at h;cases h
    · rw[h5] at h;cases h
    · rw[h6] at h;cases h
    · rw[bG h (b:=1) (by decide),bG h (b:=2) (by decide),bG h (b:=3) (by decide),h]
      have hm:=hd.z _ (va7 hv h)
      show (enOf s t).vs.any (fun x=>x==0)=true
      rw[List.any_eq_true]
      exact ⟨0,bY hm,rfl⟩
   rw[hr,iH];rfl
 · rw[nQ]
   unfold zl
   rw[h6,a8]
   cases h5:t.k==5 with
   |true=>
    have hs:mM (.mk t.k 0 (mk []) [] [])=false:=by
     show (t.k != 5&&t.k != 6&&_&&_)=false
     rw[bne,h5];rfl
    rw[hs]
    show 1+iD (fW 0 []) []<=1
    rw[fW,iD];decide
   |false=>
    have hs:mM (.mk t.k 0 (mk []) [] [])=true:=by
     show (t.k != 5&&t.k != 6&&_&&_)=true
     rw[bne,bne,h5,h6];rfl
    rw[hs];exact Int.le_refl _
theorem OY {s:Sc} (hd:Dg s):∀(n:Nat) (t:Ty),valF s.ss s.es t=true->((t.k==6)=true->dD s.ss t.n<=n)->cT s t (zF s (n+1) t)=0/\cX (zF s (n+1) t)<=zl s t:=by
 intro n
 induction n with
 |zero=>
  intro t hv h
  cases h6:t.k==6 with
  |true=>have:=(fX hd hv h6).1;have:=h h6;omega
  |false=>exact KO hd 0 hv h6
 |succ n ih=>
  intro t hv h
  cases h6:t.k==6 with
  |false=>exact KO hd (n+1) hv h6
  |true=>
   have hdn:=h h6
   obtain ⟨h1,h2,h3⟩:=fX hd hv h6
   have hu:=hd.ni.stOf t
   have hpw:=uM hu
   have hk:t.k=6:=eq_of_beq h6
   have e:zF s (n+1+1) t=.mk 6 0 (mk []) [] (zE s (n+1) (stOf s t).fs):=by rw[fR,hv,h6];rfl
   have hm:∀x∈zE s (n+1) (stOf s t).fs,∃f∈(stOf s t).fs,x=(f.num,zF s (n+1) f.ty):=fun x hx=>by
    unfold zE at hx
    obtain ⟨f,hf,rfl⟩:=List.mem_map.1 hx
    exact ⟨f,(List.mem_filter.1 hf).1,rfl⟩
   have hf:∀f∈(stOf s t).fs,cT s f.ty (zF s (n+1) f.ty)=0/\cX (zF s (n+1) f.ty)<=dD s.ss t.n-1:=fun f hf=>by
    have hvf:=hu.v f hf
    have h4:=h3 f hf
    have h5:=WM hvf
    obtain ⟨a,b⟩:=ih f.ty hvf fun h7=>by have:=jS (s:=s) h7;omega
    exact ⟨a,by omega⟩
   rw[e]
   constructor
   · rw[l0,hv]
     show (bif !true||(6:Int) != t.k then (13:Int) else _)=0
     rw[hk]
     show (bif !(dG (stOf s t).fs (zE s (n+1) (stOf s t).fs)) then (13:Int) else jL s (stOf s t).fs (zE s (n+1) (stOf s t).fs))=0
     have hfit:dG (stOf s t).fs (zE s (n+1) (stOf s t).fs)=true:=by
      unfold dG
      rw[Bool.and_eq_true,List.all_eq_true]
      refine ⟨OV _ none (fun x hx=>?_) ?_ (fun q h=>by cases h),fun f hf=>?_⟩
      · obtain ⟨f,hf,rfl⟩:=hm x hx
        rw[rD hpw hf];rfl
      · unfold zE
        rw[List.pairwise_map]
        exact hpw.filter _
      · cases ho:f.opt with
        |true=>rfl
        |false=>
         unfold nF
         rw[Bool.false_or,List.any_eq_true]
         refine ⟨(f.num,zF s (n+1) f.ty),?_,by simp⟩
         unfold zE
         exact List.mem_map.2 ⟨f,List.mem_filter.2 ⟨hf,by rw[ho];rfl⟩,rfl⟩
     rw[hfit,Bool.not_true,a8]
     refine BD _ fun x hx=>?_
     obtain ⟨f,hfm,rfl⟩:=hm x hx
     rw[rD hpw hfm]
     exact (hf f hfm).1
   · rw[nQ]
     unfold zl
     rw[h6,bE]
     show 1+iD (fW 0 []) (zE s (n+1) (stOf s t).fs)<=dD s.ss t.n
     rw[fW]
     have:=G1 (B:=dD s.ss t.n-1) (zE s (n+1) (stOf s t).fs) 0 (by omega) fun x hx=>by
      obtain ⟨f,hfm,rfl⟩:=hm x hx
      exact (hf f hfm).2
     omega
mutual
def dA:Vl->Vl->Bool
 |.mk k n s l f,.mk k' n' s' l' f'=>k==k'&&(n==n'&&(bl s==bl s'&&(gS l l'&&gH f f')))
def gS:List Vl->List Vl->Bool
 |[],[]=>true
 |x::a,y::b=>dA x y&&gS a b
 |[],_::_=>false
 |_::_,[]=>false
def gH:List (Int×Vl)->List (Int×Vl)->Bool
 |[],[]=>true
 | (i,x)::a,(j,y)::b=>i==j&&(dA x y&&gH a b)
 |[],_::_=>false
 |_::_,[]=>false
end
mutual
theorem p7:∀{a b:Vl},dA a b=true ↔ a=b
 |.mk k n s l f,.mk k' n' s' l' f'=>by
  rw[dA]
  simp only[Bool.and_eq_true,beq_iff_eq,MP,LM,Vl.mk.injEq]
  exact ⟨fun ⟨h1,h2,h3,h4,h5⟩=>⟨h1,h2,kV h3,h4,h5⟩,fun ⟨h1,h2,h3,h4,h5⟩=>⟨h1,h2,by rw[h3],h4,h5⟩⟩
theorem MP:∀{a b:List Vl},gS a b=true ↔ a=b
 |[],[]=>by rw[gS];simp
 |[],_::_=>by rw[gS];simp
 |_::_,[]=>by rw[gS];simp
 |x::a,y::b=>by rw[gS,Bool.and_eq_true,p7,MP];simp
theorem LM:∀{a b:List (Int×Vl)},gH a b=true ↔ a=b
 |[],[]=>by rw[gH];simp
 |[],_::_=>by rw[gH];simp
 | (_,_)::_,[]=>by rw[gH];simp
 | (i,x)::a,(j,y)::b=>by rw[gH,Bool.and_eq_true,Bool.and_eq_true,p7,LM];simp[and_assoc]
end
theorem nH (a:Vl):dA a a=true:=p7.2 rfl
theorem P3 (a b:Vl):dA a b=(a.k==b.k&&(a.n==b.n&&(bl a.s==bl b.s&&(gS a.l b.l&&gH a.f b.f)))):=by
 cases a;cases b;rw[dA];rfl
theorem JQ (x y:Int×Vl) (a b:List (Int×Vl)):gH (x::a) (y::b)=(x.1==y.1&&(dA x.2 y.2&&gH a b)):=by
 obtain ⟨i,x⟩:=x;obtain ⟨j,y⟩:=y;rw[gH]
def tD (R:Ty->Vl->List UInt8) (s:Sc) (f:List (Int×Vl)) (g:Fl):List UInt8:=
 bif !(bR f g.num).isSome||(!g.opt&&dA (((bR f g.num).map (·.2)).getD default) (zF s 23 g.ty)) then [] else eI g.num++mP (R g.ty (((bR f g.num).map (·.2)).getD default))
def dT (R:Ty->Vl->List UInt8) (s:Sc) (fs:List Fl) (f:List (Int×Vl)):List UInt8:=fs.flatMap (tD R s f)
def jI (R:Ty->Vl->List UInt8) (t:Ty) (l:List Vl):List UInt8:=l.flatMap fun x=>mP (R t x)
def bO (s:Sc):Nat->Ty->Vl->List UInt8
 |0,_,_=>[]
 |N+1,t,v=>bif t.k==1||(t.k==3||t.k==7) then eI v.n else bif t.k==2 then vi (iF v.n) else bif t.k==4 then bl v.s else bif t.k==5 then eI v.l.length++jI (bO s N) (t.e.headD default) v.l else dT (bO s N) s (stOf s t).fs v.f
theorem dL (s:Sc) (N:Nat) (t:Ty) (v:Vl):bO s (N+1) t v=bif t.k==1||(t.k==3||t.k==7) then eI v.n else bif t.k==2 then vi (iF v.n) else bif t.k==4 then bl v.s else bif t.k==5 then eI v.l.length++jI (bO s N) (t.e.headD default) v.l else dT (bO s N) s (stOf s t).fs v.f:=rfl
theorem qC {α:Type} {f:α->List UInt8} {B:Nat}:∀{l:List α},(∀x∈l,(f x).length<=B)->(l.flatMap f).length<=l.length*B
 |[],_=>Nat.zero_le _
 |x::l,h=>by
  have h1:=h x (List.mem_cons_self ..)
  have h2:=qC fun y hy=>h y (List.mem_cons_of_mem _ hy)
  rw[List.flatMap_cons,List.length_append,List.length_cons,Nat.add_mul,Nat.one_mul];omega
theorem lK (l:List UInt8):(mP l).length<=10+l.length:=by
 unfold mP;have:=hT l.length;rw[List.length_append];omega
def eB (N:Nat):Nat:=4000*40 ^ N
theorem aCY (N:Nat):eB (N+1)=40*eB N:=by unfold eB;rw[Nat.pow_succ];omega
theorem aFC (N:Nat):4000<=eB N:=by unfold eB;have:0<40 ^ N:=Nat.pow_pos (by decide);omega
theorem jP {N:Nat} (h:N<=8):eB N<=27000000000000000:=by
 have:40 ^ N<=40 ^ 8:=Nat.pow_le_pow_right (by decide) h
 have h2:(40:Nat) ^ 8=6553600000000:=by decide
 unfold eB;omega
theorem nA {l:List (Int×Vl)} {k:Int} {x:Int×Vl} (h:bR l k=some x):x∈l/\x.1=k:=by
 unfold bR at h
 exact ⟨List.mem_of_find?_eq_some h,by have:=List.find?_some h;simpa using this⟩
theorem kF {s:Sc} (hd:Dg s) {t:Ty} {g:Fl} (hg:g∈(stOf s t).fs):kT (stOf s t) g.num=g:=by
 unfold kT
 rw[rD (uM (hd.ni.stOf t)) hg];rfl
theorem MU {s:Sc} (hd:Dg s) {R:Ty->Vl->List UInt8} {t:Ty} {f:List (Int×Vl)} {g:Fl} {B:Nat} (hg:g∈(stOf s t).fs) (hR:∀x∈f,(R (kT (stOf s t) x.1).ty x.2).length<=B):(tD R s f g).length<=20+B:=by
 unfold tD
 cases hv:bR f g.num with
 |none=>exact Nat.zero_le _
 |some x=>
  obtain ⟨hm,he⟩:=nA hv
  have h1:=hR x hm
  rw[he,kF hd hg] at h1
  have h2:=hT g.num
  have h3:=lK (R g.ty x.2)
  show (bif !true||(!g.opt&&dA x.2 (zF s 23 g.ty)) then [] else eI g.num++mP (R g.ty x.2)).length<=_
  cases !true||(!g.opt&&dA x.2 (zF s 23 g.ty)) with
  |true=>exact Nat.zero_le _
  |false=>rw[cond_false,List.length_append];omega
theorem kH {s:Sc} {t:Ty} (h:valF s.ss s.es t=true):((t.k==4)=true->t.s<=2000)/\((t.k==5)=true->t.s<=32):=by
 obtain ⟨k,z,n,e⟩:=t
 refine ⟨fun hk=>?_,fun hk=>?_⟩
 · have hk:k=4:=eq_of_beq hk
   subst hk
   rw[valF.eq_def] at h
   simp at h
   show z<=2000
   omega
 · have hk:k=5:=eq_of_beq hk
   subst hk
   rw[valF.eq_def] at h
   simp at h
   show z<=32
   omega
theorem fT {s:Sc} (hd:Dg s):∀(N:Nat) (t:Ty) (v:Vl),v.h<=N->cT s t v=0->(bO s N t v).length<=eB N
 |0,_,v,h,_=>by have:=v.h_pos;omega
 |N+1,t,v,hh,h0=>by
  have hc:=i6 h0
  have hB:=aCY N
  have hp:=aFC N
  have hvz:=kH hc.va
  rw[dL]
  cases c1:t.k==1||(t.k==3||t.k==7) with
  |true=>rw[cond_true];have:=hT v.n;omega
  |false=>
  rw[cond_false]
  cases c2:t.k==2 with
  |true=>rw[cond_true];have:=PQ (iF v.n);omega
  |false=>
  rw[cond_false]
  cases c4:t.k==4 with
  |true=>
   rw[cond_true]
   obtain ⟨_,_,_,h1⟩:=hc.tx c4
   have:=hvz.1 c4
   omega
  |false=>
  rw[cond_false]
  cases c5:t.k==5 with
  |true=>
   rw[cond_true,List.length_append]
   obtain ⟨_,_,_,h1,h2⟩:=hc.ls c5
   have h3:=hvz.2 c5
   have h4:=hT v.l.length
   have h5:(jI (bO s N) (t.e.headD default) v.l).length<=v.l.length*(10+eB N):=qC fun x hx=>by
    have:=fT hd N _ x (by have:=Vl.h_l hx;omega) (h2 x hx)
    have:=lK (bO s N (t.e.headD default) x)
    omega
   have h6:v.l.length*(10+eB N)<=32*(10+eB N):=Nat.mul_le_mul_right _ (by omega)
   omega
  |false=>
   rw[cond_false]
   have c6:(t.k==6)=true:=by
    rcases pT hc.va with h|h|h|h|h|h|h
    · rw[h] at c1;cases c1
    · rw[h] at c2;cases c2
    · rw[h,Bool.true_or,Bool.or_true] at c1;cases c1
    · rw[h] at c4;cases c4
    · rw[h] at c5;cases c5
    · exact h
    · rw[h,Bool.or_true,Bool.or_true] at c1;cases c1
   obtain ⟨_,_,_,_,h2⟩:=hc.st c6
   have hl:=(hd.ni.stOf t).l
   have h5:(dT (bO s N) s (stOf s t).fs v.f).length<=(stOf s t).fs.length*(20+eB N):=qC fun g hg=>MU hd hg fun x hx=>fT hd N _ x.2 (by have:=Vl.h_f hx;omega) (h2 x hx)
   have h6:(stOf s t).fs.length*(20+eB N)<=16*(20+eB N):=Nat.mul_le_mul_right _ hl
   omega
def oK (s:Sc) (nm:ByteArray) (v:Vl):List UInt8×Int:=
 bif bI s != 0 then ([],bI s) else bif !(cD s.ss nm) then ([],6) else bif lA s (.mk 6 0 nm []) v != 0 then ([],lA s (.mk 6 0 nm []) v) else bif decide (2000<((dT (bO s 8) s (stOf s (.mk 6 0 nm [])).fs v.f).length:Int)) then ([],3) else (dT (bO s 8) s (stOf s (.mk 6 0 nm [])).fs v.f,0)
mutual
theorem JZ:∀v:Vl,(v.h:Int)<=cX v+1
 |.mk k n s l f=>by
  have h1:=X1 l 0 (Int.le_refl _)
  have h0:=u5 l 0
  have h2:=ZW f (fW 0 l) h0
  have h3:=uH f (fW 0 l)
  rw[cX,Vl.h]
  cases hs:mM (.mk k n s l f) with
  |true=>
   rw[cond_true]
   unfold mM at hs
   simp only[Bool.and_eq_true] at hs
   have e1:l=[]:=by have:=hs.1.2;simpa[Vl.l] using this
   have e2:f=[]:=by have:=hs.2;simpa[Vl.f] using this
   rw[e1,e2,Vl.hl,Vl.hf];decide
  |false=>rw[cond_false];omega
theorem X1:∀(l:List Vl) (d:Int),0<=d->(Vl.hl l:Int)<=fW d l+1
 |[],d,hd=>by rw[Vl.hl,fW];omega
 |v::r,d,hd=>by
  have h1:=JZ v
  have h2:=X1 r (max d (cX v)) (by omega)
  have h3:=u5 r (max d (cX v))
  rw[Vl.hl,fW];omega
theorem ZW:∀(l:List (Int×Vl)) (d:Int),0<=d->(Vl.hf l:Int)<=iD d l+1
 |[],d,hd=>by rw[Vl.hf,iD];omega
 | (_,v)::r,d,hd=>by
  have h1:=JZ v
  have h2:=ZW r (max d (cX v)) (by omega)
  have h3:=uH r (max d (cX v))
  rw[Vl.hf,iD];omega
end
theorem TL {s:Sc} {t:Ty} {v:Vl} (h:lA s t v=0):v.h<=7:=by
 have h1:=(xK h).2
 have h2:=JZ v
 omega
def l7 (b:List UInt8):Vl×Int:=bif b==[] then (v0,1) else bif decide (1<(b.headD 0).toNat)||decide (1<b.length) then (v0,2) else (.mk 1 (b.headD 0).toNat (mk []) [] [],0)
def eK (k:Int) (n:Nat):Int:=bif k==2 then fD n else n
def kZ (s:Sc) (t:Ty) (b:List UInt8):Vl×Int:=bif (vr b).2.2 != 0 then (v0,(vr b).2.2) else bif decide ((vr b).2.1<b.length) then (v0,2) else bif !(eX s t (eK t.k (vr b).1)) then (v0,4) else (.mk t.k (eK t.k (vr b).1) (mk []) [] [],0)
def wU (t:Ty) (b:List UInt8):Vl×Int:=bif decide (t.s<(b.length:Int)) then (v0,3) else (.mk 4 0 (mk b) [] [],0)
def bZ (R:List UInt8->Vl×Int):Nat->List UInt8->(List Vl×List UInt8)×Int
 |0,b=>(([],b),0)
 |n+1,b=>bif (bL b).2.2 != 0 then (([],[]),(bL b).2.2) else bif (R (bL b).1).2 != 0 then (([],[]),(R (bL b).1).2) else bif (bZ R n (bL b).2.1).2 != 0 then (([],[]),(bZ R n (bL b).2.1).2) else (((R (bL b).1).1::(bZ R n (bL b).2.1).1.1,(bZ R n (bL b).2.1).1.2),0)
theorem j7 (R:List UInt8->Vl×Int) (n:Nat) (b:List UInt8):bZ R (n+1) b=bif (bL b).2.2 != 0 then (([],[]),(bL b).2.2) else bif (R (bL b).1).2 != 0 then (([],[]),(R (bL b).1).2) else bif (bZ R n (bL b).2.1).2 != 0 then (([],[]),(bZ R n (bL b).2.1).2) else (((R (bL b).1).1::(bZ R n (bL b).2.1).1.1,(bZ R n (bL b).2.1).1.2),0):=rfl
def eW (R:List UInt8->Vl×Int) (sz:Int) (b:List UInt8):Vl×Int:=
 bif (a7 b).2.2 != 0 then (v0,(a7 b).2.2) else bif decide (sz<((a7 b).1:Int)) then (v0,3) else bif (bZ R (a7 b).1 (a7 b).2.1).2 != 0 then (v0,(bZ R (a7 b).1 (a7 b).2.1).2)
 else bif !((bZ R (a7 b).1 (a7 b).2.1).1.2==[]) then (v0,2) else (.mk 5 0 (mk []) (bZ R (a7 b).1 (a7 b).2.1).1.1 [],0)
def pI (R:Ty->List UInt8->Vl×Int) (s:Sc) (f:Fl) (b:List UInt8):Int:=
 bif (R f.ty b).2 != 0 then (R f.ty b).2 else bif !f.opt&&(dA (R f.ty b).1 (zF s 23 f.ty)&&(f.ty.k != 6||b==[])) then 2 else 0
def cQ (R:Ty->List UInt8->Vl×Int) (s:Sc) (fs:List Fl):Nat->Int->List UInt8->List (Int×Vl)×Int
 |0,_,_=>([],0)
 |g+1,last,b=>bif b==[] then ([],0) else bif (bC b last).2.2 != 0 then ([],(bC b last).2.2)
  else bif !(fF fs (bC b last).1.1).isSome then cQ R s fs g (bC b last).1.1 (bC b last).2.1
  else bif pI R s ((fF fs (bC b last).1.1).getD default) (bC b last).1.2 != 0 then ([],pI R s ((fF fs (bC b last).1.1).getD default) (bC b last).1.2)
  else bif (cQ R s fs g (bC b last).1.1 (bC b last).2.1).2 != 0 then ([],(cQ R s fs g (bC b last).1.1 (bC b last).2.1).2)
  else (((bC b last).1.1,(R ((fF fs (bC b last).1.1).getD default).ty (bC b last).1.2).1)::(cQ R s fs g (bC b last).1.1 (bC b last).2.1).1,0)
def eC (s:Sc) (L:List (Int×Vl)) (f:Fl):List (Int×Vl):=bif (bR L f.num).isSome then [(f.num,((bR L f.num).map (·.2)).getD default)] else bif f.opt then [] else [(f.num,zF s 23 f.ty)]
def cF (s:Sc) (fs:List Fl) (L:List (Int×Vl)):List (Int×Vl):=fs.flatMap (eC s L)
def fZ (R:Ty->List UInt8->Vl×Int) (s:Sc) (fs:List Fl) (b:List UInt8):Vl×Int:=
 bif (cQ R s fs b.length 0 b).2 != 0 then (v0,(cQ R s fs b.length 0 b).2) else (.mk 6 0 (mk []) [] (cF s fs (cQ R s fs b.length 0 b).1),0)
def aV (s:Sc):Nat->Ty->List UInt8->Vl×Int
 |0,_,_=>(v0,0)
 |N+1,t,b=>bif t.k==1 then l7 b else bif t.k==2||(t.k==3||t.k==7) then kZ s t b else bif t.k==4 then wU t b else bif t.k==5 then eW (aV s N (t.e.headD default)) t.s b else fZ (aV s N) s (stOf s t).fs b
theorem j5 (s:Sc) (N:Nat) (t:Ty) (b:List UInt8):aV s (N+1) t b=bif t.k==1 then l7 b else bif t.k==2||(t.k==3||t.k==7) then kZ s t b else bif t.k==4 then wU t b else bif t.k==5 then eW (aV s N (t.e.headD default)) t.s b else fZ (aV s N) s (stOf s t).fs b:=rfl
def dJ (s:Sc) (nm:ByteArray) (b:List UInt8):Vl×Int:=
 bif bI s != 0 then (v0,bI s) else bif !(cD s.ss nm) then (v0,6) else bif decide (2000<(b.length:Int)) then (v0,3) else fZ (aV s 8) s (stOf s (.mk 6 0 nm [])).fs b
def mH {α:Type} (acc:List α) (q:List α×Int):List α×Int:=bif q.2 != 0 then ([],q.2) else (acc++q.1,0)
theorem LA {α:Type} {q:List α×Int} (h:q.2≠0->q.1=[]):mH [] q=q:=by
 unfold mH
 cases hq:q.2 != 0 with
 |true=>rw[cond_true];obtain ⟨a,b⟩:=q;have:=h (eL hq);simp only at this;rw[this]
 |false=>rw[cond_false];obtain ⟨a,b⟩:=q;have:=cU hq;simp only at this;rw[this];rfl
theorem RN {α:Type} (a b:List α) (q:List α×Int):mH a (mH b q)=mH (a++b) q:=by
 unfold mH
 cases hq:q.2 != 0 with
 |true=>simp only[cond_true,hq]
 |false=>simp only[cond_false];rw[show ((0:Int) != 0)=false from rfl,cond_false,List.append_assoc]
theorem m1 {α:Type} (a:List α) {e:Int} (h:(e != 0)=true):mH a ([],e)=([],e):=by unfold mH;rw[h];rfl
theorem QA {α:Type} (a b:List α):mH a (b,0)=(a++b,0):=rfl
theorem pN {R:Ty->List UInt8->Vl×Int} {s:Sc} {fs:List Fl} (g:Nat) (last:Int):cQ R s fs g last []=([],0):=by cases g<;>rfl
theorem lH {R:Ty->List UInt8->Vl×Int} {s:Sc} {fs:List Fl} {g:Nat} {last:Int} {b:List UInt8} (h:b≠[]):cQ R s fs (g+1) last b=bif (bC b last).2.2 != 0 then ([],(bC b last).2.2)
 else bif !(fF fs (bC b last).1.1).isSome then cQ R s fs g (bC b last).1.1 (bC b last).2.1
 else bif pI R s ((fF fs (bC b last).1.1).getD default) (bC b last).1.2 != 0 then ([],pI R s ((fF fs (bC b last).1.1).getD default) (bC b last).1.2)
 else mH [((bC b last).1.1,(R ((fF fs (bC b last).1.1).getD default).ty (bC b last).1.2).1)] (cQ R s fs g (bC b last).1.1 (bC b last).2.1):=by
 have hb:(b==[])=false:=by simpa using h
 rw[cQ,hb,cond_false];rfl
theorem OI {R:Ty->List UInt8->Vl×Int} {s:Sc} {fs:List Fl}:∀(g:Nat) (last:Int) (b:List UInt8),(cQ R s fs g last b).2≠0->(cQ R s fs g last b).1=[]
 |0,_,_,h=>absurd rfl h
 |g+1,last,b,h=>by
  by_cases hb:b=[]
  · subst hb;rfl
  · rw[lH hb] at h ⊢
    cases c1:(bC b last).2.2 != 0 with
    |true=>rfl
    |false=>
    rw[c1,cond_false] at h
    rw[cond_false]
    cases c2:!(fF fs (bC b last).1.1).isSome with
    |true=>rw[c2,cond_true] at h;rw[cond_true];exact OI g _ _ h
    |false=>
    rw[c2,cond_false] at h
    rw[cond_false]
    cases c3:pI R s ((fF fs (bC b last).1.1).getD default) (bC b last).1.2 != 0 with
    |true=>rfl
    |false=>
    rw[c3,cond_false] at h
    rw[cond_false]
    unfold mH at h ⊢
    cases c4:(cQ R s fs g (bC b last).1.1 (bC b last).2.1).2 != 0 with
    |true=>rfl
    |false=>rw[c4] at h;exact absurd rfl h
def aTY:Ty:=.mk 2 8 (mk []) []
def xTx:Ty:=.mk 4 5 (mk []) []
def xMo:Ty:=.mk 7 0 (mk [77,111,100,101]) []
def xBo:Ty:=.mk 1 0 (mk []) []
def xLi:Ty:=.mk 5 2 (mk []) [xBo]
def xF1:Fl:=⟨1,mk [120],aTY,false⟩
def xF2:Fl:=⟨2,mk [110,97,109,101],xTx,true⟩
def xF4:Fl:=⟨4,mk [109,111,100,101],xMo,false⟩
def xF5:Fl:=⟨5,mk [108],xLi,false⟩
def xSt:St:=⟨mk [80,111,115,101],[xF1,xF2,xF4,xF5]⟩
def xEn:En:=⟨mk [77,111,100,101],[mk [105,100,108,101],mk [114,117,110]],[0,3]⟩
def xS:Sc:=⟨1,[xEn],[xSt]⟩
def xT:Ty:=.mk 6 0 (mk [80,111,115,101]) []
def x1:List UInt8:=[123,120,32,61,32,45,53,44,32,109,111,100,101,32,61,32,114,117,110,44,32,108,32,61,32,91,116,114,117,101,44,32,102,97,108,115,101,93,125]
def x2:List UInt8:=[123,120,32,61,32,50,48,48,44,32,109,111,100,101,32,61,32,114,117,110,44,32,108,32,61,32,91,93,125]
def x3:List UInt8:=[123,109,111,100,101,32,61,32,114,117,110,44,32,120,32,61,32,49,125]
def x4:List UInt8:=[123,120,32,61,32,49,44,32,109,111,100,101,32,61,32,115,116,111,112,44,32,108,32,61,32,91,93,125]
def WW (k n:Int):Vl:=.mk k n (mk []) [] []
def xL:Vl:=.mk 5 0 (mk []) [WW 1 1,WW 1 0] []
def xV:Vl:=.mk 6 0 (mk []) [] [(1,WW 2 (-5)),(4,WW 7 3),(5,xL)]
theorem e1:NZ (pP 10) xS xT x1=(xV,0,0):=by kernel_rfl
theorem e2:NZ (pP 10) xS xT x2=(v0,4,0):=by kernel_rfl
theorem e3:NZ (pP 10) xS xT x3=(v0,2,13):=by kernel_rfl
theorem e4:NZ (pP 10) xS xT x4=(v0,2,15):=by kernel_rfl
theorem e0:lA xS xT xV=0:=by kernel_rfl
theorem e5:aUV (fP 10) xS xT xV=x1:=by kernel_rfl
theorem ty0 (k s:Int) (n:ByteArray) (h1:bT k) (h2:bT s) (h3:n.size<=9223372036854775807):TyOk (.mk k s n []):=.mk h1 h2 h3 (Nat.zero_le _) (fun t h=>by cases h)
theorem jE:VlOk v0:=H3 ⟨by decide,by decide⟩ ⟨by decide,by decide⟩ (by decide)
theorem DN {P:Vl->Prop} {R:List UInt8->Vl×Int}:∀(n:Nat) (b:List UInt8),(∀c,c.length<=b.length->P (R c).1)->(∀x∈(bZ R n b).1.1,P x)/\(bZ R n b).1.1.length<=n/\(bZ R n b).1.2.length<=b.length
 |0,b,_=>⟨fun x h=>(by cases h),Nat.le_refl _,Nat.le_refl _⟩
 |n+1,b,h=>by
  have hl:=HV b
  obtain ⟨i1,i2,i3⟩:=DN n (bL b).2.1 fun c hc=>h c (Nat.le_trans hc hl.2.1)
  have nil:(∀x∈([]:List Vl),P x)/\([]:List Vl).length<=n+1/\([]:List UInt8).length<=b.length:=⟨fun x h=>(by cases h),Nat.zero_le _,Nat.zero_le _⟩
  rw[j7]
  cases (bL b).2.2 != 0 with
  |true=>exact nil
  |false=>
  rw[cond_false]
  cases (R (bL b).1).2 != 0 with
  |true=>exact nil
  |false=>
  rw[cond_false]
  cases (bZ R n (bL b).2.1).2 != 0 with
  |true=>exact nil
  |false=>
   rw[cond_false]
   refine ⟨fun x hx=>?_,by rw[List.length_cons];omega,Nat.le_trans i3 hl.2.1⟩
   rcases List.mem_cons.1 hx with rfl|hx
   · exact h _ hl.1
   · exact i1 x hx
theorem L7 {P:Int->Vl->Prop} {R:Ty->List UInt8->Vl×Int} {s:Sc} {fs:List Fl}:∀(g:Nat) (last:Int) (b:List UInt8),(∀f∈fs,∀c,c.length<=b.length->P f.num (R f.ty c).1)->(∀x∈(cQ R s fs g last b).1,P x.1 x.2)
 |0,_,b,_,x,h=>(by cases h)
 |g+1,last,b,h,x,hx=>by
  by_cases hb:b=[]
  · subst hb;rw[pN] at hx;cases hx
  · rw[lH hb] at hx
    have hl:=y2 b last
    have ih:=L7 (P:=P) (R:=R) (s:=s) (fs:=fs) g (bC b last).1.1 (bC b last).2.1 fun f hf c hc=>h f hf c (Nat.le_trans hc hl.2.1)
    cases c1:(bC b last).2.2 != 0 with
    |true=>rw[c1] at hx;cases hx
    |false=>
    rw[c1,cond_false] at hx
    cases c2:!(fF fs (bC b last).1.1).isSome with
    |true=>rw[c2,cond_true] at hx;exact ih x hx
    |false=>
    rw[c2,cond_false] at hx
    cases c3:pI R s ((fF fs (bC b last).1.1).getD default) (bC b last).1.2 != 0 with
    |true=>rw[c3] at hx;cases hx
    |false=>
    rw[c3,cond_false] at hx
    unfold mH at hx
    cases c4:(cQ R s fs g (bC b last).1.1 (bC b last).2.1).2 != 0 with
    |true=>rw[c4] at hx;cases hx
    |false=>
     rw[c4,cond_false] at hx
     rcases List.mem_append.1 hx with hx|hx
     · obtain rfl:=List.mem_singleton.1 hx
       cases hf:fF fs (bC b last).1.1 with
       |none=>rw[hf] at c2;cases c2
       |some f=>
        have hm:f∈fs:=List.mem_of_find?_eq_some hf
        have he:f.num=(bC b last).1.1:=by have:=List.find?_some hf;simpa using this
        have:=h f hm (bC b last).1.2 hl.1
        rw[he] at this
        exact this
     · exact ih x hx
theorem C2 {P:Int->Vl->Prop} {s:Sc} {fs:List Fl} {L:List (Int×Vl)} (h1:∀x∈L,P x.1 x.2) (h2:∀f∈fs,P f.num (zF s 23 f.ty)):∀x∈cF s fs L,P x.1 x.2:=fun x hx=>by
 obtain ⟨f,hf,hx⟩:=List.mem_flatMap.1 hx
 unfold eC at hx
 cases hv:bR L f.num with
 |some y=>
  obtain ⟨hm,he⟩:=nA hv
  rw[hv] at hx
  obtain rfl:=List.mem_singleton.1 hx
  have:=h1 y hm
  rw[he] at this
  exact this
 |none=>
  rw[hv] at hx
  change x∈bif f.opt then [] else _ at hx
  cases ho:f.opt with
  |true=>rw[ho] at hx;cases hx
  |false=>rw[ho] at hx;obtain rfl:=List.mem_singleton.1 hx;exact h2 f hf
theorem DL (s:Sc) (L:List (Int×Vl)) (f:Fl):(eC s L f).length<=1:=by
 unfold eC
 cases (bR L f.num).isSome<;>cases f.opt<;>simp
theorem D8 {α β:Type} {f:α->List β}:∀{l:List α},(∀x,(f x).length<=1)->(l.flatMap f).length<=l.length
 |[],_=>Nat.le_refl _
 |x::l,h=>by
  have h1:=h x
  have h2:=D8 (l:=l) h
  rw[List.flatMap_cons,List.length_append,List.length_cons];omega
theorem uU (s:Sc) (fs:List Fl) (L:List (Int×Vl)):(cF s fs L).length<=fs.length:=D8 (DL s L)
theorem PZ {n:Nat} (h:n<18446744073709551616):bT (fD n):=by
 unfold fD bT
 split<;>omega
theorem YG {s:Sc} {t:Ty} {n:Int} (h3:(t.k==3)=true):eX s t n=(decide (0<=n)&&decide (n<(2 ^ t.s.toNat:Int))):=by
 unfold eX
 rw[bG h3 (b:=1) (by decide),bG h3 (b:=2) (by decide),h3];rfl
theorem XF {s:Sc} {t:Ty} {n:Int} (h7:(t.k==7)=true):eX s t n=(enOf s t).vs.any (fun x=>x==n):=by
 unfold eX
 rw[bG h7 (b:=1) (by decide),bG h7 (b:=2) (by decide),bG h7 (b:=3) (by decide),h7];rfl
theorem NM {s:Sc} (hd:Dg s) {t:Ty} (hv:valF s.ss s.es t=true) (hk:(t.k==2||(t.k==3||t.k==7))=true) {n:Nat} (hn:n<18446744073709551616) (hr:eX s t (eK t.k n)=true):bT (eK t.k n)/\((t.k==2)=false->eK t.k n=n/\n<4294967296):=by
 unfold eK at hr ⊢
 cases c2:t.k==2 with
 |true=>rw[cond_true];exact ⟨PZ hn,fun h=>(by cases h)⟩
 |false=>
  rw[c2,cond_false] at hr
  rw[cond_false]
  have key:n<4294967296:=by
   cases c3:t.k==3 with
   |true=>
    rw[YG c3,Bool.and_eq_true] at hr
    have h2:=of_decide_eq_true hr.2
    have h32:(2:Int) ^ (32:Int).toNat=4294967296:=by decide
    have h16:(2:Int) ^ (16:Int).toNat=65536:=by decide
    have h8:(2:Int) ^ (8:Int).toNat=256:=by decide
    rcases S3 hv c3 with h|h|h<;>rw[h] at h2<;>omega
   |false=>
    have c7:(t.k==7)=true:=by rw[c2,c3] at hk;simpa using hk
    rw[XF c7,List.any_eq_true] at hr
    obtain ⟨x,hx,he⟩:=hr
    have:=(hd.ni.enOf t).n x hx
    have he:=eq_of_beq he
    omega
  exact ⟨⟨by omega,by omega⟩,fun _=>⟨rfl,key⟩⟩
theorem uV (b:List UInt8):(vr b).1<18446744073709551616:=by
 rcases fL b with ⟨_,h,_⟩|⟨_,_,_,_,_,h⟩
 · rw[h];decide
 · exact h
theorem ZB (b:List UInt8):(a7 b).1<18446744073709551616:=by
 rcases sA b with ⟨_,h,_⟩|⟨_,_,h⟩
 · rw[h];decide
 · exact h
theorem aDG {s:Sc} (hs:s.fit) (hd:Dg s) {R:Ty->List UInt8->Vl×Int} {t:Ty} {b:List UInt8} (hR:∀f∈(stOf s t).fs,∀c,c.length<=b.length->VlOk (R f.ty c).1):VlOk (fZ R s (stOf s t).fs b).1:=by
 unfold fZ
 cases (cQ R s (stOf s t).fs b.length 0 b).2 != 0 with
 |true=>exact jE
 |false=>
  rw[cond_false]
  have hn:=hd.ni.stOf t
  have key:=C2 (P:=fun i v=>bT i/\VlOk v) (s:=s) (fs:=(stOf s t).fs) (L:=(cQ R s (stOf s t).fs b.length 0 b).1)
   (L7 (P:=fun i v=>bT i/\VlOk v) b.length 0 b fun f hf c hc=>⟨by have:=hn.n f hf;exact ⟨by omega,by omega⟩,hR f hf c hc⟩)
   (fun f hf=>⟨by have:=hn.n f hf;exact ⟨by omega,by omega⟩,oC hs 23 f.ty ((eZ hs t).fs f hf).ty⟩)
  have hl:=uU s (stOf s t).fs (cQ R s (stOf s t).fs b.length 0 b).1
  have hl2:=hn.l
  exact .mk ⟨by decide,by decide⟩ ⟨by decide,by decide⟩ (by decide) (by simp) (by omega) (fun x h=>(by cases h)) (fun x hx=>(key x hx).1) (fun x hx=>(key x hx).2)
theorem m6 {s:Sc} (hs:s.fit) (hd:Dg s):∀(N:Nat) (t:Ty) (b:List UInt8),TyOk t->valF s.ss s.es t=true->b.length<=1000000000->VlOk (aV s N t b).1
 |0,_,_,_,_,_=>jE
 |N+1,t,b,ht,hv,hb=>by
  rw[j5]
  cases c1:t.k==1 with
  |true=>
   rw[cond_true]
   unfold l7
   cases b==[] with
   |true=>exact jE
   |false=>
   cases decide (1<(b.headD 0).toNat)||decide (1<b.length) with
   |true=>exact jE
   |false=>have:=(b.headD 0).toNat_lt;exact H3 ⟨by decide,by decide⟩ ⟨by omega,by omega⟩ (by decide)
  |false=>
  rw[cond_false]
  cases c2:t.k==2||(t.k==3||t.k==7) with
  |true=>
   rw[cond_true]
   unfold kZ
   cases (vr b).2.2 != 0 with
   |true=>exact jE
   |false=>
   rw[cond_false]
   cases decide ((vr b).2.1<b.length) with
   |true=>exact jE
   |false=>
   rw[cond_false]
   cases c3:eX s t (eK t.k (vr b).1) with
   |false=>exact jE
   |true=>exact H3 ht.k (NM hd hv c2 (uV b) c3).1 (by decide)
  |false=>
  rw[cond_false]
  cases c4:t.k==4 with
  |true=>
   rw[cond_true]
   unfold wU
   cases decide (t.s<(b.length:Int)) with
   |true=>exact jE
   |false=>exact H3 ⟨by decide,by decide⟩ ⟨by decide,by decide⟩ (by rw[dV,iH];omega)
  |false=>
  rw[cond_false]
  cases c5:t.k==5 with
  |true=>
   rw[cond_true]
   obtain ⟨u,he,hu⟩:=rV hv c5
   have hto:=ht.e u (by rw[he];exact List.mem_singleton.2 rfl)
   rw[he]
   show VlOk (eW (aV s N u) t.s b).1
   unfold eW
   have hcl:=t7 b
   obtain ⟨i1,i2,_⟩:=DN (P:=VlOk) (R:=aV s N u) (a7 b).1 (a7 b).2.1 fun c hc=>m6 hs hd N u c hto hu (by omega)
   cases (a7 b).2.2 != 0 with
   |true=>exact jE
   |false=>
   rw[cond_false]
   cases c6:decide (t.s<((a7 b).1:Int)) with
   |true=>exact jE
   |false=>
   rw[cond_false]
   cases (bZ (aV s N u) (a7 b).1 (a7 b).2.1).2 != 0 with
   |true=>exact jE
   |false=>
   rw[cond_false]
   cases !((bZ (aV s N u) (a7 b).1 (a7 b).2.1).1.2==[]) with
   |true=>exact jE
   |false=>
    rw[cond_false]
    have h1:=of_decide_eq_false c6
    have h2:=(kH hv).2 c5
    exact .mk ⟨by decide,by decide⟩ ⟨by decide,by decide⟩ (by decide) (by omega) (by simp) i1 (fun x h=>(by cases h)) (fun x h=>(by cases h))
  |false=>
   rw[cond_false]
   have hn:=hd.ni.stOf t
   exact aDG hs hd fun f hf c hc=>m6 hs hd N f.ty c ((eZ hs t).fs f hf).ty (hn.v f hf) (by omega)
theorem gO {n:Nat} (h:n<18446744073709551616):eI (n:Int)=vi n:=by
 unfold eI
 have h2:IntKind.u64.wrap (n:Int)=(n:Int) % 18446744073709551616:=by simp[IntKind.wrap,IntKind.signed,IntKind.bits]
 rw[h2,show ((n:Int) % 18446744073709551616).toNat=n by omega]
theorem BA {x:Int} (h0:0<=x) (h:x<18446744073709551616):eI x=vi x.toNat:=by
 have:=gO (n:=x.toNat) (by omega)
 rwa [Int.toNat_of_nonneg h0] at this
theorem zW {l:List UInt8} (h:l.length<18446744073709551616):mP l=vi l.length++l:=by unfold mP;rw[gO h]
theorem aL1 {n:Int} (h:bT n):iF n<18446744073709551616/\fD (iF n)=n:=by
 unfold bT at h
 unfold iF fD
 split
 · have e:(2*(-(n+1))+1).toNat % 2=1:=by omega
   rw[if_pos e]
   omega
 · have e:¬ (2*n).toNat % 2=1:=by omega
   rw[if_neg e]
   omega
theorem Y1 {n:Nat} (h:n<18446744073709551616):iF (fD n)=n:=by
 unfold fD iF
 split
 · rw[if_pos (by omega)];omega
 · rw[if_neg (by omega)];omega
theorem LE {t:Ty} {v:Vl} (h1:v.k=t.k) (h2:bl v.s=[]) (h3:v.l=[]) (h4:v.f=[]):v=.mk t.k v.n (mk []) [] []:=by
 obtain ⟨k,n,s,l,f⟩:=v
 have h1:k=t.k:=h1
 have h3:l=[]:=h3
 have h4:f=[]:=h4
 have h2:bl s=bl (mk []):=h2
 rw[h1,h3,h4,kV h2];rfl
theorem iN:vi 0=[0]/\vi 1=[1]:=by
 unfold vi
 exact ⟨by rw[gP (by decide) (by decide)];rfl,by rw[gP (by decide) (by decide)];rfl⟩
theorem JW {R:List UInt8->Vl×Int} {f:Vl->List UInt8} (r:List UInt8):∀(l:List Vl),(∀x∈l,R (f x)=(x,0)/\(f x).length<18446744073709551616)->bZ R l.length ((l.flatMap fun x=>mP (f x))++r)=((l,r),0)
 |[],_=>rfl
 |x::l,h=>by
  obtain ⟨h1,h2⟩:=h x (List.mem_cons_self ..)
  have ih:=JW r l fun y hy=>h y (List.mem_cons_of_mem _ hy)
  rw[List.length_cons,j7,List.flatMap_cons,zW h2,List.append_assoc,X6 h2,h1,ih]
  rfl
def n8 (F:List (Int×Vl)) (g:Fl):List (Int×Vl):=match bR F g.num with
 |some x=>[(g.num,x.2)]
 |none=>[]
theorem iU (y:Int×Vl) (F:List (Int×Vl)) (k:Int):bR (y::F) k=if y.1=k then some y else bR F k:=by
 unfold bR
 rw[List.find?_cons]
 by_cases h:y.1=k
 · rw[decide_eq_true h,if_pos h]
 · rw[decide_eq_false h,if_neg h]
theorem nL {F:List (Int×Vl)} {k:Int} (h:∀x∈F,x.1≠k):bR F k=none:=by
 unfold bR
 rw[List.find?_eq_none]
 intro x hx
 have:=h x hx
 simpa using this
theorem p8:∀{fs:List Fl} {F:List (Int×Vl)},fs.Pairwise (fun f g=>f.num<g.num)->F.Pairwise (fun x y=>x.1<y.1)->(∀x∈F,∃f∈fs,f.num=x.1)->fs.flatMap (n8 F)=F
 |[],F,_,_,h=>by
  cases F with
  |nil=>rfl
  |cons x F=>obtain ⟨f,hf,_⟩:=h x (List.mem_cons_self ..);cases hf
 |g::fs,[],hp,_,_=>by
  have e:∀g':Fl,n8 [] g'=[]:=fun g'=>rfl
  simp[e]
 |g::fs,y::F,hp,hF,h=>by
  obtain ⟨p1,p2⟩:=List.pairwise_cons.1 hp
  obtain ⟨q1,q2⟩:=List.pairwise_cons.1 hF
  rw[List.flatMap_cons]
  by_cases he:y.1=g.num
  · have e1:n8 (y::F) g=[y]:=by
     unfold n8;rw[iU,if_pos he];simp only;rw[<-he]
    have e2:fs.flatMap (n8 (y::F))=fs.flatMap (n8 F):=by
     rw[List.flatMap_def,List.flatMap_def]
     congr 1
     refine List.map_congr_left fun g' hg'=>?_
     have:=p1 g' hg'
     unfold n8
     rw[iU,if_neg (by omega)]
    rw[e1,e2,p8 p2 q2 fun x hx=>?_]
    · rfl
    · obtain ⟨f,hf,hfe⟩:=h x (List.mem_cons_of_mem _ hx)
      have:=q1 x hx
      rcases List.mem_cons.1 hf with rfl|hf
      · omega
      · exact ⟨f,hf,hfe⟩
  · have hy:∃f∈fs,f.num=y.1:=by
     obtain ⟨f,hf,hfe⟩:=h y (List.mem_cons_self ..)
     rcases List.mem_cons.1 hf with rfl|hf
     · exact absurd hfe.symm he
     · exact ⟨f,hf,hfe⟩
    obtain ⟨f0,hf0,hfe0⟩:=hy
    have hlt:=p1 f0 hf0
    have e1:n8 (y::F) g=[]:=by
     unfold n8
     rw[nL fun x hx=>?_]
     rcases List.mem_cons.1 hx with rfl|hx
     · exact he
     · have:=q1 x hx;omega
    rw[e1,List.nil_append]
    exact p8 p2 hF fun x hx=>by
     obtain ⟨f,hf,hfe⟩:=h x hx
     rcases List.mem_cons.1 hf with rfl|hf
     · rcases List.mem_cons.1 hx with rfl|hx
       · exact absurd hfe.symm he
       · have:=q1 x hx;omega
     · exact ⟨f,hf,hfe⟩
theorem K8 {fs:List Fl}:∀{l:List (Int×Vl)} {p:Option Int},ftA fs p l=true->∀x∈l,(fF fs x.1).isSome=true
 |y::l,p,h,x,hx=>by
  rw[qV,Bool.and_eq_true,Bool.and_eq_true] at h
  rcases List.mem_cons.1 hx with rfl|hx
  · exact h.1.1
  · exact K8 h.2 x hx
theorem jG {α β:Type} {f h:α->List β}:∀{l:List α},(∀x∈l,f x=h x)->l.flatMap f=l.flatMap h
 |[],_=>rfl
 |x::l,e=>by rw[List.flatMap_cons,List.flatMap_cons,e x (List.mem_cons_self ..),jG fun y hy=>e y (List.mem_cons_of_mem _ hy)]
theorem JP {fs:List Fl}:∀{F:List (Int×Vl)} {p:Option Int},ftA fs p F=true->(∀q,p=some q->∀x∈F,q<x.1)/\F.Pairwise (fun x y=>x.1<y.1)
 |[],_,_=>⟨fun _ _ x h=>(by cases h),.nil⟩
 |y::F,p,h=>by
  rw[qV,Bool.and_eq_true,Bool.and_eq_true] at h
  obtain ⟨i1,i2⟩:=JP h.2
  have h1:=i1 y.1 rfl
  refine ⟨fun q hq x hx=>?_,List.pairwise_cons.2 ⟨h1,i2⟩⟩
  have h2:q<y.1:=by rw[hq] at h;exact of_decide_eq_true h.1.2
  rcases List.mem_cons.1 hx with rfl|hx
  · exact h2
  · exact Int.lt_trans h2 (h1 x hx)
theorem vB {fs:List Fl} {k:Int} {f:Fl} (h:fF fs k=some f):f∈fs/\f.num=k:=by
 exact ⟨List.mem_of_find?_eq_some h,by have:=List.find?_some h;simpa using this⟩
structure Fits (s:Sc) (u:St) (F:List (Int×Vl)):Prop where
 p:F.Pairwise (fun x y=>x.1<y.1)
 m:∀x∈F,∃f∈u.fs,f.num=x.1
 r:∀f∈u.fs,f.opt=false->∃x∈F,x.1=f.num
theorem LP {s:Sc} {u:St} {F:List (Int×Vl)} (h:dG u.fs F=true):Fits s u F:=by
 have h':=h
 unfold dG at h'
 rw[Bool.and_eq_true,List.all_eq_true] at h'
 refine ⟨(JP h'.1).2,fun x hx=>?_,fun f hf ho=>?_⟩
 · have:=K8 h'.1 x hx
   obtain ⟨f,hf⟩:=Option.isSome_iff_exists.1 this
   obtain ⟨h1,h2⟩:=vB hf
   exact ⟨f,h1,h2⟩
 · have:=h'.2 f hf
   rw[ho,Bool.false_or] at this
   unfold nF at this
   rw[List.any_eq_true] at this
   obtain ⟨x,hx,he⟩:=this
   exact ⟨x,hx,eq_of_beq he⟩
def kX (s:Sc) (F:List (Int×Vl)) (g:Fl):Bool:=!(bR F g.num).isSome||(!g.opt&&dA (((bR F g.num).map (·.2)).getD default) (zF s 23 g.ty))
def mQ (s:Sc) (F:List (Int×Vl)) (g:Fl):List (Int×Vl):=bif kX s F g then [] else [(g.num,((bR F g.num).map (·.2)).getD default)]
theorem mA (R:Ty->Vl->List UInt8) (s:Sc) (F:List (Int×Vl)) (g:Fl):tD R s F g=bif kX s F g then [] else eI g.num++mP (R g.ty (((bR F g.num).map (·.2)).getD default)):=rfl
theorem C0 {s:Sc} {R:Ty->Vl->List UInt8} {D:Ty->List UInt8->Vl×Int} {fs:List Fl} {F:List (Int×Vl)} (hp:fs.Pairwise fun f g=>f.num<g.num)
 (hn:∀f∈fs,1<=f.num/\f.num<=127) (hR:∀g∈fs,∀x∈F,x.1=g.num->D g.ty (R g.ty x.2)=(x.2,0)/\(R g.ty x.2).length<18446744073709551616) :
 ∀(gs:List Fl) (g:Nat) (last:Int),(∀f∈gs,f∈fs/\last<f.num)->gs.Pairwise (fun f g=>f.num<g.num)->(gs.flatMap (tD R s F)).length<=g->cQ D s fs g last (gs.flatMap (tD R s F))=(gs.flatMap (mQ s F),0)
 |[],g,last,_,_,_=>by rw[List.flatMap_nil,List.flatMap_nil,pN]
 |q::gs,g,last,h,hq,hl=>by
  obtain ⟨p1,p2⟩:=List.pairwise_cons.1 hq
  obtain ⟨hqf,hql⟩:=h q (List.mem_cons_self ..)
  rw[List.flatMap_cons,List.flatMap_cons]
  rw[List.flatMap_cons] at hl
  cases ho:kX s F q with
  |true=>
   have e1:tD R s F q=[]:=by rw[mA,ho];rfl
   have e2:mQ s F q=[]:=by unfold mQ;rw[ho];rfl
   rw[e1,List.nil_append] at hl ⊢
   rw[e2,List.nil_append]
   exact C0 hp hn hR gs g last (fun f hf=>⟨(h f (List.mem_cons_of_mem _ hf)).1,(h f (List.mem_cons_of_mem _ hf)).2⟩) p2 hl
  |false=>
   cases hv:bR F q.num with
   |none=>unfold kX at ho;rw[hv] at ho;cases ho
   |some x=>
    obtain ⟨hm,he⟩:=nA hv
    obtain ⟨r1,r2⟩:=hR q hqf x hm he
    obtain ⟨n1,n2⟩:=hn q hqf
    have e1:tD R s F q=vi q.num.toNat++(vi (R q.ty x.2).length++R q.ty x.2):=by
     rw[mA,ho,hv]
     show eI q.num++mP (R q.ty x.2)=_
     rw[BA (by omega) (by omega),zW r2]
    have e2:mQ s F q=[(q.num,x.2)]:=by unfold mQ;rw[ho,hv];rfl
    rw[e1] at hl ⊢
    rw[e2]
    have hpos:=J2 q.num.toNat
    rw[List.length_append,List.length_append] at hl
    obtain ⟨g,rfl⟩:∃k,g=k+1:=⟨g-1,by omega⟩
    have hne:vi q.num.toNat++(vi (R q.ty x.2).length++R q.ty x.2)++gs.flatMap (tD R s F)≠[]:=fun e=>by
     have:=congrArg List.length e
     rw[List.length_append,List.length_append,List.length_nil] at this
     omega
    have hfs:=aLH (n:=q.num.toNat) (x:=R q.ty x.2) (last:=last) (by omega) (by omega) r2 (gs.flatMap (tD R s F))
    rw[Int.toNat_of_nonneg (show (0:Int)<=q.num by omega)] at hfs
    have hff:fF fs q.num=some q:=rD hp hqf
    have hde:pI D s q (R q.ty x.2)=0:=by
     unfold pI
     rw[r1]
     unfold kX at ho
     rw[hv] at ho
     have ho:(!q.opt&&dA x.2 (zF s 23 q.ty))=false:=ho
     show (bif !q.opt&&(dA x.2 (zF s 23 q.ty)&&_) then (2:Int) else 0)=0
     rw[<-Bool.and_assoc,ho];rfl
    rw[lH hne,hfs]
    simp only
    rw[hff]
    simp only[Option.getD_some,Option.isSome_some]
    rw[hde,r1,C0 hp hn hR gs g q.num (fun f hf=>⟨(h f (List.mem_cons_of_mem _ hf)).1,p1 f hf⟩) p2 (by omega)]
    rfl
theorem L6 {s:Sc} {F:List (Int×Vl)}:∀{fs:List Fl} {q:Fl},fs.Pairwise (fun f g=>f.num<g.num)->q∈fs->bR (fs.flatMap (mQ s F)) q.num=bif kX s F q then none else some (q.num,((bR F q.num).map (·.2)).getD default)
 |g::fs,q,hp,hq=>by
  obtain ⟨p1,p2⟩:=List.pairwise_cons.1 hp
  have hrest:∀k,k<=g.num->bR (fs.flatMap (mQ s F)) k=none:=fun k hk=>nL fun x hx=>by
   obtain ⟨f,hf,hx⟩:=List.mem_flatMap.1 hx
   have:=p1 f hf
   unfold mQ at hx
   cases ho:kX s F f with
   |true=>rw[ho] at hx;cases hx
   |false=>rw[ho] at hx;obtain rfl:=List.mem_singleton.1 hx;simp only;omega
  rw[List.flatMap_cons]
  rcases List.mem_cons.1 hq with rfl|hq
  · cases ho:kX s F q with
    |true=>unfold mQ at hrest ⊢;rw[ho];exact hrest q.num (Int.le_refl _)
    |false=>
     have e:mQ s F q=[(q.num,((bR F q.num).map (·.2)).getD default)]:=by unfold mQ;rw[ho];rfl
     rw[e,List.singleton_append,iU,if_pos rfl];rfl
  · have:=p1 q hq
    rw[<-L6 p2 hq]
    unfold mQ
    cases ho:kX s F g with
    |true=>rfl
    |false=>rw[cond_false,List.singleton_append,iU,if_neg (by simp only;omega)]
theorem aM1 {s:Sc} {u:St} {F:List (Int×Vl)} (hp:u.fs.Pairwise fun f g=>f.num<g.num) (hf:Fits s u F):cF s u.fs (u.fs.flatMap (mQ s F))=F:=by
 have:cF s u.fs (u.fs.flatMap (mQ s F))=u.fs.flatMap (n8 F):=by
  refine jG fun g hg=>?_
  unfold eC n8
  rw[L6 hp hg]
  cases hv:bR F g.num with
  |none=>
   have ho:kX s F g=true:=by unfold kX;rw[hv];rfl
   rw[ho]
   show (bif g.opt then [] else [(g.num,zF s 23 g.ty)])=[]
   cases hopt:g.opt with
   |true=>rfl
   |false=>
    obtain ⟨x,hx,he⟩:=hf.r g hg hopt
    have:bR F g.num≠none:=by
     unfold bR
     rw[Ne,List.find?_eq_none]
     intro h
     exact h x hx (by simpa using he)
    exact absurd hv this
  |some x=>
   cases ho:kX s F g with
   |false=>rfl
   |true=>
    unfold kX at ho
    rw[hv] at ho
    have ho:(!g.opt&&dA x.2 (zF s 23 g.ty))=true:=ho
    rw[Bool.and_eq_true] at ho
    show (bif g.opt then [] else [(g.num,zF s 23 g.ty)])=[(g.num,x.2)]
    have h1:g.opt=false:=by simpa using ho.1
    rw[h1,p7.1 ho.2];rfl
 have h2:=p8 hp hf.p hf.m
 rw[this,h2]
theorem M8 {s:Sc} {R:Ty->Vl->List UInt8} {D:Ty->List UInt8->Vl×Int} {u:St} {F:List (Int×Vl)} (hn:NSt s.ss s.es u) (hf:Fits s u F)
 (hR:∀g∈u.fs,∀x∈F,x.1=g.num->D g.ty (R g.ty x.2)=(x.2,0)/\(R g.ty x.2).length<18446744073709551616):fZ D s u.fs (dT R s u.fs F)=(.mk 6 0 (mk []) [] F,0):=by
 have hp:=uM hn
 have h:=C0 (s:=s) (R:=R) (D:=D) (F:=F) hp hn.n hR u.fs (dT R s u.fs F).length 0 (fun f hf=>⟨hf,by have:=hn.n f hf;omega⟩) hp (Nat.le_refl _)
 unfold fZ
 rw[show cQ D s u.fs (dT R s u.fs F).length 0 (dT R s u.fs F)=(u.fs.flatMap (mQ s F),0) from h]
 show ((Vl.mk 6 0 (mk []) [] (cF s u.fs (u.fs.flatMap (mQ s F))),(0:Int)))=_
 rw[aM1 hp hf]
theorem u2 {s:Sc} {t:Ty} (hv:valF s.ss s.es t=true) (c1:(t.k==1)=false) (c2:(t.k==2||(t.k==3||t.k==7))=false) (c4:(t.k==4)=false) (c5:(t.k==5)=false):(t.k==6)=true:=by
 rw[Bool.or_eq_false_iff,Bool.or_eq_false_iff] at c2
 rcases pT hv with h|h|h|h|h|h|h
 · rw[h] at c1;cases c1
 · rw[h] at c2;cases c2.1
 · rw[h] at c2;cases c2.2.1
 · rw[h] at c4;cases c4
 · rw[h] at c5;cases c5
 · exact h
 · rw[h] at c2;cases c2.2.2
theorem FL {s:Sc} (hs:s.fit) (hd:Dg s):∀(M N:Nat) (t:Ty) (v:Vl),TyOk t->VlOk v->cT s t v=0->v.h<=N->N<=8->fK s t<M->aV s M t (bO s N t v)=(v,0)
 |0,_,t,_,_,_,_,_,_,h=>by have:=eE s t;omega
 |_+1,0,_,v,_,_,_,h,_,_=>by have:=v.h_pos;omega
 |M+1,N+1,t,v,ht,hvo,h0,hh,hN,hM=>by
  have hc:=i6 h0
  have hB:∀(u:Ty) (x:Vl),x.h<=N->cT s u x=0->(bO s N u x).length<18446744073709551616:=fun u x h1 h2=>by
   have:=fT hd N u x h1 h2
   have:=jP (N:=N) (by omega)
   omega
  rw[j5,dL]
  cases c1:t.k==1 with
  |true=>
   rw[Bool.true_or,cond_true,cond_true]
   obtain ⟨e1,e2,e3,e4⟩:=hc.nu (bG c1 (by decide)) (bG c1 (by decide)) (bG c1 (by decide))
   have e5:=LE hc.kk e1 e2 e3
   have hk:t.k=1:=eq_of_beq c1
   have e6:v.n=0\/v.n=1:=by unfold eX at e4;rw[c1] at e4;simpa using e4
   rw[hk] at e5
   rcases e6 with e6|e6<;>rw[e5,e6]
   · show l7 (eI 0)=_
     rw[show eI 0=[0] from (gO (n:=0) (by decide)).trans iN.1];rfl
   · show l7 (eI 1)=_
     rw[show eI 1=[1] from (gO (n:=1) (by decide)).trans iN.2];rfl
  |false=>
  rw[Bool.false_or,cond_false]
  cases c2:t.k==2||(t.k==3||t.k==7) with
  |true=>
   rw[cond_true]
   have n4:(t.k==4)=false/\(t.k==5)=false/\(t.k==6)=false:=by
    rw[Bool.or_eq_true,Bool.or_eq_true] at c2
    rcases c2 with h|h|h<;>exact ⟨bG h (by decide),bG h (by decide),bG h (by decide)⟩
   obtain ⟨e1,e2,e3,e4⟩:=hc.nu n4.1 n4.2.1 n4.2.2
   have e5:=LE hc.kk e1 e2 e3
   have key:∀z:Nat,z<18446744073709551616->eK t.k z=v.n->kZ s t (vi z)=(v,0):=fun z hz hn=>by
    have hvr:=ZI hz []
    rw[List.append_nil] at hvr
    unfold kZ
    rw[hvr]
    simp only
    rw[decide_eq_false (Nat.lt_irrefl _),hn,e4]
    show (Vl.mk t.k v.n (mk []) [] [],(0:Int))=_
    rw[<-e5]
   cases c3:t.k==3||t.k==7 with
   |true=>
    rw[cond_true]
    have hne2:(t.k==2)=false:=by
     rw[Bool.or_eq_true] at c3
     rcases c3 with h|h<;>exact bG h (by decide)
    have h0n:0<=v.n:=by
     rw[Bool.or_eq_true] at c3
     rcases c3 with h|h
     · rw[YG h,Bool.and_eq_true] at e4;exact of_decide_eq_true e4.1
     · rw[XF h,List.any_eq_true] at e4
       obtain ⟨x,hx,he⟩:=e4
       have:=(hd.ni.enOf t).n x hx
       have he:=eq_of_beq he
       omega
    have hlt:=hvo.n.2
    rw[BA h0n (by omega)]
    exact key _ (by omega) (by unfold eK;rw[hne2,cond_false];omega)
   |false=>
    have h2:(t.k==2)=true:=by rw[c3,Bool.or_false] at c2;exact c2
    rw[cond_false,h2,cond_true]
    obtain ⟨z1,z2⟩:=aL1 hvo.n
    exact key _ z1 (by unfold eK;rw[h2];exact z2)
  |false=>
  have c2':=c2
  rw[Bool.or_eq_false_iff] at c2'
  rw[cond_false,c2'.2,cond_false,c2'.1,cond_false]
  cases c4:t.k==4 with
  |true=>
   rw[cond_true,cond_true]
   obtain ⟨e1,e2,e3,e4⟩:=hc.tx c4
   unfold wU
   rw[decide_eq_false (by omega)]
   have hk:t.k=4:=eq_of_beq c4
   have hkk:=hc.kk
   rw[hk] at hkk
   obtain ⟨k,n,str,l,f⟩:=v
   have h1:k=4:=hkk
   have h2:n=0:=e1
   have h3:l=[]:=e2
   have h4:f=[]:=e3
   subst h1 h2 h3 h4
   show (Vl.mk 4 0 (mk (bl str)) [] [],(0:Int))=_
   rw[gW]
  |false=>
  rw[cond_false,cond_false]
  cases c5:t.k==5 with
  |true=>
   rw[cond_true,cond_true]
   obtain ⟨u,he,hu⟩:=rV hc.va c5
   have hto:=ht.e u (by rw[he];exact List.mem_singleton.2 rfl)
   have hfd:=qB (s:=s) c5 he
   obtain ⟨e1,e2,e3,e4,e5⟩:=hc.ls c5
   have h32:=(kH hc.va).2 c5
   rw[he] at e5 ⊢
   simp only[List.headD_cons] at e5 ⊢
   have hl:=JW (R:=aV s M u) (f:=bO s N u) [] v.l fun x hx=>⟨FL hs hd M N u x hto (hvo.l x hx) (e5 x hx) (by have:=Vl.h_l hx;omega) (by omega) (by omega),hB u x (by have:=Vl.h_l hx;omega) (e5 x hx)⟩
   rw[List.append_nil] at hl
   have hn:v.l.length<18446744073709551616:=by omega
   unfold eW jI
   rw[gO hn,OZ hn]
   simp only
   rw[decide_eq_false (by omega),hl]
   have hk:t.k=5:=eq_of_beq c5
   have hkk:=hc.kk
   rw[hk] at hkk
   obtain ⟨k,n,str,l,f⟩:=v
   have h1:k=5:=hkk
   have h2:n=0:=e1
   have h4:f=[]:=e3
   have h6:bl str=bl (mk []):=e2
   rw[h1,h2,h4,kV h6];rfl
  |false=>
   rw[cond_false,cond_false]
   have c6:=u2 hc.va c1 c2 c4 c5
   obtain ⟨e1,e2,e3,e4,e5⟩:=hc.st c6
   have hfd:=jS (s:=s) c6
   have hst:=fX hd hc.va c6
   have hn:=hd.ni.stOf t
   rw[M8 hn (LP e4) fun g hg x hx he=>?_]
   · have hk:t.k=6:=eq_of_beq c6
     have hkk:=hc.kk
     rw[hk] at hkk
     obtain ⟨k,n,str,l,f⟩:=v
     have h1:k=6:=hkk
     have h2:n=0:=e1
     have h3:l=[]:=e3
     have h6:bl str=bl (mk []):=e2
     rw[h1,h2,h3,kV h6];rfl
   · have h5:=e5 x hx
     rw[he,kF hd hg] at h5
     have h6:x.2.h<=N:=by have:=Vl.h_f hx;omega
     have h7:=hst.2.2 g hg
     exact ⟨FL hs hd M N g.ty x.2 ((eZ hs t).fs g hg).ty (hvo.f x hx) h5 h6 (by omega) (by omega),hB g.ty x.2 h6 h5⟩
theorem aL5 {s:Sc} (hs:s.fit) {nm:ByteArray} {v:Vl} (hvo:VlOk v) (h:(oK s nm v).2=0):dJ s nm (oK s nm v).1=(v,0)/\(oK s nm v).1.length<=2000:=by
 unfold oK at h ⊢
 cases c1:bI s != 0 with
 |true=>rw[c1] at h;exact absurd h (eL c1)
 |false=>
 rw[c1,cond_false] at h
 rw[cond_false]
 have hd:=zB hs (cU c1)
 cases c2:!(cD s.ss nm) with
 |true=>rw[c2] at h;cases h
 |false=>
 rw[c2,cond_false] at h
 rw[cond_false]
 cases c3:lA s (.mk 6 0 nm []) v != 0 with
 |true=>rw[c3] at h;exact absurd h (eL c3)
 |false=>
 rw[c3,cond_false] at h
 rw[cond_false]
 cases c4:decide (2000<((dT (bO s 8) s (stOf s (.mk 6 0 nm [])).fs v.f).length:Int)) with
 |true=>rw[c4] at h;cases h
 |false=>
  rw[cond_false]
  have hck:=cU c3
  have h0:=(xK hck).1
  have hh:=TL hck
  have hc:=i6 h0
  obtain ⟨e1,e2,e3,e4,e5⟩:=hc.st rfl
  have hn:=hd.ni.stOf (.mk 6 0 nm [])
  have hst:=fX hd hc.va rfl
  have hlen:=of_decide_eq_false c4
  refine ⟨?_,by simp only;omega⟩
  unfold dJ
  rw[c1,c2,c4,cond_false,cond_false,cond_false,M8 hn (LP e4) fun g hg x hx he=>?_]
  · have hkk:=hc.kk
    obtain ⟨k,n,str,l,f⟩:=v
    have h1:k=6:=hkk
    have h2:n=0:=e1
    have h3:l=[]:=e3
    have h6:bl str=bl (mk []):=e2
    rw[h1,h2,h3,kV h6];rfl
  · have h5:=e5 x hx
    rw[he,kF hd hg] at h5
    have h6:x.2.h<=8:=by have:=Vl.h_f hx;omega
    have h7:=hst.2.2 g hg
    have hB:=fT hd 8 g.ty x.2 h6 h5
    have:=jP (N:=8) (by omega)
    exact ⟨FL hs hd 8 8 g.ty x.2 ((eZ hs (.mk 6 0 nm [])).fs g hg).ty (hvo.f x hx) h5 h6 (by omega) (by omega),by omega⟩
theorem LG:∀(f:Nat) {a b:Nat},a<=b->(uL f a).length<=(uL f b).length
 |0,_,_,_=>Nat.le_refl _
 |f+1,a,b,h=>by
  by_cases h1:a<128
  · rw[gP (Nat.succ_pos _) h1]
    by_cases h2:b<128
    · rw[gP (Nat.succ_pos _) h2];exact Nat.le_refl _
    · rw[i5 h2];simp
  · have h2:¬ b<128:=by omega
    rw[i5 h1,i5 h2,List.length_cons,List.length_cons]
    have:=LG f (a:=a / 128) (b:=b / 128) (by omega)
    omega
theorem MB {a b:Nat} (h:a<=b):(vi a).length<=(vi b).length:=LG 10 h
def jW (a b:List UInt8):Prop:=a.length<=b.length/\(a.length=b.length->a=b)
theorem gU (a:List UInt8):jW a a:=⟨Nat.le_refl _,fun _=>rfl⟩
theorem qH {a b c d:List UInt8} (h:jW a b) (k:jW c d):jW (a++c) (b++d):=by
 refine ⟨by rw[List.length_append,List.length_append];have:=h.1;have:=k.1;omega,fun e=>?_⟩
 rw[List.length_append,List.length_append] at e
 have h1:=h.1
 have k1:=k.1
 rw[h.2 (by omega),k.2 (by omega)]
theorem vQ {b:List UInt8}:jW [] b:=⟨Nat.zero_le _,fun e=>by cases b with|nil=>rfl|cons x y=>cases e⟩
theorem YO {a b:List UInt8} (h:jW a b):jW (vi a.length++a) (vi b.length++b):=by
 refine ⟨?_,fun e=>?_⟩
 · rw[List.length_append,List.length_append]
   have:=MB h.1
   have:=h.1
   omega
 · rw[List.length_append,List.length_append] at e
   have h1:=MB h.1
   have h2:=h.1
   rw[h.2 (by omega)]
def wX (R:Ty->Vl->List UInt8) (s:Sc) (fs:List Fl) (x:Int×Vl):List UInt8:=
 bif !((fF fs x.1).getD default).opt&&dA x.2 (zF s 23 ((fF fs x.1).getD default).ty) then [] else eI x.1++mP (R ((fF fs x.1).getD default).ty x.2)
theorem DB {R:Ty->Vl->List UInt8} {D:Ty->List UInt8->Vl×Int} {s:Sc} {fs:List Fl}:∀(g:Nat) (last:Int) (b:List UInt8),b.length<=g->(cQ D s fs g last b).2=0->
 (∀f∈fs,∀c,c.length<=b.length->(D f.ty c).2=0->jW (R f.ty (D f.ty c).1) c/\(R f.ty (D f.ty c).1).length<18446744073709551616)->
 (∀x∈(cQ D s fs g last b).1,last<x.1/\∃f∈fs,f.num=x.1/\fF fs x.1=some f/\∃c,c.length<=b.length/\(D f.ty c).2=0/\x.2=(D f.ty c).1)/\(cQ D s fs g last b).1.Pairwise (fun x y=>x.1<y.1)/\jW ((cQ D s fs g last b).1.flatMap (wX R s fs)) b
 |0,last,b,hb,_,_=>by
  have:b=[]:=List.eq_nil_of_length_eq_zero (by omega)
  subst this
  exact ⟨fun x h=>(by cases h),.nil,gU _⟩
 |g+1,last,b,hb,h,hR=>by
  by_cases hbn:b=[]
  · subst hbn;rw[pN];exact ⟨fun x h=>(by cases h),.nil,gU _⟩
  rw[lH hbn] at h ⊢
  have hl:=y2 b last
  cases c1:(bC b last).2.2 != 0 with
  |true=>rw[c1] at h;exact absurd h (eL c1)
  |false=>
  rw[c1,cond_false] at h
  rw[cond_false]
  have hlt:=hl.2.2 (cU c1)
  rcases OL b last with h1|⟨_,f1,f2,f3,f4⟩
  · exact absurd (cU c1) h1
  have ih:=DB (R:=R) (D:=D) (s:=s) (fs:=fs) g (bC b last).1.1 (bC b last).2.1 (by omega)
  have hR':∀f∈fs,∀c:List UInt8,c.length<=(bC b last).2.1.length->(D f.ty c).2=0->jW (R f.ty (D f.ty c).1) c/\(R f.ty (D f.ty c).1).length<18446744073709551616:=fun f hf c hc=>hR f hf c (by omega)
  have wk:∀{L:List (Int×Vl)},(∀x∈L,(bC b last).1.1<x.1/\∃f∈fs,f.num=x.1/\fF fs x.1=some f/\∃c,c.length<=(bC b last).2.1.length/\(D f.ty c).2=0/\x.2=(D f.ty c).1)->
   ∀x∈L,last<x.1/\∃f∈fs,f.num=x.1/\fF fs x.1=some f/\∃c,c.length<=b.length/\(D f.ty c).2=0/\x.2=(D f.ty c).1:=fun h x hx=>by
   obtain ⟨a1,f,a2,a3,a4,c,a5,a6⟩:=h x hx
   exact ⟨by omega,f,a2,a3,a4,c,by omega,a6⟩
  cases c2:!(fF fs (bC b last).1.1).isSome with
  |true=>
   rw[c2,cond_true] at h
   rw[cond_true]
   obtain ⟨i1,i2,i3⟩:=ih h hR'
   refine ⟨wk i1,i2,?_⟩
   have:=qH (vQ (b:=vi (bC b last).1.1.toNat++(vi (bC b last).1.2.length++(bC b last).1.2))) i3
   rw[<-f4] at this
   exact this
  |false=>
  rw[c2,cond_false] at h
  rw[cond_false]
  cases c3:pI D s ((fF fs (bC b last).1.1).getD default) (bC b last).1.2 != 0 with
  |true=>rw[c3] at h;exact absurd h (eL c3)
  |false=>
  rw[c3,cond_false] at h
  rw[cond_false]
  unfold mH at h ⊢
  cases c4:(cQ D s fs g (bC b last).1.1 (bC b last).2.1).2 != 0 with
  |true=>rw[c4] at h;exact absurd h (eL c4)
  |false=>
   rw[cond_false]
   obtain ⟨i1,i2,i3⟩:=ih (cU c4) hR'
   cases hf:fF fs (bC b last).1.1 with
   |none=>rw[hf] at c2;cases c2
   |some f=>
    obtain ⟨hm,he⟩:=vB hf
    rw[hf] at c3
    simp only[Option.getD_some] at c3 ⊢
    have hd0:(D f.ty (bC b last).1.2).2=0:=by
     have:=cU c3
     unfold pI at this
     cases q:(D f.ty (bC b last).1.2).2 != 0 with
     |true=>rw[q] at this;exact absurd this (eL q)
     |false=>exact cU q
    obtain ⟨r1,r2⟩:=hR f hm (bC b last).1.2 hl.1 hd0
    refine ⟨fun x hx=>?_,?_,?_⟩
    · rcases List.mem_append.1 hx with hx|hx
      · obtain rfl:=List.mem_singleton.1 hx
        exact ⟨f1,f,hm,he,hf,_,hl.1,hd0,rfl⟩
      · exact wk i1 x hx
    · exact List.pairwise_cons.2 ⟨fun x hx=>(i1 x hx).1,i2⟩
    · rw[List.singleton_append,List.flatMap_cons]
      have hp:jW (wX R s fs ((bC b last).1.1,(D f.ty (bC b last).1.2).1)) (vi (bC b last).1.1.toNat++(vi (bC b last).1.2.length++(bC b last).1.2)):=by
       unfold wX
       simp only
       rw[hf,Option.getD_some]
       cases !f.opt&&dA (D f.ty (bC b last).1.2).1 (zF s 23 f.ty) with
       |true=>exact vQ
       |false=>
        rw[cond_false,BA f2 (by omega),zW r2]
        exact qH (gU _) (YO r1)
      have:=qH hp i3
      rw[<-f4] at this
      exact this
theorem DT {s:Sc} {L:List (Int×Vl)} {f:Fl} {x:Int×Vl} (hx:x∈eC s L f):x.1=f.num:=by
 unfold eC at hx
 cases hv:(bR L f.num).isSome with
 |true=>rw[hv] at hx;obtain rfl:=List.mem_singleton.1 hx;rfl
 |false=>
  rw[hv] at hx
  cases ho:f.opt with
  |true=>rw[ho] at hx;cases hx
  |false=>rw[ho] at hx;obtain rfl:=List.mem_singleton.1 hx;rfl
theorem yJ {v:Vl} {P:Prop} (h:v.h<=0):P:=by have:=v.h_pos;omega
theorem zK {s:Sc} {L:List (Int×Vl)}:∀{fs:List Fl} {q:Fl},fs.Pairwise (fun f g=>f.num<g.num)->q∈fs->bR (cF s fs L) q.num=(eC s L q).head?
 |g::fs,q,hp,hq=>by
  obtain ⟨p1,p2⟩:=List.pairwise_cons.1 hp
  have hn:∀(f:Fl) (x:Int×Vl),x∈eC s L f->x.1=f.num:=fun f x hx=>DT hx
  have hrest:bR (cF s fs L) g.num=none:=nL fun x hx=>by
   obtain ⟨f,hf,hx⟩:=List.mem_flatMap.1 hx
   have:=p1 f hf
   rw[hn f x hx];omega
  show bR (eC s L g++cF s fs L) q.num=_
  have hlen:=DL s L g
  cases hg:eC s L g with
  |nil=>
   rw[List.nil_append]
   rcases List.mem_cons.1 hq with rfl|hq
   · rw[hg,hrest];rfl
   · exact zK p2 hq
  |cons x r=>
   rw[hg] at hlen
   have hr:r=[]:=by simpa using hlen
   subst hr
   have hx:=hn g x (by rw[hg];exact List.mem_cons_self ..)
   rw[List.singleton_append,iU]
   rcases List.mem_cons.1 hq with rfl|hq
   · rw[if_pos hx,hg];rfl
   · have:=p1 q hq
     rw[if_neg (by omega)]
     exact zK p2 hq
theorem aJ5 {R:Ty->Vl->List UInt8} {s:Sc} {fs:List Fl} {L:List (Int×Vl)} (hp:fs.Pairwise fun f g=>f.num<g.num) (hL:L.Pairwise fun x y=>x.1<y.1) (hm:∀x∈L,∃f∈fs,f.num=x.1) :
 dT R s fs (cF s fs L)=L.flatMap (wX R s fs):=by
 have h1:L.flatMap (wX R s fs)=fs.flatMap fun g=>(n8 L g).flatMap (wX R s fs):=by
  rw[<-List.flatMap_assoc,p8 hp hL hm]
 rw[h1]
 refine jG fun g hg=>?_
 have hf:=rD hp hg
 rw[mA]
 unfold kX
 rw[zK hp hg]
 unfold n8 eC
 cases hv:bR L g.num with
 |some x=>
  simp only[Option.isSome_some,cond_true,List.head?_cons,Option.map_some,Option.getD_some,Bool.not_true,Bool.false_or,List.flatMap_cons,List.flatMap_nil,List.append_nil]
  unfold wX
  simp only
  rw[hf,Option.getD_some]
 |none=>
  simp only[Option.isSome_none,cond_false,List.flatMap_nil]
  cases ho:g.opt with
  |true=>rfl
  |false=>
   simp only[cond_false,List.head?_cons,Option.isSome_some,Option.map_some,Option.getD_some,Bool.not_true,Bool.not_false,Bool.false_or,Bool.true_and,nH,cond_true]
theorem aB1 {s:Sc} {fs:List Fl} {L:List (Int×Vl)} (hp:fs.Pairwise fun f g=>f.num<g.num):dG fs (cF s fs L)=true:=by
 have hn:∀(f:Fl) (x:Int×Vl),x∈eC s L f->x.1=f.num:=fun f x hx=>DT hx
 have hpw:∀{l:List Fl},l.Pairwise (fun f g=>f.num<g.num)->(l.flatMap (eC s L)).Pairwise fun x y=>x.1<y.1:=by
  intro l
  induction l with
  |nil=>intro _;exact .nil
  |cons g l ih=>
   intro h
   obtain ⟨p1,p2⟩:=List.pairwise_cons.1 h
   rw[List.flatMap_cons,List.pairwise_append]
   refine ⟨?_,ih p2,fun x hx y hy=>?_⟩
   · have:=DL s L g
     match eC s L g,this with
     |[],_=>exact .nil
     |[x],_=>exact List.pairwise_singleton ..
     |_::_::_,h=>simp at h
   · obtain ⟨f,hf,hy⟩:=List.mem_flatMap.1 hy
     rw[hn g x hx,hn f y hy]
     exact p1 f hf
 unfold dG
 rw[Bool.and_eq_true,List.all_eq_true]
 refine ⟨OV _ none (fun x hx=>?_) (hpw hp) (fun q h=>by cases h),fun f hf=>?_⟩
 · obtain ⟨f,hf,hx⟩:=List.mem_flatMap.1 hx
   rw[hn f x hx,rD hp hf];rfl
 · cases ho:f.opt with
   |true=>rfl
   |false=>
    rw[Bool.false_or]
    unfold nF
    rw[List.any_eq_true]
    have:∃x,x∈eC s L f:=by
     unfold eC
     rw[ho]
     cases (bR L f.num).isSome with
     |true=>exact ⟨_,List.mem_singleton.2 rfl⟩
     |false=>exact ⟨_,List.mem_singleton.2 rfl⟩
    obtain ⟨x,hx⟩:=this
    exact ⟨x,List.mem_flatMap.2 ⟨f,hf,hx⟩,by rw[hn f x hx];simp⟩
structure Can (s:Sc) (t:Ty) (v:Vl) (b:List UInt8):Prop where
 ck:cT s t v=0
 rl:cX v<=fK s t
 le:∀N,v.h<=N->N<=8->jW (bO s N t v) b
theorem RP {B:Int}:∀(L:List Vl) (d:Int),d<=B->(∀x∈L,cX x<=B)->fW d L<=B
 |[],d,h,_=>by rw[fW];exact h
 |v::L,d,h,hx=>by
  rw[fW]
  have:=hx v (List.mem_cons_self ..)
  exact RP L _ (by omega) fun y hy=>hx y (List.mem_cons_of_mem _ hy)
theorem MZ {s:Sc} {t:Ty}:∀(L:List Vl),(∀x∈L,cT s t x=0)->g8 s t L=0
 |[],_=>by rw[g8]
 |x::L,h=>by
  rw[g8,h x (List.mem_cons_self ..)]
  exact MZ L fun y hy=>h y (List.mem_cons_of_mem _ hy)
theorem KP {s:Sc} {t:Ty} {n:Int} (hv:valF s.ss s.es t=true) (c4:(t.k==4)=false) (c5:(t.k==5)=false) (c6:(t.k==6)=false) (hr:eX s t n=true):cT s t (.mk t.k n (mk []) [] [])=0/\cX (.mk t.k n (mk []) [] [])<=fK s t:=by
 constructor
 · rw[l0,hv]
   show (bif !true||t.k != t.k then (13:Int) else _)=0
   rw[bne_self_eq_false,c4,c5,c6]
   show kW s t n (mk []) ((0:Nat):Int) ((0:Nat):Int)=0
   unfold kW
   rw[hr,iH];rfl
 · rw[nQ]
   have hs:mM (.mk t.k n (mk []) [] [])=true:=by
    show (t.k != 5&&t.k != 6&&_&&_)=true
    rw[bne,bne,c5,c6];rfl
   rw[hs]
   exact eE s t
theorem vD {s:Sc} (hs:s.fit) (hd:Dg s):∀(M:Nat) (t:Ty) (b:List UInt8),TyOk t->valF s.ss s.es t=true->fK s t<M->(aV s M t b).2=0->Can s t (aV s M t b).1 b
 |0,t,_,_,_,h,_=>by have:=eE s t;omega
 |M+1,t,b,ht,hv,hM,h0=>by
  rw[j5] at h0 ⊢
  cases c1:t.k==1 with
  |true=>
   rw[c1,cond_true] at h0
   rw[cond_true]
   have hk:t.k=1:=eq_of_beq c1
   unfold l7 at h0 ⊢
   cases b with
   |nil=>cases h0
   |cons c r=>
    rw[show (c::r==[])=false from rfl,cond_false] at h0 ⊢
    cases c2:decide (1<((c::r).headD 0).toNat)||decide (1<(c::r).length) with
    |true=>rw[c2] at h0;cases h0
    |false=>
     rw[cond_false]
     rw[Bool.or_eq_false_iff] at c2
     have h1:=of_decide_eq_false c2.1
     have h2:=of_decide_eq_false c2.2
     have hr:r=[]:=by simpa using h2
     subst hr
     simp only[List.headD_cons] at h1 ⊢
     have hc01:c.toNat=0\/c.toNat=1:=by omega
     have hrg:eX s t (c.toNat:Int)=true:=by
      unfold eX
      rw[c1]
      rcases hc01 with e|e<;>rw[e]<;>rfl
     have:=KP (n:=(c.toNat:Int)) hv (bG c1 (by decide)) (bG c1 (by decide)) (bG c1 (by decide)) hrg
     rw[hk] at this
     refine ⟨this.1,this.2,fun N hN _=>?_⟩
     cases N with
     |zero=>exact yJ hN
     |succ N=>
      rw[dL,c1]
      show jW (eI (c.toNat:Int)) [c]
      have e:eI (c.toNat:Int)=[c]:=by
       rw[gO (by omega)]
       unfold vi
       rw[gP (by decide) (by omega)];simp
      rw[e];exact gU _
  |false=>
  rw[c1,cond_false] at h0
  rw[cond_false]
  cases c2:t.k==2||(t.k==3||t.k==7) with
  |true=>
   rw[c2,cond_true] at h0
   rw[cond_true]
   have n4:(t.k==4)=false/\(t.k==5)=false/\(t.k==6)=false:=by
    rw[Bool.or_eq_true,Bool.or_eq_true] at c2
    rcases c2 with h|h|h<;>exact ⟨bG h (by decide),bG h (by decide),bG h (by decide)⟩
   unfold kZ at h0 ⊢
   cases c3:(vr b).2.2 != 0 with
   |true=>rw[c3] at h0;exact absurd h0 (eL c3)
   |false=>
   rw[c3,cond_false] at h0
   rw[cond_false]
   cases c4:decide ((vr b).2.1<b.length) with
   |true=>rw[c4] at h0;cases h0
   |false=>
   rw[c4,cond_false] at h0
   rw[cond_false]
   cases c5:eX s t (eK t.k (vr b).1) with
   |false=>rw[c5] at h0;cases h0
   |true=>
    show Can s t (.mk t.k (eK t.k (vr b).1) (mk []) [] []) b
    have hcn:=KP hv n4.1 n4.2.1 n4.2.2 c5
    refine ⟨hcn.1,hcn.2,fun N hN _=>?_⟩
    have hb:b=vi (vr b).1:=by
     rcases fL b with ⟨h,_⟩|⟨_,h1,_,h3,h4,_⟩
     · exact absurd (cU c3) h
     · have:=of_decide_eq_false c4
       rw[<-h4,List.take_of_length_le (by omega)]
    cases N with
    |zero=>exact yJ hN
    |succ N=>
     have hlt:=uV b
     rw[dL,c1,Bool.false_or]
     cases c6:t.k==2 with
     |true=>
      rw[bG c6 (b:=3) (by decide),bG c6 (b:=7) (by decide)]
      show jW (vi (iF (eK t.k (vr b).1))) b
      unfold eK
      rw[c6,cond_true,Y1 hlt,<-hb]
      exact gU _
     |false=>
      rw[c6,Bool.false_or] at c2
      rw[c2,cond_true]
      show jW (eI (eK t.k (vr b).1)) b
      unfold eK
      rw[c6,cond_false,gO hlt,<-hb]
      exact gU _
  |false=>
  rw[c2,cond_false] at h0
  rw[cond_false]
  have c2':=c2
  rw[Bool.or_eq_false_iff] at c2'
  cases c4:t.k==4 with
  |true=>
   rw[c4,cond_true] at h0
   rw[cond_true]
   have hk:t.k=4:=eq_of_beq c4
   unfold wU at h0 ⊢
   cases c5:decide (t.s<(b.length:Int)) with
   |true=>rw[c5] at h0;cases h0
   |false=>
    rw[cond_false]
    refine ⟨?_,?_,fun N hN _=>?_⟩
    · rw[l0,hv]
      show (bif !true||(4:Int) != t.k then (13:Int) else bif t.k==4 then jX t 0 (mk b) ((0:Nat):Int) ((0:Nat):Int) else _)=0
      rw[hk]
      show jX t 0 (mk b) ((0:Nat):Int) ((0:Nat):Int)=0
      unfold jX
      rw[iH,c5];rfl
    · have hsc:cX (.mk 4 0 (mk b) [] [])=0:=by rw[nQ];rfl
      rw[hsc]
      exact eE s t
    · cases N with
      |zero=>exact yJ hN
      |succ N=>
       rw[dL,c1,c2'.2,c2'.1,c4]
       show jW (bl (mk b)) b
       rw[iH];exact gU _
  |false=>
  rw[c4,cond_false] at h0
  rw[cond_false]
  cases c5:t.k==5 with
  |true=>
   rw[c5,cond_true] at h0
   rw[cond_true]
   have hk:t.k=5:=eq_of_beq c5
   obtain ⟨u,he,hu⟩:=rV hv c5
   have hto:=ht.e u (by rw[he];exact List.mem_singleton.2 rfl)
   have hfd:=qB (s:=s) c5 he
   rw[he] at h0 ⊢
   rw[List.headD_cons] at h0 ⊢
   unfold eW at h0 ⊢
   cases d1:(a7 b).2.2 != 0 with
   |true=>rw[d1] at h0;exact absurd h0 (eL d1)
   |false=>
   rw[d1,cond_false] at h0
   rw[cond_false]
   cases d2:decide (t.s<((a7 b).1:Int)) with
   |true=>rw[d2] at h0;cases h0
   |false=>
   rw[d2,cond_false] at h0
   rw[cond_false]
   cases d3:(bZ (aV s M u) (a7 b).1 (a7 b).2.1).2 != 0 with
   |true=>rw[d3] at h0;exact absurd h0 (eL d3)
   |false=>
   rw[d3,cond_false] at h0
   rw[cond_false]
   cases d4:(bZ (aV s M u) (a7 b).1 (a7 b).2.1).1.2==[] with
   |false=>rw[d4] at h0;cases h0
   |true=>
    rw[Bool.not_true,cond_false]
    have hz:=of_decide_eq_false d2
    have h32:=(kH hv).2 c5
    have hall:∀x∈(bZ (aV s M u) (a7 b).1 (a7 b).2.1).1.1,cT s u x=0/\cX x<=fK s u:=by
     have key:∀(n:Nat) (c:List UInt8),(bZ (aV s M u) n c).2=0->∀x∈(bZ (aV s M u) n c).1.1,cT s u x=0/\cX x<=fK s u:=by
      intro n
      induction n with
      |zero=>intro c _ x hx;cases hx
      |succ n ih=>
       intro c hc x hx
       rw[j7] at hc hx
       cases q1:(bL c).2.2 != 0 with
       |true=>rw[q1] at hx;cases hx
       |false=>
       rw[q1,cond_false] at hc hx
       cases q2:(aV s M u (bL c).1).2 != 0 with
       |true=>rw[q2] at hx;cases hx
       |false=>
       rw[q2,cond_false] at hc hx
       cases q3:(bZ (aV s M u) n (bL c).2.1).2 != 0 with
       |true=>rw[q3] at hx;cases hx
       |false=>
        rw[q3,cond_false] at hx
        rcases List.mem_cons.1 hx with rfl|hx
        · have:=vD hs hd M u (bL c).1 hto hu (by omega) (cU q2)
          exact ⟨this.ck,this.rl⟩
        · exact ih _ (cU q3) x hx
     exact key _ _ (cU d3)
    have hlen:=(DN (P:=fun _=>True) (R:=aV s M u) (a7 b).1 (a7 b).2.1 fun _ _=>trivial).2.1
    refine ⟨?_,?_,fun N hN hN8=>?_⟩
    · rw[l0,hv]
      show (bif !true||(5:Int) != t.k then (13:Int) else bif t.k==4 then _ else bif t.k==5 then (bif decide (t.s<(((bZ (aV s M u) (a7 b).1 (a7 b).2.1).1.1.length:Nat):Int)) then (3:Int) else g8 s (t.e.headD default) (bZ (aV s M u) (a7 b).1 (a7 b).2.1).1.1) else _)=0
      rw[hk,he]
      show (bif decide (t.s<(((bZ (aV s M u) (a7 b).1 (a7 b).2.1).1.1.length:Nat):Int)) then (3:Int) else g8 s u (bZ (aV s M u) (a7 b).1 (a7 b).2.1).1.1)=0
      rw[decide_eq_false (by omega),cond_false]
      exact MZ _ fun x hx=>(hall x hx).1
    · rw[nQ]
      show (1:Int)+iD (fW 0 (bZ (aV s M u) (a7 b).1 (a7 b).2.1).1.1) []<=_
      rw[iD,hfd]
      have:=RP (B:=fK s u) (bZ (aV s M u) (a7 b).1 (a7 b).2.1).1.1 0 (eE s u) fun x hx=>(hall x hx).2
      omega
    · cases N with
      |zero=>exact yJ hN
      |succ N=>
       rw[dL,c1,c2'.2,c2'.1,c4,c5,he,List.headD_cons]
       show jW (eI ((bZ (aV s M u) (a7 b).1 (a7 b).2.1).1.1.length:Int)++jI (bO s N) u (bZ (aV s M u) (a7 b).1 (a7 b).2.1).1.1) b
       have hhl:Vl.hl (bZ (aV s M u) (a7 b).1 (a7 b).2.1).1.1<=N:=by rw[Vl.h] at hN;omega
       have key:∀(n:Nat) (c:List UInt8),(bZ (aV s M u) n c).2=0->Vl.hl (bZ (aV s M u) n c).1.1<=N->(bZ (aV s M u) n c).1.1.length=n/\jW (jI (bO s N) u (bZ (aV s M u) n c).1.1++(bZ (aV s M u) n c).1.2) c:=by
        intro n
        induction n with
        |zero=>intro c _ _;exact ⟨rfl,gU _⟩
        |succ n ih=>
         intro c hc hh
         rw[j7] at hc hh ⊢
         cases q1:(bL c).2.2 != 0 with
         |true=>rw[q1] at hc;exact absurd hc (eL q1)
         |false=>
         rw[q1,cond_false] at hc hh
         rw[cond_false]
         cases q2:(aV s M u (bL c).1).2 != 0 with
         |true=>rw[q2] at hc;exact absurd hc (eL q2)
         |false=>
         rw[q2,cond_false] at hc hh
         rw[cond_false]
         cases q3:(bZ (aV s M u) n (bL c).2.1).2 != 0 with
         |true=>rw[q3] at hc;exact absurd hc (eL q3)
         |false=>
          rw[q3,cond_false] at hh
          rw[cond_false]
          rw[Vl.hl] at hh
          obtain ⟨i1,i2⟩:=ih _ (cU q3) (by omega)
          have hcan:=vD hs hd M u (bL c).1 hto hu (by omega) (cU q2)
          have r1:=hcan.le N (by omega) (by omega)
          have r2:=fT hd N u _ (show (aV s M u (bL c).1).1.h<=N by omega) hcan.ck
          have r3:=jP (N:=N) (by omega)
          refine ⟨by rw[List.length_cons,i1],?_⟩
          unfold jI at i2 ⊢
          rw[List.flatMap_cons,zW (by omega),List.append_assoc]
          rcases NR c with ⟨h1,_⟩|⟨_,h1⟩
          · exact absurd (cU q1) h1
          · have:=qH (YO r1) i2
            rwa [<-h1] at this
       obtain ⟨k1,k2⟩:=key _ _ (cU d3) hhl
       rw[eq_of_beq d4,List.append_nil] at k2
       rw[k1,gO (ZB b)]
       rcases sA b with ⟨h1,_⟩|⟨_,h1,_⟩
       · exact absurd (cU d1) h1
       · have:=qH (gU (vi (a7 b).1)) k2
         rwa [<-h1] at this
  |false=>
   rw[c5,cond_false] at h0
   rw[cond_false]
   have c6:=u2 hv c1 c2 c4 c5
   have hk:t.k=6:=eq_of_beq c6
   have hfd:=jS (s:=s) c6
   have hst:=fX hd hv c6
   have hn:=hd.ni.stOf t
   have hp:=uM hn
   unfold fZ at h0 ⊢
   cases d1:(cQ (aV s M) s (stOf s t).fs b.length 0 b).2 != 0 with
   |true=>rw[d1] at h0;exact absurd h0 (eL d1)
   |false=>
    rw[cond_false]
    have hfc:∀f∈(stOf s t).fs,∀c:List UInt8,(aV s M f.ty c).2=0->Can s f.ty (aV s M f.ty c).1 c:=fun f hf c hc=>vD hs hd M f.ty c ((eZ hs t).fs f hf).ty (hn.v f hf) (by have:=hst.2.2 f hf;omega) hc
    obtain ⟨k1,k2,_⟩:=DB (R:=fun _ _=>[]) (D:=aV s M) (s:=s) (fs:=(stOf s t).fs) b.length 0 b (Nat.le_refl _) (cU d1) fun f hf c _ _=>⟨vQ,by decide⟩
    have hLm:∀x∈(cQ (aV s M) s (stOf s t).fs b.length 0 b).1,∃f∈(stOf s t).fs,f.num=x.1:=fun x hx=>by obtain ⟨_,f,hf,he,_⟩:=k1 x hx;exact ⟨f,hf,he⟩
    have hPm:∀x∈cF s (stOf s t).fs (cQ (aV s M) s (stOf s t).fs b.length 0 b).1,cT s (kT (stOf s t) x.1).ty x.2=0/\cX x.2<=dD s.ss t.n-1:=by
     refine C2 (P:=fun i v=>cT s (kT (stOf s t) i).ty v=0/\cX v<=dD s.ss t.n-1) (fun x hx=>?_) fun f hf=>?_
     · obtain ⟨_,f,hf,he,hff,c,_,hc,hx2⟩:=k1 x hx
       have:=hfc f hf c hc
       have hq:=hst.2.2 f hf
       rw[<-he,kF hd hf,hx2]
       exact ⟨this.ck,by have:=this.rl;omega⟩
     · have hq:=hst.2.2 f hf
       have hvf:=hn.v f hf
       obtain ⟨a,b⟩:=OY hd 22 f.ty hvf fun h6=>by have:=(fX hd hvf h6).2.1;omega
       have b:cX (zF s 23 f.ty)<=zl s f.ty:=b
       have hzf:=WM hvf
       rw[kF hd hf]
       exact ⟨a,by omega⟩
    refine ⟨?_,?_,fun N hN hN8=>?_⟩
    · rw[l0,hv]
      show (bif !true||(6:Int) != t.k then (13:Int) else _)=0
      rw[hk]
      show (bif !(dG (stOf s t).fs (cF s (stOf s t).fs (cQ (aV s M) s (stOf s t).fs b.length 0 b).1)) then (13:Int) else jL s (stOf s t).fs (cF s (stOf s t).fs (cQ (aV s M) s (stOf s t).fs b.length 0 b).1))=0
      rw[aB1 hp,Bool.not_true,cond_false]
      exact BD _ fun x hx=>(hPm x hx).1
    · rw[nQ,hfd]
      show 1+iD (fW 0 []) (cF s (stOf s t).fs (cQ (aV s M) s (stOf s t).fs b.length 0 b).1)<=dD s.ss t.n
      rw[fW]
      have:=G1 (B:=dD s.ss t.n-1) (cF s (stOf s t).fs (cQ (aV s M) s (stOf s t).fs b.length 0 b).1) 0 (by omega) fun x hx=>(hPm x hx).2
      omega
    · cases N with
      |zero=>exact yJ hN
      |succ N=>
       rw[dL,c1,c2'.2,c2'.1,c4,c5]
       show jW (dT (bO s N) s (stOf s t).fs (cF s (stOf s t).fs (cQ (aV s M) s (stOf s t).fs b.length 0 b).1)) b
       have hhf:Vl.hf (cF s (stOf s t).fs (cQ (aV s M) s (stOf s t).fs b.length 0 b).1)<=N:=by rw[Vl.h] at hN;omega
       obtain ⟨_,_,k3⟩:=DB (R:=fun u v=>if v.h<=N then bO s N u v else []) (D:=aV s M) (s:=s) (fs:=(stOf s t).fs) b.length 0 b (Nat.le_refl _) (cU d1) fun f hf c _ hc=>by
        have hcan:=hfc f hf c hc
        by_cases hle:(aV s M f.ty c).1.h<=N
        · simp only[if_pos hle]
          have r2:=fT hd N f.ty _ hle hcan.ck
          have r3:=jP (N:=N) (by omega)
          exact ⟨hcan.le N hle (by omega),by omega⟩
        · simp only[if_neg hle]
          exact ⟨vQ,by decide⟩
       rw[aJ5 hp k2 hLm]
       generalize (cQ (aV s M) s (stOf s t).fs b.length 0 b).1=L at *
       have hxL:∀x∈L,x.2.h<=N:=fun x hx=>by
        rw[<-p8 hp k2 hLm] at hx
        obtain ⟨g,hg,hx⟩:=List.mem_flatMap.1 hx
        have hxa:x∈eC s L g:=by
         unfold n8 at hx
         unfold eC
         cases hv:bR L g.num with
         |none=>rw[hv] at hx;cases hx
         |some y=>rw[hv] at hx;exact hx
        have:=Vl.hf_mem (show x∈cF s (stOf s t).fs L from List.mem_flatMap.2 ⟨g,hg,hxa⟩)
        omega
       rw[show L.flatMap (wX (bO s N) s (stOf s t).fs)=L.flatMap (wX (fun u v=>if v.h<=N then bO s N u v else []) s (stOf s t).fs) from jG fun x hx=>by
        unfold wX
        simp only[if_pos (hxL x hx)]]
       exact k3
theorem tZ {s:Sc} (hd:Dg s):∀(N M:Nat) (t:Ty) (v:Vl),cT s t v=0->v.h<=N->v.h<=M->bO s N t v=bO s M t v
 |0,_,_,v,_,h,_=>yJ h
 |_+1,0,_,v,_,_,h=>yJ h
 |N+1,M+1,t,v,h0,h1,h2=>by
  have hc:=i6 h0
  rw[dL,dL]
  cases c1:t.k==1||(t.k==3||t.k==7) with
  |true=>rfl
  |false=>
  cases c2:t.k==2 with
  |true=>rfl
  |false=>
  cases c4:t.k==4 with
  |true=>rfl
  |false=>
  rw[cond_false,cond_false,cond_false,cond_false,cond_false,cond_false]
  cases c5:t.k==5 with
  |true=>
   rw[cond_true,cond_true]
   obtain ⟨_,_,_,_,h3⟩:=hc.ls c5
   congr 1
   exact jG fun x hx=>by rw[tZ hd N M _ x (h3 x hx) (by have:=Vl.h_l hx;omega) (by have:=Vl.h_l hx;omega)]
  |false=>
   rw[cond_false,cond_false]
   have c6:(t.k==6)=true:=by
    rcases pT hc.va with h|h|h|h|h|h|h
    · rw[h] at c1;cases c1
    · rw[h] at c2;cases c2
    · rw[h,Bool.true_or,Bool.or_true] at c1;cases c1
    · rw[h] at c4;cases c4
    · rw[h] at c5;cases c5
    · exact h
    · rw[h,Bool.or_true,Bool.or_true] at c1;cases c1
   obtain ⟨_,_,_,_,h3⟩:=hc.st c6
   refine jG fun g hg=>?_
   rw[mA,mA]
   cases hv:bR v.f g.num with
   |none=>unfold kX;rw[hv];rfl
   |some x=>
    obtain ⟨hm,he⟩:=nA hv
    have h4:=h3 x hm
    rw[he,kF hd hg] at h4
    simp only[Option.map_some,Option.getD_some]
    rw[tZ hd N M g.ty x.2 h4 (by have:=Vl.h_f hm;omega) (by have:=Vl.h_f hm;omega)]
theorem AH {s:Sc} (hd:Dg s) {nm:ByteArray} (h:cD s.ss nm=true):fK s (.mk 6 0 nm [])<=6/\valF s.ss s.es (.mk 6 0 nm [])=true:=by
 have hv:valF s.ss s.es (.mk 6 0 nm [])=true:=by rw[valF.eq_def];simp[h]
 have:=(fX hd hv rfl).2.1
 rw[jS rfl]
 exact ⟨this,hv⟩
theorem aMP (s:Sc) (nm:ByteArray) (b:List UInt8):aV s 9 (.mk 6 0 nm []) b=fZ (aV s 8) s (stOf s (.mk 6 0 nm [])).fs b:=by rw[j5];rfl
theorem aM3 (s:Sc) (nm:ByteArray) (v:Vl) (N:Nat):bO s (N+1) (.mk 6 0 nm []) v=dT (bO s N) s (stOf s (.mk 6 0 nm [])).fs v.f:=by rw[dL];rfl
theorem aHD {s:Sc} (hs:s.fit) {nm:ByteArray} (hnm:nm.size<=9223372036854775807) {b:List UInt8} (h:(dJ s nm b).2=0) :
 ∃c,oK s nm (dJ s nm b).1=(c,0)/\jW c b/\dJ s nm c=((dJ s nm b).1,0)/\lA s (.mk 6 0 nm []) (dJ s nm b).1=0/\VlOk (dJ s nm b).1:=by
 have h':=h
 unfold dJ at h'
 cases c1:bI s != 0 with
 |true=>rw[c1] at h';exact absurd h' (eL c1)
 |false=>
 rw[c1,cond_false] at h'
 have hd:=zB hs (cU c1)
 cases c2:cD s.ss nm with
 |false=>rw[c2] at h';cases h'
 |true=>
 rw[c2,Bool.not_true,cond_false] at h'
 cases c3:decide (2000<(b.length:Int)) with
 |true=>rw[c3] at h';cases h'
 |false=>
  rw[c3,cond_false] at h'
  have hb:=of_decide_eq_false c3
  have e:dJ s nm b=aV s 9 (.mk 6 0 nm []) b:=by
   unfold dJ
   rw[c1,cond_false,c2,Bool.not_true,cond_false,c3,cond_false,aMP]
  obtain ⟨hfd,hv⟩:=AH hd c2
  have hto:TyOk (.mk 6 0 nm []):=.mk ⟨by decide,by decide⟩ ⟨by decide,by decide⟩ hnm (Nat.zero_le _) fun t h=>(by cases h)
  rw[e] at h ⊢
  have hcan:=vD hs hd 9 (.mk 6 0 nm []) b hto hv (by omega) h
  have hvo:=m6 hs hd 9 (.mk 6 0 nm []) b hto hv (by omega)
  generalize (aV s 9 (.mk 6 0 nm []) b).1=v at *
  have hck:lA s (.mk 6 0 nm []) v=0:=by
   unfold lA
   rw[LO,decide_eq_false (by have:=hcan.rl;omega)]
   exact hcan.ck
  have hh:=TL hck
  have hle:=hcan.le 9
  have hN:jW (dT (bO s 8) s (stOf s (.mk 6 0 nm [])).fs v.f) b:=by
   have h7:=hcan.le 8 (by omega) (Nat.le_refl _)
   have h8:=tZ hd 8 9 (.mk 6 0 nm []) v hcan.ck (by omega) (by omega)
   rw[h8,aM3] at h7
   exact h7
  have heo:oK s nm v=(dT (bO s 8) s (stOf s (.mk 6 0 nm [])).fs v.f,0):=by
   unfold oK
   have hl:=hN.1
   rw[c1,cond_false,c2,Bool.not_true,cond_false,hck,decide_eq_false (by omega)];rfl
  refine ⟨_,heo,hN,?_,hck,hvo⟩
  have:=(aL5 hs hvo (nm:=nm) (by rw[heo])).1
  rwa [heo] at this
def FF:PC:=.seq (.gh (.reg [.l 29 (.ldn 3 (.t 3)),.l 30 (.ldn 2 (.t 8)),.l 31 (.ldn 5 (.t 5)),.a 32 (.cq 26 [(.t 29),(.t 30),(.t 31)]),.v 11 32])) (.seq (.seq (.reg [.v 33 11,.q 34 (.lnS (.t 33)),.q 35 (.bin .gtr true (.t 34) (.i 2000))]) (.cond (.t 35) (.seq (.reg [.q 6 (.mv (.k (.string (mk [])))),.q 7 (.mv (.i 3))]) .ret) .skip)) (.seq (.reg [.v 36 11,.v 6 36,.q 7 (.mv (.i 0))]) .ret))
@[go_sem ↓] theorem aWY:aM FF:=aN _
def GG:PC:=.seq (.seq (.gh (.ord  [.q (.l 21 (.ldn 3 (.t 3))),.q (.v 22 1),.q (.l 24 (.ldn 5 (.t 5))),.m (.a 23 (.cl 25 [(.t 22)] [])),.rc (.l 21 (.ldn 3 (.t 3))),.rc (.l 24 (.ldn 5 (.t 5))),.m (.a 25 (.cq 24 [(.t 21),(.t 23),(.t 24)])),.m (.v 10 25)])) (.seq (.reg [.v 26 10,.q 27 (.bin .neq true (.t 26) (.i 0))]) (.cond (.t 27) (.seq (.reg [.v 28 10,.q 6 (.mv (.k (.string (mk [])))),.v 7 28]) .ret) .skip))) (FF)
@[go_sem ↓] theorem aX1:aM GG:=aN _
def uF:PC:=.seq (.seq (.gh (.reg [.v 18 9,.q 19 (.bin .neq true (.t 18) (.i 0))])) (.cond (.t 19) (.seq (.reg [.v 20 9,.q 6 (.mv (.k (.string (mk [])))),.v 7 20]) .ret) .skip)) (GG)
@[go_sem ↓] theorem aX6:aM uF:=aN _
def pc9:PC:=.seq (.reg [.e 3 (.bx 25 (.t 0)),.e 5 (.bx 29 (.t 2)),.q 6 (.mv (.k (.string (mk [])))),.q 7 (.mv (.i 0))]) (.seq (.reg [.l 13 (.ldn 3 (.t 3)),.v 14 1,.a 15 (.cl 23 [(.t 13),(.t 14)] []),.v 12 15,.q 16 (.ex (.t 12) 0),.q 17 (.ex (.t 12) 1),.e 8 (.al (.agg #[(.string (mk [])),(.slice none 0 0)]) 48),.s (.st 2 (.t 8) (.t 16)),.v 9 17]) (uF))
def rs9:List RV:=[.mv (.t 6),.mv (.t 7)]
theorem ok9:aO Tryz.prog true ⟨fun r k=>if r=4/\k=4 then .q else if r=7/\k=3 then .q else .own [],fun r=>[2,4,7].contains r⟩ Tryz.f9=some (pc9,rs9):=by kernel_rfl
def HR:PC:=.seq (.gh (.reg [.l 24 (.ldn 3 (.t 3)),.l 25 (.ldn 2 (.t 8)),.v 26 2,.a 27 (.cl 30 [(.t 24),(.t 25),(.t 26)] []),.q 28 (.ex (.t 27) 0),.q 29 (.ex (.t 27) 1),.s (.st 5 (.t 6) (.t 28)),.v 7 29])) .ret
@[go_sem ↓] theorem aTX:aM HR:=aN _
def qF:PC:=.seq (.seq (.gh (.reg [.v 16 9,.q 17 (.bin .neq true (.t 16) (.i 0))])) (.cond (.t 17) (.seq (.reg [.q 18 (.bd [(.int .i64 0),(.int .i64 0),(.string (mk [])),(.slice none 0 0),(.slice none 0 0)] []),.v 19 9,.s (.st 5 (.t 6) (.t 18)),.v 7 19]) .ret) .skip)) (.seq (.seq (.reg [.v 20 2,.q 21 (.lnS (.t 20)),.q 22 (.bin .gtr true (.t 21) (.i 2000))]) (.cond (.t 22) (.seq (.reg [.q 23 (.bd [(.int .i64 0),(.int .i64 0),(.string (mk [])),(.slice none 0 0),(.slice none 0 0)] []),.s (.st 5 (.t 6) (.t 23)),.q 7 (.mv (.i 3))]) .ret) .skip)) (HR))
@[go_sem ↓] theorem aWG:aM qF:=aN _
def aJM:PC:=.seq (.reg [.e 3 (.bx 25 (.t 0)),.e 6 (.al (.agg cS) 29),.q 7 (.mv (.i 0))]) (.seq (.reg [.l 11 (.ldn 3 (.t 3)),.v 12 1,.a 13 (.cl 23 [(.t 11),(.t 12)] []),.v 10 13,.q 14 (.ex (.t 10) 0),.q 15 (.ex (.t 10) 1),.e 8 (.al (.agg #[(.string (mk [])),(.slice none 0 0)]) 48),.s (.st 2 (.t 8) (.t 14)),.v 9 15]) (qF))
def aG0:List RV:=[.ld (.ldn 5 (.t 6)),.mv (.t 7)]
theorem aV9:aO Tryz.prog true ⟨fun _ _=>.own [],fun r=>[2,6].contains r⟩ Tryz.f12=some (aJM,aG0):=by kernel_rfl
def y8:PC:=.seq (.gh (.reg [.v 11 6,.q 12 (.bin .neq true (.t 11) (.i 0))])) (.cond (.t 12) (.seq (.reg [.q 13 (.bd [(.string (mk [])),(.slice none 0 0)] []),.v 14 6,.s (.st 2 (.t 4) (.t 13)),.v 5 14]) .ret) .skip)
@[go_sem ↓] theorem aSM:aM y8:=aN _
def y3:PC:=.seq (.seq (.gh (.reg [.v 21 8,.q 22 (.not (.t 21))])) (.cond (.t 22) (.seq (.reg [.q 23 (.bd [(.string (mk [])),(.slice none 0 0)] []),.s (.st 2 (.t 4) (.t 23)),.q 5 (.mv (.i 6))]) .ret) .skip)) (.seq (.reg [.l 24 (.ldn 2 (.t 7)),.s (.st 2 (.t 4) (.t 24)),.q 5 (.mv (.i 0))]) .ret)
@[go_sem ↓] theorem aT6:aM y3:=aN _
def HB:PC:=.seq (.gh (.reg [.l 16 (.ldn 3 (.t 2)),.v 17 1,.a 18 (.cl 40 [(.t 16),(.t 17)] []),.v 15 18,.q 19 (.ex (.t 15) 0),.q 20 (.ex (.t 15) 1),.e 7 (.al (.agg #[(.string (mk [])),(.slice none 0 0)]) 48),.s (.st 2 (.t 7) (.t 19)),.v 8 20])) (y3)
@[go_sem ↓] theorem aVI:aM HB:=aN _
def aHX:PC:=.seq (.reg [.e 2 (.bx 25 (.t 0)),.e 4 (.al (.agg #[(.string (mk [])),(.slice none 0 0)]) 48),.q 5 (.mv (.i 0))]) (.seq (.seq (.reg [.l 9 (.ldn 3 (.t 2)),.a 10 (.cq 39 [(.t 9)]),.v 6 10]) (y8)) (HB))
def aHY:List RV:=[.ld (.ldn 2 (.t 4)),.mv (.t 5)]
theorem aWL:aO Tryz.prog true ⟨fun r k=>if r=1/\k=1 then .q else .own [],fun r=>[2,4,5].contains r⟩ Tryz.f23=some (aHX,aHY):=by kernel_rfl
def aKD:PC:=.seq (.reg [.e 2 (.al (.agg #[(.int .i64 0),(.int .i64 0),(.string (mk [])),(.slice none 0 0)]) 42)]) (.seq (.reg [.v 3 0,.q 4 (.bd [(.int .i64 0),(.int .i64 0),(.string (mk [])),(.slice none 0 0)] [(0,1,(.i 6)),(2,1,(.t 3))]),.s (.st 4 (.t 2) (.t 4))]) .ret)
def aE6:List RV:=[.ld (.ldn 4 (.t 2))]
theorem aWD:aO Tryz.prog true ⟨fun _ _=>.own [],fun _=>false⟩ Tryz.f25=some (aKD,aE6):=by kernel_rfl
def A3:PC:=.gh (.reg [.v 41 7,.q 42 (.fa 0 (.t 9)),.l 43 (.ld1 (.t 42)),.q 44 (.cvt .u64 (.t 43)),.a 45 (.cq 46 [(.t 44)]),.l 46 (.ldn 3 (.t 3)),.q 47 (.fa 2 (.t 9)),.l 48 (.ldn 4 (.t 47)),.l 49 (.ldn 5 (.t 10)),.a 50 (.cq 48 [(.t 46),(.t 48),(.t 49)]),.a 51 (.cq 47 [(.t 50)]),.q 52 (.bin .add true (.t 45) (.t 51)),.q 53 (.bin .add true (.t 41) (.t 52)),.v 7 53])
@[go_sem ↓] theorem aUF:aM A3:=aN _
def tE:PC:=.seq (.seq (.gh (.ord  [.q (.v 26 11),.q (.q 27 (.not (.t 26))),.q (.v 28 27),.q ⟨some 29,(some (28,false)),.q (.fa 6 (.t 9))⟩,.q ⟨some 30,(some (28,false)),.l (.ld1 (.t 29))⟩,.q ⟨some 31,(some (28,false)),.q (.not (.t 30))⟩,.q ⟨some 32,(some (28,false)),.q (.mv (.t 31))⟩,.q ⟨some 33,(some (32,true)),.l (.ldn 5 (.t 10))⟩,.q ⟨some 34,(some (32,true)),.l (.ldn 3 (.t 3))⟩,.q ⟨some 35,(some (32,true)),.q (.fa 2 (.t 9))⟩,.q ⟨some 36,(some (32,true)),.l (.ldn 4 (.t 35))⟩,.m ⟨some 37,(some (32,true)),.cl 45 [(.t 34),(.t 36)] []⟩,.rc ⟨some 33,(some (32,true)),.l (.ldn 5 (.t 10))⟩,.m ⟨some 38,(some (32,true)),.cq 44 [(.t 33),(.t 37)]⟩,.q ⟨some 39,(some (28,false)),.pick (.t 32) (.t 38) (.k (.bool false))⟩,.q (.a 40 (.pick (.t 28) (.k (.bool true)) (.t 39)))])) (.cond (.t 40) (.exit 1) .skip)) (A3)
@[go_sem ↓] theorem aTO:aM tE:=aN _
def aHO:PC:=.seq (.reg [.e 3 (.bx 25 (.t 0)),.e 4 (.bx 48 (.t 1)),.e 5 (.bx 29 (.t 2)),.q 6 (.mv (.k (.string (mk []))))]) (.seq (.reg [.q 7 (.mv (.k (.string (mk []))))]) (.seq (.seq (.reg [.q 12 (.fa 1 (.t 4)),.l 13 (.ld1 (.t 12)),.q 14 (.lnL (.t 13)),.q 15 (.mv (.i 0))]) (.block 0 (.loop (.seq (.reg [.q 16 (.bin .lss true (.t 15) (.t 14))]) (.seq (.cond (.t 16) .skip (.exit 0)) (.seq (.block 1 (.seq (.reg [.l 17 (.ia 7 (.t 13) (.t 15)),.l 18 (.ldn 7 (.t 17)),.e 9 (.al (.agg #[(.int .i64 0),(.string (mk [])),(.int .i64 0),(.int .i64 0),(.string (mk [])),(.slice none 0 0),(.bool false)]) 52),.s (.st 7 (.t 9) (.t 18))]) (.seq (.reg [.l 20 (.ldn 5 (.t 5)),.q 21 (.fa 0 (.t 9)),.l 22 (.ld1 (.t 21)),.a 23 (.cl 43 [(.t 20),(.t 22)] []),.v 19 23,.q 24 (.ex (.t 19) 0),.q 25 (.ex (.t 19) 1),.e 10 (.al (.agg cS) 29),.s (.st 5 (.t 10) (.t 24)),.v 11 25]) (tE)))) (.reg [.q 54 (.bin .add true (.t 15) (.i 1)),.v 15 54]))))))) (.seq (.reg [.v 55 7,.v 6 55]) .ret)))
def aJK:List RV:=[.mv (.t 6)]
theorem aWO:aO Tryz.prog true ⟨fun r k=>if r=6/\k=12 then .q else if r=7/\k=4 then .q else if r=7/\k=9 then .q else if r=7/\k=10 then .q else .own [],fun r=>[6,7].contains r⟩ Tryz.f26=some (aHO,aJK):=by kernel_rfl
def j6:List OJ:=[.rc ⟨some 64,(some (63,true)),.l (.ldn 5 (.t 15))⟩,.m ⟨some 69,(some (63,true)),.cq 44 [(.t 64),(.t 68)]⟩,.q (.a 70 (.pick (.t 63) (.t 69) (.k (.bool false)))),.q (.v 71 70),.q ⟨some 72,(some (71,true)),.q (.fa 2 (.t 13))⟩,.q ⟨some 73,(some (71,true)),.q (.fa 0 (.t 72))⟩,.q ⟨some 74,(some (71,true)),.l (.ld1 (.t 73))⟩,.q ⟨some 75,(some (71,true)),.q (.bin .neq true (.t 74) (.i 6))⟩,.q ⟨some 76,(some (71,true)),.q (.mv (.t 75))⟩,.q ⟨some 77,(some (76,false)),.q (.fa 1 (.t 10))⟩,.q ⟨some 78,(some (76,false)),.l (.ld1 (.t 77))⟩,.q ⟨some 79,(some (76,false)),.q (.bin .eql true (.t 78) (.k (.string (mk []))))⟩,.q ⟨some 80,(some (71,true)),.pick (.t 76) (.k (.bool true)) (.t 79)⟩,.q (.a 81 (.pick (.t 71) (.t 80) (.k (.bool false))))]
def p9:PC:=.gh (.reg [.v 86 8,.q 87 (.fa 0 (.t 10)),.l 88 (.ld1 (.t 87)),.l 89 (.ldn 5 (.t 15)),.s (.mu (.int .i64) (.t 86) (.t 88) (.t 89))])
@[go_sem ↓] theorem aQG:aM p9:=aN _
def kB:PC:=.seq (.seq (.gh (.reg [.v 82 12,.q 83 (.bin .neq true (.t 82) (.i 0))])) (.cond (.t 83) (.seq (.reg [.q 84 (.bd [(.int .i64 0),(.int .i64 0),(.string (mk [])),(.slice none 0 0),(.slice none 0 0)] []),.v 85 12,.s (.st 5 (.t 6) (.t 84)),.v 7 85]) .ret) .skip)) (p9)
@[go_sem ↓] theorem aP3:aM kB:=aN _
def qM:PC:=.seq (.seq (.gh (.ord  (.q (.v 56 12)::.q (.q 57 (.bin .eql true (.t 56) (.i 0)))::.q (.v 58 57)::.q ⟨some 59,(some (58,true)),.q (.fa 6 (.t 13))⟩::.q ⟨some 60,(some (58,true)),.l (.ld1 (.t 59))⟩::.q ⟨some 61,(some (58,true)),.q (.not (.t 60))⟩::.q (.a 62 (.pick (.t 58) (.t 61) (.k (.bool false))))::.q (.v 63 62)::.q ⟨some 64,(some (63,true)),.l (.ldn 5 (.t 15))⟩::.q ⟨some 65,(some (63,true)),.l (.ldn 3 (.t 3))⟩::.q ⟨some 66,(some (63,true)),.q (.fa 2 (.t 13))⟩::.q ⟨some 67,(some (63,true)),.l (.ldn 4 (.t 66))⟩::.m ⟨some 68,(some (63,true)),.cl 45 [(.t 65),(.t 67)] []⟩::j6))) (.cond (.t 81) (.reg [.q 12 (.mv (.i 2))]) .skip)) (kB)
@[go_sem ↓] theorem aQY:aM qM:=aN _
def CQ:PC:=.seq (.gh (.reg [.l 48 (.ldn 3 (.t 3)),.q 49 (.fa 2 (.t 13)),.l 50 (.ldn 4 (.t 49)),.q 51 (.fa 1 (.t 10)),.l 52 (.ld1 (.t 51)),.a 53 (.cl 55 [(.t 48),(.t 50),(.t 52)] []),.v 47 53,.q 54 (.ex (.t 47) 0),.q 55 (.ex (.t 47) 1),.e 15 (.al (.agg cS) 29),.s (.st 5 (.t 15) (.t 54)),.v 12 55])) (qM)
@[go_sem ↓] theorem aRU:aM CQ:=aN _
def y1:PC:=.seq (.seq (.gh (.reg [.v 45 14,.q 46 (.not (.t 45))])) (.cond (.t 46) (.exit 1) .skip)) (CQ)
@[go_sem ↓] theorem aV3:aM y1:=aN _
def J5:PC:=.seq (.gh (.reg [.l 39 (.ldn 2 (.t 4)),.q 40 (.fa 0 (.t 10)),.l 41 (.ld1 (.t 40)),.a 42 (.cl 54 [(.t 39),(.t 41)] []),.v 38 42,.q 43 (.ex (.t 38) 0),.q 44 (.ex (.t 38) 1),.e 13 (.al (.agg #[(.int .i64 0),(.string (mk [])),(.int .i64 0),(.int .i64 0),(.string (mk [])),(.slice none 0 0),(.bool false)]) 52),.s (.st 7 (.t 13) (.t 43)),.v 14 44])) (y1)
@[go_sem ↓] theorem aTI:aM J5:=aN _
def HH:PC:=.seq (.gh (.reg [.q 35 (.fa 0 (.t 10)),.l 36 (.ld1 (.t 35)),.v 37 11,.v 9 36,.v 2 37])) (J5)
@[go_sem ↓] theorem aVR:aM HH:=aN _
def AG:PC:=.seq (.seq (.gh (.reg [.v 31 12,.q 32 (.bin .neq true (.t 31) (.i 0))])) (.cond (.t 32) (.seq (.reg [.q 33 (.bd [(.int .i64 0),(.int .i64 0),(.string (mk [])),(.slice none 0 0),(.slice none 0 0)] []),.v 34 12,.s (.st 5 (.t 6) (.t 33)),.v 7 34]) .ret) .skip)) (HH)
@[go_sem ↓] theorem aSZ:aM AG:=aN _
def J0:PC:=.seq (.gh (.reg [.v 25 2,.v 26 9,.a 27 (.cl 53 [(.t 25),(.t 26)] []),.v 24 27,.q 28 (.ex (.t 24) 0),.q 29 (.ex (.t 24) 1),.q 30 (.ex (.t 24) 2),.e 10 (.al (.agg #[(.int .i64 0),(.string (mk []))]) 89),.s (.st 2 (.t 10) (.t 28)),.v 11 29,.v 12 30])) (AG)
@[go_sem ↓] theorem aV1:aM J0:=aN _
def CL:PC:=.gh (.reg [.l 113 (.ldn 3 (.t 3)),.q 114 (.fa 2 (.t 18)),.l 115 (.ldn 4 (.t 114)),.a 116 (.cl 45 [(.t 113),(.t 115)] []),.s (.st 5 (.t 19) (.t 116))])
@[go_sem ↓] theorem aQ8:aM CL:=aN _
def wC:PC:=.gh (.reg [.q 117 (.fa 4 (.t 16)),.l 118 (.ld1 (.t 117)),.q 119 (.fa 0 (.t 18)),.l 120 (.ld1 (.t 119)),.l 121 (.ldn 5 (.t 19)),.q 122 (.bd [(.int .i64 0),(.int .i64 0),(.int .i64 0),(.string (mk [])),(.slice none 0 0),(.slice none 0 0)] [(0,1,(.t 120)),(1,5,(.t 121))]),.e 123 (.bsl 76 6 [(.t 122)]),.e 124 (.ap 76 6 88 (.t 118) (.t 123)),.q 125 (.fa 4 (.t 16)),.s (.st 1 (.t 125) (.t 124))])
@[go_sem ↓] theorem aRC:aM wC:=aN _
def uY:PC:=.seq (.seq (.gh (.reg [.v 111 20,.q 112 (.not (.t 111))])) (.cond (.t 112) (CL) .skip)) (wC)
@[go_sem ↓] theorem aPT:aM uY:=aN _
def qL:PC:=.seq (.seq (.gh (.reg [.v 105 20,.q 106 (.not (.t 105)),.v 107 106,⟨some 108,(some (107,true)),.q (.fa 6 (.t 18))⟩,⟨some 109,(some (107,true)),.l (.ld1 (.t 108))⟩,.a 110 (.pick (.t 107) (.t 109) (.k (.bool false)))])) (.cond (.t 110) (.exit 3) .skip)) (uY)
@[go_sem ↓] theorem aQ1:aM qL:=aN _
def wI:PC:=.seq (.gh (.reg [.v 99 8,.q 100 (.fa 0 (.t 18)),.l 101 (.ld1 (.t 100)),.l 102 (.lk (.int .i64) (.agg cS) true (.t 99) (.t 101)),.v 98 102,.q 103 (.ex (.t 98) 0),.q 104 (.ex (.t 98) 1),.e 19 (.al (.agg cS) 29),.s (.st 5 (.t 19) (.t 103)),.v 20 104])) (qL)
@[go_sem ↓] theorem aPZ:aM wI:=aN _
def DR:PC:=.seq (.seq (.gh (.reg [.q 91 (.fa 1 (.t 4)),.l 92 (.ld1 (.t 91)),.q 93 (.lnL (.t 92)),.q 94 (.mv (.i 0))])) (.block 2 (.loop (.seq (.reg [.q 95 (.bin .lss true (.t 94) (.t 93))]) (.seq (.cond (.t 95) .skip (.exit 2)) (.seq (.block 3 (.seq (.reg [.l 96 (.ia 7 (.t 92) (.t 94)),.l 97 (.ldn 7 (.t 96)),.e 18 (.al (.agg #[(.int .i64 0),(.string (mk [])),(.int .i64 0),(.int .i64 0),(.string (mk [])),(.slice none 0 0),(.bool false)]) 52),.s (.st 7 (.t 18) (.t 97))]) (wI))) (.reg [.q 126 (.bin .add true (.t 94) (.i 1)),.v 94 126]))))))) (.seq (.reg [.l 127 (.ldn 5 (.t 16)),.s (.st 5 (.t 6) (.t 127)),.q 7 (.mv (.i 0))]) .ret)
@[go_sem ↓] theorem aRD:aM DR:=aN _
def B8:PC:=.seq (.gh (.reg [.q 90 (.bd [(.int .i64 0),(.int .i64 0),(.string (mk [])),(.slice none 0 0),(.slice none 0 0)] [(0,1,(.i 6))]),.e 16 (.al (.agg cS) 29),.s (.st 5 (.t 16) (.t 90))])) (DR)
@[go_sem ↓] theorem aRV:aM B8:=aN _
def aHR:PC:=.seq (.reg [.e 3 (.bx 25 (.t 0)),.e 4 (.bx 48 (.t 1)),.e 6 (.al (.agg cS) 29),.q 7 (.mv (.i 0))]) (.seq (.reg [.e 21 (.mm (.int .i64)),.v 8 21]) (.seq (.reg [.q 9 (.mv (.i 0))]) (.seq (.block 0 (.loop (.seq (.seq (.reg [.v 22 2,.q 23 (.bin .neq true (.t 22) (.k (.string (mk []))))]) (.cond (.t 23) .skip (.exit 0))) (.block 1 (J0))))) (B8))))
def aD7:List RV:=[.ld (.ldn 5 (.t 6)),.mv (.t 7)]
theorem aSI:aO Tryz.prog true ⟨fun r k=>if r=11/\k=13 then .q else .own [],fun r=>[4,5,7,8,9,10,11,13,16,17,20,21,22,15,23,24].contains r⟩ Tryz.f30=some (aHR,aD7):=by kernel_rfl
def CP:PC:=.gh (.reg [.v 47 8,.l 48 (.ldn 5 (.t 10)),.a 49 (.ca (.t 47) [(.t 48)] [3,0,1])])
@[go_sem ↓] theorem aQC:aM CP:=aN _
def DF:PC:=.seq (.gh (.reg [.l 51 (.ld1 (.t 7)),.v 6 51])) .ret
@[go_sem ↓] theorem aPV:aM DF:=aN _
def B7:PC:=.seq (.gh (.reg [.q 34 (.fa 3 (.t 5)),.l 35 (.ld1 (.t 34)),.q 36 (.lnL (.t 35)),.q 37 (.cvt .u64 (.t 36)),.a 38 (.cq 46 [(.t 37)]),.e 7 (.al (.string (mk [])) 9),.s (.st 1 (.t 7) (.t 38))])) (.seq (.reg [.q 39 (.mf 85 [(.t 7),(.t 3),(.t 4)]),.v 8 39]) (.seq (.seq (.reg [.q 40 (.fa 3 (.t 5)),.l 41 (.ld1 (.t 40)),.q 42 (.lnL (.t 41)),.q 43 (.mv (.i 0))]) (.block 1 (.loop (.seq (.reg [.q 44 (.bin .lss true (.t 43) (.t 42))]) (.seq (.cond (.t 44) .skip (.exit 1)) (.seq (.block 2 (.seq (.reg [.l 45 (.ia 5 (.t 41) (.t 43)),.l 46 (.ldn 5 (.t 45)),.e 10 (.al (.agg cS) 29),.s (.st 5 (.t 10) (.t 46))]) (CP))) (.reg [.q 50 (.bin .add true (.t 43) (.i 1)),.v 43 50]))))))) (DF)))
@[go_sem ↓] theorem aQ4:aM B7:=aN _
def nO:PC:=.seq (.seq (.gh (.reg [.q 16 (.bin .eql true (.t 14) (.i 1)),.v 15 16])) (.cond (.t 15) .skip (.seq (.reg [.q 17 (.bin .eql true (.t 14) (.i 3)),.v 15 17]) (.cond (.t 15) .skip (.reg [.q 18 (.bin .eql true (.t 14) (.i 7)),.v 15 18]))))) (.cond (.t 15) (.seq (.reg [.q 19 (.fa 1 (.t 5)),.l 20 (.ld1 (.t 19)),.q 21 (.cvt .u64 (.t 20)),.a 22 (.cq 46 [(.t 21)]),.v 6 22]) .ret) (.seq (.reg [.q 24 (.bin .eql true (.t 14) (.i 2)),.v 23 24]) (.cond (.t 23) (.seq (.reg [.q 25 (.fa 1 (.t 5)),.l 26 (.ld1 (.t 25)),.a 27 (.cq 84 [(.t 26)]),.v 6 27]) .ret) (.seq (.reg [.q 29 (.bin .eql true (.t 14) (.i 4)),.v 28 29]) (.cond (.t 28) (.seq (.reg [.q 30 (.fa 2 (.t 5)),.l 31 (.ld1 (.t 30)),.v 6 31]) .ret) (.seq (.reg [.q 33 (.bin .eql true (.t 14) (.i 5)),.v 32 33]) (.cond (.t 32) (B7) .skip)))))))
@[go_sem ↓] theorem aVM:aM nO:=aN _
def BW:PC:=.seq (.gh (.reg [.l 59 (.ldn 3 (.t 3)),.l 60 (.ldn 2 (.t 11)),.l 61 (.ldn 5 (.t 5)),.a 62 (.cq 26 [(.t 59),(.t 60),(.t 61)]),.v 6 62])) .ret
@[go_sem ↓] theorem aQL:aM BW:=aN _
def BG:PC:=.seq (.gh (.reg [.l 53 (.ldn 3 (.t 3)),.q 54 (.fa 2 (.t 4)),.l 55 (.ld1 (.t 54)),.a 56 (.cl 40 [(.t 53),(.t 55)] []),.v 52 56,.q 57 (.ex (.t 52) 0),.q 58 (.ex (.t 52) 1),.e 11 (.al (.agg #[(.string (mk [])),(.slice none 0 0)]) 48),.s (.st 2 (.t 11) (.t 57)),.v 12 58])) (BW)
@[go_sem ↓] theorem aQT:aM BG:=aN _
def aFO:PC:=.seq (.reg [.e 3 (.bx 25 (.t 0)),.e 4 (.bx 42 (.t 1)),.e 5 (.bx 29 (.t 2)),.q 6 (.mv (.k (.string (mk []))))]) (.seq (.seq (.reg [.q 13 (.fa 0 (.t 4)),.l 14 (.ld1 (.t 13))]) (.block 0 (nO))) (BG))
def aKI:List RV:=[.mv (.t 6)]
theorem aWJ:aO Tryz.prog true ⟨fun r k=>if r=5/\k=3 then .q else if r=7/\k=2 then .q else if r=11/\k=4 then .q else if r=16/\k=2 then .own [3,0,1] else if r=20/\k=3 then .q else .own [],fun r=>[2,11,18,19,20,16].contains r⟩ Tryz.f48=some (aFO,aKI):=by kernel_rfl
def HL:PC:=.seq (.gh (.reg [.v 38 7,.q 39 (.cvt .i64 (.t 38)),.v 40 10,.q 41 (.bd [(.int .i64 0),(.string (mk []))] [(0,1,(.t 39)),(1,1,(.t 40))]),.v 42 8,.v 43 9,.s (.st 2 (.t 4) (.t 41)),.v 5 42,.v 6 43])) .ret
@[go_sem ↓] theorem aTA:aM HL:=aN _
def aIY:PC:=.seq (.reg [.e 4 (.al (.agg #[(.int .i64 0),(.string (mk []))]) 89),.q 5 (.mv (.k (.string (mk [])))),.q 6 (.mv (.i 0))]) (.seq (.reg [.v 12 0,.a 13 (.cl 94 [(.t 12)] []),.v 11 13,.q 14 (.ex (.t 11) 0),.q 15 (.ex (.t 11) 1),.q 16 (.ex (.t 11) 2),.v 7 14,.v 8 15,.v 9 16]) (.seq (.block 0 (.seq (.reg [.v 18 9,.q 19 (.bin .neq true (.t 18) (.i 0)),.v 17 19]) (.cond (.t 17) (.seq (.reg [.q 20 (.bd [(.int .i64 0),(.string (mk []))] []),.v 21 9,.s (.st 2 (.t 4) (.t 20)),.q 5 (.mv (.k (.string (mk [])))),.v 6 21]) .ret) (.seq (.reg [.v 23 7,.q 24 (.bin .gtr true (.t 23) (.k (.int .u64 2147483647))),.v 22 24]) (.cond (.t 22) (.seq (.reg [.q 25 (.bd [(.int .i64 0),(.string (mk []))] []),.s (.st 2 (.t 4) (.t 25)),.q 5 (.mv (.k (.string (mk [])))),.q 6 (.mv (.i 4))]) .ret) (.seq (.reg [.v 27 7,.q 28 (.cvt .i64 (.t 27)),.v 29 1,.q 30 (.bin .leq true (.t 28) (.t 29)),.v 26 30]) (.cond (.t 26) (.seq (.reg [.q 31 (.bd [(.int .i64 0),(.string (mk []))] []),.s (.st 2 (.t 4) (.t 31)),.q 5 (.mv (.k (.string (mk [])))),.q 6 (.mv (.i 2))]) .ret) .skip))))))) (.seq (.reg [.v 33 8,.a 34 (.cl 95 [(.t 33)] []),.v 32 34,.q 35 (.ex (.t 32) 0),.q 36 (.ex (.t 32) 1),.q 37 (.ex (.t 32) 2),.v 10 35,.v 8 36,.v 9 37]) (HL))))
def aI6:List RV:=[.ld (.ldn 2 (.t 4)),.mv (.t 5),.mv (.t 6)]
theorem aTF:aO Tryz.prog true ⟨fun _ _=>.own [],fun r=>[9].contains r⟩ Tryz.f53=some (aIY,aI6):=by kernel_rfl
def mB:PC:=.seq (.gh (.reg [.q 13 (.bin .eql true (.t 11) (.i 1)),.v 12 13])) (.cond (.t 12) (.seq (.reg [.v 14 2,.a 15 (.cl 97 [(.t 14)] []),.q 16 (.ex (.t 15) 0),.q 17 (.ex (.t 15) 1),.s (.st 5 (.t 6) (.t 16)),.v 7 17]) .ret) (.seq (.seq (.reg [.q 19 (.bin .eql true (.t 11) (.i 2)),.v 18 19]) (.cond (.t 18) .skip (.seq (.reg [.q 20 (.bin .eql true (.t 11) (.i 3)),.v 18 20]) (.cond (.t 18) .skip (.reg [.q 21 (.bin .eql true (.t 11) (.i 7)),.v 18 21]))))) (.cond (.t 18) (.seq (.reg [.l 22 (.ldn 3 (.t 3)),.l 23 (.ldn 4 (.t 4)),.v 24 2,.a 25 (.cl 98 [(.t 22),(.t 23),(.t 24)] []),.q 26 (.ex (.t 25) 0),.q 27 (.ex (.t 25) 1),.s (.st 5 (.t 6) (.t 26)),.v 7 27]) .ret) (.seq (.reg [.q 29 (.bin .eql true (.t 11) (.i 4)),.v 28 29]) (.cond (.t 28) (.seq (.seq (.reg [.v 30 2,.q 31 (.lnS (.t 30)),.q 32 (.fa 1 (.t 4)),.l 33 (.ld1 (.t 32)),.q 34 (.bin .gtr true (.t 31) (.t 33))]) (.cond (.t 34) (.seq (.reg [.q 35 (.bd [(.int .i64 0),(.int .i64 0),(.string (mk [])),(.slice none 0 0),(.slice none 0 0)] []),.s (.st 5 (.t 6) (.t 35)),.q 7 (.mv (.i 3))]) .ret) .skip)) (.seq (.reg [.v 36 2,.q 37 (.bd [(.int .i64 0),(.int .i64 0),(.string (mk [])),(.slice none 0 0),(.slice none 0 0)] [(0,1,(.i 4)),(2,1,(.t 36))]),.s (.st 5 (.t 6) (.t 37)),.q 7 (.mv (.i 0))]) .ret)) (.seq (.reg [.q 39 (.bin .eql true (.t 11) (.i 5)),.v 38 39]) (.cond (.t 38) (.seq (.reg [.l 40 (.ldn 3 (.t 3)),.l 41 (.ldn 4 (.t 4)),.v 42 2,.a 43 (.cl 99 [(.t 40),(.t 41),(.t 42)] []),.q 44 (.ex (.t 43) 0),.q 45 (.ex (.t 43) 1),.s (.st 5 (.t 6) (.t 44)),.v 7 45]) .ret) .skip)))))))
@[go_sem ↓] theorem aR4:aM mB:=aN _
def DQ:PC:=.seq (.gh (.reg [.l 53 (.ldn 3 (.t 3)),.l 54 (.ldn 2 (.t 8)),.v 55 2,.a 56 (.cl 30 [(.t 53),(.t 54),(.t 55)] []),.q 57 (.ex (.t 56) 0),.q 58 (.ex (.t 56) 1),.s (.st 5 (.t 6) (.t 57)),.v 7 58])) .ret
@[go_sem ↓] theorem aQA:aM DQ:=aN _
def CR:PC:=.seq (.gh (.reg [.l 47 (.ldn 3 (.t 3)),.q 48 (.fa 2 (.t 4)),.l 49 (.ld1 (.t 48)),.a 50 (.cl 40 [(.t 47),(.t 49)] []),.v 46 50,.q 51 (.ex (.t 46) 0),.q 52 (.ex (.t 46) 1),.e 8 (.al (.agg #[(.string (mk [])),(.slice none 0 0)]) 48),.s (.st 2 (.t 8) (.t 51)),.v 9 52])) (DQ)
@[go_sem ↓] theorem aRT:aM CR:=aN _
def aJN:PC:=.seq (.reg [.e 3 (.bx 25 (.t 0)),.e 4 (.bx 42 (.t 1)),.e 6 (.al (.agg cS) 29),.q 7 (.mv (.i 0))]) (.seq (.seq (.reg [.q 10 (.fa 0 (.t 4)),.l 11 (.ld1 (.t 10))]) (.block 0 (mB))) (CR))
def aEL:List RV:=[.ld (.ldn 5 (.t 6)),.mv (.t 7)]
theorem aVX:aO Tryz.prog true ⟨fun _ _=>.own [],fun r=>[2,14,15].contains r⟩ Tryz.f55=some (aJN,aEL):=by kernel_rfl
def aJU:PC:=.seq (.reg [.e 4 (.bx 29 (.t 0))]) (.reg [.l 5 (.ld1 (.t 1)),.l 6 (.ldn 3 (.t 2)),.q 7 (.fa 3 (.t 3)),.l 8 (.ld1 (.t 7)),.l 9 (.ia 4 (.t 8) (.i 0)),.l 10 (.ldn 4 (.t 9)),.l 11 (.ldn 5 (.t 4)),.a 12 (.cq 48 [(.t 6),(.t 10),(.t 11)]),.a 13 (.cq 47 [(.t 12)]),.q 14 (.bin .add true (.t 5) (.t 13)),.s (.st 1 (.t 1) (.t 14))])
def aH5:List RV:=[]
theorem aS6:aO Tryz.prog true ⟨fun r k=>if r=1/\k=7 then .q else if r=1/\k=8 then .q else .own [],fun _=>false⟩ Tryz.f85=some (aJU,aH5):=by kernel_rfl
def A7:PC:=.seq (.gh (.reg [.v 14 7,.q 15 (.bin .neq true (.t 14) (.i 0))])) (.cond (.t 15) (.seq (.reg [.v 16 7,.q 2 (.mv (.k (.int .u64 0))),.q 3 (.mv (.k (.string (mk [])))),.v 4 16]) .ret) .skip)
@[go_sem ↓] theorem aT3:aM A7:=aN _
def IE:PC:=.seq (.gh (.ord  [.q (.v 17 6),.q (.v 18 0),.q (.v 19 0),.q (.q 20 (.lnS (.t 19))),.q (.v 21 5),.m (.a 22 (.cl 136 [(.t 21)] [0])),.rc (.v 17 6),.rc (.v 18 0),.rc (.v 19 0),.rc (.q 20 (.lnS (.t 19))),.q (.q 23 (.bin .sub true (.t 20) (.t 22))),.q (.q 24 (.ss (.t 18) (some (.t 23)) none)),.m (.v 2 17),.rc (.v 18 0),.rc (.v 19 0),.rc (.q 20 (.lnS (.t 19))),.rc (.q 23 (.bin .sub true (.t 20) (.t 22))),.rc (.q 24 (.ss (.t 18) (some (.t 23)) none)),.m (.v 3 24),.m (.q 4 (.mv (.i 0)))])) .ret
@[go_sem ↓] theorem aSB:aM IE:=aN _
def G6:PC:=.seq (.seq (.gh (.reg [.v 12 5,.a 13 (.cl 135 [(.t 12)] [0]),.v 7 13])) (A7)) (IE)
@[go_sem ↓] theorem aUU:aM G6:=aN _
def HT:PC:=.seq (.gh (.reg [.v 10 5,.a 11 (.cl 134 [(.t 10)] [0]),.v 6 11])) (G6)
@[go_sem ↓] theorem aVE:aM HT:=aN _
def aJZ:PC:=.seq (.reg [.q 2 (.mv (.k (.int .u64 0))),.q 3 (.mv (.k (.string (mk [])))),.q 4 (.mv (.i 0))]) (.seq (.reg [.v 8 0,.a 9 (.cl 133 [(.t 8)] []),.v 5 9]) (HT))
def aE0:List RV:=[.mv (.t 2),.mv (.t 3),.mv (.t 4)]
theorem aSX:aO Tryz.prog true ⟨fun r k=>if r=2/\k=1 then .own [0] else if r=3/\k=1 then .own [0] else if r=6/\k=5 then .own [0] else .own [],fun r=>[2,3,4,6].contains r⟩ Tryz.f94=some (aJZ,aE0):=by kernel_rfl
def tP:PC:=.seq (.seq (.gh (.reg [.v 12 4,.q 13 (.bin .neq true (.t 12) (.i 0))])) (.cond (.t 13) (.seq (.reg [.v 14 4,.q 2 (.mv (.k (.string (mk [])))),.q 3 (.mv (.k (.string (mk [])))),.v 4 14]) .ret) .skip)) (.seq (.seq (.reg [.v 15 5,.v 16 0,.q 17 (.lnS (.t 16)),.q 18 (.cvt .u64 (.t 17)),.q 19 (.bin .gtr true (.t 15) (.t 18))]) (.cond (.t 19) (.seq (.reg [.q 2 (.mv (.k (.string (mk [])))),.q 3 (.mv (.k (.string (mk [])))),.q 4 (.mv (.i 1))]) .ret) .skip)) (.seq (.reg [.v 20 0,.v 21 5,.q 22 (.ss (.t 20) none (some (.t 21))),.v 23 0,.v 24 5,.q 25 (.ss (.t 23) (some (.t 24)) none),.v 2 22,.v 3 25,.q 4 (.mv (.i 0))]) .ret))
@[go_sem ↓] theorem aUG:aM tP:=aN _
def aDY:PC:=.seq (.reg [.q 2 (.mv (.k (.string (mk [])))),.q 3 (.mv (.k (.string (mk [])))),.q 4 (.mv (.i 0))]) (.seq (.reg [.v 7 0,.a 8 (.cl 94 [(.t 7)] []),.v 6 8,.q 9 (.ex (.t 6) 0),.q 10 (.ex (.t 6) 1),.q 11 (.ex (.t 6) 2),.v 5 9,.v 0 10,.v 4 11]) (tP))
def aIR:List RV:=[.mv (.t 2),.mv (.t 3),.mv (.t 4)]
theorem aSQ:aO Tryz.prog true ⟨fun _ _=>.own [],fun r=>[2].contains r⟩ Tryz.f95=some (aDY,aIR):=by kernel_rfl
def UW:PC:=.seq (.reg [.e 2 (.al (.agg cS) 29),.q 3 (.mv (.i 0))]) (.seq (.block 0 (.seq (.reg [.v 5 0,.q 6 (.bin .eql true (.t 5) (.k (.string (mk [])))),.v 4 6]) (.cond (.t 4) (.seq (.reg [.q 7 (.bd [(.int .i64 0),(.int .i64 0),(.string (mk [])),(.slice none 0 0),(.slice none 0 0)] []),.s (.st 5 (.t 2) (.t 7)),.q 3 (.mv (.i 1))]) .ret) (.seq (.reg [.v 9 0,.a 10 (.ix (.t 9) (.i 0)),.q 11 (.bin .gtr true (.t 10) (.k (.int .u8 1))),.v 12 11,⟨some 13,(some (12,false)),.q (.mv (.t 0))⟩,⟨some 14,(some (12,false)),.q (.lnS (.t 13))⟩,⟨some 15,(some (12,false)),.q (.bin .gtr true (.t 14) (.i 1))⟩,.a 16 (.pick (.t 12) (.k (.bool true)) (.t 15)),.v 8 16]) (.cond (.t 8) (.seq (.reg [.q 17 (.bd [(.int .i64 0),(.int .i64 0),(.string (mk [])),(.slice none 0 0),(.slice none 0 0)] []),.s (.st 5 (.t 2) (.t 17)),.q 3 (.mv (.i 2))]) .ret) .skip))))) (.seq (.reg [.v 18 0,.a 19 (.ix (.t 18) (.i 0)),.q 20 (.cvt .i64 (.t 19)),.q 21 (.bd [(.int .i64 0),(.int .i64 0),(.string (mk [])),(.slice none 0 0),(.slice none 0 0)] [(0,1,(.i 1)),(1,1,(.t 20))]),.s (.st 5 (.t 2) (.t 21)),.q 3 (.mv (.i 0))]) .ret))
def TA:List RV:=[.ld (.ldn 5 (.t 2)),.mv (.t 3)]
theorem aU2:aO Tryz.prog true ⟨fun _ _=>.own [],fun _=>false⟩ Tryz.f97=some (UW,TA):=by kernel_rfl
def zQ:PC:=.gh (.reg [.q 19 (.fa 1 (.t 4)),.l 20 (.ld1 (.t 19)),.q 21 (.bin .eql true (.t 20) (.i 64)),.v 22 21,⟨some 23,(some (22,false)),.q (.mv (.t 9))⟩,⟨some 24,(some (22,false)),.q (.fa 1 (.t 4))⟩,⟨some 25,(some (22,false)),.l (.ld1 (.t 24))⟩,⟨some 26,(some (22,false)),.q (.bin .sub true (.t 25) (.i 1))⟩,⟨some 27,(some (22,false)),.q (.bin .shl true (.i (-1)) (.t 26))⟩,⟨some 28,(some (22,false)),.q (.bin .geq true (.t 23) (.t 27))⟩,⟨some 29,(some (22,false)),.q (.mv (.t 28))⟩,⟨some 30,(some (29,true)),.q (.mv (.t 9))⟩,⟨some 31,(some (29,true)),.q (.fa 1 (.t 4))⟩,⟨some 32,(some (29,true)),.l (.ld1 (.t 31))⟩,⟨some 33,(some (29,true)),.q (.bin .sub true (.t 32) (.i 1))⟩,⟨some 34,(some (29,true)),.q (.bin .shl true (.i 1) (.t 33))⟩,⟨some 35,(some (29,true)),.q (.bin .lss true (.t 30) (.t 34))⟩,⟨some 36,(some (22,false)),.pick (.t 29) (.t 35) (.k (.bool false))⟩,.a 37 (.pick (.t 22) (.k (.bool true)) (.t 36)),.v 10 37])
@[go_sem ↓] theorem aWM:aM zQ:=aN _
def vH:PC:=.gh (.reg [.v 48 10,.v 49 48,⟨some 50,(some (49,true)),.q (.mv (.t 9))⟩,⟨some 51,(some (49,true)),.q (.fa 1 (.t 4))⟩,⟨some 52,(some (49,true)),.l (.ld1 (.t 51))⟩,⟨some 53,(some (49,true)),.q (.bin .shl true (.i 1) (.t 52))⟩,⟨some 54,(some (49,true)),.q (.bin .lss true (.t 50) (.t 53))⟩,.a 55 (.pick (.t 49) (.t 54) (.k (.bool false))),.v 10 55])
@[go_sem ↓] theorem aPU:aM vH:=aN _
def u6:PC:=.gh (.reg [.v 56 10,.v 57 56,⟨some 58,(some (57,true)),.l (.ldn 3 (.t 3))⟩,⟨some 59,(some (57,true)),.q (.fa 2 (.t 4))⟩,⟨some 60,(some (57,true)),.l (.ld1 (.t 59))⟩,⟨some 61,(some (57,true)),.q (.mv (.t 9))⟩,⟨some 62,(some (57,true)),.cq 139 [(.t 58),(.t 60),(.t 61)]⟩,.a 63 (.pick (.t 57) (.t 62) (.k (.bool false))),.v 10 63])
@[go_sem ↓] theorem aPX:aM u6:=aN _
def m3:PC:=.seq (.gh (.reg [.q 45 (.fa 0 (.t 4)),.l 46 (.ld1 (.t 45)),.q 47 (.bin .eql true (.t 46) (.i 3))])) (.cond (.t 47) (vH) (u6))
@[go_sem ↓] theorem aRP:aM m3:=aN _
def IA:PC:=.seq (.gh (.reg [.v 42 11,.q 43 (.bin .and true (.t 42) (.k (.int .u64 4294967295))),.q 44 (.cvt .i64 (.t 43)),.v 9 44])) (m3)
@[go_sem ↓] theorem aTC:aM IA:=aN _
def G8:PC:=.seq (.gh (.reg [.v 40 11,.q 41 (.bin .lss true (.t 40) (.k (.int .u64 4294967296))),.v 10 41])) (IA)
@[go_sem ↓] theorem aUL:aM G8:=aN _
def uZ:PC:=.seq (.gh (.reg [.v 77 10,.q 78 (.not (.t 77)),.v 76 78])) (.cond (.t 76) (.seq (.reg [.q 79 (.bd [(.int .i64 0),(.int .i64 0),(.string (mk [])),(.slice none 0 0),(.slice none 0 0)] []),.s (.st 5 (.t 6) (.t 79)),.q 7 (.mv (.i 4))]) .ret) .skip)
@[go_sem ↓] theorem aPP:aM uZ:=aN _
def CC:PC:=.seq (.gh (.reg [.v 72 8,.a 73 (.cl 136 [(.t 72)] [3]),.q 74 (.bin .gtr true (.t 73) (.i 0)),.v 71 74])) (.cond (.t 71) (.seq (.reg [.q 75 (.bd [(.int .i64 0),(.int .i64 0),(.string (mk [])),(.slice none 0 0),(.slice none 0 0)] []),.s (.st 5 (.t 6) (.t 75)),.q 7 (.mv (.i 2))]) .ret) (uZ))
@[go_sem ↓] theorem aRI:aM CC:=aN _
def pc98_13:PC:=.seq (.gh (.reg [.v 65 8,.a 66 (.cl 135 [(.t 65)] [3]),.q 67 (.bin .neq true (.t 66) (.i 0)),.v 64 67])) (.cond (.t 64) (.seq (.reg [.q 68 (.bd [(.int .i64 0),(.int .i64 0),(.string (mk [])),(.slice none 0 0),(.slice none 0 0)] []),.v 69 8,.a 70 (.cl 135 [(.t 69)] [3]),.s (.st 5 (.t 6) (.t 68)),.v 7 70]) .ret) (CC))
@[go_sem ↓] theorem aP1:aM pc98_13:=aN _
def pS:PC:=.seq (.gh (.reg [.q 80 (.fa 0 (.t 4)),.l 81 (.ld1 (.t 80)),.v 82 9,.q 83 (.bd [(.int .i64 0),(.int .i64 0),(.string (mk [])),(.slice none 0 0),(.slice none 0 0)] [(0,1,(.t 81)),(1,1,(.t 82))]),.s (.st 5 (.t 6) (.t 83)),.q 7 (.mv (.i 0))])) .ret
@[go_sem ↓] theorem aP5:aM pS:=aN _
def zJ:PC:=.seq (.seq (.gh (.reg [.q 14 (.fa 0 (.t 4)),.l 15 (.ld1 (.t 14)),.q 16 (.bin .eql true (.t 15) (.i 2))])) (.cond (.t 16) (.seq (.reg [.v 17 8,.a 18 (.cl 138 [(.t 17)] [3]),.v 9 18]) (zQ)) (.seq (.reg [.v 38 8,.a 39 (.cl 134 [(.t 38)] [3]),.v 11 39]) (G8)))) (.seq (.block 0 (pc98_13)) (pS))
@[go_sem ↓] theorem aTG:aM zJ:=aN _
def II:PC:=.seq (.gh (.reg [.q 10 (.mv (.k (.bool true)))])) (zJ)
@[go_sem ↓] theorem aSG:aM II:=aN _
def HF:PC:=.seq (.gh (.reg [.q 9 (.mv (.i 0))])) (II)
@[go_sem ↓] theorem aS5:aM HF:=aN _
def aGI:PC:=.seq (.reg [.e 3 (.bx 25 (.t 0)),.e 4 (.bx 42 (.t 1)),.e 6 (.al (.agg cS) 29),.q 7 (.mv (.i 0))]) (.seq (.reg [.v 12 2,.a 13 (.cl 133 [(.t 12)] []),.v 8 13]) (HF))
def tI:List RV:=[.ld (.ldn 5 (.t 6)),.mv (.t 7)]
theorem aVL:aO Tryz.prog true ⟨fun r k=>if r=5/\k=1 then .own [3] else if r=7/\k=1 then .own [3] else if r=12/\k=6 then .q else if r=13/\k=1 then .own [3] else if r=14/\k=2 then .own [3] else if r=15/\k=1 then .own [3] else .own [],fun r=>[2,3,4,6,8,9,10,13,15,17,19,6,11,12].contains r⟩ Tryz.f98=some (aGI,tI):=by kernel_rfl
def BK:PC:=.seq (.gh (.reg [.q 59 (.fa 3 (.t 10)),.l 60 (.ld1 (.t 59)),.l 61 (.ldn 5 (.t 14)),.e 62 (.bsl 29 5 [(.t 61)]),.e 63 (.ap 29 5 80 (.t 60) (.t 62)),.q 64 (.fa 3 (.t 10)),.s (.st 1 (.t 64) (.t 63))])) (.reg [.v 65 12,.v 2 65])
@[go_sem ↓] theorem aQ0:aM BK:=aN _
def vY:PC:=.seq (.seq (.gh (.reg [.v 55 13,.q 56 (.bin .neq true (.t 55) (.i 0))])) (.cond (.t 56) (.seq (.reg [.q 57 (.bd [(.int .i64 0),(.int .i64 0),(.string (mk [])),(.slice none 0 0),(.slice none 0 0)] []),.v 58 13,.s (.st 5 (.t 6) (.t 57)),.v 7 58]) .ret) .skip)) (BK)
@[go_sem ↓] theorem aRF:aM vY:=aN _
def C6:PC:=.seq (.gh (.ord  [.q (.l 46 (.ldn 3 (.t 3))),.q (.q 47 (.fa 3 (.t 4))),.q (.l 48 (.ld1 (.t 47))),.q (.l 49 (.ia 4 (.t 48) (.i 0))),.q (.l 50 (.ldn 4 (.t 49))),.q (.v 51 11),.m (.a 52 (.cl 55 [(.t 46),(.t 50),(.t 51)] [])),.q (.v 45 52),.q (.q 53 (.ex (.t 45) 0)),.q (.q 54 (.ex (.t 45) 1)),.m (.e 14 (.al (.agg cS) 29)),.rc (.v 45 52),.rc (.q 53 (.ex (.t 45) 0)),.rc (.q 54 (.ex (.t 45) 1)),.m (.s (.st 5 (.t 14) (.t 53))),.rc (.q 54 (.ex (.t 45) 1)),.m (.v 13 54)])) (vY)
@[go_sem ↓] theorem aRL:aM C6:=aN _
def wF:PC:=.seq (.seq (.gh (.reg [.v 41 13,.q 42 (.bin .neq true (.t 41) (.i 0))])) (.cond (.t 42) (.seq (.reg [.q 43 (.bd [(.int .i64 0),(.int .i64 0),(.string (mk [])),(.slice none 0 0),(.slice none 0 0)] []),.v 44 13,.s (.st 5 (.t 6) (.t 43)),.v 7 44]) .ret) .skip)) (C6)
@[go_sem ↓] theorem aP6:aM wF:=aN _
def I7:PC:=.seq (.gh (.reg [.v 36 2,.a 37 (.cl 95 [(.t 36)] []),.v 35 37,.q 38 (.ex (.t 35) 0),.q 39 (.ex (.t 35) 1),.q 40 (.ex (.t 35) 2),.v 11 38,.v 12 39,.v 13 40])) (wF)
@[go_sem ↓] theorem aVF:aM I7:=aN _
def wA:PC:=.seq (.seq (.gh (.reg [.v 67 2,.q 68 (.bin .neq true (.t 67) (.k (.string (mk []))))])) (.cond (.t 68) (.seq (.reg [.q 69 (.bd [(.int .i64 0),(.int .i64 0),(.string (mk [])),(.slice none 0 0),(.slice none 0 0)] []),.s (.st 5 (.t 6) (.t 69)),.q 7 (.mv (.i 2))]) .ret) .skip)) (.seq (.reg [.l 70 (.ldn 5 (.t 10)),.s (.st 5 (.t 6) (.t 70)),.q 7 (.mv (.i 0))]) .ret)
@[go_sem ↓] theorem aQU:aM wA:=aN _
def JD:PC:=.seq (.seq (.gh (.reg [.v 32 8,.q 33 (.mv (.k (.int .u64 0)))])) (.block 0 (.loop (.seq (.reg [.q 34 (.bin .lss true (.t 33) (.t 32))]) (.seq (.cond (.t 34) .skip (.exit 0)) (.seq (.block 1 (I7)) (.reg [.q 66 (.bin .add true (.t 33) (.k (.int .u64 1))),.v 33 66]))))))) (wA)
@[go_sem ↓] theorem aSY:aM JD:=aN _
def G3:PC:=.seq (.gh (.reg [.q 31 (.bd [(.int .i64 0),(.int .i64 0),(.string (mk [])),(.slice none 0 0),(.slice none 0 0)] [(0,1,(.i 5))]),.e 10 (.al (.agg cS) 29),.s (.st 5 (.t 10) (.t 31))])) (JD)
@[go_sem ↓] theorem aTM:aM G3:=aN _
def zZ:PC:=.seq (.seq (.gh (.reg [.v 25 8,.q 26 (.fa 1 (.t 4)),.l 27 (.ld1 (.t 26)),.q 28 (.cvt .u64 (.t 27)),.q 29 (.bin .gtr true (.t 25) (.t 28))])) (.cond (.t 29) (.seq (.reg [.q 30 (.bd [(.int .i64 0),(.int .i64 0),(.string (mk [])),(.slice none 0 0),(.slice none 0 0)] []),.s (.st 5 (.t 6) (.t 30)),.q 7 (.mv (.i 3))]) .ret) .skip)) (G3)
@[go_sem ↓] theorem aUX:aM zZ:=aN _
def zU:PC:=.seq (.seq (.gh (.reg [.v 21 9,.q 22 (.bin .neq true (.t 21) (.i 0))])) (.cond (.t 22) (.seq (.reg [.q 23 (.bd [(.int .i64 0),(.int .i64 0),(.string (mk [])),(.slice none 0 0),(.slice none 0 0)] []),.v 24 9,.s (.st 5 (.t 6) (.t 23)),.v 7 24]) .ret) .skip)) (zZ)
@[go_sem ↓] theorem aSN:aM zU:=aN _
def aKQ:PC:=.seq (.reg [.e 3 (.bx 25 (.t 0)),.e 4 (.bx 42 (.t 1)),.e 6 (.al (.agg cS) 29),.q 7 (.mv (.i 0))]) (.seq (.reg [.v 16 2,.a 17 (.cl 94 [(.t 16)] []),.v 15 17,.q 18 (.ex (.t 15) 0),.q 19 (.ex (.t 15) 1),.q 20 (.ex (.t 15) 2),.v 8 18,.v 2 19,.v 9 20]) (zU))
def aHM:List RV:=[.ld (.ldn 5 (.t 6)),.mv (.t 7)]
theorem aU8:aO Tryz.prog true ⟨fun _ _=>.own [],fun r=>[2,4,6,7,9,10,12,13,15,18].contains r⟩ Tryz.f99=some (aKQ,aHM):=by kernel_rfl
def BU:PC:=.seq (.seq (.gh (.reg [.q 17 (.fa 2 (.t 7)),.l 18 (.ld1 (.t 17)),.q 19 (.lnL (.t 18)),.q 20 (.mv (.i 0))])) (.block 0 (.loop (.seq (.reg [.q 21 (.bin .lss true (.t 20) (.t 19))]) (.seq (.cond (.t 21) .skip (.exit 0)) (.seq (.block 1 (.seq (.reg [.l 22 (.ia 1 (.t 18) (.t 20)),.l 23 (.ld1 (.t 22)),.v 10 23]) (.seq (.reg [.v 24 10,.v 25 2,.q 26 (.bin .eql true (.t 24) (.t 25))]) (.cond (.t 26) (.seq (.reg [.q 6 (.mv (.k (.bool true)))]) .ret) .skip)))) (.reg [.q 27 (.bin .add true (.t 20) (.i 1)),.v 20 27]))))))) (.seq (.reg [.q 6 (.mv (.k (.bool false)))]) .ret)
@[go_sem ↓] theorem aQB:aM BU:=aN _
def Z7:PC:=.seq (.reg [.e 3 (.bx 25 (.t 0)),.q 6 (.mv (.k (.bool false)))]) (.seq (.reg [.l 12 (.ldn 3 (.t 3)),.v 13 1,.a 14 (.cl 113 [(.t 12),(.t 13)] []),.v 11 14,.q 15 (.ex (.t 11) 0),.q 16 (.ex (.t 11) 1),.e 7 (.al (.agg #[(.string (mk [])),(.slice none 0 0),(.slice none 0 0)]) 118),.s (.st 3 (.t 7) (.t 15)),.v 8 16]) (BU))
def WR:List RV:=[.mv (.t 6)]
theorem aMM:aO Tryz.prog true ⟨fun _ _=>.own [],fun r=>[2].contains r⟩ Tryz.f139=some (Z7,WR):=by kernel_rfl
abbrev uA (n:Nat):A:=.c1 (.vl (.int .u64 n))
theorem aHU:∀x:Nat,x<256->IntKind.u8.wrap ((BitVec.ofInt IntKind.u8.bits (x:Int) &&& BitVec.ofInt IntKind.u8.bits 127).toNat:Int)=((x % 128:Nat):Int):=by decide +kernel
theorem aAX (c:UInt8):IntKind.u8.wrap ((BitVec.ofInt IntKind.u8.bits (c.toNat:Int) &&& BitVec.ofInt IntKind.u8.bits 127).toNat:Int)=((c.toNat % 128:Nat):Int):=aHU _ c.toNat_lt
theorem jO {n:Nat} (h:n<18446744073709551616):IntKind.u64.wrap (n:Int)=n:=by
 have h2:IntKind.u64.wrap (n:Int)=(n:Int) % 18446744073709551616:=by simp[IntKind.wrap,IntKind.signed,IntKind.bits]
 rw[h2];omega
theorem aH1 {n m i:Nat} (hn:n<128 ^ i) (hs:n+m*128 ^ i<18446744073709551616) (hi:i<=9) :
 IntKind.u64.wrap ((BitVec.ofInt IntKind.u64.bits (n:Int) ||| BitVec.ofInt IntKind.u64.bits (IntKind.u64.wrap ((m:Int)*2 ^ (min ((7:Int)*(i:Int)).toNat 64)))).toNat:Int)=((n+m*128 ^ i:Nat):Int):=by
 have hb:IntKind.u64.bits=64:=rfl
 have e1:((7:Int)*(i:Int)).toNat=7*i:=by omega
 have e2:min (7*i) 64=7*i:=by omega
 have e3:(2:Nat) ^ (7*i)=128 ^ i:=by rw[Nat.pow_mul]
 have e4:(m:Int)*2 ^ (7*i)=((m*128 ^ i:Nat):Int):=by
  rw[<-e3];simp
 rw[hb,e1,e2,e4,jO (n:=m*128 ^ i) (by omega)]
 have e5:(BitVec.ofInt 64 (n:Int)).toNat=n:=by
  rw[BitVec.ofInt_natCast,BitVec.toNat_ofNat];exact Nat.mod_eq_of_lt (by omega)
 have e6:(BitVec.ofInt 64 ((m*128 ^ i:Nat):Int)).toNat=m*128 ^ i:=by
  rw[BitVec.ofInt_natCast,BitVec.toNat_ofNat];exact Nat.mod_eq_of_lt (by omega)
 rw[BitVec.toNat_or,e5,e6]
 have e7:n ||| m*128 ^ i=n+m*128 ^ i:=by
  rw[Nat.or_comm,<-e3,<-Nat.shiftLeft_eq,<-Nat.shiftLeft_add_eq_or_of_lt (by rw[e3];exact hn),Nat.add_comm]
 rw[e7,jO hs]
def aGM:W.Spec:=fun av H K=>∃x:ByteArray,av=[tS x]/\H=[]/\x.size<=9223372036854775807/\K (.tu [uA (vr (bl x)).1,iA .i64 (vr (bl x)).2.1,iA .i64 (vr (bl x)).2.2]) []
theorem aI0 {x:ByteArray} {K:S->Hp->Prop} (h:x.size<=9223372036854775807) (hK:K (.tu [uA (vr (bl x)).1,iA .i64 (vr (bl x)).2.1,iA .i64 (vr (bl x)).2.2]) []):aGM [tS x] [] K:=⟨x,rfl,rfl,h,hK⟩
theorem SS:Meets Tryz.prog 156 aGM:=by
 refine aF Tryz.func156 aPC 1 (by rw[Tryz.ntmps156];decide) (aB _) (fun av H K h=>by obtain ⟨_,rfl,_⟩:=h;rfl) ?_
 rintro av H K ⟨x,rfl,rfl,hx,hK⟩
 obtain ⟨l,rfl⟩:∃l,x=mk l:=⟨bl x,(gW x).symm⟩
 rw[dV,iH] at hx
 rw[iH] at hK
 have fin:∀(n k:Nat) (e:Int),vr l=(n,k,e)->W.Fin 0 K (.tu [uA n,iA .i64 k,iA .i64 e]) []:=fun n k e h=>by
  rw[h] at hK;exact .done hK
 clear hK
 simp(maxSteps:=9^6)-dsimp only[go_sem,YV,W3]
 refine aL (α:=Nat×Nat) (fun z=>[(0,tS (mk l)),(5,iS .u64 z.2),(8,iS .i64 z.1)]) (fun _=>[])
  (fun z=>z.1<=9/\z.2<128 ^ z.1/\z.1<=l.length/\pY z.1 z.2 (l.drop z.1)=vr l) (fun z=>10-z.1) (0,0) 0 ⟨by decide,by decide,Nat.zero_le _,rfl⟩ ?_ ?_ ?_
 · simp -dsimp only[go_sem]<;>simp
 · simp[go_sem]
 rintro ⟨i,n⟩ ⟨hi,hn,hil,ho⟩
 simp only at hi hn hil ho ⊢
 have hg:decide ((i:Int)<10)=true:=by simp;omega
 rcases bB i l.length with hlt|hge
 · have hg2:((i:Int)==(l.length:Int))=false:=by simp;omega
   obtain ⟨c,hc⟩:∃c,l[i]? = some c:=⟨_,aU hlt⟩
   have hd:l.drop i=c::l.drop (i+1):=by
    obtain ⟨h,rfl⟩:=bJ.1 hc
    exact List.drop_eq_getElem_cons h
   rw[hd,nV] at ho
   have e9:((i:Int)==9)=(i==9):=by rw[Bool.eq_iff_iff];simp;omega
   have e1:decide ((1:Int)<(c.toNat:Int))=decide (1<c.toNat):=by rw[Bool.eq_iff_iff];simp;omega
   have e128:decide ((128:Int)<=(c.toNat:Int))=decide (128<=c.toNat):=by rw[Bool.eq_iff_iff];simp;omega
   have e0:((c.toNat:Int)==0)=(c.toNat==0):=by rw[Bool.eq_iff_iff];simp
   have ei:decide ((0:Int)<(i:Int))=decide (0<i):=by rw[Bool.eq_iff_iff];simp
   have hc256:=c.toNat_lt
   cases c1:i==9&&decide (1<c.toNat) with
   |true=>
    rw[c1] at ho
    rw[Bool.and_eq_true] at c1
    simp(maxSteps:=9^6)-dsimp only[go_sem,hg,hg2,hc,aI,forall_eq',e9,e1,c1.1,c1.2]
    exact ⟨by omega,fin 0 0 2 ho.symm⟩
   |false=>
    rw[c1,cond_false] at ho
    have key:n+c.toNat % 128*128 ^ i<18446744073709551616:=by
     rcases bB i 9 with h9|h9
     · have h1:128 ^ (i+1)<=128 ^ 9:=Nat.pow_le_pow_right (by decide) (by omega)
       have h2:c.toNat % 128*128 ^ i<=127*128 ^ i:=Nat.mul_le_mul_right _ (by omega)
       have h3:(128:Nat) ^ 9=9223372036854775808:=by decide
       have h4:128 ^ (i+1)=128*128 ^ i:=by rw[Nat.pow_succ,Nat.mul_comm]
       omega
     · obtain rfl:i=9:=by omega
       rw[show ((9:Nat)==9)=true from rfl,Bool.true_and] at c1
       have h1:=of_decide_eq_false c1
       have h3:(128:Nat) ^ 9=9223372036854775808:=by decide
       rw[h3] at hn ⊢
       have:c.toNat % 128<=1:=by omega
       have h2:c.toNat % 128*9223372036854775808<=1*9223372036854775808:=Nat.mul_le_mul_right _ this
       omega
    have hos:=aH1 hn key hi
    have c1':((i==9)=false\/decide (1<c.toNat)=false):=by rw[Bool.and_eq_false_iff] at c1;exact c1
    have g9:∀(P Q:Prop),(((bif i==9 then decide (1<c.toNat) else false)=true->P)/\((bif i==9 then decide (1<c.toNat) else false)=false->Q))=Q:=fun P Q=>by
     have:(bif i==9 then decide (1<c.toNat) else false)=false:=by rw[I4];exact c1
     rw[this];simp
    simp(maxSteps:=9^6)-dsimp only[go_sem,hg,hg2,hc,aI,forall_eq',e9,e1,c1,aAX,e128,e0,ei]
    have hw:IntKind.u64.wrap ((c.toNat % 128:Nat):Int)=((c.toNat % 128:Nat):Int):=jO (by omega)
    simp only[hw,hos]
    refine ⟨by omega,by omega,by omega,fun h1=>?_,fun h1=>⟨fun h2=>?_,fun h2=>?_⟩⟩
    · rw[h1,cond_true] at ho
      have h128:=of_decide_eq_true h1
      have hi9:i≠9:=fun e=>by
       subst e
       rcases c1' with h|h
       · cases h
       · have:=of_decide_eq_false h;omega
      have hm:c.toNat % 128*128 ^ i<=127*128 ^ i:=Nat.mul_le_mul_right _ (by omega)
      have hp:128 ^ (i+1)=128*128 ^ i:=by rw[Nat.pow_succ,Nat.mul_comm]
      refine ⟨by omega,aE (i+1,n+c.toNat % 128*128 ^ i) 0 ⟨by simp only;omega,by simp only;rw[hp];omega,by simp only;omega,ho⟩ (by simp only;omega) ?_ ?_⟩
      · simp -dsimp only[go_sem,hw,hos]<;>simp[hw,hos]
      · simp[go_sem]
    · rw[h1,cond_false,h2,cond_true] at ho
      exact fin 0 0 2 ho.symm
    · rw[h1,cond_false,h2,cond_false] at ho
      refine ⟨by omega,fin (n+c.toNat % 128*128 ^ i) (i+1) 0 ho.symm⟩
 · have hg2:((i:Int)==(l.length:Int))=true:=by simp;omega
   have hd:l.drop i=[]:=List.drop_eq_nil_iff.2 hge
   rw[hd,B0] at ho
   simp(maxSteps:=9^6)-dsimp only[go_sem,hg,hg2]
   exact fin 0 0 1 ho.symm
def eF (x:List UInt8) (a:Nat) (e:Int):List C:=[.vl (.string (mk x)),.vl (.int .i64 a),.vl (.int .i64 e)]
abbrev iM (x:List UInt8) (a:Nat) (e:Int):B:=.cells (eF x a e) 199
abbrev EB (n:Nat):B:=.cells [.vl (.int .u64 n)] 83
def OE:W.Spec:=fun av H K=>∃x:List UInt8,av=[tS (mk x)]/\H=[]/\K (.va (.c1 (.pt 0 0))) [iM x 0 0]
theorem SA {x:List UInt8} {K:S->Hp->Prop} (hK:K (.va (.c1 (.pt 0 0))) [iM x 0 0]):OE [tS (mk x)] [] K:=⟨x,rfl,rfl,hK⟩
theorem AY:Meets Tryz.prog 133 OE:=by
 refine aF Tryz.func133 aMD 1 (by rw[Tryz.ntmps133];decide) (aB _) (fun av H K h=>by obtain ⟨_,rfl,_⟩:=h;rfl) ?_
 rintro av H K ⟨x,rfl,rfl,hK⟩
 simp(maxSteps:=9^6)-dsimp only[go_sem,XS,VS]
 exact .done hK
def F3:W.Spec:=fun av H K=>∃(x:List UInt8) (a:Nat) (e:Int),av=[.va (.c1 (.pt 0 0))]/\H=[iM x a e]/\K (iS .i64 e) [iM x a e]
theorem B5 {x:List UInt8} {a:Nat} {e:Int} {K:S->Hp->Prop} (hK:K (iS .i64 e) [iM x a e]):F3 [.va (.c1 (.pt 0 0))] [iM x a e] K:=⟨x,a,e,rfl,rfl,hK⟩
theorem aJW:Meets Tryz.prog 135 F3:=by
 refine aF Tryz.func135 aOJ 1 (by rw[Tryz.ntmps135];decide) (aB _) (fun av H K h=>by obtain ⟨_,_,_,rfl,_⟩:=h;rfl) ?_
 rintro av H K ⟨x,a,e,rfl,rfl,hK⟩
 simp(maxSteps:=9^6)-dsimp only[go_sem,eF,ZQ,V4]
 exact .done hK
def F0:W.Spec:=fun av H K=>∃(x:List UInt8) (a:Nat) (e:Int),av=[.va (.c1 (.pt 0 0))]/\H=[iM x a e]/\a<=x.length/\x.length<=9223372036854775807/\K (iS .i64 ((x.length:Int)-a)) [iM x a e]
theorem M0 {x:List UInt8} {a:Nat} {e:Int} {K:S->Hp->Prop} (h1:a<=x.length) (h2:x.length<=9223372036854775807) (hK:K (iS .i64 ((x.length:Int)-a)) [iM x a e]):F0 [.va (.c1 (.pt 0 0))] [iM x a e] K:=⟨x,a,e,rfl,rfl,h1,h2,hK⟩
theorem VN:Meets Tryz.prog 136 F0:=by
 refine aF Tryz.func136 aOV 1 (by rw[Tryz.ntmps136];decide) (aB _) (fun av H K h=>by obtain ⟨_,_,_,rfl,_⟩:=h;rfl) ?_
 rintro av H K ⟨x,a,e,rfl,rfl,h1,h2,hK⟩
 simp(maxSteps:=9^6)-dsimp only[go_sem,eF,WC,aAO]
 exact ⟨by omega,.done hK⟩
def aID:W.Spec:=fun av H K=>∃(x:List UInt8) (m:Nat),av=[tS (mk x),.va (.c1 (.pt 0 0))]/\H=[EB m]/\x.length<=9223372036854775807/\K (.tu [iA .i64 (vr x).2.1,iA .i64 (vr x).2.2]) [EB (vr x).1]
theorem aIE {x:List UInt8} {m:Nat} {K:S->Hp->Prop} (h:x.length<=9223372036854775807) (hK:K (.tu [iA .i64 (vr x).2.1,iA .i64 (vr x).2.2]) [EB (vr x).1]):aID [tS (mk x),.va (.c1 (.pt 0 0))] [EB m] K:=⟨x,m,rfl,rfl,h,hK⟩
theorem aF9:Meets Tryz.prog 155 aID:=by
 refine aF Tryz.func155 aPH 2 (by rw[Tryz.ntmps155];decide) (aC SS (aB _)) (fun av H K h=>by obtain ⟨_,_,rfl,_⟩:=h;rfl) ?_
 rintro av H K ⟨x,m,rfl,rfl,h,hK⟩
 simp(maxSteps:=9^6)-dsimp only[go_sem,XW,W1]
 refine aI0 (by rw[dV,iH];exact h) ?_
 rw[iH]
 simp(maxSteps:=9^6)-dsimp only[go_sem]
 refine aA rfl (.done ?_)
 simp(maxSteps:=9^6)-dsimp only[go_sem,CI]
 exact .done hK
def XK:W.Spec:=fun av H K=>∃(x:List UInt8) (m:Nat),av=[.va (.c1 (.pt 0 0)),.va (.c1 (.fn 155 [(false,[.pt 1 0])]))]/\H=[iM x 0 0,EB m]/\x.length<=9223372036854775807/\K (.tu []) [iM x (vr x).2.1 (vr x).2.2,EB (vr x).1]
theorem aC7 {x:List UInt8} {m:Nat} {K:S->Hp->Prop} (h:x.length<=9223372036854775807) (hK:K (.tu []) [iM x (vr x).2.1 (vr x).2.2,EB (vr x).1]):XK [.va (.c1 (.pt 0 0)),.va (.c1 (.fn 155 [(false,[.pt 1 0])]))] [iM x 0 0,EB m] K:=⟨x,m,rfl,rfl,h,hK⟩
theorem aII:Meets Tryz.prog 154 XK:=by
 refine aF Tryz.func154 aN1 2 (by rw[Tryz.ntmps154];decide) (aC aF9 (aB _)) (fun av H K h=>by obtain ⟨_,_,rfl,_⟩:=h;rfl) ?_
 rintro av H K ⟨x,m,rfl,rfl,h,hK⟩
 simp(maxSteps:=9^6)-dsimp only[go_sem,eF,VX,aAK,bne_self_eq_false]
 refine aA rfl (.done ?_)
 have z0:(0:Int)<=((0:Nat):Int):=by decide
 have z1:((0:Nat):Int)<=(x.length:Int):=by omega
 simp(maxSteps:=9^6)-dsimp only[go_sem,eF,DK,List.take_length,List.drop_zero,z0,z1]
 refine ⟨by omega,aIE h ?_⟩
 simp(maxSteps:=9^6)-dsimp only[go_sem]
 refine aA rfl (.done ?_)
 rcases fL x with ⟨h0,h1,h2,_⟩|⟨h0,h1,h2,h3,_,_⟩
 · have hne:((vr x).2.2 != 0)=true:=by simpa using h0
   rw[h1,h2] at hK ⊢
   simp(maxSteps:=9^6)-dsimp only[go_sem,eF,v7,hne]
   exact .done hK
 · rw[h0] at hK ⊢
   simp(maxSteps:=9^6)-dsimp only[go_sem,eF,v7,bne_self_eq_false]
   refine ⟨by omega,.done ?_⟩
   rw[show ((0:Nat):Int)+((vr x).2.1:Int)=((vr x).2.1:Int) by omega]
   exact hK
def N6:W.Spec:=fun av H K=>∃x:List UInt8,av=[.va (.c1 (.pt 0 0))]/\H=[iM x 0 0]/\x.length<=9223372036854775807/\K (iS .u64 (vr x).1) [iM x (vr x).2.1 (vr x).2.2]
theorem I5 {x:List UInt8} {K:S->Hp->Prop} (h:x.length<=9223372036854775807) (hK:K (iS .u64 (vr x).1) [iM x (vr x).2.1 (vr x).2.2]):N6 [.va (.c1 (.pt 0 0))] [iM x 0 0] K:=⟨x,rfl,rfl,h,hK⟩
theorem HU:Meets Tryz.prog 134 N6:=by
 refine aF Tryz.func134 aNB 1 (by rw[Tryz.ntmps134];decide) (aC aII (aB _)) (fun av H K h=>by obtain ⟨_,rfl,_⟩:=h;rfl) ?_
 rintro av H K ⟨x,rfl,rfl,h,hK⟩
 simp(maxSteps:=9^6)-dsimp only[go_sem,V9,ZZ]
 refine aA rfl (.done ?_)
 simp(maxSteps:=9^6)-dsimp only[go_sem,BQ]
 refine aC7 (m:=0) h ?_
 simp(maxSteps:=9^6)-dsimp only[go_sem]
 refine aA rfl (.done ?_)
 simp(maxSteps:=9^6)-dsimp only[go_sem,BV]
 refine .sel [0] (by simp) (by simp) rfl (.done ?_)
 simp -dsimp only[go_sem,eF]
 exact hK
theorem aT2 (n:Nat):IntKind.u64.wrap ((BitVec.ofInt IntKind.u64.bits (n:Int) &&& BitVec.ofInt IntKind.u64.bits 1).toNat:Int)=((n % 2:Nat):Int):=by
 have hb:IntKind.u64.bits=64:=rfl
 have e:(BitVec.ofInt 64 (n:Int) &&& BitVec.ofInt 64 1).toNat=n % 2:=by
  rw[BitVec.toNat_and,BitVec.ofInt_natCast,BitVec.toNat_ofNat,show (BitVec.ofInt 64 1).toNat=1 from rfl,Nat.and_one_is_mod]
  omega
 rw[hb,e,jO (by omega)]
theorem tY {n:Int} (h:bT n):IntKind.i64.wrap n=n:=by
 unfold bT at h
 exact xN (aOL h.1 h.2)
theorem UZ (n:Nat) (h:n<18446744073709551616):IntKind.i64.wrap (n:Int)=if n<9223372036854775808 then (n:Int) else (n:Int)-18446744073709551616:=by
 simp[IntKind.wrap,IntKind.signed,IntKind.bits]
 split<;>omega
theorem aFV {n:Nat} (h:n<18446744073709551616):IntKind.i64.wrap ((BitVec.ofInt IntKind.i64.bits (IntKind.i64.wrap ((n:Int).fdiv (2 ^ min 1 64))) ^^^ BitVec.ofInt IntKind.i64.bits (IntKind.i64.wrap (0-IntKind.i64.wrap ((n % 2:Nat):Int)))).toNat:Int)=fD n:=by
 have hb:IntKind.i64.bits=64:=rfl
 have e1:(n:Int).fdiv (2 ^ min 1 64)=((n / 2:Nat):Int):=by
  rw[show (2:Int) ^ min 1 64=2 from rfl,Int.fdiv_eq_ediv_of_nonneg _ (by decide)];omega
 have e2:IntKind.i64.wrap ((n / 2:Nat):Int)=((n / 2:Nat):Int):=tY ⟨by omega,by omega⟩
 have e3:IntKind.i64.wrap ((n % 2:Nat):Int)=((n % 2:Nat):Int):=tY ⟨by omega,by omega⟩
 have e4:IntKind.i64.wrap (0-((n % 2:Nat):Int))=0-((n % 2:Nat):Int):=tY ⟨by omega,by omega⟩
 rw[hb,e1,e2,e3,e4]
 have e5:BitVec.ofInt 64 ((n / 2:Nat):Int)=BitVec.ofNat 64 (n / 2):=BitVec.ofInt_natCast ..
 rw[e5]
 unfold fD
 rcases Nat.mod_two_eq_zero_or_one n with h0|h0
 · rw[h0,if_neg (by decide),show (0:Int)-((0:Nat):Int)=0 from rfl,show BitVec.ofInt 64 0=0#64 from rfl,BitVec.xor_zero,BitVec.toNat_ofNat,Nat.mod_eq_of_lt (by omega)]
   exact e2
 · rw[h0,if_pos rfl,show (0:Int)-((1:Nat):Int)=-1 from rfl,show BitVec.ofInt 64 (-1)=BitVec.allOnes 64 from rfl,BitVec.xor_allOnes,BitVec.toNat_not,BitVec.toNat_ofNat,Nat.mod_eq_of_lt (show n / 2<2 ^ 64 by omega),UZ _ (by omega)]
   rw[if_neg (by omega)]
   omega
theorem aD5 {n:Int} (h:bT n):IntKind.u64.wrap ((BitVec.ofInt IntKind.u64.bits (IntKind.u64.wrap (IntKind.u64.wrap n*2 ^ min 1 64)) ^^^ BitVec.ofInt IntKind.u64.bits (IntKind.u64.wrap (n.fdiv (2 ^ min 63 64)))).toNat:Int)=(iF n:Int):=by
 unfold bT at h
 have hb:IntKind.u64.bits=64:=rfl
 have hw:∀x:Int,IntKind.u64.wrap x=x % 18446744073709551616:=fun x=>by simp[IntKind.wrap,IntKind.signed,IntKind.bits]
 have hp:(2:Int) ^ min 63 64=9223372036854775808:=by decide
 rw[hb,hp,show (2:Int) ^ min 1 64=2 from rfl,Int.fdiv_eq_ediv_of_nonneg _ (by decide)]
 unfold iF
 by_cases h0:n<0
 · have e1:n / 9223372036854775808=-1:=by omega
   have e2:IntKind.u64.wrap (IntKind.u64.wrap n*2)=((n*2+18446744073709551616).toNat:Int):=by rw[hw,hw];omega
   rw[if_pos h0,e1,e2,show BitVec.ofInt 64 (IntKind.u64.wrap (-1))=BitVec.allOnes 64 from rfl,BitVec.xor_allOnes,BitVec.toNat_not,BitVec.ofInt_natCast,BitVec.toNat_ofNat,Nat.mod_eq_of_lt (show (n*2+18446744073709551616).toNat<2 ^ 64 by omega),jO (by omega)]
   omega
 · have e1:n / 9223372036854775808=0:=by omega
   have e2:IntKind.u64.wrap (IntKind.u64.wrap n*2)=((n*2).toNat:Int):=by rw[hw,hw];omega
   rw[if_neg h0,e1,e2,show BitVec.ofInt 64 (IntKind.u64.wrap 0)=0#64 from rfl,BitVec.xor_zero,BitVec.ofInt_natCast,BitVec.toNat_ofNat,Nat.mod_eq_of_lt (show (n*2).toNat<2 ^ 64 by omega),jO (by omega)]
   omega
def F1:W.Spec:=fun av H K=>∃x:List UInt8,av=[.va (.c1 (.pt 0 0))]/\H=[iM x 0 0]/\x.length<=9223372036854775807/\K (iS .i64 (fD (vr x).1)) [iM x (vr x).2.1 (vr x).2.2]
theorem aCV {x:List UInt8} {K:S->Hp->Prop} (h:x.length<=9223372036854775807) (hK:K (iS .i64 (fD (vr x).1)) [iM x (vr x).2.1 (vr x).2.2]):F1 [.va (.c1 (.pt 0 0))] [iM x 0 0] K:=⟨x,rfl,rfl,h,hK⟩
theorem aN2:Meets Tryz.prog 138 F1:=by
 refine aF Tryz.func138 aN9 1 (by rw[Tryz.ntmps138];decide) (aC HU (aB _)) (fun av H K h=>by obtain ⟨_,rfl,_⟩:=h;rfl) ?_
 rintro av H K ⟨x,rfl,rfl,h,hK⟩
 simp(maxSteps:=9^6)-dsimp only[go_sem,WU,WF]
 refine I5 h ?_
 simp(maxSteps:=9^6)-dsimp only[go_sem]
 refine aA rfl (.done ?_)
 simp(maxSteps:=9^6)-dsimp only[go_sem,CA,aT2]
 have hlt:(vr x).1<18446744073709551616:=by
  rcases fL x with ⟨_,h,_⟩|⟨_,_,_,_,_,h⟩
  · rw[h];decide
  · exact h
 rw[aFV hlt]
 refine ⟨by decide,.done ?_⟩
 simp -dsimp only[go_sem,eF]
 exact hK
def FN:List S->Prop:=fun av=>match av with
 |[.va (.c1 (.vl (.int .i64 n)))]=>bT n
 |_=>False
theorem kP {av:List S} (h:FN av):∃n:Int,av=[iS .i64 n]/\bT n:=by
 unfold FN at h
 split at h
 · exact ⟨_,rfl,h⟩
 · exact h.elim
def JV (f:Int->Value):Fun:=⟨FN,WP f,fun av h=>by obtain ⟨n,rfl,_⟩:=kP h;trivial⟩
theorem yX {f:Int->Value}:∀av H K,(JV f).sp av H K->av.length=1:=fun av H K h=>by obtain ⟨n,rfl,_⟩:=kP h.1.1;rfl
attribute [go_sem] JV FN
theorem aMW:Meets Tryz.prog 84 (JV fun n=>.string (mk (vi (iF n)))).sp:=by
 refine aF Tryz.func84 aUI 1 (by rw[Tryz.ntmps84];decide) (aG AQ (aB _)) yX ?_
 rintro av H K ⟨⟨h,rfl⟩,hK⟩
 obtain ⟨n,rfl,hn⟩:=kP h
 have hK:K (tS (mk (vi (iF n)))) []:=hK
 clear h
 simp(maxSteps:=9^6)-dsimp only[go_sem,aFS,aJD]
 have hz:iF n<18446744073709551616:=by
  unfold bT at hn
  unfold iF
  split<;>omega
 rw[aD5 hn]
 exact ⟨by decide,by decide,by omega,.done hK⟩
def XY:W.Spec:=fun av H K=>∃x:List UInt8,av=[tS (mk x)]/\H=[]/\x.length<=9223372036854775807/\K (.tu [uA (a7 x).1,tA (mk (a7 x).2.1),iA .i64 (a7 x).2.2]) []
theorem BC {x:List UInt8} {K:S->Hp->Prop} (h:x.length<=9223372036854775807) (hK:K (.tu [uA (a7 x).1,tA (mk (a7 x).2.1),iA .i64 (a7 x).2.2]) []):XY [tS (mk x)] [] K:=⟨x,rfl,rfl,h,hK⟩
theorem xH:Meets Tryz.prog 94 XY:=by
 refine aF Tryz.func94 aSX 1 (by rw[Tryz.ntmps94];decide) (aC AY (aC HU (aC aJW (aC VN (aB _))))) (fun av H K h=>by obtain ⟨_,rfl,_⟩:=h;rfl) ?_
 rintro av H K ⟨x,rfl,rfl,hx,hK⟩
 have fin:∀(n:Nat) (r:List UInt8) (e:Int) (R:Hp),a7 x=(n,r,e)->W.Fin 0 K (.tu [uA n,tA (mk r),iA .i64 e]) R:=fun n r e R h=>by
  rw[h] at hK;exact .z ((by simpa[go_sem] using hK))
 clear hK
 unfold a7 at fin
 simp(maxSteps:=9^6)-dsimp only[go_sem,aJZ,aE0]
 refine SA ?_
 simp(maxSteps:=9^6)-dsimp only[go_sem,eF]
 refine aA rfl (.done ?_)
 simp(maxSteps:=9^6)-dsimp only[go_sem,HT]
 refine I5 hx ?_
 simp(maxSteps:=9^6)-dsimp only[go_sem,eF]
 refine aA rfl (.done ?_)
 simp(maxSteps:=9^6)-dsimp only[go_sem,G6]
 refine B5 ?_
 simp(maxSteps:=9^6)-dsimp only[go_sem,eF]
 refine aA rfl (.done ?_)
 have hlt:=fL x
 cases c1:(vr x).2.2 != 0 with
 |true=>
  rw[c1,cond_true] at fin
  simp(maxSteps:=9^6)-dsimp only[go_sem,A7,c1]
  exact fin _ _ _ _ rfl
 |false=>
  rw[c1,cond_false] at fin
  simp(maxSteps:=9^6)-dsimp only[go_sem,A7,c1]
  obtain ⟨h0,h1,h2,h3,_⟩:(vr x).2.2=0/\(vr x).2.1=(vi (vr x).1).length/\0<(vr x).2.1/\(vr x).2.1<=x.length/\True:=by
   rcases hlt with ⟨h,_⟩|⟨a,b,c,d,_⟩
   · exact absurd (cU c1) h
   · exact ⟨a,b,c,d,trivial⟩
  have e1:((x.length:Int)-((x.length:Int)-((vr x).2.1:Int)))=((vr x).2.1:Int):=by omega
  refine aA rfl (.done ?_)
  simp(maxSteps:=9^6)-dsimp only[go_sem,IE]
  refine M0 h3 hx ?_
  simp(maxSteps:=9^6)-dsimp only[go_sem,eF,e1,List.take_length]
  refine ⟨by omega,by omega,by omega,by omega,?_⟩
  exact fin _ _ _ _ rfl
def X7:W.Spec:=fun av H K=>∃x:List UInt8,av=[tS (mk x)]/\H=[]/\x.length<=9223372036854775807/\K (.tu [tA (mk (bL x).1),tA (mk (bL x).2.1),iA .i64 (bL x).2.2]) []
theorem LV {x:List UInt8} {K:S->Hp->Prop} (h:x.length<=9223372036854775807) (hK:K (.tu [tA (mk (bL x).1),tA (mk (bL x).2.1),iA .i64 (bL x).2.2]) []):X7 [tS (mk x)] [] K:=⟨x,rfl,rfl,h,hK⟩
theorem PV:Meets Tryz.prog 95 X7:=by
 refine aF Tryz.func95 aSQ 1 (by rw[Tryz.ntmps95];decide) (aC xH (aB _)) (fun av H K h=>by obtain ⟨_,rfl,_⟩:=h;rfl) ?_
 rintro av H K ⟨x,rfl,rfl,hx,hK⟩
 have fin:∀(n r:List UInt8) (e:Int) (R:Hp),bL x=(n,r,e)->W.Fin 0 K (.tu [tA (mk n),tA (mk r),iA .i64 e]) R:=fun n r e R h=>by
  rw[h] at hK;exact .z ((by simpa[go_sem] using hK))
 clear hK
 unfold bL at fin
 have hl:=(t7 x).1
 simp(maxSteps:=9^6)-dsimp only[go_sem,aDY,aIR]
 refine BC hx ?_
 simp(maxSteps:=9^6)-dsimp only[go_sem]
 refine aA rfl (.done ?_)
 generalize a7 x=z at *
 obtain ⟨n,r,e⟩:=z
 simp only at fin hl ⊢
 cases c1:e != 0 with
 |true=>
  rw[c1,cond_true] at fin
  simp(maxSteps:=9^6)-dsimp only[go_sem,tP,c1]
  exact fin _ _ _ _ rfl
 |false=>
 rw[c1,cond_false] at fin
 have hu:IntKind.u64.wrap (r.length:Int)=(r.length:Int):=jO (by omega)
 have hd:decide ((r.length:Int)<(n:Int))=decide (r.length<n):=by rw[Bool.eq_iff_iff];simp
 cases c2:decide (r.length<n) with
 |true=>
  rw[c2,cond_true] at fin
  simp(maxSteps:=9^6)-dsimp only[go_sem,tP,c1,hu,hd,c2]
  exact fin _ _ _ _ rfl
 |false=>
  rw[c2,cond_false] at fin
  have c2':=of_decide_eq_false c2
  simp(maxSteps:=9^6)-dsimp only[go_sem,tP,c1,hu,hd,c2,List.drop_zero,List.take_length]
  refine ⟨by omega,by omega,?_⟩
  exact fin _ _ _ _ rfl
def WT (x:Int×List UInt8):List C:=[.vl (.int .i64 x.1),.vl (.string (mk x.2))]
def FY:W.Spec:=fun av H K=>∃(x:List UInt8) (last:Int),av=[tS (mk x),iS .i64 last]/\H=[]/\x.length<=9223372036854775807/\K (.tu [.gs (WT (bC x last).1),tA (mk (bC x last).2.1),iA .i64 (bC x last).2.2]) []
theorem aDB {x:List UInt8} {last:Int} {K:S->Hp->Prop} (h:x.length<=9223372036854775807) (hK:K (.tu [.gs [.vl (.int .i64 (bC x last).1.1),.vl (.string (mk (bC x last).1.2))],tA (mk (bC x last).2.1),iA .i64 (bC x last).2.2]) []):FY [tS (mk x),iS .i64 last] [] K:=⟨x,last,rfl,rfl,h,hK⟩
theorem aCB:Meets Tryz.prog 53 FY:=by
 refine aF Tryz.func53 aTF 2 (by rw[Tryz.ntmps53];decide) (aC xH (aC PV (aB _))) (fun av H K h=>by obtain ⟨_,_,rfl,_⟩:=h;rfl) ?_
 rintro av H K ⟨x,last,rfl,rfl,hx,hK⟩
 have fin:∀(a:Int) (c r:List UInt8) (e:Int) (R:Hp),bC x last=((a,c),r,e)->W.Fin 0 K (.tu [.gs [.vl (.int .i64 a),.vl (.string (mk c))],tA (mk r),iA .i64 e]) R:=fun a c r e R h=>by
  rw[h] at hK;exact .z ((by simpa[go_sem,WT] using hK))
 clear hK
 unfold bC at fin
 have hl:=(t7 x).1
 simp(maxSteps:=9^6)-dsimp only[go_sem,aIY,aI6]
 refine BC hx ?_
 generalize a7 x=z at *
 obtain ⟨n,r,e⟩:=z
 simp only at fin hl ⊢
 have hd:decide ((2147483647:Int)<(n:Int))=decide (2147483647<n):=by rw[Bool.eq_iff_iff];simp;omega
 cases c1:e != 0 with
 |true=>
  rw[c1,cond_true] at fin
  simp(maxSteps:=9^6)-dsimp only[go_sem,c1]
  exact fin _ _ _ _ _ rfl
 |false=>
 rw[c1,cond_false] at fin
 cases c2:decide (2147483647<n) with
 |true=>
  rw[c2,cond_true] at fin
  simp(maxSteps:=9^6)-dsimp only[go_sem,c1,hd,c2]
  exact fin _ _ _ _ _ rfl
 |false=>
 rw[c2,cond_false] at fin
 have c2':=of_decide_eq_false c2
 have hw:IntKind.i64.wrap (n:Int)=(n:Int):=tY ⟨by omega,by omega⟩
 cases c3:decide ((n:Int)<=last) with
 |true=>
  rw[c3,cond_true] at fin
  simp(maxSteps:=9^6)-dsimp only[go_sem,c1,hd,c2,hw,c3]
  exact fin _ _ _ _ _ rfl
 |false=>
  rw[c3,cond_false] at fin
  simp(maxSteps:=9^6)-dsimp only[go_sem,c1,hd,c2,hw,c3]
  refine LV (by omega) ?_
  simp(maxSteps:=9^6)-dsimp only[go_sem]
  refine aA rfl (.done ?_)
  simp(maxSteps:=9^6)-dsimp only[go_sem,HL,hw]
  exact fin _ _ _ _ _ rfl
def yI:PC:=.seq (.gh (.ord  [.q (.v 46 10),.q (.v 47 0),.q (.q 48 (.fa 1 (.t 9))),.q (.l 49 (.ld1 (.t 48))),.q (.q 50 (.fa 1 (.t 9))),.q (.l 51 (.ld1 (.t 50))),.q (.v 52 11),.q (.q 53 (.cvt .i64 (.t 52))),.q (.q 54 (.bin .add true (.t 51) (.t 53))),.q (.q 55 (.ss (.t 47) (some (.t 49)) (some (.t 54)))),.q (.q 56 (.bd [(.int .i64 0),(.string (mk []))] [(0,1,(.t 46)),(1,1,(.t 55))])),.q (.q 57 (.fa 1 (.t 9))),.q (.l 58 (.ld1 (.t 57))),.q (.v 59 11),.q (.q 60 (.cvt .i64 (.t 59))),.q (.q 61 (.bin .add true (.t 58) (.t 60))),.m (.s (.st 2 (.t 6) (.t 56))),.rc (.q 57 (.fa 1 (.t 9))),.rc (.l 58 (.ld1 (.t 57))),.rc (.v 59 11),.rc (.q 60 (.cvt .i64 (.t 59))),.rc (.q 61 (.bin .add true (.t 58) (.t 60))),.m (.v 7 61),.m (.q 8 (.mv (.i 0)))])) .ret
@[go_sem ↓] theorem aPK:aM yI:=aN _
def vS:PC:=.seq (.seq (.gh (.reg [.v 40 11,.l 41 (.ldn 3 (.t 9)),.a 42 (.cq 66 [(.t 41)]),.q 43 (.cvt .u64 (.t 42)),.q 44 (.bin .gtr true (.t 40) (.t 43))])) (.cond (.t 44) (.seq (.reg [.q 45 (.bd [(.int .i64 0),(.string (mk []))] []),.s (.st 2 (.t 6) (.t 45)),.q 7 (.mv (.i 0)),.q 8 (.mv (.i 1))]) .ret) .skip)) (yI)
@[go_sem ↓] theorem aRG:aM vS:=aN _
def vU:PC:=.seq (.seq (.gh (.reg [.q 34 (.fa 2 (.t 9)),.l 35 (.ld1 (.t 34)),.q 36 (.bin .neq true (.t 35) (.i 0))])) (.cond (.t 36) (.seq (.ord  [.q (.q 37 (.bd [(.int .i64 0),(.string (mk []))] [])),.q (.q 38 (.fa 2 (.t 9))),.q (.l 39 (.ld1 (.t 38))),.m (.s (.st 2 (.t 6) (.t 37))),.rc (.q 38 (.fa 2 (.t 9))),.rc (.l 39 (.ld1 (.t 38))),.m (.q 7 (.mv (.i 0))),.rc (.q 38 (.fa 2 (.t 9))),.rc (.l 39 (.ld1 (.t 38))),.m (.v 8 39)]) .ret) .skip)) (vS)
@[go_sem ↓] theorem aR0:aM vU:=aN _
def uP:PC:=.seq (.seq (.gh (.reg [.v 25 10,.v 26 2,.q 27 (.bin .leq true (.t 25) (.t 26))])) (.cond (.t 27) (.seq (.reg [.q 28 (.bd [(.int .i64 0),(.string (mk []))] []),.s (.st 2 (.t 6) (.t 28)),.q 7 (.mv (.i 0)),.q 8 (.mv (.i 2))]) .ret) .skip)) (.seq (.reg [.l 30 (.ldn 3 (.t 9)),.a 31 (.cl 65 [(.t 30)] []),.v 29 31,.q 32 (.ex (.t 29) 0),.q 33 (.ex (.t 29) 1),.s (.st 3 (.t 9) (.t 32)),.v 11 33]) (vU))
@[go_sem ↓] theorem aQH:aM uP:=aN _
def pR:PC:=.seq (.seq (.gh (.reg [.q 19 (.fa 2 (.t 9)),.l 20 (.ld1 (.t 19)),.q 21 (.bin .neq true (.t 20) (.i 0))])) (.cond (.t 21) (.seq (.ord  [.q (.q 22 (.bd [(.int .i64 0),(.string (mk []))] [])),.q (.q 23 (.fa 2 (.t 9))),.q (.l 24 (.ld1 (.t 23))),.m (.s (.st 2 (.t 6) (.t 22))),.rc (.q 23 (.fa 2 (.t 9))),.rc (.l 24 (.ld1 (.t 23))),.m (.q 7 (.mv (.i 0))),.rc (.q 23 (.fa 2 (.t 9))),.rc (.l 24 (.ld1 (.t 23))),.m (.v 8 24)]) .ret) .skip)) (uP)
@[go_sem ↓] theorem aRO:aM pR:=aN _
def WQ:PC:=.seq (.reg [.e 6 (.al (.agg #[(.int .i64 0),(.string (mk []))]) 59),.q 7 (.mv (.i 0)),.q 8 (.mv (.i 0))]) (.seq (.reg [.v 13 0,.v 14 1,.q 15 (.bd [(.string (mk [])),(.int .i64 0),(.int .i64 0)] [(0,1,(.t 13)),(1,1,(.t 14))]),.a 16 (.cl 64 [(.t 15),(.i 2147483647)] []),.v 12 16,.q 17 (.ex (.t 12) 0),.q 18 (.ex (.t 12) 1),.e 9 (.al (.agg #[(.string (mk [])),(.int .i64 0),(.int .i64 0)]) 108),.s (.st 3 (.t 9) (.t 17)),.v 10 18]) (pR))
def ZU:List RV:=[.ld (.ldn 2 (.t 6)),.mv (.t 7),.mv (.t 8)]
theorem aOP:aO Tryz.prog true ⟨fun r k=>if r=9/\k=2 then .q else .own [],fun r=>[2,4,7,9,11].contains r⟩ Tryz.f35=some (WQ,ZU):=by kernel_rfl
def B9:PC:=.seq (.gh (.reg [.l 27 (.ldn 3 (.t 6)),.v 28 7,.q 29 (.cvt .i64 (.t 28)),.s (.st 3 (.t 4) (.t 27)),.v 5 29])) .ret
@[go_sem ↓] theorem aPR:aM B9:=aN _
def wD:PC:=.seq (.seq (.gh (.reg [.v 17 1,.q 18 (.bin .lss true (.t 17) (.i 0)),.v 19 18,⟨some 20,(some (19,false)),.q (.mv (.t 7))⟩,⟨some 21,(some (19,false)),.q (.mv (.t 1))⟩,⟨some 22,(some (19,false)),.q (.cvt .u64 (.t 21))⟩,⟨some 23,(some (19,false)),.q (.bin .gtr true (.t 20) (.t 22))⟩,.a 24 (.pick (.t 19) (.k (.bool true)) (.t 23))])) (.cond (.t 24) (.seq (.reg [.l 25 (.ldn 3 (.t 2)),.a 26 (.cl 106 [(.t 25),(.i 4)] []),.s (.st 3 (.t 4) (.t 26)),.q 5 (.mv (.i 0))]) .ret) .skip)) (B9)
@[go_sem ↓] theorem aQ5:aM wD:=aN _
def uI:PC:=.seq (.seq (.gh (.reg [.q 13 (.fa 2 (.t 6)),.l 14 (.ld1 (.t 13)),.q 15 (.bin .neq true (.t 14) (.i 0))])) (.cond (.t 15) (.seq (.reg [.l 16 (.ldn 3 (.t 6)),.s (.st 3 (.t 4) (.t 16)),.q 5 (.mv (.i 0))]) .ret) .skip)) (wD)
@[go_sem ↓] theorem aRZ:aM uI:=aN _
def aAS:PC:=.seq (.reg [.e 2 (.bx 108 (.t 0)),.e 4 (.al (.agg #[(.string (mk [])),(.int .i64 0),(.int .i64 0)]) 108),.q 5 (.mv (.i 0))]) (.seq (.reg [.l 9 (.ldn 3 (.t 2)),.a 10 (.cl 65 [(.t 9)] []),.v 8 10,.q 11 (.ex (.t 8) 0),.q 12 (.ex (.t 8) 1),.e 6 (.al (.agg #[(.string (mk [])),(.int .i64 0),(.int .i64 0)]) 108),.s (.st 3 (.t 6) (.t 11)),.v 7 12]) (uI))
def WY:List RV:=[.ld (.ldn 3 (.t 4)),.mv (.t 5)]
theorem aNC:aO Tryz.prog true ⟨fun _ _=>.own [],fun r=>[2,4,6].contains r⟩ Tryz.f64=some (aAS,WY):=by kernel_rfl
def CT:PC:=.seq (.gh (.reg [.v 25 5,.q 26 (.fa 1 (.t 1)),.s (.st 1 (.t 26) (.t 25))])) (.seq (.reg [.l 27 (.ldn 3 (.t 1)),.v 28 4,.s (.st 3 (.t 2) (.t 27)),.v 3 28]) .ret)
@[go_sem ↓] theorem aP2:aM CT:=aN _
def wJ:PC:=.seq (.seq (.gh (.reg [.v 20 6,.q 21 (.bin .neq true (.t 20) (.i 0))])) (.cond (.t 21) (.seq (.reg [.l 22 (.ldn 3 (.t 1)),.v 23 6,.a 24 (.cl 106 [(.t 22),(.t 23)] []),.s (.st 3 (.t 2) (.t 24)),.q 3 (.mv (.k (.int .u64 0)))]) .ret) .skip)) (CT)
@[go_sem ↓] theorem aRY:aM wJ:=aN _
def ZL:PC:=.seq (.reg [.e 1 (.bx 108 (.t 0)),.e 2 (.al (.agg #[(.string (mk [])),(.int .i64 0),(.int .i64 0)]) 108),.q 3 (.mv (.k (.int .u64 0)))]) (.seq (.seq (.reg [.q 7 (.fa 2 (.t 1)),.l 8 (.ld1 (.t 7)),.q 9 (.bin .neq true (.t 8) (.i 0))]) (.cond (.t 9) (.seq (.reg [.l 10 (.ldn 3 (.t 1)),.s (.st 3 (.t 2) (.t 10)),.q 3 (.mv (.k (.int .u64 0)))]) .ret) .skip)) (.seq (.reg [.q 12 (.fa 0 (.t 1)),.l 13 (.ld1 (.t 12)),.q 14 (.fa 1 (.t 1)),.l 15 (.ld1 (.t 14)),.a 16 (.cl 107 [(.t 13),(.t 15)] []),.v 11 16,.q 17 (.ex (.t 11) 0),.q 18 (.ex (.t 11) 1),.q 19 (.ex (.t 11) 2),.v 4 17,.v 5 18,.v 6 19]) (wJ)))
def YW:List RV:=[.ld (.ldn 3 (.t 2)),.mv (.t 3)]
theorem aL8:aO Tryz.prog true ⟨fun _ _=>.own [],fun r=>[4,6].contains r⟩ Tryz.f65=some (ZL,YW):=by kernel_rfl
def WL:PC:=.seq (.reg [.e 1 (.bx 108 (.t 0)),.q 2 (.mv (.i 0))]) (.seq (.reg [.q 3 (.fa 0 (.t 1)),.l 4 (.ld1 (.t 3)),.q 5 (.lnS (.t 4)),.q 6 (.fa 1 (.t 1)),.l 7 (.ld1 (.t 6)),.q 8 (.bin .sub true (.t 5) (.t 7)),.v 2 8]) .ret)
def YI:List RV:=[.mv (.t 2)]
theorem aL4:aO Tryz.prog true ⟨fun _ _=>.own [],fun _=>false⟩ Tryz.f66=some (WL,YI):=by kernel_rfl
def aAT:PC:=.seq (.reg [.q 2 (.mv (.k (.string (mk []))))]) (.seq (.reg [.v 3 0,.a 4 (.cq 132 [(.t 3)]),.a 5 (.cq 36 [(.t 4)]),.v 2 5]) .ret)
def ZC:List RV:=[.mv (.t 2)]
theorem aOZ:aO Tryz.prog true ⟨fun r k=>if r=1/\k=1 then .q else if r=1/\k=2 then .q else .own [],fun _=>false⟩ Tryz.f93=some (aAT,ZC):=by kernel_rfl
def QS:PC:=.seq (.reg [.e 2 (.bx 108 (.t 0)),.e 4 (.al (.agg #[(.string (mk [])),(.int .i64 0),(.int .i64 0)]) 108)]) (.seq (.reg [.v 5 1,.q 6 (.fa 2 (.t 2)),.s (.st 1 (.t 6) (.t 5))]) (.seq (.reg [.l 7 (.ldn 3 (.t 2)),.s (.st 3 (.t 4) (.t 7))]) .ret))
def QM:List RV:=[.ld (.ldn 3 (.t 4))]
theorem aEY:aO Tryz.prog true ⟨fun _ _=>.own [],fun _=>false⟩ Tryz.f106=some (QS,QM):=by kernel_rfl
def PT:PC:=.seq (.reg [.q 4 (.mv (.k (.int .u64 0))),.q 5 (.mv (.i 0)),.q 6 (.mv (.i 0))]) (.seq (.reg [.q 7 (.mv (.k (.int .u64 0)))]) (.seq (.reg [.q 8 (.mv (.k (.int .u64 1)))]) (.seq (.seq (.reg [.q 9 (.mv (.i 0))]) (.block 0 (.loop (.seq (.seq (.reg [.v 11 9,.q 12 (.bin .lss false (.t 11) (.i 10))]) (.cond (.t 12) .skip (.exit 0))) (.seq (.block 1 (.seq (.seq (.reg [.v 15 1,.v 16 9,.q 17 (.bin .add false (.t 15) (.t 16)),.v 18 0,.q 19 (.lnS (.t 18)),.q 20 (.bin .geq false (.t 17) (.t 19))]) (.cond (.t 20) (.seq (.reg [.v 21 1,.q 4 (.mv (.k (.int .u64 0))),.v 5 21,.q 6 (.mv (.i 1))]) .ret) .skip)) (.seq (.reg [.v 22 0,.v 23 1,.v 24 9,.q 25 (.bin .add false (.t 23) (.t 24)),.a 26 (.ix (.t 22) (.t 25)),.v 10 26]) (.seq (.seq (.reg [.v 27 9,.q 28 (.bin .eql false (.t 27) (.i 9)),.v 29 28,⟨some 30,(some (29,true)),.q (.mv (.t 10))⟩,⟨some 31,(some (29,true)),.q (.bin .gtr false (.t 30) (.k (.int .u8 1)))⟩,.a 32 (.pick (.t 29) (.t 31) (.k (.bool false)))]) (.cond (.t 32) (.seq (.reg [.v 33 1,.q 4 (.mv (.k (.int .u64 0))),.v 5 33,.q 6 (.mv (.i 2))]) .ret) .skip)) (.seq (.reg [.v 34 7,.v 35 10,.q 36 (.bin .rem false (.t 35) (.k (.int .u8 128))),.q 37 (.cvt .u64 (.t 36)),.v 38 8,.q 39 (.bin .mul false (.t 37) (.t 38)),.q 40 (.bin .add false (.t 34) (.t 39)),.v 7 40]) (.seq (.reg [.v 41 8,.q 42 (.bin .mul false (.t 41) (.k (.int .u64 128))),.v 8 42]) (.seq (.reg [.v 43 10,.q 44 (.bin .lss false (.t 43) (.k (.int .u8 128)))]) (.cond (.t 44) (.seq (.seq (.reg [.v 45 10,.q 46 (.bin .eql false (.t 45) (.k (.int .u8 0))),.v 47 46,⟨some 48,(some (47,true)),.q (.mv (.t 9))⟩,⟨some 49,(some (47,true)),.q (.bin .gtr false (.t 48) (.i 0))⟩,.a 50 (.pick (.t 47) (.t 49) (.k (.bool false)))]) (.cond (.t 50) (.seq (.reg [.v 51 1,.q 4 (.mv (.k (.int .u64 0))),.v 5 51,.q 6 (.mv (.i 2))]) .ret) .skip)) (.seq (.reg [.v 52 7,.v 53 1,.v 54 9,.q 55 (.bin .add false (.t 53) (.t 54)),.q 56 (.bin .add false (.t 55) (.i 1)),.v 4 52,.v 5 56,.q 6 (.mv (.i 0))]) .ret)) .skip)))))))) (.reg [.v 13 9,.q 14 (.bin .add false (.t 13) (.i 1)),.v 9 14])))))) (.seq (.reg [.v 57 1,.q 4 (.mv (.k (.int .u64 0))),.v 5 57,.q 6 (.mv (.i 2))]) .ret))))
def SF:List RV:=[.mv (.t 4),.mv (.t 5),.mv (.t 6)]
theorem aDZ:aO Tryz.prog false ⟨fun _ _=>.own [],fun _=>false⟩ Tryz.f107=some (PT,SF):=by kernel_rfl
def H0:PC:=.seq (.reg [.q 2 (.mv (.k (.int .u64 0)))]) (.seq (.seq (.reg [.v 3 0,.q 4 (.bin .lss true (.t 3) (.i 0))]) (.cond (.t 4) (.seq (.reg [.v 5 0,.q 6 (.bin .add true (.t 5) (.i 1)),.q 7 (.bin .sub true (.i 0) (.t 6)),.q 8 (.cvt .u64 (.t 7)),.q 9 (.bin .mul true (.k (.int .u64 2)) (.t 8)),.q 10 (.bin .add true (.t 9) (.k (.int .u64 1))),.v 2 10]) .ret) .skip)) (.seq (.reg [.v 11 0,.q 12 (.cvt .u64 (.t 11)),.q 13 (.bin .mul true (.k (.int .u64 2)) (.t 12)),.v 2 13]) .ret))
def I8:List RV:=[.mv (.t 2)]
theorem aFU:aO Tryz.prog true ⟨fun _ _=>.own [],fun _=>false⟩ Tryz.f132=some (H0,I8):=by kernel_rfl
def qQ:PC:=.seq (.seq (.gh (.reg [.v 11 5,.q 12 (.bin .rem true (.t 11) (.k (.int .u64 2))),.q 13 (.bin .eql true (.t 12) (.k (.int .u64 1)))])) (.cond (.t 13) (.seq (.reg [.l 14 (.ldn 3 (.t 4)),.v 15 5,.q 16 (.bin .quo true (.t 15) (.k (.int .u64 2))),.q 17 (.cvt .i64 (.t 16)),.q 18 (.bin .sub true (.i (-1)) (.t 17)),.s (.st 3 (.t 2) (.t 14)),.v 3 18]) .ret) .skip)) (.seq (.reg [.l 19 (.ldn 3 (.t 4)),.v 20 5,.q 21 (.bin .quo true (.t 20) (.k (.int .u64 2))),.q 22 (.cvt .i64 (.t 21)),.s (.st 3 (.t 2) (.t 19)),.v 3 22]) .ret)
@[go_sem ↓] theorem aO3:aM qQ:=aN _
def PN:PC:=.seq (.reg [.e 1 (.bx 108 (.t 0)),.e 2 (.al (.agg #[(.string (mk [])),(.int .i64 0),(.int .i64 0)]) 108),.q 3 (.mv (.i 0))]) (.seq (.reg [.l 7 (.ldn 3 (.t 1)),.a 8 (.cl 65 [(.t 7)] []),.v 6 8,.q 9 (.ex (.t 6) 0),.q 10 (.ex (.t 6) 1),.e 4 (.al (.agg #[(.string (mk [])),(.int .i64 0),(.int .i64 0)]) 108),.s (.st 3 (.t 4) (.t 9)),.v 5 10]) (qQ))
def RW:List RV:=[.ld (.ldn 3 (.t 2)),.mv (.t 3)]
theorem aGW:aO Tryz.prog true ⟨fun _ _=>.own [],fun r=>[2].contains r⟩ Tryz.f140=some (PN,RW):=by kernel_rfl
abbrev eV (x:List UInt8) (a:Nat) (e:Int):List C:=[.vl (.string (mk x)),.vl (.int .i64 a),.vl (.int .i64 e)]
def XD:W.Spec:=fun av H K=>∃(x:List UInt8) (a:Nat) (e e':Int),av=[.va (.gs (eV x a e)),iS .i64 e']/\H=[]/\K (.va (.gs (eV x a e'))) []
theorem KN {x:List UInt8} {a:Nat} {e e':Int} {K:S->Hp->Prop} (hK:K (.va (.gs (eV x a e'))) []):XD [.va (.gs (eV x a e)),iS .i64 e'] [] K:=⟨x,a,e,e',rfl,rfl,hK⟩
theorem HO:Meets Tryz.prog 106 XD:=by
 refine aF Tryz.func106 aEY 2 (by rw[Tryz.ntmps106];decide) (aB _) (fun av H K h=>by obtain ⟨_,_,_,_,rfl,_⟩:=h;rfl) ?_
 rintro av H K ⟨x,a,e,e',rfl,rfl,hK⟩
 simp(maxSteps:=9^6)-dsimp only[go_sem,QS,QM]
 refine .z (?_)
 simpa[go_sem] using hK
def ZT:W.Spec:=fun av H K=>∃(x:List UInt8) (a:Nat),av=[tS (mk x),iS .i64 a]/\H=[]/\a<=x.length/\x.length<=1000000/\K (.tu [uA (vr (x.drop a)).1,iA .i64 ((a+(vr (x.drop a)).2.1:Nat):Int),iA .i64 (vr (x.drop a)).2.2]) []
theorem aCN {x:List UInt8} {a:Nat} {K:S->Hp->Prop} (h:a<=x.length) (hx:x.length<=1000000) (hK:K (.tu [uA (vr (x.drop a)).1,iA .i64 ((a+(vr (x.drop a)).2.1:Nat):Int),iA .i64 (vr (x.drop a)).2.2]) []):ZT [tS (mk x),iS .i64 a] [] K:=⟨x,a,rfl,rfl,h,hx,hK⟩
theorem lX {n:Nat} (h:n<9223372036854775808):IntKind.i64.wrap (n:Int)=n:=tY ⟨by omega,by omega⟩
theorem TC:Meets Tryz.prog 107 ZT:=by
 refine aF Tryz.func107 aDZ 2 (by rw[Tryz.ntmps107];decide) (aB _) (fun av H K h=>by obtain ⟨_,_,rfl,_⟩:=h;rfl) ?_
 rintro av H K ⟨l,a,rfl,rfl,hal,hx,hK⟩
 have fin:∀(n k:Nat) (e:Int),vr (l.drop a)=(n,k,e)->W.Fin 0 K (.tu [uA n,iA .i64 ((a+k:Nat):Int),iA .i64 e]) []:=fun n k e h=>by
  rw[h] at hK;exact .done hK
 clear hK
 simp(maxSteps:=9^6)-dsimp only[go_sem,PT,SF]
 refine aL (α:=Nat×Nat) (fun z=>[(0,tS (mk l)),(1,iS .i64 a),(7,iS .u64 z.2),(8,iS .u64 ((128 ^ z.1:Nat):Int)),(9,iS .i64 z.1)]) (fun _=>[])
  (fun z=>z.1<=9/\z.2<128 ^ z.1/\a+z.1<=l.length/\pY z.1 z.2 (l.drop (a+z.1))=vr (l.drop a)) (fun z=>10-z.1) (0,0) 0 ⟨by decide,by decide,hal,rfl⟩ ?_ ?_ ?_
 · simp -dsimp only[go_sem]<;>simp
 · simp[go_sem]
 rintro ⟨i,n⟩ ⟨hi,hn,hil,ho⟩
 simp only at hi hn hil ho ⊢
 have hg:decide ((i:Int)<10)=true:=by simp;omega
 have ha:IntKind.i64.wrap ((a:Int)+(i:Int))=((a+i:Nat):Int):=by rw[<-Int.natCast_add];exact lX (by omega)
 rcases bB (a+i) l.length with hlt|hge
 · have hg2:decide ((l.length:Int)<=((a+i:Nat):Int))=false:=by simp;omega
   obtain ⟨c,hc⟩:∃c,l[a+i]? = some c:=⟨_,aU hlt⟩
   have hd:l.drop (a+i)=c::l.drop (a+i+1):=by
    obtain ⟨h,rfl⟩:=bJ.1 hc
    exact List.drop_eq_getElem_cons h
   rw[hd,nV] at ho
   have e9:((i:Int)==9)=(i==9):=by rw[Bool.eq_iff_iff];simp;omega
   have e1:decide ((1:Int)<(c.toNat:Int))=decide (1<c.toNat):=by rw[Bool.eq_iff_iff];simp;omega
   have e128:decide ((c.toNat:Int)<128)=!decide (128<=c.toNat):=by rw[Bool.eq_iff_iff];simp;omega
   have e0:((c.toNat:Int)==0)=(c.toNat==0):=by rw[Bool.eq_iff_iff];simp
   have ei:decide ((0:Int)<(i:Int))=decide (0<i):=by rw[Bool.eq_iff_iff];simp
   have hc256:=c.toNat_lt
   cases c1:i==9&&decide (1<c.toNat) with
   |true=>
    rw[c1,cond_true] at ho
    simp(maxSteps:=9^6)-dsimp only[go_sem,hg,ha,hg2,hc,aI,forall_eq',e9,e1,e128,e0,ei,c1]
    exact ⟨⟨by omega,by omega⟩,fin 0 0 2 ho.symm⟩
   |false=>
    rw[c1,cond_false] at ho
    have key:n+c.toNat % 128*128 ^ i<18446744073709551616:=by
     rcases bB i 9 with h9|h9
     · have h1:128 ^ (i+1)<=128 ^ 9:=Nat.pow_le_pow_right (by decide) (by omega)
       have h2:c.toNat % 128*128 ^ i<=127*128 ^ i:=Nat.mul_le_mul_right _ (by omega)
       have h3:(128:Nat) ^ 9=9223372036854775808:=by decide
       have h4:128 ^ (i+1)=128*128 ^ i:=by rw[Nat.pow_succ,Nat.mul_comm]
       omega
     · obtain rfl:i=9:=by omega
       rw[show ((9:Nat)==9)=true from rfl,Bool.true_and] at c1
       have h1:=of_decide_eq_false c1
       have h3:(128:Nat) ^ 9=9223372036854775808:=by decide
       rw[h3] at hn ⊢
       have:c.toNat % 128<=1:=by omega
       have h2:c.toNat % 128*9223372036854775808<=1*9223372036854775808:=Nat.mul_le_mul_right _ this
       omega
    have c1':i=9->c.toNat<=1:=fun e=>by
     subst e
     rw[show ((9:Nat)==9)=true from rfl,Bool.true_and] at c1
     have:=of_decide_eq_false c1;omega
    simp(maxSteps:=9^6)-dsimp only[go_sem,hg,ha,hg2,hc,aI,forall_eq',e9,e1,e128,e0,ei,c1]
    have hp:128 ^ (i+1)=128*128 ^ i:=by rw[Nat.pow_succ,Nat.mul_comm]
    have hle:c.toNat % 128*128 ^ i<=n+c.toNat % 128*128 ^ i:=Nat.le_add_left _ _
    have ht:(c.toNat:Int).tmod 128=((c.toNat % 128:Nat):Int):=rfl
    have hw:IntKind.u64.wrap ((n:Int)+IntKind.u64.wrap (IntKind.u64.wrap ((c.toNat:Int).tmod 128)*((128 ^ i:Nat):Int)))=((n+c.toNat % 128*128 ^ i:Nat):Int):=by
     rw[ht,jO (n:=c.toNat % 128) (by omega),<-Int.natCast_mul,jO (n:=c.toNat % 128*128 ^ i) (by omega),<-Int.natCast_add,jO key]
    have ha1:IntKind.i64.wrap (((a+i:Nat):Int)+1)=((a+(i+1):Nat):Int):=by
     rw[show ((a+i:Nat):Int)+1=((a+(i+1):Nat):Int) by omega];exact lX (by omega)
    rw[hw,ha1]
    refine ⟨⟨by omega,by omega⟩,by decide,fun h1=>⟨fun h2=>?_,fun h2=>?_⟩,fun h1=>?_⟩
    · rw[h1,cond_false,h2,cond_true] at ho
      exact fin 0 0 2 ho.symm
    · rw[h1,cond_false,h2,cond_false] at ho
      exact fin _ _ 0 ho.symm
    · have h1:decide (128<=c.toNat)=true:=by simpa using h1
      rw[h1,cond_true] at ho
      have h128:=of_decide_eq_true h1
      have hi9:i≠9:=fun e=>by have:=c1' e;omega
      have hm:c.toNat % 128*128 ^ i<=127*128 ^ i:=Nat.mul_le_mul_right _ (by omega)
      have hsc:IntKind.u64.wrap (((128 ^ i:Nat):Int)*128)=((128 ^ (i+1):Nat):Int):=by
       have h3:128 ^ (i+1)<=128 ^ 9:=Nat.pow_le_pow_right (by decide) (by omega)
       have h4:(128:Nat) ^ 9=9223372036854775808:=by decide
       rw[show ((128 ^ i:Nat):Int)*128=((128 ^ (i+1):Nat):Int) by rw[hp];omega]
       exact jO (by omega)
      have hi1:IntKind.i64.wrap ((i:Int)+1)=(i:Int)+1:=tY ⟨by omega,by omega⟩
      refine aE (i+1,n+c.toNat % 128*128 ^ i) 0 ⟨by simp only;omega,by simp only;rw[hp];omega,by simp only;omega,ho⟩ (by simp only;omega) ?_ ?_
      · simp -dsimp only[go_sem,hw,hsc,hi1]<;>simp
      · simp[go_sem]
 · have hg2:decide ((l.length:Int)<=((a+i:Nat):Int))=true:=by simp;omega
   have hd:l.drop (a+i)=[]:=List.drop_eq_nil_iff.2 hge
   rw[hd,B0] at ho
   simp(maxSteps:=9^6)-dsimp only[go_sem,hg,ha,hg2]
   exact fin 0 0 1 ho.symm
def Z1:W.Spec:=fun av H K=>∃(x:List UInt8) (a:Nat),av=[.va (.gs (eV x a 0))]/\H=[]/\a<=x.length/\x.length<=1000000/\K (.tu [.gs (eV x (a+(vr (x.drop a)).2.1) (vr (x.drop a)).2.2),uA (vr (x.drop a)).1]) []
theorem m5 {x:List UInt8} {a:Nat} {K:S->Hp->Prop} (h:a<=x.length) (hx:x.length<=1000000) (hK:K (.tu [.gs (eV x (a+(vr (x.drop a)).2.1) (vr (x.drop a)).2.2),uA (vr (x.drop a)).1]) []):Z1 [.va (.gs (eV x a 0))] [] K:=⟨x,a,rfl,rfl,h,hx,hK⟩
theorem kJ:Meets Tryz.prog 65 Z1:=by
 refine aF Tryz.func65 aL8 1 (by rw[Tryz.ntmps65];decide) (aC TC (aC HO (aB _))) (fun av H K h=>by obtain ⟨_,_,rfl,_⟩:=h;rfl) ?_
 rintro av H K ⟨x,a,rfl,rfl,ha,hx,hK⟩
 have fin:∀(n k:Nat) (e:Int) (R:Hp),vr (x.drop a)=(n,k,e)->W.Fin 0 K (.tu [.gs (eV x (a+k) e),uA n]) R:=fun n k e R h=>by
  rw[h] at hK;exact .z ((by simpa[go_sem,eV] using hK))
 clear hK
 have hlt:=fL (x.drop a)
 have e00:((0:Int) != 0)=false:=rfl
 simp(maxSteps:=9^6)-dsimp only[go_sem,ZL,YW,e00]
 refine aCN ha hx ?_
 simp(maxSteps:=9^6)-dsimp only[go_sem]
 refine aA rfl (.done ?_)
 generalize vr (x.drop a)=z at *
 obtain ⟨n,k,e⟩:=z
 simp only at fin hlt ⊢
 cases c1:e != 0 with
 |true=>
  simp(maxSteps:=9^6)-dsimp only[go_sem,wJ,c1]
  refine KN ?_
  simp(maxSteps:=9^6)-dsimp only[go_sem]
  rcases hlt with ⟨_,rfl,rfl,_⟩|⟨h,_⟩
  · exact fin _ _ _ _ rfl
  · exact absurd h (eL c1)
 |false=>
  obtain rfl:=cU c1
  simp(maxSteps:=9^6)-dsimp only[go_sem,wJ,c1]
  refine aA rfl (.done ?_)
  simp(maxSteps:=9^6)-dsimp only[go_sem,CT]
  exact fin _ _ _ _ rfl
def wR (x:List UInt8) (a:Nat):Nat×Nat×Int:=bif (vr (x.drop a)).2.2 != 0 then (0,a,(vr (x.drop a)).2.2) else bif decide (2147483647<(vr (x.drop a)).1) then (0,a,4) else ((vr (x.drop a)).1,a+(vr (x.drop a)).2.1,0)
def W7:W.Spec:=fun av H K=>∃(x:List UInt8) (a:Nat),av=[.va (.gs (eV x a 0)),iS .i64 2147483647]/\H=[]/\a<=x.length/\x.length<=1000000/\K (.tu [.gs (eV x (wR x a).2.1 (wR x a).2.2),iA .i64 ((wR x a).1:Nat)]) []
theorem aCL {x:List UInt8} {a:Nat} {K:S->Hp->Prop} (h:a<=x.length) (hx:x.length<=1000000) (hK:K (.tu [.gs (eV x (wR x a).2.1 (wR x a).2.2),iA .i64 ((wR x a).1:Nat)]) []):W7 [.va (.gs (eV x a 0)),iS .i64 2147483647] [] K:=⟨x,a,rfl,rfl,h,hx,hK⟩
theorem J8:Meets Tryz.prog 64 W7:=by
 refine aF Tryz.func64 aNC 2 (by rw[Tryz.ntmps64];decide) (aC kJ (aC HO (aB _))) (fun av H K h=>by obtain ⟨_,_,rfl,_⟩:=h;rfl) ?_
 rintro av H K ⟨x,a,rfl,rfl,ha,hx,hK⟩
 have fin:∀(n k:Nat) (e:Int) (R:Hp),wR x a=(n,k,e)->W.Fin 0 K (.tu [.gs (eV x k e),iA .i64 (n:Nat)]) R:=fun n k e R h=>by
  rw[h] at hK;exact .z ((by simpa[go_sem,eV] using hK))
 clear hK
 unfold wR at fin
 have hlt:=fL (x.drop a)
 simp(maxSteps:=9^6)-dsimp only[go_sem,aAS,WY]
 refine m5 ha hx ?_
 simp(maxSteps:=9^6)-dsimp only[go_sem]
 refine aA rfl (.done ?_)
 generalize vr (x.drop a)=z at *
 obtain ⟨n,k,e⟩:=z
 simp only at fin hlt ⊢
 cases c1:e != 0 with
 |true=>
  rw[c1,cond_true] at fin
  simp(maxSteps:=9^6)-dsimp only[go_sem,uI,c1]
  rcases hlt with ⟨_,rfl,rfl,_⟩|⟨h,_⟩
  · exact fin _ _ _ _ rfl
  · exact absurd h (eL c1)
 |false=>
  obtain rfl:=cU c1
  rw[c1,cond_false] at fin
  simp(maxSteps:=9^6)-dsimp only[go_sem,uI,c1]
  refine aA rfl (.done ?_)
  have e1:decide ((2147483647:Int)<0)=false:=by decide
  have e2:IntKind.u64.wrap 2147483647=2147483647:=by decide
  have e3:decide ((2147483647:Int)<(n:Int))=decide (2147483647<n):=by rw[Bool.eq_iff_iff];simp;omega
  cases c2:decide (2147483647<n) with
  |true=>
   rw[c2,cond_true] at fin
   simp(maxSteps:=9^6)-dsimp only[go_sem,wD,e1,e2,e3,c2]
   refine KN ?_
   simp(maxSteps:=9^6)-dsimp only[go_sem]
   exact fin _ _ _ _ rfl
  |false=>
   rw[c2,cond_false] at fin
   have c2':=of_decide_eq_false c2
   simp(maxSteps:=9^6)-dsimp only[go_sem,wD,e1,e2,e3,c2]
   refine aA rfl (.done ?_)
   have hw:IntKind.i64.wrap (n:Int)=(n:Int):=lX (by omega)
   simp(maxSteps:=9^6)-dsimp only[go_sem,B9,hw]
   exact fin _ _ _ _ rfl
def rM (r:List C):Prop:=∃(x:List UInt8) (a:Nat) (e:Int),r=eV x a e/\a<=x.length/\x.length<=1000000
def C.lf4:List C->Int:=fun r=>match r with
 |[.vl (.string s),.vl (.int _ a),_]=>(s.size:Int)-a
 |_=>0
@[go_sem] theorem aDR (x:List UInt8) (a:Nat) (e:Int):C.lf4 (eV x a e)=(x.length:Int)-(a:Int):=by
 show ((mk x).size:Int)-(a:Int)=_
 rw[dV,iH]
theorem qS {x:List UInt8} {a:Nat} {e:Int} (h:a<=x.length) (hx:x.length<=1000000):rM (eV x a e):=⟨x,a,e,rfl,h,hx⟩
theorem JH:Meets Tryz.prog 66 (pF rM C.lf4 fun n=>.int .i64 n).sp:=by
 refine aF Tryz.func66 aL4 1 (by rw[Tryz.ntmps66];decide) (aB _) lG ?_
 rintro av H K ⟨⟨h,rfl⟩,hK⟩
 obtain ⟨r,rfl,x,a,e,rfl,ha,hx⟩:=f7 h
 have hK:K (iS .i64 ((x.length:Int)-(a:Int))) []:=by
  have:(pF rM C.lf4 fun n=>.int .i64 n).val [.va (.gs (eV x a e))]=iA .i64 ((x.length:Int)-(a:Int)):=by
   show A.c1 (.vl (.int .i64 (C.lf4 (eV x a e))))=_
   rw[aDR]
  rw[this] at hK;exact hK
 clear h
 simp(maxSteps:=9^6)-dsimp only[go_sem,WL,YI]
 refine ⟨by omega,.z (?_)⟩
 simpa[go_sem] using hK
def nx2 (b:List UInt8) (n a:Nat) (z:Nat×Nat×Int):(Int×List UInt8)×Nat×Int:=bif z.2.2 != 0 then ((0,[]),0,z.2.2) else bif decide (b.length-(a+z.2.1)<z.1) then ((0,[]),0,1) else (((n:Int),(b.drop (a+z.2.1)).take z.1),a+z.2.1+z.1,0)
def nx1 (b:List UInt8) (a:Nat) (last:Int) (z:Nat×Nat×Int):(Int×List UInt8)×Nat×Int:=bif z.2.2 != 0 then ((0,[]),0,z.2.2) else bif decide (2147483647<z.1) then ((0,[]),0,4) else bif decide ((z.1:Int)<=last) then ((0,[]),0,2) else nx2 b z.1 (a+z.2.1) (vr (b.drop (a+z.2.1)))
def sT (b:List UInt8) (a:Nat) (last:Int):(Int×List UInt8)×Nat×Int:=nx1 b a last (vr (b.drop a))
theorem aMX {b:List UInt8} {a:Nat} {last:Int} (ha:a<=b.length):sT b a last=bif (bC (b.drop a) last).2.2 != 0 then ((0,[]),0,(bC (b.drop a) last).2.2) else ((bC (b.drop a) last).1,b.length-(bC (b.drop a) last).2.1.length,0):=by
 have h1:=fL (b.drop a)
 unfold sT nx1 bC a7
 generalize hz:vr (b.drop a)=z at *
 obtain ⟨n,k,e⟩:=z
 simp only at h1 ⊢
 cases c1:e != 0 with
 |true=>simp only[cond_true,c1]
 |false=>
 obtain rfl:=cU c1
 have hk:k<=(b.drop a).length:=by
  rcases h1 with ⟨h,_⟩|⟨_,_,_,h,_⟩
  · exact absurd rfl h
  · exact h
 rw[List.length_drop] at hk
 simp only[cond_false,show ((0:Int) != 0)=false from rfl]
 cases decide (2147483647<n) with
 |true=>rfl
 |false=>
 simp only[cond_false]
 cases decide ((n:Int)<=last) with
 |true=>rfl
 |false=>
 simp only[cond_false]
 unfold nx2 bL a7
 rw[List.drop_drop]
 have h2:=fL (b.drop (a+k))
 generalize hz2:vr (b.drop (a+k))=z2 at *
 obtain ⟨n2,k2,e2⟩:=z2
 simp only at h2 ⊢
 cases c2:e2 != 0 with
 |true=>simp only[cond_true,c2]
 |false=>
 obtain rfl:=cU c2
 have hk2:k2<=(b.drop (a+k)).length:=by
  rcases h2 with ⟨h,_⟩|⟨_,_,_,h,_⟩
  · exact absurd rfl h
  · exact h
 rw[List.length_drop] at hk2
 simp only[cond_false,show ((0:Int) != 0)=false from rfl,List.drop_drop,List.length_drop]
 cases c3:decide (b.length-(a+k+k2)<n2) with
 |true=>rfl
 |false=>
  have:=of_decide_eq_false c3
  simp only[cond_false,show ((0:Int) != 0)=false from rfl,List.length_drop]
  rw[show b.length-(b.length-(a+k+k2+n2))=a+k+k2+n2 by omega]
def OQ:W.Spec:=fun av H K=>∃(b:List UInt8) (a:Nat) (last:Int),av=[tS (mk b),iS .i64 a,iS .i64 last]/\H=[]/\a<=b.length/\b.length<=1000000/\K (.tu [.gs (WT (sT b a last).1),iA .i64 ((sT b a last).2.1:Nat),iA .i64 (sT b a last).2.2]) []
theorem aJC {b:List UInt8} {a:Nat} {last:Int} {K:S->Hp->Prop} (h:a<=b.length) (hx:b.length<=1000000) (hK:K (.tu [.gs [.vl (.int .i64 (sT b a last).1.1),.vl (.string (mk (sT b a last).1.2))],iA .i64 ((sT b a last).2.1:Nat),iA .i64 (sT b a last).2.2]) []):OQ [tS (mk b),iS .i64 a,iS .i64 last] [] K:=⟨b,a,last,rfl,rfl,h,hx,hK⟩
theorem aNM:Meets Tryz.prog 35 OQ:=by
 refine aF Tryz.func35 aOP 3 (by rw[Tryz.ntmps35];decide) (aC J8 (aC kJ (aG JH (aB _)))) (fun av H K h=>by obtain ⟨_,_,_,rfl,_⟩:=h;rfl) ?_
 rintro av H K ⟨b,a,last,rfl,rfl,ha,hb,hK⟩
 have fin:∀(c:Int) (n:List UInt8) (k:Nat) (e:Int) (R:Hp),sT b a last=((c,n),k,e)->W.Fin 0 K (.tu [.gs [.vl (.int .i64 c),.vl (.string (mk n))],iA .i64 (k:Nat),iA .i64 e]) R:=fun c n k e R h=>by
  rw[h] at hK;exact .z ((by simpa[go_sem,WT] using hK))
 clear hK
 unfold sT nx1 at fin
 have hr:wR b a=bif (vr (b.drop a)).2.2 != 0 then (0,a,(vr (b.drop a)).2.2) else bif decide (2147483647<(vr (b.drop a)).1) then (0,a,4) else ((vr (b.drop a)).1,a+(vr (b.drop a)).2.1,0):=rfl
 have h1:=fL (b.drop a)
 simp(maxSteps:=9^6)-dsimp only[go_sem,WQ,ZU]
 refine aCL ha hb ?_
 generalize wR b a=y at *
 generalize vr (b.drop a)=z at *
 obtain ⟨n,k,e⟩:=z
 simp only at fin h1 hr
 have hal:a+k<=b.length:=by
  rcases h1 with ⟨_,_,rfl,_⟩|⟨_,_,_,h,_⟩
  · exact ha
  · rw[List.length_drop] at h;omega
 cases c1:e != 0 with
 |true=>
  rw[c1,cond_true] at fin hr
  subst hr
  simp(maxSteps:=9^6)-dsimp only[go_sem]
  refine aA rfl (.done ?_)
  simp(maxSteps:=9^6)-dsimp only[go_sem,pR,c1]
  exact fin _ _ _ _ _ rfl
 |false=>
 rw[c1,cond_false] at fin hr
 cases c2:decide (2147483647<n) with
 |true=>
  rw[c2,cond_true] at fin hr
  subst hr
  have e4:((4:Int) != 0)=true:=rfl
  simp(maxSteps:=9^6)-dsimp only[go_sem]
  refine aA rfl (.done ?_)
  simp(maxSteps:=9^6)-dsimp only[go_sem,pR,e4]
  exact fin _ _ _ _ _ rfl
 |false=>
 rw[c2,cond_false] at fin hr
 have c2':=of_decide_eq_false c2
 subst hr
 have e00:((0:Int) != 0)=false:=rfl
 simp(maxSteps:=9^6)-dsimp only[go_sem]
 refine aA rfl (.done ?_)
 simp(maxSteps:=9^6)-dsimp only[go_sem,pR,e00]
 refine aA rfl (.done ?_)
 cases c3:decide ((n:Int)<=last) with
 |true=>
  rw[c3,cond_true] at fin
  simp(maxSteps:=9^6)-dsimp only[go_sem,uP,c3]
  exact fin _ _ _ _ _ rfl
 |false=>
 rw[c3,cond_false] at fin
 unfold nx2 at fin
 have h2:=fL (b.drop (a+k))
 simp(maxSteps:=9^6)-dsimp only[go_sem,uP,c3]
 refine m5 hal hb ?_
 generalize vr (b.drop (a+k))=z2 at *
 obtain ⟨n2,k2,e2⟩:=z2
 simp only at fin h2 ⊢
 have hal2:a+k+k2<=b.length:=by
  rcases h2 with ⟨_,_,rfl,_⟩|⟨_,_,_,h,_⟩
  · exact hal
  · rw[List.length_drop] at h;omega
 simp(maxSteps:=9^6)-dsimp only[go_sem]
 refine aA rfl (.done ?_)
 cases c4:e2 != 0 with
 |true=>
  rw[c4,cond_true] at fin
  simp(maxSteps:=9^6)-dsimp only[go_sem,vU,c4]
  exact fin _ _ _ _ _ rfl
 |false=>
 rw[c4,cond_false] at fin
 simp(maxSteps:=9^6)-dsimp only[go_sem,vU,c4]
 refine aA rfl (.done ?_)
 have hrd:rM (eV b (a+k+k2) e2):=qS hal2 hb
 have hu:IntKind.u64.wrap ((b.length:Int)-((a+k+k2:Nat):Int))=((b.length-(a+k+k2):Nat):Int):=by rw[show (b.length:Int)-((a+k+k2:Nat):Int)=((b.length-(a+k+k2):Nat):Int) by omega];exact jO (by omega)
 have hd:decide (((b.length-(a+k+k2):Nat):Int)<(n2:Int))=decide (b.length-(a+k+k2)<n2):=by rw[Bool.eq_iff_iff];simp only[decide_eq_true_eq];omega
 cases c5:decide (b.length-(a+k+k2)<n2) with
 |true=>
  rw[c5,cond_true] at fin
  simp(maxSteps:=9^6)-dsimp only[go_sem,vS,hrd,hu,hd,c5]
  exact fin _ _ _ _ _ rfl
 |false=>
  rw[c5,cond_false] at fin
  have c5':=of_decide_eq_false c5
  simp(maxSteps:=9^6)-dsimp only[go_sem,vS,hrd,hu,hd,c5]
  refine aA rfl (.done ?_)
  have hw:IntKind.i64.wrap (n2:Int)=(n2:Int):=lX (by omega)
  have es:((a+k+k2:Nat):Int)+(n2:Int)=((a+k+k2+n2:Nat):Int):=by omega
  have hsl:List.drop (a+k+k2) (List.take (a+k+k2+n2) b)=List.take n2 (List.drop (a+k+k2) b):=by rw[List.drop_take];congr 1;omega
  simp(maxSteps:=9^6)-dsimp only[go_sem,yI,hw,es,Int.toNat_natCast,hsl]
  refine ⟨by omega,by omega,by omega,by omega,?_⟩
  exact fin _ _ _ _ _ rfl
def AD:PC:=.seq (.seq (.gh (.reg [.v 10 6,.q 11 (.bin .lss true (.t 10) (.i 0))])) (.cond (.t 11) (.seq (.reg [.q 12 (.bd [(.int .i64 0),(.int .i64 0),(.string (mk [])),(.slice none 0 0),(.slice none 0 0)] []),.s (.st 5 (.t 4) (.t 12)),.q 5 (.mv (.k (.bool false)))]) .ret) .skip)) (.seq (.reg [.q 13 (.fa 4 (.t 2)),.l 14 (.ld1 (.t 13)),.v 15 6,.l 16 (.ia 6 (.t 14) (.t 15)),.q 17 (.fa 1 (.t 16)),.l 18 (.ldn 5 (.t 17)),.a 19 (.cl 81 [(.t 18)] []),.s (.st 5 (.t 4) (.t 19)),.q 5 (.mv (.k (.bool true)))]) .ret)
@[go_sem ↓] theorem aU0:aM AD:=aN _
def TT:PC:=.seq (.reg [.e 2 (.bx 29 (.t 0)),.e 4 (.al (.agg cS) 29),.q 5 (.mv (.k (.bool false)))]) (.seq (.reg [.l 7 (.ldn 5 (.t 2)),.v 8 1,.a 9 (.cq 80 [(.t 7),(.t 8)]),.v 6 9]) (AD))
def TW:List RV:=[.ld (.ldn 5 (.t 4)),.mv (.t 5)]
theorem aWA:aO Tryz.prog true ⟨fun r k=>if r=1/\k=2 then .q else .own [],fun r=>[2].contains r⟩ Tryz.f43=some (TT,TW):=by kernel_rfl
def aDQ:PC:=.seq (.reg [.e 2 (.bx 29 (.t 0)),.e 3 (.bx 29 (.t 1)),.q 4 (.mv (.k (.bool false)))]) (.seq (.reg [.l 5 (.ldn 5 (.t 2)),.l 6 (.ldn 5 (.t 3)),.a 7 (.cl 82 [(.t 5),(.t 6)] []),.q 8 (.bin .eql true (.t 7) (.i 0)),.v 4 8]) .ret)
def aI7:List RV:=[.mv (.t 4)]
theorem aU6:aO Tryz.prog true ⟨fun r k=>if r=1/\k=2 then .own [] else .own [],fun _=>false⟩ Tryz.f44=some (aDQ,aI7):=by kernel_rfl
def aG7:PC:=.seq (.reg [.e 2 (.bx 29 (.t 0)),.e 3 (.bx 3 (.t 1)),.q 4 (.mv (.i 0))]) (.seq (.seq (.reg [.q 5 (.fa 0 (.t 2)),.l 6 (.ld1 (.t 5)),.q 7 (.bin .neq true (.t 6) (.i 6))]) (.cond (.t 7) (.seq (.reg [.q 4 (.mv (.i (-1)))]) .ret) .skip)) (.seq (.reg [.q 8 (.fa 4 (.t 2)),.l 9 (.ld1 (.t 8)),.q 10 (.mf 118 [(.t 3)]),.a 11 (.cl 117 [(.t 9),(.t 10)] [1]),.v 4 11]) .ret))
def aF2:List RV:=[.mv (.t 4)]
theorem aTL:aO Tryz.prog true ⟨fun r k=>if r=3/\k=3 then .own [1] else .own [],fun _=>false⟩ Tryz.f80=some (aG7,aF2):=by kernel_rfl
def aJG:PC:=.seq (.reg [.e 1 (.bx 29 (.t 0)),.e 2 (.al (.agg cS) 29)]) (.seq (.reg [.q 9 (.fa 3 (.t 1)),.l 10 (.ld1 (.t 9)),.q 11 (.fa 4 (.t 1)),.l 12 (.ld1 (.t 11)),.v 3 10,.v 4 12]) (.seq (.reg [.q 13 (.fa 3 (.t 1)),.s (.st 1 (.t 13) (.k (.slice none 0 0))),.q 14 (.fa 4 (.t 1)),.s (.st 1 (.t 14) (.k (.slice none 0 0)))]) (.seq (.seq (.reg [.v 15 3,.q 16 (.lnL (.t 15)),.q 17 (.mv (.i 0))]) (.block 0 (.loop (.seq (.reg [.q 18 (.bin .lss true (.t 17) (.t 16))]) (.seq (.cond (.t 18) .skip (.exit 0)) (.seq (.block 1 (.seq (.reg [.l 19 (.ia 5 (.t 15) (.t 17)),.l 20 (.ldn 5 (.t 19)),.e 6 (.al (.agg cS) 29),.s (.st 5 (.t 6) (.t 20))]) (.ord  [.q (.q 21 (.fa 3 (.t 1))),.q (.l 22 (.ld1 (.t 21))),.q (.l 23 (.ldn 5 (.t 6))),.m (.a 24 (.cl 81 [(.t 23)] [])),.rc (.q 21 (.fa 3 (.t 1))),.rc (.l 22 (.ld1 (.t 21))),.m (.e 25 (.bsl 29 5 [(.t 24)])),.rc (.q 21 (.fa 3 (.t 1))),.rc (.l 22 (.ld1 (.t 21))),.m (.e 26 (.ap 29 5 80 (.t 22) (.t 25))),.q (.q 27 (.fa 3 (.t 1))),.m (.s (.st 1 (.t 27) (.t 26)))]))) (.reg [.q 28 (.bin .add true (.t 17) (.i 1)),.v 17 28]))))))) (.seq (.seq (.reg [.v 29 4,.q 30 (.lnL (.t 29)),.q 31 (.mv (.i 0))]) (.block 2 (.loop (.seq (.reg [.q 32 (.bin .lss true (.t 31) (.t 30))]) (.seq (.cond (.t 32) .skip (.exit 2)) (.seq (.block 3 (.seq (.reg [.l 33 (.ia 6 (.t 29) (.t 31)),.l 34 (.ldn 6 (.t 33)),.e 8 (.al (.agg #[(.int .i64 0),(.int .i64 0),(.int .i64 0),(.string (mk [])),(.slice none 0 0),(.slice none 0 0)]) 76),.s (.st 6 (.t 8) (.t 34))]) (.ord  [.q (.q 35 (.fa 4 (.t 1))),.q (.l 36 (.ld1 (.t 35))),.q (.q 37 (.fa 0 (.t 8))),.q (.l 38 (.ld1 (.t 37))),.q (.q 39 (.fa 1 (.t 8))),.q (.l 40 (.ldn 5 (.t 39))),.m (.a 41 (.cl 81 [(.t 40)] [])),.rc (.q 35 (.fa 4 (.t 1))),.rc (.l 36 (.ld1 (.t 35))),.rc (.q 37 (.fa 0 (.t 8))),.rc (.l 38 (.ld1 (.t 37))),.q (.q 42 (.bd [(.int .i64 0),(.int .i64 0),(.int .i64 0),(.string (mk [])),(.slice none 0 0),(.slice none 0 0)] [(0,1,(.t 38)),(1,5,(.t 41))])),.m (.e 43 (.bsl 76 6 [(.t 42)])),.rc (.q 35 (.fa 4 (.t 1))),.rc (.l 36 (.ld1 (.t 35))),.m (.e 44 (.ap 76 6 88 (.t 36) (.t 43))),.q (.q 45 (.fa 4 (.t 1))),.m (.s (.st 1 (.t 45) (.t 44)))]))) (.reg [.q 46 (.bin .add true (.t 31) (.i 1)),.v 31 46]))))))) (.seq (.reg [.l 47 (.ldn 5 (.t 1)),.s (.st 5 (.t 2) (.t 47))]) .ret)))))
def aIL:List RV:=[.ld (.ldn 5 (.t 2))]
theorem aS7:aO Tryz.prog true ⟨fun _ _=>.own [],fun _=>false⟩ Tryz.f81=some (aJG,aIL):=by kernel_rfl
def BF:PC:=.seq (.gh (.reg [.q 41 (.fa 4 (.t 2)),.l 42 (.ld1 (.t 41)),.q 43 (.fa 4 (.t 3)),.l 44 (.ld1 (.t 43)),.a 45 (.cl 123 [(.t 42),(.t 44),(.f 124)] []),.v 4 45])) .ret
@[go_sem ↓] theorem aPW:aM BF:=aN _
def C3:PC:=.seq (.seq (.gh (.reg [.q 33 (.fa 3 (.t 2)),.l 34 (.ld1 (.t 33)),.q 35 (.fa 3 (.t 3)),.l 36 (.ld1 (.t 35)),.a 37 (.cl 122 [(.t 34),(.t 36),(.f 82)] []),.v 8 37])) (.seq (.reg [.v 38 8,.q 39 (.bin .neq true (.t 38) (.i 0))]) (.cond (.t 39) (.seq (.reg [.v 40 8,.v 4 40]) .ret) .skip))) (BF)
@[go_sem ↓] theorem aP7:aM C3:=aN _
def GH:PC:=.seq (.seq (.gh (.reg [.q 25 (.fa 2 (.t 2)),.l 26 (.ld1 (.t 25)),.q 27 (.fa 2 (.t 3)),.l 28 (.ld1 (.t 27)),.a 29 (.cq 121 [(.t 26),(.t 28)]),.v 7 29])) (.seq (.reg [.v 30 7,.q 31 (.bin .neq true (.t 30) (.i 0))]) (.cond (.t 31) (.seq (.reg [.v 32 7,.v 4 32]) .ret) .skip))) (C3)
@[go_sem ↓] theorem aVW:aM GH:=aN _
def JY:PC:=.seq (.seq (.gh (.reg [.q 17 (.fa 1 (.t 2)),.l 18 (.ld1 (.t 17)),.q 19 (.fa 1 (.t 3)),.l 20 (.ld1 (.t 19)),.a 21 (.cq 120 [(.t 18),(.t 20)]),.v 6 21])) (.seq (.reg [.v 22 6,.q 23 (.bin .neq true (.t 22) (.i 0))]) (.cond (.t 23) (.seq (.reg [.v 24 6,.v 4 24]) .ret) .skip))) (GH)
@[go_sem ↓] theorem aT9:aM JY:=aN _
def aKW:PC:=.seq (.reg [.e 2 (.bx 29 (.t 0)),.e 3 (.bx 29 (.t 1)),.q 4 (.mv (.i 0))]) (.seq (.seq (.reg [.q 9 (.fa 0 (.t 2)),.l 10 (.ld1 (.t 9)),.q 11 (.fa 0 (.t 3)),.l 12 (.ld1 (.t 11)),.a 13 (.cq 119 [(.t 10),(.t 12)]),.v 5 13]) (.seq (.reg [.v 14 5,.q 15 (.bin .neq true (.t 14) (.i 0))]) (.cond (.t 15) (.seq (.reg [.v 16 5,.v 4 16]) .ret) .skip))) (JY))
def aG2:List RV:=[.mv (.t 4)]
theorem aSA:aO Tryz.prog true ⟨fun r k=>if r=1/\k=4 then .q else if r=4/\k=4 then .q else if r=7/\k=4 then .q else .own [],fun r=>[4,7,10,13].contains r⟩ Tryz.f82=some (aKW,aG2):=by kernel_rfl
def V7:PC:=.seq (.reg [.e 2 (.bx 76 (.t 0)),.q 3 (.mv (.k (.bool false)))]) (.seq (.reg [.q 4 (.fa 0 (.t 2)),.l 5 (.ld1 (.t 4)),.l 6 (.ld1 (.t 1)),.q 7 (.bin .eql true (.t 5) (.t 6)),.v 3 7]) .ret)
def Y7:List RV:=[.mv (.t 3)]
theorem aM8:aO Tryz.prog true ⟨fun _ _=>.own [],fun _=>false⟩ Tryz.f118=some (V7,Y7):=by kernel_rfl
def Z8:PC:=.seq (.reg [.q 4 (.mv (.i 0))]) (.seq (.block 0 (.seq (.reg [.v 6 0,.v 7 1,.q 8 (.bin .lss true (.t 6) (.t 7)),.v 5 8]) (.cond (.t 5) (.seq (.reg [.q 4 (.mv (.i (-1)))]) .ret) (.seq (.reg [.v 10 0,.v 11 1,.q 12 (.bin .gtr true (.t 10) (.t 11)),.v 9 12]) (.cond (.t 9) (.seq (.reg [.q 4 (.mv (.i 1))]) .ret) .skip))))) (.seq (.reg [.q 4 (.mv (.i 0))]) .ret))
def ZJ:List RV:=[.mv (.t 4)]
theorem aO6:aO Tryz.prog true ⟨fun _ _=>.own [],fun _=>false⟩ Tryz.f119=some (Z8,ZJ):=by kernel_rfl
def aAP:PC:=.seq (.reg [.q 4 (.mv (.i 0))]) (.seq (.block 0 (.seq (.reg [.v 6 0,.v 7 1,.q 8 (.bin .lss true (.t 6) (.t 7)),.v 5 8]) (.cond (.t 5) (.seq (.reg [.q 4 (.mv (.i (-1)))]) .ret) (.seq (.reg [.v 10 0,.v 11 1,.q 12 (.bin .gtr true (.t 10) (.t 11)),.v 9 12]) (.cond (.t 9) (.seq (.reg [.q 4 (.mv (.i 1))]) .ret) .skip))))) (.seq (.reg [.q 4 (.mv (.i 0))]) .ret))
def W4:List RV:=[.mv (.t 4)]
theorem aO1:aO Tryz.prog true ⟨fun _ _=>.own [],fun _=>false⟩ Tryz.f120=some (aAP,W4):=by kernel_rfl
def XU:PC:=.seq (.reg [.q 6 (.mv (.i 0))]) (.seq (.seq (.reg [.v 11 0,.q 12 (.lnL (.t 11)),.q 13 (.mv (.i 0))]) (.block 0 (.loop (.seq (.reg [.q 14 (.bin .lss true (.t 13) (.t 12))]) (.seq (.cond (.t 14) .skip (.exit 0)) (.seq (.block 1 (.seq (.reg [.v 15 13,.l 16 (.ia 5 (.t 11) (.t 13)),.l 17 (.ldn 5 (.t 16)),.e 8 (.al (.agg cS) 29),.v 7 15,.s (.st 5 (.t 8) (.t 17))]) (.seq (.seq (.reg [.v 18 7,.v 19 1,.q 20 (.lnL (.t 19)),.q 21 (.bin .geq true (.t 18) (.t 20))]) (.cond (.t 21) (.seq (.reg [.q 6 (.mv (.i 1))]) .ret) .skip)) (.seq (.reg [.v 22 1,.v 23 7,.l 24 (.ia 5 (.t 22) (.t 23)),.l 25 (.ldn 5 (.t 24)),.e 9 (.al (.agg cS) 29),.s (.st 5 (.t 9) (.t 25))]) (.seq (.reg [.v 26 2,.l 27 (.ldn 5 (.t 8)),.l 28 (.ldn 5 (.t 9)),.a 29 (.ca (.t 26) [(.t 27),(.t 28)] []),.v 10 29]) (.seq (.reg [.v 30 10,.q 31 (.bin .neq true (.t 30) (.i 0))]) (.cond (.t 31) (.seq (.reg [.v 32 10,.v 6 32]) .ret) .skip))))))) (.reg [.q 33 (.bin .add true (.t 13) (.i 1)),.v 13 33]))))))) (.seq (.seq (.reg [.v 34 0,.q 35 (.lnL (.t 34)),.v 36 1,.q 37 (.lnL (.t 36)),.q 38 (.bin .lss true (.t 35) (.t 37))]) (.cond (.t 38) (.seq (.reg [.q 6 (.mv (.i (-1)))]) .ret) .skip)) (.seq (.reg [.q 6 (.mv (.i 0))]) .ret)))
def VK:List RV:=[.mv (.t 6)]
theorem aPM:aO Tryz.prog true ⟨fun _ _=>.own [],fun _=>false⟩ Tryz.f122=some (XU,VK):=by kernel_rfl
def Z4:PC:=.seq (.reg [.q 6 (.mv (.i 0))]) (.seq (.seq (.reg [.v 11 0,.q 12 (.lnL (.t 11)),.q 13 (.mv (.i 0))]) (.block 0 (.loop (.seq (.reg [.q 14 (.bin .lss true (.t 13) (.t 12))]) (.seq (.cond (.t 14) .skip (.exit 0)) (.seq (.block 1 (.seq (.reg [.v 15 13,.l 16 (.ia 6 (.t 11) (.t 13)),.l 17 (.ldn 6 (.t 16)),.e 8 (.al (.agg #[(.int .i64 0),(.int .i64 0),(.int .i64 0),(.string (mk [])),(.slice none 0 0),(.slice none 0 0)]) 76),.v 7 15,.s (.st 6 (.t 8) (.t 17))]) (.seq (.seq (.reg [.v 18 7,.v 19 1,.q 20 (.lnL (.t 19)),.q 21 (.bin .geq true (.t 18) (.t 20))]) (.cond (.t 21) (.seq (.reg [.q 6 (.mv (.i 1))]) .ret) .skip)) (.seq (.reg [.v 22 1,.v 23 7,.l 24 (.ia 6 (.t 22) (.t 23)),.l 25 (.ldn 6 (.t 24)),.e 9 (.al (.agg #[(.int .i64 0),(.int .i64 0),(.int .i64 0),(.string (mk [])),(.slice none 0 0),(.slice none 0 0)]) 76),.s (.st 6 (.t 9) (.t 25))]) (.seq (.reg [.v 26 2,.l 27 (.ldn 6 (.t 8)),.l 28 (.ldn 6 (.t 9)),.a 29 (.ca (.t 26) [(.t 27),(.t 28)] []),.v 10 29]) (.seq (.reg [.v 30 10,.q 31 (.bin .neq true (.t 30) (.i 0))]) (.cond (.t 31) (.seq (.reg [.v 32 10,.v 6 32]) .ret) .skip))))))) (.reg [.q 33 (.bin .add true (.t 13) (.i 1)),.v 13 33]))))))) (.seq (.seq (.reg [.v 34 0,.q 35 (.lnL (.t 34)),.v 36 1,.q 37 (.lnL (.t 36)),.q 38 (.bin .lss true (.t 35) (.t 37))]) (.cond (.t 38) (.seq (.reg [.q 6 (.mv (.i (-1)))]) .ret) .skip)) (.seq (.reg [.q 6 (.mv (.i 0))]) .ret)))
def aAG:List RV:=[.mv (.t 6)]
theorem aLV:aO Tryz.prog true ⟨fun _ _=>.own [],fun _=>false⟩ Tryz.f123=some (Z4,aAG):=by kernel_rfl
def CS:PC:=.seq (.gh (.reg [.q 14 (.fa 1 (.t 2)),.l 15 (.ldn 5 (.t 14)),.q 16 (.fa 1 (.t 3)),.l 17 (.ldn 5 (.t 16)),.a 18 (.cl 82 [(.t 15),(.t 17)] []),.v 4 18])) .ret
@[go_sem ↓] theorem aQ2:aM CS:=aN _
def XI:PC:=.seq (.reg [.e 2 (.bx 76 (.t 0)),.e 3 (.bx 76 (.t 1)),.q 4 (.mv (.i 0))]) (.seq (.seq (.reg [.q 6 (.fa 0 (.t 2)),.l 7 (.ld1 (.t 6)),.q 8 (.fa 0 (.t 3)),.l 9 (.ld1 (.t 8)),.a 10 (.cq 119 [(.t 7),(.t 9)]),.v 5 10]) (.seq (.reg [.v 11 5,.q 12 (.bin .neq true (.t 11) (.i 0))]) (.cond (.t 12) (.seq (.reg [.v 13 5,.v 4 13]) .ret) .skip))) (CS))
def ZF:List RV:=[.mv (.t 4)]
theorem aMH:aO Tryz.prog true ⟨fun r k=>if r=1/\k=4 then .q else if r=4/\k=4 then .own [] else .own [],fun r=>[4].contains r⟩ Tryz.f124=some (XI,ZF):=by kernel_rfl
end Go.Proofs.YthpbnmebjocbeaaGreat
