/- Lemmas and walks for the proof. -/
import Derived.Test.YthpbnmebjocbeaaGreatEd
import Derived.Test.YthpbnmebjocbeaaGreatProg
import Derived.Shelf.Small.Strs
set_option maxRecDepth 100000
set_option maxHeartbeats 8000000
namespace Go.Proofs.YthpbnmebjocbeaaGreat
open Go.W
theorem ET:TyOk default:=.mk (by unfold bR; decide) (by unfold bR; decide) (by decide) (by decide) (fun _ h=>by cases h)
theorem aFI {fs:List Fl} {u:St} (hu:u.ok) (e:fs=u.fs) (k:Int):TyOk ((fF fs k).getD default).ty:=by
 subst e
 cases hf:fF u.fs k with
 | none=>exact ET
 | some g=>exact (hu.fs g (List.mem_of_find?_eq_some hf)).ty
theorem NX (N:Nat) (hc:Meets Tryz.prog 42 (fN (uD N) V5).sp):Meets Tryz.prog 79 (fN (fun _ _ v=>v.h<=N + 1) fun s t v=>.int .i64 (K8 s t v)).sp:=by
 refine aF Tryz.func79 aPQ 3 (by rw [Tryz.ntmps79]; decide) (aG hc (aE kB (aG aCX (aE qT (aA _))))) eE ?_
 intro av H K h
 obtain ⟨s,t,v,rfl,rfl,hs,ht,hv,hh,hK⟩:=cW h
 clear h
 have fin:∀ (z:Int) (R:Hp),K8 s t v=z->W.Fin 0 K (iS .i64 z) R:=fun z R h=>by
  rw [h] at hK; exact .sel [] (by simp) (by simp) rfl (.done (by simpa [go_sem] using hK))
 clear hK
 unfold K8 at fin
 have hlf:=hv.lf
 have kS:=FW hs t.n
 have kE:=XS hv
 simp (maxSteps:=1000000) -dsimp only [go_sem,aC,aM t,aJ v,aCV,aEF]
 refine eO (s:=s) hs ?_
 generalize (fS s.ss t.n).getD default=u at *
 obtain ⟨huo,hus⟩:u.ok/\∀ f ∈ u.fs,TySm f.ty:=by
  obtain ⟨w,hw,h1,h2⟩:=kS
  obtain rfl:=sV hw
  exact ⟨h1,h2⟩
 have kd:=wT u
 have kv:=aD4 v.f
 rw [aH] at kS kd
 simp (maxSteps:=1000000) -dsimp only [go_sem,aH]
 refine aB rfl (.done ?_)
 cases h0:(v.n != 0 || !(bl v.s == []) || decide (0 < (v.l.length:Int)) || !(dF u.fs v.f)) with
 | true=>
  rw [h0] at fin
  cases h1:v.n != 0<;>cases h2:bl v.s == []<;>cases h3:decide (0 < (v.l.length:Int))<;>cases h4:dF u.fs v.f <;>
  first
   | (exfalso; rw [h1,h2,h3,h4] at h0; exact absurd h0 (by decide))
   | (simp (maxSteps:=1000000) -dsimp only [go_sem,yP,h1,h2,h3,h4,kS,kE,kd]
      exact fin _ _ rfl)
 | false=>
 rw [h0] at fin
 simp only [aY] at fin
 obtain ⟨h1,h2,h3,h4⟩:(v.n != 0)=false/\(bl v.s == [])=true/\decide (0 < (v.l.length:Int))=false/\dF u.fs v.f=true:=by
  simp only [Bool.or_eq_false_iff,Bool.not_eq_false'] at h0; exact ⟨h0.1.1.1,h0.1.1.2,h0.1.2,h0.2⟩
 simp (maxSteps:=1000000) -dsimp only [go_sem,yP,h1,h2,h3,h4,kS,kE,kd]
 refine aL (α:=Nat) (fun i=>[(3,.va (.c1 (.pt 0 0))),(4,.va (.c1 (.pt 1 0))),(5,.va (.c1 (.pt 2 0))),(7,.va (.c1 (.pt 3 0))),(44,.va (.c1 (.fz (v.f.map a8)))),(45,iS .i64 v.f.length),(46,iS .i64 i)]) (fun _=>[.cells (aC s) 93,.cells [.vl (.int .i64 t.k),.vl (.int .i64 t.s),.vl (.string t.n),.fz (t.e.map aQ)] 42,.cells (bL v) 29,.cells (aH u) 48])
  (fun i=>i<=v.f.length/\jU s u.fs (v.f.drop i)=jU s u.fs v.f) (fun i=>v.f.length - i) 0 4 ⟨Nat.zero_le _,rfl⟩ ?_ ?_ ?_
 · simp -dsimp only [go_sem]<;>simp
 · simp -dsimp only [go_sem,bL,aC,aH]<;>simp
 rintro i ⟨hi,ho⟩
 rcases a7 i v.f.length with hlt | hge
 · have hg:decide ((i:Int) < (v.f.length:Int))=true:=by simp; omega
   obtain ⟨x,hx⟩:∃ t,v.f[i]? = some t:=⟨_,aU hlt⟩
   have q1:=gT hx
   have hxm:=bV hx
   have k1:=b9 (hv.f x hxm)
   have k2:=dS x.2
   have k3:x.2.h<=N:=by have:=Vl.h_f hxm; omega
   have hdr:v.f.drop i=x :: v.f.drop (i + 1):=by
    obtain ⟨h,rfl⟩:=bE.1 hx
    exact List.drop_eq_getElem_cons h
   have k6:=cV hs
   have k7:=fY s
   rw [hdr,EE] at ho
   have hgo:=aFI huo rfl x.1
   simp (maxSteps:=1000000) -dsimp only [go_sem,hg,↓q1,bL,aC,aH]
   refine ⟨by omega,aB rfl (.done ?_)⟩
   simp (maxSteps:=1000000) -dsimp only [go_sem,G0]
   refine zW (t:=u) huo hus ?_
   generalize (fF u.fs x.1).getD default=g at *
   have k4:=dO hgo
   have k5:=gO g.ty
   simp (maxSteps:=1000000) -dsimp only [go_sem,aN]
   refine aB rfl (.done ?_)
   simp (maxSteps:=1000000) -dsimp only [go_sem,EK,k1,k2,k3,k4,k5,k6,k7]
   refine aB rfl (.done ?_)
   cases h5:d9 s g.ty x.2 != 0 with
   | true=>
    rw [h5,bB] at ho
    simp (maxSteps:=1000000) -dsimp only [go_sem,yT,h5]
    exact fin _ _ ho.symm
   | false=>
    rw [h5,aY] at ho
    simp (maxSteps:=1000000) -dsimp only [go_sem,yT,h5]
    refine ⟨by omega,aD (i + 1) 4 ⟨by omega,ho⟩ (by omega) ?_ ?_⟩
    · simp -dsimp only [go_sem]<;>simp
    · simp -dsimp only [go_sem,bL,aC,aH]<;>simp [bL,aC,aH]
 · have hg:decide ((i:Int) < (v.f.length:Int))=false:=by simp; omega
   obtain rfl:i=v.f.length:=by omega
   rw [List.drop_length,jU] at ho
   simp (maxSteps:=1000000) -dsimp only [go_sem,hg,bL,aC,aH]
   exact fin _ _ ho.symm
theorem BG:∀ N,Meets Tryz.prog 42 (fN (uD N) V5).sp
 | 0=>⟨by kernel_rfl,by rintro xs vs E ro w K _ _ _ h; obtain ⟨_,_,v,_,_,_,_,_,h,_⟩:=cW h; have:=v.h_pos; have h:v.h<=0:=h; omega⟩
 | N + 1=>by
  refine aF Tryz.func42 aQU 3 (by rw [Tryz.ntmps42]; decide) (aG uE (aG Q5 (aG aGD (aG (aEI N (BG N)) (aG (NX N (BG N)) (aA _)))))) eE ?_
  intro av H K h
  obtain ⟨s,t,v,rfl,rfl,hs,ht,hv,hh,hK⟩:=cW h
  clear h
  have hh:v.h<=N + 1:=hh
  have fin:∀ (z:Int) (R:Hp),d9 s t v=z->W.Fin 0 K (iS .i64 z) R:=fun z R h=>by
   have hK:K (iS .i64 (d9 s t v)) []:=hK
   rw [h] at hK; exact .sel [] (by simp) (by simp) rfl (.done (by simpa [go_sem] using hK))
  clear hK
  rw [MC] at fin
  have k1:=b9 hv
  have k2:=dS v
  have k4:=dO ht
  have k5:=gO t
  have k6:=cV hs
  have k7:=fY s
  cases h1:valF s.ss s.es t with
  | false=>
   rw [h1] at fin
   simp (maxSteps:=1000000) -dsimp only [go_sem,aC,aM t,aJ v,wD,uI,k4,k5,k6,k7,h1]
   exact fin _ _ rfl
  | true=>
  cases h2:v.k != t.k with
  | true=>
   rw [h1,h2] at fin
   simp (maxSteps:=1000000) -dsimp only [go_sem,aC,aM t,aJ v,wD,uI,k4,k5,k6,k7,h1,h2]
   exact fin _ _ rfl
  | false=>
  rw [h1,h2] at fin
  simp only [Bool.not_true,Bool.or_self,aY] at fin
  cases h4:t.k == 4 with
  | true=>
   rw [h4,bB] at fin
   simp (maxSteps:=1000000) -dsimp only [go_sem,aC,aM t,aJ v,wD,uI,k1,k2,k4,k5,k6,k7,h1,h2,h4,List.all_cons,List.all_nil]
   exact fin _ _ rfl
  | false=>
  rw [h4,aY] at fin
  cases h5:t.k == 5 with
  | true=>
   rw [h5,bB] at fin
   simp (maxSteps:=1000000) -dsimp only [go_sem,aC,aM t,aJ v,wD,uI,k1,k2,k4,k5,k6,k7,h1,h2,h4,h5,hh,List.all_cons,List.all_nil]
   exact fin _ _ rfl
  | false=>
  rw [h5,aY] at fin
  cases h6:t.k == 6 with
  | true=>
   rw [h6,bB] at fin
   simp (maxSteps:=1000000) -dsimp only [go_sem,aC,aM t,aJ v,wD,uI,k1,k2,k4,k5,k6,k7,h1,h2,h4,h5,h6,hh,List.all_cons,List.all_nil]
   exact fin _ _ rfl
  | false=>
  rw [h6,aY] at fin
  simp (maxSteps:=1000000) -dsimp only [go_sem,aC,aM t,aJ v,wD,uI,k1,k2,k4,k5,k6,k7,h1,h2,h4,h5,h6,List.all_cons,List.all_nil]
  exact fin _ _ rfl
def jJ (s:Sc) (t:Ty) (v:Vl):Int:=bif decide (6 < qP 7 v) then 9 else d9 s t v
theorem YD:Meets Tryz.prog 42 (fN (fun _ _ _=>True) V5).sp:=dI 0 BG fun av H K h=>by
 obtain ⟨s,t,v,rfl,rfl,hs,ht,hv,_,hK⟩:=cW h
 refine ⟨v.h,⟨⟨eV hs,fB ht,IQ hv,?_⟩,rfl⟩,?_⟩
 · show (C.vv (aP v)).h<=v.h; rw [fI]; exact Nat.le_refl _
 · simpa -dsimp only [go_sem] using hK
theorem YI:Meets Tryz.prog 24 (fN (fun _ _ _=>True) fun s t v=>.int .i64 (jJ s t v)).sp:=by
 refine aF Tryz.func24 aOH 3 (by rw [Tryz.ntmps24]; decide) (aG (J7 8) (aG YD (aA _))) eE ?_
 intro av H K h
 obtain ⟨s,t,v,rfl,rfl,hs,ht,hv,_,hK⟩:=cW h
 clear h
 have fin:∀ (z:Int) (R:Hp),jJ s t v=z->W.Fin 0 K (iS .i64 z) R:=fun z R h=>by
  rw [h] at hK; exact .sel [] (by simp) (by simp) rfl (.done (by simpa [go_sem] using hK))
 clear hK
 unfold jJ at fin
 have k1:=b9 hv
 have k2:=dS v
 have k4:=dO ht
 have k5:=gO t
 have k6:=cV hs
 have k7:=fY s
 have e8:((6:Int)=((8:Nat):Int) - 2)=True:=by decide
 have e9:gZ 8 v=qP 7 v:=rfl
 cases h1:decide (6 < qP 7 v) with
 | true=>
  rw [h1] at fin
  simp (maxSteps:=1000000) -dsimp only [go_sem,aC,aM t,aJ v,RR,RC,k1,k2,e8,e9,h1]
  exact fin _ _ rfl
 | false=>
  rw [h1] at fin
  simp (maxSteps:=1000000) -dsimp only [go_sem,aC,aM t,aJ v,RR,RC,k1,k2,k4,k5,k6,k7,e8,e9,h1]
  exact fin _ _ rfl
structure Told (l:List UInt8) (p:Nat) (k:Int) (x:List UInt8) (n:Int) (z:Nat):Prop where
 zero:k=0->p=l.length/\x=[]/\n=0
 one:k ≠ 0->∃ c,l[p]? = some c/\p < z/\z<=l.length/\0 < k/\k<=4/\32 < c.toNat/\c.toNat ≠ 35/\(c == 34)=(k == 3)/\(k == 1)=b8 c.toNat
def Got:R->ByteArray->Int->Int->Int->Int->Prop
 | .ok _ x n z,x',n',z',e',t'=>x'=mk x/\n'=n/\z'=z/\e'=0/\t'=0
 | .bad e t,_,_,_,e',t'=>e'=e/\t'=t
theorem Got.bad {r:R} {e t:Int} (h:r=.bad e t) {x:ByteArray} {n z:Int}:Got r x n z e t:=by subst h; exact ⟨rfl,rfl⟩
theorem Got.ok {r:R} {k:Int} {x:List UInt8} {n:Int} {z:Nat} (h:r=.ok k x n z):Got r (mk x) n z 0 0:=by subst h; exact ⟨rfl,rfl,rfl,rfl,rfl⟩
structure Ends (ts:List Tk):Prop where
 pos:0 < ts.length
 le:ts.length<=4001
 last:∀ (i:Nat) (t:Tk),ts[i]? = some t->(t.k=0 ↔ i + 1=ts.length)
def c8 (ts:List Tk) (n:Nat):Nat:=if n + 1 < ts.length then n + 1 else n
def u4 (k:Int) (w:List UInt8) (t:Tk):Bool:=t.k == k && t.x == w
def P5 (n:Nat):List UInt8:=(if h:n < 10 then [] else P5 (n / 10)) ++ [(48 + n % 10).toUInt8]
 termination_by n
 decreasing_by omega
def aOD (n:Int):List UInt8:=bif decide (n < 0) then 45 :: P5 n.natAbs else P5 n.natAbs
def aPA (c:UInt8):List UInt8:=bif c == 34 || c == 92 then [92,c] else [c]
def aNY (l:List UInt8):List UInt8:=34 :: l.flatMap aPA ++ [34]
def Z9 (c:UInt8):Bool:=decide (32<=c) && decide (c<=126)
def okK (k:Int) (x:List UInt8) (n:Int):Bool:=
 bif k == 1 then n == 0 && cJ x else bif k == 2 then x == [] else bif k == 3 then n == 0 && (decide (x.length<=200) && x.all Z9) else bif k == 4 then n == 0 && (match x with | [c]=>wI c.toNat | _=>false) else false
structure Tx where
 k:Int
 x:List UInt8
 n:Int
 a:Int
structure TkFit (t:Tx):Prop where
 lo:-9223372036854775808<=t.n
 hi:t.n<=9223372036854775807
 len:t.x.length<=100000
structure Fs where
 bad:Bool
 off:Int
 n:Nat
instance:Inhabited Tk:=⟨⟨0,[],0,0⟩⟩
def gM (ts:List Tk) (n:Nat):Tk:=ts.getD n default
structure Tks (ts:List Tk):Prop where
 e:Ends ts
 n:∀ t ∈ ts,bR t.n
 x:∀ t ∈ ts,t.x.length<=4000
 a:∀ t ∈ ts,t.a<=4000
def iR (ts:List Tk) (z:Fs):Fs:=bif z.bad then z else ⟨true,(gM ts z.n).a,z.n⟩
def jL (w:List UInt8) (ts:List Tk) (z:Fs):Bool:=!z.bad && u4 4 w (gM ts z.n)
def s8 (w:List UInt8) (ts:List Tk) (z:Fs):Fs:=bif jL w ts z then ⟨false,z.off,c8 ts z.n⟩ else z
def fD (w:List UInt8) (ts:List Tk) (z:Fs):Fs:=bif jL w ts z then ⟨false,z.off,c8 ts z.n⟩ else iR ts z
def lW (k:Int) (ts:List Tk) (z:Fs):Bool:=!z.bad && (gM ts z.n).k == k
def SD (k:Int) (ts:List Tk) (z:Fs):Tk:=bif lW k ts z then gM ts z.n else default
def UK (k:Int) (ts:List Tk) (z:Fs):Fs:=bif lW k ts z then ⟨false,z.off,c8 ts z.n⟩ else iR ts z
theorem FD {ts:List Tk} {n:Nat} (h:n < ts.length):ts[n]? = some (gM ts n):=by simp [gM,List.getD_eq_getElem?_getD,aU h]
def UG:List UInt8:=[116,114,117,101]
def MN:List UInt8:=[102,97,108,115,101]
def aJC (ts:List Tk) (z:Fs):Vl × Fs:=
 bif !z.bad && u4 1 UG (gM ts z.n) then (.mk 1 1 (mk []) [] [],⟨false,z.off,c8 ts z.n⟩)
 else bif !z.bad && u4 1 MN (gM ts z.n) then (.mk 1 0 (mk []) [] [],⟨false,z.off,c8 ts z.n⟩)
 else (.mk 1 0 (mk []) [] [],iR ts z)
def aPW (k:Int) (ts:List Tk) (z:Fs):Vl × Fs:=(.mk k (SD 2 ts z).n (mk []) [] [],UK 2 ts z)
def aHK (ts:List Tk) (z:Fs):Vl × Fs:=(.mk 4 0 (mk (SD 3 ts z).x) [] [],UK 3 ts z)
def QB (e:En) (ts:List Tk) (z:Fs):Int:=bif !z.bad && (gM ts z.n).k == 1 then oA e.ns (mk (gM ts z.n).x) 0 else -1
def aIJ (e:En) (ts:List Tk) (z:Fs):Vl × Fs:=
 bif decide (QB e ts z < 0) || decide ((e.vs.length:Int)<=QB e ts z) then (.mk 7 0 (mk []) [] [],iR ts z)
 else (.mk 7 (e.vs.getD (QB e ts z).toNat 0) (mk []) [] [],⟨false,z.off,c8 ts z.n⟩)
abbrev IC:Type:=Sc->List Tk->Ty->Fs->Vl × Fs
def y4 {α:Type} (one:α->Fs->α × Fs) (ts:List Tk):Nat->α->Fs->α × Fs
 | 0,a,z=>(a,z)
 | f + 1,a,z=>bif z.bad then (a,z) else bif jL [44] ts (one a z).2 then y4 one ts f (one a z).1 (s8 [44] ts (one a z).2) else one a z
theorem NO {α:Type} (one:α->Fs->α × Fs) (ts:List Tk) (f:Nat) (a:α) (z:Fs):y4 one ts (f + 1) a z=bif z.bad then (a,z) else bif jL [44] ts (one a z).2 then y4 one ts f (one a z).1 (s8 [44] ts (one a z).2) else one a z:=rfl
def K5 {α:Type} (one:α->Fs->α × Fs) (op sh:List UInt8) (ts:List Tk) (a:α) (z:Fs):α × Fs:=
 bif jL sh ts (fD op ts z) then (a,s8 sh ts (fD op ts z))
 else ((y4 one ts (ts.length + 1) a (fD op ts z)).1,fD sh ts (y4 one ts (ts.length + 1) a (fD op ts z)).2)
theorem aEZ {ts:List Tk} {n:Nat} (h:n < ts.length):n<=c8 ts n/\c8 ts n < ts.length:=by
 unfold c8; split<;>omega
theorem ZD (ts:List Tk) (z:Fs):(iR ts z).n=z.n:=by unfold iR; cases z.bad<;>rfl
theorem IE {w:List UInt8} {ts:List Tk} {z:Fs} (h:z.n < ts.length):z.n<=(fD w ts z).n/\(fD w ts z).n < ts.length:=by
 unfold fD
 cases jL w ts z
 · rw [aY,ZD]; exact ⟨Nat.le_refl _,h⟩
 · exact aEZ h
def Onw {α:Type} (one:α->Fs->α × Fs) (ts:List Tk):Prop:=∀ a z,z.n < ts.length->z.n<=(one a z).2.n/\(one a z).2.n < ts.length
def aDO (P:IC) (s:Sc) (ts:List Tk) (u:Ty):List Vl->Fs->List Vl × Fs:=fun l z=>(l ++ [(P s ts u z).1],(P s ts u z).2)
def aJG (P:IC) (s:Sc) (ts:List Tk) (u:Ty) (z:Fs):Vl × Fs:=(.mk 5 0 (mk []) (K5 (aDO P s ts u) [91] [93] ts [] z).1 [],(K5 (aDO P s ts u) [91] [93] ts [] z).2)
def aDU (n:List UInt8):List Fl->Nat->Int
 | [],_=>-1
 | x :: l,i=>bif bl x.nm == n then (i:Int) else aDU n l (i + 1)
abbrev Fst:Type:=Int × List (Int × Vl)
def sP (ts:List Tk) (u:St) (z:Fs):Int:=aDU (gM ts z.n).x u.fs 0
def aC1 (ts:List Tk) (u:St) (last:Int) (z:Fs):Bool:=(gM ts z.n).k != 1 || decide (sP ts u z < 0) || decide ((u.fs.getD (sP ts u z).toNat default).num<=last)
def aFP (ts:List Tk) (z:Fs):Fs:=fD [61] ts ⟨z.bad,z.off,c8 ts z.n⟩
def aET (P:IC) (s:Sc) (ts:List Tk) (u:St):Fst->Fs->Fst × Fs:=fun a z=>
 bif aC1 ts u a.1 z then (a,iR ts z)
 else (((u.fs.getD (sP ts u z).toNat default).num,a.2 ++ [((u.fs.getD (sP ts u z).toNat default).num,(P s ts (u.fs.getD (sP ts u z).toNat default).ty (aFP ts z)).1)]),(P s ts (u.fs.getD (sP ts u z).toNat default).ty (aFP ts z)).2)
def stOf (s:Sc) (t:Ty):St:=(fS s.ss t.n).getD default
def ZK (P:IC) (s:Sc) (ts:List Tk) (u:St) (z:Fs):Vl × Fs:=(.mk 6 0 (mk []) [] (K5 (aET P s ts u) [123] [125] ts (0,[]) z).1.2,(K5 (aET P s ts u) [123] [125] ts (0,[]) z).2)
theorem gK {s:Sc} (hs:s.fit) (t:Ty):(stOf s t).ok:=by
 unfold stOf
 cases h:fS s.ss t.n with
 | none=>exact ⟨by decide,by decide,fun _ h=>(by cases h)⟩
 | some u=>exact hs.ok.ss u (List.mem_of_find?_eq_some h)
def pP:Nat->IC
 | 0=>fun _ _ _ z=>(default,z)
 | N + 1=>fun s ts t z=>bif t.k == 1 then aJC ts z else bif t.k == 4 then aHK ts z else bif t.k == 7 then aIJ ((dL s.es t.n).getD default) ts z
  else bif t.k == 5 then aJG (pP N) s ts (t.e.headD default) z else bif t.k == 6 then ZK (pP N) s ts (stOf s t) z else aPW t.k ts z
def zF (s:Sc):Nat->Ty->Vl
 | 0,_=>.mk 0 0 (mk []) [] []
 | n + 1,t=>bif valF s.ss s.es t then (bif t.k == 6 then .mk 6 0 (mk []) [] (((stOf s t).fs.filter fun f=>!f.opt).map fun f=>(f.num,zF s n f.ty)) else .mk t.k 0 (mk []) [] []) else .mk 0 0 (mk []) [] []
def zE (s:Sc) (n:Nat) (l:List Fl):List (Int × Vl):=(l.filter fun f=>!f.opt).map fun f=>(f.num,zF s n f.ty)
theorem jZ (s:Sc) (n:Nat) (t:Ty):zF s (n + 1) t=bif valF s.ss s.es t then (bif t.k == 6 then .mk 6 0 (mk []) [] (zE s n (stOf s t).fs) else .mk t.k 0 (mk []) [] []) else .mk 0 0 (mk []) [] []:=rfl
theorem JR {s:Sc} {n i:Nat} {l:List Fl} {f:Fl} (h:l[i]? = some f):zE s n (l.take (i + 1))=bif f.opt then zE s n (l.take i) else zE s n (l.take i) ++ [(f.num,zF s n f.ty)]:=by
 unfold zE
 rw [List.take_add_one,h,List.filter_append,List.map_append]
 cases hf:f.opt<;>simp [hf]
theorem HB (s:Sc) (n:Nat) (l:List Fl):(zE s n l).length<=l.length:=by
 unfold zE; rw [List.length_map]; exact List.length_filter_le _ _
theorem zS {s:Sc} (hs:s.fit) (t:Ty):(stOf s t).fs.length<=1000000000:=by
 unfold stOf
 cases h:fS s.ss t.n with
 | none=>exact Nat.zero_le _
 | some u=>exact (hs.sm u (List.mem_of_find?_eq_some h)).1
def aE1 (N:Nat):W.Spec:=fun av H K=>∃ (s:Sc) (t:Ty) (n:Nat),av=[.va (.gs (aC s)),.va (.gs (aQ t)),iS .i64 ((n:Int) - 1)]/\H=[]/\s.fit/\TyOk t/\n < N/\N<=100/\K (.va (.gs (aP (zF s n t)))) []
theorem NH {N:Nat} {s:Sc} {t:Ty} {n:Nat} {K:S->Hp->Prop} (h1:s.fit) (h2:TyOk t) (h3:n < N) (h4:N<=100) (hK:K (.va (.gs (aP (zF s n t)))) []):aE1 N [.va (.gs [.vl (.int .i64 s.ver),.fz (s.es.map aX),.fz (s.ss.map aH)]),.va (.gs [.vl (.int .i64 t.k),.vl (.int .i64 t.s),.vl (.string t.n),.fz (t.e.map aQ)]),iS .i64 ((n:Int) - 1)] [] K:=⟨s,t,n,by rw [aM]; rfl,rfl,h1,h2,h3,h4,hK⟩
theorem M6:∀ N,Meets Tryz.prog 83 (aE1 N)
 | 0=>⟨by kernel_rfl,by rintro xs vs E ro w K _ _ _ ⟨_,_,n,_,_,_,_,h,_⟩; exact absurd h (Nat.not_lt_zero n)⟩
 | N + 1=>by
  refine aF Tryz.func83 aRF 3 (by rw [Tryz.ntmps83]; decide) (aG uE (aE kB (aE (M6 N) (aA _)))) (fun av H K h=>by obtain ⟨_,_,_,rfl,_⟩:=h; rfl) ?_
  rintro av H K ⟨s,t,n,rfl,rfl,hs,ht,hn,hN,hK⟩
  have k4:=dO ht
  have k5:=gO t
  have k6:=cV hs
  have k7:=fY s
  have fin:∀ {v:Vl} (R:Hp),zF s n t=v->W.Fin 0 K (.va (.gs (aP v))) R:=fun {v} R h=>by
   rw [h] at hK; refine .sel [] (by simp) (by simp) rfl (.done ?_)
   rw [aJ] at hK ⊢
   simpa [go_sem] using hK
  cases n with
  | zero=>
   have g:decide (((0:Nat):Int) - 1 < 0)=true:=rfl
   simp (maxSteps:=1000000) -dsimp only [go_sem,aC,aM t,EX,HQ,g,k4,k5,k6,k7]
   exact fin (v:=.mk 0 0 (mk []) [] []) _ rfl
  | succ n=>
   have g:decide (((n + 1:Nat):Int) - 1 < 0)=false:=by rw [decide_eq_false_iff_not]; omega
   have g':((n + 1:Nat):Int) - 1=n:=by omega
   rw [g'] at g ⊢
   rw [jZ] at fin
   cases h1:valF s.ss s.es t with
   | false=>
    rw [h1,aY] at fin
    simp (maxSteps:=1000000) -dsimp only [go_sem,aC,aM t,EX,HQ,g,k4,k5,k6,k7,h1]
    exact fin _ rfl
   | true=>
   rw [h1,bB] at fin
   cases h2:t.k == 6 with
   | false=>
    have h2':(t.k != 6)=true:=by rw [bne,h2]; rfl
    rw [h2,aY] at fin
    simp (maxSteps:=1000000) -dsimp only [go_sem,aC,aM t,EX,HQ,g,k4,k5,k6,k7,h1,h2']
    exact fin _ rfl
   | true=>
   have h2':(t.k != 6)=false:=by rw [bne,h2]; rfl
   rw [h2,bB] at fin
   simp (maxSteps:=1000000) -dsimp only [go_sem,aC,aM t,EX,HQ,g,k4,k5,k6,k7,h1,h2']
   refine eO hs ?_
   rw [show (fS s.ss t.n).getD default=stOf s t from rfl]
   have hok:=gK hs t
   have hsm:=zS hs t
   have hz6:zF s (n + 1) t=.mk 6 0 (mk []) [] (zE s n (stOf s t).fs):=by rw [jZ,h1,h2]; rfl
   rw [hz6,aJ] at hK
   clear hz6 fin
   generalize stOf s t=u at *
   simp (maxSteps:=1000000) -dsimp only [go_sem,aH]
   have hlen:=fun i=>Nat.le_trans (HB s n (u.fs.take i)) (Nat.le_trans (List.length_take_le' i u.fs) hsm)
   refine cQ (α:=Nat) (fun i=>[(2,iS .i64 n),(3,.va (.c1 (.pt 0 0))),(4,.va (.c1 (.pt 1 0))),(6,.va (.c1 (.pt 2 0))),(7,.va (.c1 (.pt 3 0))),(37,.va (.c1 (.fz (u.fs.map aN)))),(38,iS .i64 u.fs.length),(39,iS .i64 i)])
    (fun i=>[.cells [.vl (.int .i64 s.ver),.fz (s.es.map aX),.fz (s.ss.map aH)] 93,.cells [.vl (.int .i64 t.k),.vl (.int .i64 t.s),.vl (.string t.n),.fz (t.e.map aQ)] 42,.cells [.vl (.int .i64 0),.vl (.int .i64 0),.vl (.string (mk [])),.vl (.slice none 0 0),.vl (.slice none 0 0)] 29,
      .cells [.vl (.int .i64 t.k),.vl (.int .i64 0),.vl (.string (mk [])),.vl (.slice none 0 0),.sl 5 (zE s n (u.fs.take i)).length] 29,.cells [.vl (.string u.nm),.fz (u.fs.map aN)] 48,.row ((zE s n (u.fs.take i)).map a8) 76 6])
    (fun i=>i<=u.fs.length) (fun i=>u.fs.length - i) (.nilc 3 4 76 6 _ _ rfl rfl (jM 0 6 (Nat.zero_le _) ?_ ?_)) ?_
   · simp -dsimp only [go_sem]<;>simp
   · simp -dsimp only [go_sem]<;>simp [zE]
   intro i hi
   have hli:=hlen i
   rcases a7 i u.fs.length with hlt | hge
   · have hg:decide ((i:Int) < (u.fs.length:Int))=true:=by simp; omega
     have hx:u.fs[i]? = some u.fs[i]:=aU hlt
     have q2:=aR (row:=aN) hx
     have hfo:=(hok.fs _ (List.getElem_mem hlt)).ty
     generalize u.fs[i]=f at *
     have hz:=JR (s:=s) (n:=n) hx
     cases ho:f.opt with
     | true=>
      rw [ho,bB] at hz
      simp (maxSteps:=1000000) -dsimp only [go_sem,hg,↓q2,aN,ho,List.take_succ_cons,List.take_zero,List.length_cons]
      refine ⟨by omega,by omega,aD (i + 1) 6 (by omega) (by omega) ?_ ?_⟩
      · simp -dsimp only [go_sem]<;>simp
      · simp -dsimp only [go_sem,hz]<;>simp
     | false=>
      rw [ho,aY] at hz
      simp (maxSteps:=1000000) -dsimp only [go_sem,hg,↓q2,aN,ho,List.take_succ_cons,List.take_zero,List.length_cons]
      refine ⟨⟨by omega,by omega⟩,⟨by omega,by omega⟩,NH hs hfo (by omega) (by omega) ?_⟩
      generalize zF s n f.ty=v at *
      simp (maxSteps:=1000000) -dsimp only [go_sem,aJ v]
      refine ⟨by omega,by omega,aD (i + 1) 6 (by omega) (by omega) ?_ ?_⟩
      · simp -dsimp only [go_sem]<;>simp
      · simp -dsimp only [go_sem,hz]<;>simp [a8,aJ v]
   · have hg:decide ((i:Int) < (u.fs.length:Int))=false:=by simp; omega
     rw [List.take_of_length_le hge] at *
     have h6:t.k=6:=eq_of_beq h2
     simp (maxSteps:=1000000) -dsimp only [go_sem,hg,h6]
     refine .pub 5 _ _ _ rfl (.sel [] (by simp) (by simp [cD]) rfl (.done ?_))
     simp -dsimp only [go_sem,cD]
     exact hK
def GA:W.Spec:=fun av H K=>∃ (s:Sc) (t:Ty),av=[.va (.gs (aC s)),.va (.gs (aQ t))]/\H=[]/\s.fit/\TyOk t/\K (.va (.gs (aP (zF s 23 t)))) []
theorem y8 {s:Sc} {t:Ty} {K:S->Hp->Prop} (h1:s.fit) (h2:TyOk t) (hK:K (.va (.gs (aP (zF s 23 t)))) []):GA [.va (.gs [.vl (.int .i64 s.ver),.fz (s.es.map aX),.fz (s.ss.map aH)]),.va (.gs [.vl (.int .i64 t.k),.vl (.int .i64 t.s),.vl (.string t.n),.fz (t.e.map aQ)])] [] K:=⟨s,t,by rw [aM]; rfl,rfl,h1,h2,hK⟩
theorem UW:Meets Tryz.prog 45 GA:=by
 refine aF Tryz.func45 aNG 2 (by rw [Tryz.ntmps45]; decide) (aE (M6 24) (aA _)) (fun av H K h=>by obtain ⟨_,_,rfl,_⟩:=h; rfl) ?_
 rintro av H K ⟨s,t,rfl,rfl,hs,ht,hK⟩
 simp (maxSteps:=1000000) -dsimp only [go_sem,aC,aM t,aFC,aC8]
 refine NH (n:=23) hs ht (by decide) (by decide) ?_
 rw [aJ] at hK ⊢
 simp (maxSteps:=1000000) -dsimp only [go_sem]
 refine .sel [] (by simp) (by simp) rfl (.done ?_)
 simp -dsimp only [go_sem]
 exact hK
theorem wV {s:Sc} (hs:s.fit):∀ (n:Nat) (t:Ty),TyOk t->VlOk (zF s n t)
 | 0,t,ht=>.mk ⟨by decide,by decide⟩ ⟨by decide,by decide⟩ (by decide) (by simp) (by simp) (by simp) (by simp) (by simp)
 | n + 1,t,ht=>by
  have hok:=gK hs t
  have hsm:=zS hs t
  rw [jZ]
  cases valF s.ss s.es t with
  | false=>exact .mk ⟨by decide,by decide⟩ ⟨by decide,by decide⟩ (by decide) (by simp) (by simp) (by simp) (by simp) (by simp)
  | true=>
   cases t.k == 6 with
   | false=>exact .mk ht.k ⟨by decide,by decide⟩ (by decide) (by simp) (by simp) (by simp) (by simp) (by simp)
   | true=>
    have hl:=HB s n (stOf s t).fs
    have hm:∀ x ∈ zE s n (stOf s t).fs,∃ f ∈ (stOf s t).fs,x=(f.num,zF s n f.ty):=fun x hx=>by
     unfold zE at hx
     obtain ⟨f,hf,rfl⟩:=List.mem_map.1 hx
     exact ⟨f,(List.mem_filter.1 hf).1,rfl⟩
    refine .mk ⟨by decide,by decide⟩ ⟨by decide,by decide⟩ (by decide) (by simp) (by omega) (by simp) (fun x hx=>?_) (fun x hx=>?_)
    · obtain ⟨f,hf,rfl⟩:=hm x hx; exact (hok.fs f hf).num
    · obtain ⟨f,hf,rfl⟩:=hm x hx; exact wV hs n f.ty (hok.fs f hf).ty
def pmF (s:Sc) (t:Ty):Bool:=jJ s t (zF s 23 t) == 0
theorem FS {k n:Int} {s:ByteArray} (hk:bR k) (hn:bR n) (hs:s.size<=9223372036854775807):VlOk (.mk k n s [] []):=.mk hk hn hs (by simp) (by simp) (by simp) (by simp) (by simp)
def v0:Vl:=.mk 0 0 (mk []) [] []
def aBS (ts:List Tk) (z:Fs):Fs:=bif (gM ts z.n).k != 0 then iR ts z else z
def aPP (s:Sc) (t:Ty) (ts:List Tk) (r:Vl × Fs):Vl × Int × Int:=
 bif (aBS ts r.2).bad then (v0,2,(aBS ts r.2).off) else bif jJ s t r.1 != 0 then (v0,jJ s t r.1,0) else (r.1,0,0)
def LC (P:IC) (s:Sc) (t:Ty) (x:List UInt8):Vl × Int × Int:=
 bif !pmF s t then (v0,13,0) else bif (yU x).err != 0 then (v0,(yU x).err,(yU x).off) else aPP s t (yU x).toks (P s (yU x).toks t ⟨false,0,0⟩)
abbrev OE:Type:=Sc->Ty->Vl->List UInt8 × Bool
def tvB (n:Int):List UInt8:=bif n == 1 then UG else MN
def tvT (x:List UInt8):List UInt8:=bif decide (x.length<=200) && x.all Z9 then aNY x else []
def nmF (ns:List ByteArray) (n:Int):List Int->Nat->ByteArray
 | [],_=>mk []
 | m :: l,i=>bif m == n && decide ((i:Int) < (ns.length:Int)) then ns.getD i (mk []) else nmF ns n l (i + 1)
def enOf (s:Sc) (t:Ty):En:=(dL s.es t.n).getD default
theorem YQ {s:Sc} (hs:s.fit) (t:Ty):(enOf s t).ok:=by
 unfold enOf
 cases h:dL s.es t.n with
 | none=>exact ⟨by decide,by decide,by decide,fun _ h=>(by cases h),fun _ h=>(by cases h)⟩
 | some e=>exact hs.ok.es e (List.mem_of_find?_eq_some h)
def QK:Bool->List (List UInt8)->List UInt8
 | _,[]=>[]
 | c,x :: r=>(bif c then [44,32] else []) ++ x ++ QK true r
def aKC (F:OE) (s:Sc) (u:Ty) (l:List Vl):List UInt8 × Bool:=([91] ++ QK false (l.map fun x=>(F s u x).1) ++ [93],l.any fun x=>(F s u x).2)
def iK (u:St) (n:Int):Fl:=(fF u.fs n).getD default
def itF (F:OE) (s:Sc) (u:St) (x:Int × Vl):List UInt8:=bl (iK u x.1).nm ++ [32,61,32] ++ (F s (iK u x.1).ty x.2).1
def YR (F:OE) (s:Sc) (u:St) (l:List (Int × Vl)):List UInt8 × Bool:=([123] ++ QK false (l.map (itF F s u)) ++ [125],l.any fun x=>(F s (iK u x.1).ty x.2).2)
theorem XY {u:St} (hu:u.ok) (n:Int):(iK u n).ok:=by
 unfold iK
 cases h:fF u.fs n with
 | none=>exact ⟨⟨by decide,by decide⟩,by decide,.mk ⟨by decide,by decide⟩ ⟨by decide,by decide⟩ (by decide) (by decide) (fun _ h=>by cases h)⟩
 | some d=>exact hu.fs d (List.mem_of_find?_eq_some h)
theorem PR {s:Sc} (hs:s.fit) (t:Ty):∀ f ∈ (stOf s t).fs,TySm f.ty:=by
 unfold stOf
 cases h:fS s.ss t.n with
 | none=>exact fun _ h=>(by cases h)
 | some u=>exact (hs.sm u (List.mem_of_find?_eq_some h)).2
theorem FN {t:St} {k:Int} {K:S->Hp->Prop} (h:t.ok) (h2:∀ f ∈ t.fs,TySm f.ty) (hK:K (.tu [.gs (aN (iK t k)),bA (fF t.fs k).isSome]) []):pV [.va (.gs [.vl (.string t.nm),.fz (t.fs.map aN)]),iS .i64 k] [] K:=⟨t,k,rfl,rfl,h,h2,hK⟩
def fP:Nat->OE
 | 0=>fun _ _ _=>([],false)
 | N + 1=>fun s t v=>bif t.k == 1 then (tvB v.n,false) else bif t.k == 4 then (tvT (bl v.s),tvT (bl v.s) == []) else bif t.k == 7 then (bl (nmF (enOf s t).ns v.n (enOf s t).vs 0),false)
  else bif t.k == 5 then aKC (fP N) s (t.e.headD default) v.l else bif t.k == 6 then YR (fP N) s (stOf s t) v.f else (aOD v.n,false)
def aP9 (F:OE) (s:Sc) (t:Ty) (v:Vl):List UInt8:=bif jJ s t v != 0 then [] else bif (F s t v).2 || decide (4000 < ((F s t v).1.length:Int)) then [] else (F s t v).1
theorem vM:Meets Tryz.prog 62 oW:=by
 refine aF Tryz.func62 aR3 2 (by rw [Tryz.ntmps62]; decide) (aA _) (fun av H K h=>by obtain ⟨_,_,rfl,_⟩:=h; rfl) ?_
 rintro av H K ⟨s,n,rfl,rfl,hs,hK⟩
 rw [<-n4] at hK
 have hl:=hs.ok.ls
 simp -dsimp only [go_sem,aC,aGO,aCZ]
 refine aL (α:=Nat) (fun i=>[(1,tS n),(2,.va (.c1 (.pt 0 0))),(4,.va (.c1 (.pt 1 0))),(6,iS .i64 i)]) (fun _=>[.cells (aC s) 25,.cells [.vl (.string (mk [])),.vl (.slice none 0 0)] 48])
  (fun i=>i<=s.ss.length/\fS (s.ss.drop i) n=fS s.ss n) (fun i=>s.ss.length - i) 0 2 ⟨Nat.zero_le _,rfl⟩ ?_ ?_ ?_
 · simp [go_sem]
 · simp [go_sem,aC]
 rintro i ⟨hi,ho⟩
 rcases a7 i s.ss.length with hlt | hge
 · have hg:decide ((i:Int) < (s.ss.length:Int))=true:=by simp; omega
   obtain ⟨t,hx⟩:∃ e,s.ss[i]? = some e:=⟨_,aU hlt⟩
   have q2:=aR (row:=aH) hx
   rw [fS,f8 hx] at ho
   cases hc:decide (t.nm=n) with
   | true=>
    rw [hc,bB] at ho
    rw [<-ho] at hK
    simp (maxSteps:=1000000) -dsimp only [go_sem,hg,↓q2,aH,aC,cC,hc]
    refine ⟨by omega,by omega,.sel [] (by simp) (by simp) rfl (.done (by simpa [go_sem,aH] using hK))⟩
   | false=>
    rw [hc,aY] at ho
    simp (maxSteps:=1000000) -dsimp only [go_sem,hg,↓q2,aH,aC,cC,hc]
    refine ⟨by omega,by omega,aD (i + 1) 2 ⟨by omega,ho⟩ (by omega) ?_ ?_⟩
    · simp [go_sem]
    · simp [go_sem,aC]
 · have hg:decide ((i:Int) < (s.ss.length:Int))=false:=by simp; omega
   obtain rfl:i=s.ss.length:=by omega
   rw [List.drop_length] at ho
   rw [<-ho] at hK
   simp -dsimp only [go_sem,hg,aC]
   exact .sel [] (by simp) (by simp) rfl (.done (by simpa [go_sem,fS,y3] using hK))
theorem aGV:Meets Tryz.prog 105 xD:=by
 refine aF Tryz.func105 aI1 2 (by rw [Tryz.ntmps105]; decide) (aA _) (fun av H K h=>by obtain ⟨_,_,rfl,_⟩:=h; rfl) ?_
 rintro av H K ⟨s,n,rfl,rfl,hs,hK⟩
 rw [<-tB] at hK
 have hl:=hs.ok.le
 simp -dsimp only [go_sem,aC,WK,SF]
 refine aL (α:=Nat) (fun i=>[(1,tS n),(2,.va (.c1 (.pt 0 0))),(4,.va (.c1 (.pt 1 0))),(6,iS .i64 i)]) (fun _=>[.cells (aC s) 25,.cells [.vl (.string (mk [])),.vl (.slice none 0 0),.vl (.slice none 0 0)] 118])
  (fun i=>i<=s.es.length/\dL (s.es.drop i) n=dL s.es n) (fun i=>s.es.length - i) 0 2 ⟨Nat.zero_le _,rfl⟩ ?_ ?_ ?_
 · simp [go_sem]
 · simp [go_sem,aC]
 rintro i ⟨hi,ho⟩
 rcases a7 i s.es.length with hlt | hge
 · have hg:decide ((i:Int) < (s.es.length:Int))=true:=by simp; omega
   obtain ⟨t,hx⟩:∃ e,s.es[i]? = some e:=⟨_,aU hlt⟩
   have q2:=aR (row:=aX) hx
   rw [dL,f8 hx] at ho
   cases hc:decide (t.nm=n) with
   | true=>
    rw [hc,bB] at ho
    rw [<-ho] at hK
    simp (maxSteps:=1000000) -dsimp only [go_sem,hg,↓q2,aX,aC,cC,hc]
    refine ⟨by omega,by omega,.sel [] (by simp) (by simp) rfl (.done (by simpa [go_sem,aX] using hK))⟩
   | false=>
    rw [hc,aY] at ho
    simp (maxSteps:=1000000) -dsimp only [go_sem,hg,↓q2,aX,aC,cC,hc]
    refine ⟨by omega,by omega,aD (i + 1) 2 ⟨by omega,ho⟩ (by omega) ?_ ?_⟩
    · simp [go_sem]
    · simp [go_sem,aC]
 · have hg:decide ((i:Int) < (s.es.length:Int))=false:=by simp; omega
   obtain rfl:i=s.es.length:=by omega
   rw [List.drop_length] at ho
   rw [<-ho] at hK
   simp -dsimp only [go_sem,hg,aC]
   exact .sel [] (by simp) (by simp) rfl (.done (by simpa [go_sem,dL,BE] using hK))
theorem JI:Meets Tryz.prog 63 pV:=by
 refine aF Tryz.func63 aP2 2 (by rw [Tryz.ntmps63]; decide) (aA _) (fun av H K h=>by obtain ⟨_,_,rfl,_⟩:=h; rfl) ?_
 rintro av H K ⟨s,n,rfl,rfl,hs,hsm,hK⟩
 have hl:=hs.len
 simp -dsimp only [go_sem,aH,aDB,aEM]
 refine aL (α:=Nat) (fun i=>[(1,iS .i64 n),(2,.va (.c1 (.pt 0 0))),(4,.va (.c1 (.pt 1 0))),(6,iS .i64 i)]) (fun _=>[.cells (aH s) 48,.cells [.vl (.int .i64 0),.vl (.string (mk [])),.vl (.int .i64 0),.vl (.int .i64 0),.vl (.string (mk [])),.vl (.slice none 0 0),.vl (.bool false)] 52])
  (fun i=>i<=s.fs.length/\fF (s.fs.drop i) n=fF s.fs n) (fun i=>s.fs.length - i) 0 2 ⟨Nat.zero_le _,rfl⟩ ?_ ?_ ?_
 · simp [go_sem]
 · simp [go_sem,aH]
 rintro i ⟨hi,ho⟩
 rcases a7 i s.fs.length with hlt | hge
 · have hg:decide ((i:Int) < (s.fs.length:Int))=true:=by simp; omega
   obtain ⟨t,hx⟩:∃ e,s.fs[i]? = some e:=⟨_,aU hlt⟩
   have q2:=aR (row:=aN) hx
   rw [fF,f8 hx] at ho
   have hq:(t.num == n)=decide (t.num=n):=rfl
   cases hc:decide (t.num=n) with
   | true=>
    rw [hc,bB] at ho
    rw [<-ho] at hK
    simp (maxSteps:=1000000) -dsimp only [go_sem,hg,↓q2,aN,aH,hq,hc]
    refine ⟨by omega,by omega,.sel [] (by simp) (by simp) rfl (.done (by simpa [go_sem,aN] using hK))⟩
   | false=>
    rw [hc,aY] at ho
    simp (maxSteps:=1000000) -dsimp only [go_sem,hg,↓q2,aN,aH,hq,hc]
    refine ⟨by omega,by omega,aD (i + 1) 2 ⟨by omega,ho⟩ (by omega) ?_ ?_⟩
    · simp [go_sem]
    · simp [go_sem,aH]
 · have hg:decide ((i:Int) < (s.fs.length:Int))=false:=by simp; omega
   obtain rfl:i=s.fs.length:=by omega
   rw [List.drop_length] at ho
   rw [<-ho] at hK
   simp -dsimp only [go_sem,hg,aH]
   exact .sel [] (by simp) (by simp) rfl (.done (by simpa [go_sem,fF,sG] using hK))
def dQ (l:List (Int × Vl)) (k:Int):Option (Int × Vl):=l.find? fun x=>decide (x.1=k)
def PF:W.Spec:=fun av H K=>∃ (v:Vl) (k:Int),av=[.va (.gs (aP v)),iS .i64 k]/\H=[]/\VlOk v/\v.k=6/\K (.tu [.gs (aP (((dQ v.f k).map (·.2)).getD default)),bA (dQ v.f k).isSome]) []
theorem E4 {v:Vl} {k:Int} {K:S->Hp->Prop} (h:VlOk v) (h6:v.k=6) (hK:K (.tu [.gs (aP (((dQ v.f k).map (·.2)).getD default)),bA (dQ v.f k).isSome]) []):PF [.va (.gs [.vl (.int .i64 v.k),.vl (.int .i64 v.n),.vl (.string v.s),.fz (v.l.map aP),.fz (v.f.map a8)]),iS .i64 k] [] K:=⟨v,k,by rw [aJ],rfl,h,h6,hK⟩
theorem s5:aP default=[.vl (.int .i64 0),.vl (.int .i64 0),.vl (.string (mk [])),.fz [],.fz []]:=rfl
theorem J9:Meets Tryz.prog 50 PF:=by
 refine aF Tryz.func50 aR2 2 (by rw [Tryz.ntmps50]; decide) (aA _) (fun av H K h=>by obtain ⟨_,_,rfl,_⟩:=h; rfl) ?_
 rintro av H K ⟨v,k,rfl,rfl,hv,h6,hK⟩
 have hl:=hv.lf
 simp -dsimp only [go_sem,aJ v,aAG,aDY]
 refine aL (α:=Nat) (fun i=>[(1,iS .i64 k),(2,.va (.c1 (.pt 0 0))),(4,.va (.c1 (.pt 1 0))),(6,iS .i64 i)]) (fun _=>[.cells [.vl (.int .i64 v.k),.vl (.int .i64 v.n),.vl (.string v.s),.fz (v.l.map aP),.fz (v.f.map a8)] 29,.cells [.vl (.int .i64 0),.vl (.int .i64 0),.vl (.string (mk [])),.vl (.slice none 0 0),.vl (.slice none 0 0)] 29])
  (fun i=>i<=v.f.length/\dQ (v.f.drop i) k=dQ v.f k) (fun i=>v.f.length - i) 0 2 ⟨Nat.zero_le _,rfl⟩ ?_ ?_ ?_
 · simp -dsimp only [go_sem]<;>simp
 · simp -dsimp only [go_sem]<;>simp
 rintro i ⟨hi,ho⟩
 rcases a7 i v.f.length with hlt | hge
 · have hg:decide ((i:Int) < (v.f.length:Int))=true:=by simp; omega
   have g6:(v.k == 6)=true:=by rw [h6]; rfl
   obtain ⟨x,hx⟩:∃ x,v.f[i]? = some x:=⟨_,aU hlt⟩
   have q2:=aR (row:=a8) hx
   rw [dQ,f8 hx] at ho
   obtain ⟨n,w⟩:=x
   cases hc:decide (n=k) with
   | true=>
    simp only [hc,bB] at ho
    rw [<-ho] at hK
    have hc':(n == k)=true:=by simpa using hc
    simp (maxSteps:=1000000) -dsimp only [go_sem,hg,g6,↓q2,a8,aJ w,hc',List.take_succ_cons,List.take_zero,List.length_cons]
    exact ⟨⟨by omega,by omega⟩,⟨by omega,by omega⟩,.sel [] (by simp) (by simp) rfl (.done (by simpa [go_sem,aJ w] using hK))⟩
   | false=>
    simp only [hc,aY] at ho
    have hc':(n == k)=false:=by simpa using hc
    simp (maxSteps:=1000000) -dsimp only [go_sem,hg,g6,↓q2,a8,aJ w,hc']
    refine ⟨⟨by omega,by omega⟩,⟨by omega,by omega⟩,aD (i + 1) 2 ⟨by omega,ho⟩ (by omega) ?_ ?_⟩
    · simp -dsimp only [go_sem]<;>simp
    · simp -dsimp only [go_sem]<;>simp
 · have hg:decide ((i:Int) < (v.f.length:Int))=false:=by simp; omega
   obtain rfl:i=v.f.length:=by omega
   rw [List.drop_length] at ho
   rw [<-ho] at hK
   simp (maxSteps:=1000000) -dsimp only [go_sem,hg]
   exact .sel [] (by simp) (by simp) rfl (.done (by simpa [go_sem,dQ,s5] using hK))
def zQ:PC:=.seq (.gh (.reg [.l 80 (.ldn 2 (.t 7)),.l 81 (.ldn 5 (.t 5)),.a 82 (.cq 104 [(.t 80),(.t 81)]),.v 6 82])) .ret
@[go_sem ↓] theorem aLZ:aS zQ:=aT _
def pcN60_7:PC:=.seq (.gh (.reg [.l 74 (.ldn 3 (.t 3)),.q 75 (.fa 2 (.t 4)),.l 76 (.ld1 (.t 75)),.a 77 (.cl 62 [(.t 74),(.t 76)] []),.v 73 77,.q 78 (.ex (.t 73) 0),.q 79 (.ex (.t 73) 1),.e 7 (.al (.agg #[(.string (mk [])),(.slice none 0 0)]) 48),.s (.st 2 (.t 7) (.t 78)),.v 8 79])) (zQ)
@[go_sem ↓] theorem aK6:aS pcN60_7:=aT _
def BB:PC:=.seq (.seq (.gh (.reg [.q 70 (.fa 0 (.t 5)),.l 71 (.ld1 (.t 70)),.q 72 (.bin .neq true (.t 71) (.i 6))])) (.cond (.t 72) (.seq (.reg [.q 6 (.mv (.k (.bool true)))]) .ret) .skip)) (pcN60_7)
@[go_sem ↓] theorem aLM:aS BB:=aT _
def pcN60_3:PC:=.seq (.seq (.gh (.reg [.q 52 (.fa 0 (.t 5)),.l 53 (.ld1 (.t 52)),.q 54 (.bin .eql true (.t 53) (.i 4)),.v 55 54,⟨some 56,(some (55,false)),.q (.fa 0 (.t 5))⟩,⟨some 57,(some (55,false)),.l (.ld1 (.t 56))⟩,⟨some 58,(some (55,false)),.q (.bin .eql true (.t 57) (.i 5))⟩,.a 59 (.pick (.t 55) (.k (.bool true)) (.t 58)),.v 60 59,⟨some 61,(some (60,false)),.q (.fa 0 (.t 5))⟩,⟨some 62,(some (60,false)),.l (.ld1 (.t 61))⟩,⟨some 63,(some (60,false)),.q (.bin .eql true (.t 62) (.i 6))⟩,.a 64 (.pick (.t 60) (.k (.bool true)) (.t 63)),.v 65 64,⟨some 66,(some (65,true)),.q (.fa 1 (.t 5))⟩,⟨some 67,(some (65,true)),.l (.ld1 (.t 66))⟩,⟨some 68,(some (65,true)),.q (.bin .neq true (.t 67) (.i 0))⟩,.a 69 (.pick (.t 65) (.t 68) (.k (.bool false)))])) (.cond (.t 69) (.seq (.reg [.q 6 (.mv (.k (.bool false)))]) .ret) .skip)) (BB)
@[go_sem ↓] theorem aLY:aS pcN60_3:=aT _
def yR:PC:=.seq (.reg [.e 3 (.bx 25 (.t 0)),.e 4 (.bx 42 (.t 1)),.e 5 (.bx 29 (.t 2)),.q 6 (.mv (.k (.bool false)))]) (.seq (.seq (.reg [.l 9 (.ldn 3 (.t 3)),.l 10 (.ldn 4 (.t 4)),.a 11 (.cq 103 [(.t 9),(.t 10)]),.q 12 (.not (.t 11)),.v 13 12,⟨some 14,(some (13,false)),.q (.fa 0 (.t 5))⟩,⟨some 15,(some (13,false)),.l (.ld1 (.t 14))⟩,⟨some 16,(some (13,false)),.q (.fa 0 (.t 4))⟩,⟨some 17,(some (13,false)),.l (.ld1 (.t 16))⟩,⟨some 18,(some (13,false)),.q (.bin .neq true (.t 15) (.t 17))⟩,.a 19 (.pick (.t 13) (.k (.bool true)) (.t 18)),.v 20 19,⟨some 21,(some (20,false)),.q (.fa 0 (.t 5))⟩,⟨some 22,(some (20,false)),.l (.ld1 (.t 21))⟩,⟨some 23,(some (20,false)),.q (.bin .neq true (.t 22) (.i 4))⟩,⟨some 24,(some (20,false)),.q (.mv (.t 23))⟩,⟨some 25,(some (24,true)),.q (.fa 2 (.t 5))⟩,⟨some 26,(some (24,true)),.l (.ld1 (.t 25))⟩,⟨some 27,(some (24,true)),.q (.bin .neq true (.t 26) (.k (.string (mk []))))⟩,⟨some 28,(some (20,false)),.pick (.t 24) (.t 27) (.k (.bool false))⟩,.a 29 (.pick (.t 20) (.k (.bool true)) (.t 28)),.v 30 29,⟨some 31,(some (30,false)),.q (.fa 0 (.t 5))⟩,⟨some 32,(some (30,false)),.l (.ld1 (.t 31))⟩,⟨some 33,(some (30,false)),.q (.bin .neq true (.t 32) (.i 5))⟩,⟨some 34,(some (30,false)),.q (.mv (.t 33))⟩,⟨some 35,(some (34,true)),.q (.fa 3 (.t 5))⟩,⟨some 36,(some (34,true)),.l (.ld1 (.t 35))⟩,⟨some 37,(some (34,true)),.q (.lnL (.t 36))⟩,⟨some 38,(some (34,true)),.q (.bin .gtr true (.t 37) (.i 0))⟩,⟨some 39,(some (30,false)),.pick (.t 34) (.t 38) (.k (.bool false))⟩,.a 40 (.pick (.t 30) (.k (.bool true)) (.t 39)),.v 41 40,⟨some 42,(some (41,false)),.q (.fa 0 (.t 5))⟩,⟨some 43,(some (41,false)),.l (.ld1 (.t 42))⟩,⟨some 44,(some (41,false)),.q (.bin .neq true (.t 43) (.i 6))⟩,⟨some 45,(some (41,false)),.q (.mv (.t 44))⟩,⟨some 46,(some (45,true)),.q (.fa 4 (.t 5))⟩,⟨some 47,(some (45,true)),.l (.ld1 (.t 46))⟩,⟨some 48,(some (45,true)),.q (.lnL (.t 47))⟩,⟨some 49,(some (45,true)),.q (.bin .gtr true (.t 48) (.i 0))⟩,⟨some 50,(some (41,false)),.pick (.t 45) (.t 49) (.k (.bool false))⟩,.a 51 (.pick (.t 41) (.k (.bool true)) (.t 50))]) (.cond (.t 51) (.seq (.reg [.q 6 (.mv (.k (.bool false)))]) .ret) .skip)) (pcN60_3))
def lQ:List RV:=[.mv (.t 6)]
theorem aH3:aO Tryz.prog true ⟨fun r k=>if r=1/\k=2 then .q else if r=8/\k=2 then .q else .own [],fun r=>[3,5,7,8].contains r⟩ Tryz.f60=some (yR,lQ):=by kernel_rfl
def j7:PC:=.seq (.gh (.reg [.v 29 7,.q 30 (.not (.t 29)),.v 31 30,⟨some 32,(some (31,false)),.q (.mv (.t 5))⟩,⟨some 33,(some (31,false)),.q (.bin .gtr true (.t 32) (.i 0))⟩,⟨some 34,(some (31,false)),.q (.mv (.t 33))⟩,⟨some 35,(some (34,true)),.q (.fa 4 (.t 3))⟩,⟨some 36,(some (34,true)),.l (.ld1 (.t 35))⟩,⟨some 37,(some (34,true)),.q (.mv (.t 5))⟩,⟨some 38,(some (34,true)),.l (.ia 6 (.t 36) (.t 37))⟩,⟨some 39,(some (34,true)),.q (.fa 0 (.t 38))⟩,⟨some 40,(some (34,true)),.l (.ld1 (.t 39))⟩,⟨some 41,(some (34,true)),.q (.fa 4 (.t 3))⟩,⟨some 42,(some (34,true)),.l (.ld1 (.t 41))⟩,⟨some 43,(some (34,true)),.q (.mv (.t 5))⟩,⟨some 44,(some (34,true)),.q (.bin .sub true (.t 43) (.i 1))⟩,⟨some 45,(some (34,true)),.l (.ia 6 (.t 42) (.t 44))⟩,⟨some 46,(some (34,true)),.q (.fa 0 (.t 45))⟩,⟨some 47,(some (34,true)),.l (.ld1 (.t 46))⟩,⟨some 48,(some (34,true)),.q (.bin .leq true (.t 40) (.t 47))⟩,⟨some 49,(some (31,false)),.pick (.t 34) (.t 48) (.k (.bool false))⟩,.a 50 (.pick (.t 31) (.k (.bool true)) (.t 49))])) (.cond (.t 50) (.seq (.reg [.q 4 (.mv (.k (.bool false)))]) .ret) .skip)
@[go_sem ↓] theorem aHM:aS j7:=aT _
def kW:PC:=.seq (.gh (.reg [.v 69 10,.q 70 (.not (.t 69)),.v 71 70,⟨some 72,(some (71,true)),.q (.fa 1 (.t 2))⟩,⟨some 73,(some (71,true)),.l (.ld1 (.t 72))⟩,⟨some 74,(some (71,true)),.q (.mv (.t 8))⟩,⟨some 75,(some (71,true)),.l (.ia 7 (.t 73) (.t 74))⟩,⟨some 76,(some (71,true)),.q (.fa 6 (.t 75))⟩,⟨some 77,(some (71,true)),.l (.ld1 (.t 76))⟩,⟨some 78,(some (71,true)),.q (.not (.t 77))⟩,.a 79 (.pick (.t 71) (.t 78) (.k (.bool false)))])) (.cond (.t 79) (.seq (.reg [.q 4 (.mv (.k (.bool false)))]) .ret) .skip)
@[go_sem ↓] theorem aG6:aS kW:=aT _
def N7:PC:=.seq (.reg [.e 2 (.bx 48 (.t 0)),.e 3 (.bx 29 (.t 1)),.q 4 (.mv (.k (.bool false)))]) (.seq (.seq (.reg [.q 5 (.mv (.i 0))]) (.block 0 (.loop (.seq (.seq (.reg [.v 11 5,.q 12 (.fa 4 (.t 3)),.l 13 (.ld1 (.t 12)),.q 14 (.lnL (.t 13)),.q 15 (.bin .lss true (.t 11) (.t 14))]) (.cond (.t 15) .skip (.exit 0))) (.seq (.block 1 (.seq (.ord  [.q (.l 19 (.ldn 2 (.t 2))),.q (.q 20 (.fa 4 (.t 3))),.q (.l 21 (.ld1 (.t 20))),.q (.v 22 5),.q (.l 23 (.ia 6 (.t 21) (.t 22))),.q (.q 24 (.fa 0 (.t 23))),.q (.l 25 (.ld1 (.t 24))),.m (.a 26 (.cl 63 [(.t 19),(.t 25)] [])),.q (.v 18 26),.q (.q 27 (.ex (.t 18) 0)),.q (.q 28 (.ex (.t 18) 1)),.m (.e 6 (.al (.agg #[(.int .i64 0),(.string (mk [])),(.int .i64 0),(.int .i64 0),(.string (mk [])),(.slice none 0 0),(.bool false)]) 52)),.rc (.v 18 26),.rc (.q 27 (.ex (.t 18) 0)),.rc (.q 28 (.ex (.t 18) 1)),.m (.s (.st 7 (.t 6) (.t 27))),.rc (.q 28 (.ex (.t 18) 1)),.m (.v 7 28)]) (j7))) (.reg [.v 16 5,.q 17 (.bin .add true (.t 16) (.i 1)),.v 5 17])))))) (.seq (.seq (.reg [.q 8 (.mv (.i 0))]) (.block 2 (.loop (.seq (.seq (.reg [.v 51 8,.q 52 (.fa 1 (.t 2)),.l 53 (.ld1 (.t 52)),.q 54 (.lnL (.t 53)),.q 55 (.bin .lss true (.t 51) (.t 54))]) (.cond (.t 55) .skip (.exit 2))) (.seq (.block 3 (.seq (.ord  [.q (.l 59 (.ldn 5 (.t 3))),.q (.q 60 (.fa 1 (.t 2))),.q (.l 61 (.ld1 (.t 60))),.q (.v 62 8),.q (.l 63 (.ia 7 (.t 61) (.t 62))),.q (.q 64 (.fa 0 (.t 63))),.q (.l 65 (.ld1 (.t 64))),.m (.a 66 (.cl 50 [(.t 59),(.t 65)] [])),.q (.v 58 66),.q (.q 67 (.ex (.t 58) 0)),.q (.q 68 (.ex (.t 58) 1)),.m (.e 9 (.al (.agg #[(.int .i64 0),(.int .i64 0),(.string (mk [])),(.slice none 0 0),(.slice none 0 0)]) 29)),.rc (.v 58 66),.rc (.q 67 (.ex (.t 58) 0)),.rc (.q 68 (.ex (.t 58) 1)),.m (.s (.st 5 (.t 9) (.t 67))),.rc (.q 68 (.ex (.t 58) 1)),.m (.v 10 68)]) (kW))) (.reg [.v 56 8,.q 57 (.bin .add true (.t 56) (.i 1)),.v 8 57])))))) (.seq (.reg [.q 4 (.mv (.k (.bool true)))]) .ret)))
def OO:List RV:=[.mv (.t 4)]
theorem aDG:aO Tryz.prog true ⟨fun _ _=>.own [],fun r=>[5,11].contains r⟩ Tryz.f104=some (N7,OO):=by kernel_rfl
theorem tO:Meets Tryz.prog 103 r0Fn.sp:=by
 refine aF Tryz.func103 aG8 2 (by rw [Tryz.ntmps103]; decide) (aG JF (aA _)) (fun av H K h=>by obtain ⟨_,_,rfl,_⟩:=jH h.1.1; rfl) ?_
 rintro av H K ⟨⟨h,rfl⟩,hK⟩
 obtain ⟨s,t,rfl,hs,ht⟩:=jH h
 have k4:=dO ht
 have k5:=gO t
 have k6:=cV hs
 have k7:=fY s
 have e:r0Fn.val [.va (.gs (aC s)),.va (.gs (aQ t))]=bA (valF s.ss s.es t):=by
  show bA (valF (C.sc (aC s)).ss (C.sc (aC s)).es (C.ty (aQ t)))=_
  rw [dB,gE]
 rw [e] at hK
 simp (maxSteps:=1000000) -dsimp only [go_sem,aC,aM t,VK,T6,k4,k5,k6,k7]
 exact .sel [] (by simp) (by simp) rfl (.done (by simpa [go_sem] using hK))
def DJ:List S->Prop:=fun av=>match av with
 | [.va (.gs r),.va (.gs q)]=>DU r/\lE q/\(C.vv q).k=6
 | _=>False
theorem pD {av:List S} (h:DJ av):∃ (u:St) (v:Vl),av=[.va (.gs (aH u)),.va (.gs (aP v))]/\u.ok/\(∀ f ∈ u.fs,TySm f.ty)/\VlOk v/\v.k=6:=by
 unfold DJ at h
 split at h
 · obtain ⟨⟨u,rfl,h1,h2⟩,⟨v,rfl,h3⟩,h4⟩:=h
   rw [fI] at h4
   exact ⟨u,v,rfl,h1,h2,h3,h4⟩
 · exact h.elim
noncomputable def VO:List S->A:=fun av=>match av with
 | [.va (.gs r),.va (.gs q)]=>bA (dF (C.st r).fs (C.vv q).f)
 | _=>.gs []
noncomputable def s9Fn:Fun:=⟨DJ,VO,fun av h=>by obtain ⟨_,_,rfl,_⟩:=pD h; trivial⟩
attribute [go_sem] s9Fn DJ VO
theorem ZN (l:List (Int × Vl)) (k:Int):(dQ l k).isSome=lB l k:=by
 unfold dQ lB
 rw [Bool.eq_iff_iff,List.find?_isSome,List.any_eq_true]
 simp
theorem PW {α:Type} {l:List α} {i:Nat} {x:α} (h:l[i]? = some x) (p:α->Bool):(l.drop i).all p=(p x && (l.drop (i + 1)).all p):=by
 obtain ⟨h1,h2⟩:=bE.1 h
 subst h2
 rw [List.drop_eq_getElem_cons h1,List.all_cons]
theorem P2:Meets Tryz.prog 104 s9Fn.sp:=by
 refine aF Tryz.func104 aDG 2 (by rw [Tryz.ntmps104]; decide) (aE JI (aE J9 (aA _))) (fun av H K h=>by obtain ⟨_,_,rfl,_⟩:=pD h.1.1; rfl) ?_
 rintro av H K ⟨⟨h,rfl⟩,hK⟩
 obtain ⟨u,v,rfl,hu,hus,hv,hk6⟩:=pD h
 replace hK:K (bS (dF u.fs v.f)) []:=by
  have:s9Fn.val [.va (.gs (aH u)),.va (.gs (aP v))]=bA (dF u.fs v.f):=by simp -dsimp only [go_sem]
  rw [this] at hK; exact hK
 clear h
 have fin:∀ (b:Bool) (R:Hp),dF u.fs v.f=b->W.Fin 0 K (bS b) R:=fun b R h=>by
  rw [h] at hK; exact .sel [] (by simp) (by simp) rfl (.done (by simpa [go_sem] using hK))
 clear hK
 have hfl:=hu.len
 have hll:=hv.lf
 generalize hR:u.fs.all (fun f=>f.opt || lB v.f f.num)=R2
 have hF:dF u.fs v.f=(ftA u.fs none v.f && R2):=by rw [<-hR]; rfl
 rw [hF] at fin
 generalize hR0:(ftA u.fs none v.f && R2)=R0 at fin
 clear hF
 simp (maxSteps:=1000000) -dsimp only [go_sem,aH,aJ v,N7,OO]
 refine aL (α:=Nat) (fun i=>[(2,.va (.c1 (.pt 0 0))),(3,.va (.c1 (.pt 1 0))),(5,iS .i64 i)]) (fun _=>[.cells [.vl (.string u.nm),.fz (u.fs.map aN)] 48,.cells [.vl (.int .i64 v.k),.vl (.int .i64 v.n),.vl (.string v.s),.fz (v.l.map aP),.fz (v.f.map a8)] 29])
  (fun i=>i<=v.f.length/\(ftA u.fs (t7 v.f i) (v.f.drop i) && R2)=R0) (fun i=>v.f.length - i) 0 2 ⟨Nat.zero_le _,hR0⟩ ?_ ?_ ?_
 · simp -dsimp only [go_sem]<;>simp
 · simp -dsimp only [go_sem]<;>simp
 rintro i ⟨hi,ho⟩
 rcases a7 i v.f.length with hlt | hge
 · have hg:decide ((i:Int) < (v.f.length:Int))=true:=by simp; omega
   obtain ⟨x,hx⟩:∃ t,v.f[i]? = some t:=⟨_,aU hlt⟩
   have q1:=gT hx
   have hdr:v.f.drop i=x :: v.f.drop (i + 1):=by
    obtain ⟨h,rfl⟩:=bE.1 hx
    exact List.drop_eq_getElem_cons h
   have hpv:t7 v.f (i + 1)=some x.1:=by rw [t7,hx]; rfl
   rw [hdr,EZ,<-hpv] at ho
   simp (maxSteps:=1000000) -dsimp only [go_sem,hg,↓q1]
   refine ⟨by omega,FN hu hus ?_⟩
   cases hf:(fF u.fs x.1).isSome with
   | false=>
    rw [hf,Bool.false_and,Bool.false_and,Bool.false_and] at ho
    simp (maxSteps:=1000000) -dsimp only [go_sem,aN]
    refine aB rfl (.done ?_)
    simp (maxSteps:=1000000) -dsimp only [go_sem,j7,Bool.false_and]
    exact fin _ _ ho.symm
   | true=>
    rw [hf,Bool.true_and] at ho
    simp (maxSteps:=1000000) -dsimp only [go_sem,aN]
    refine aB rfl (.done ?_)
    cases hz:decide ((0:Int) < (i:Int)) with
    | false=>
     obtain rfl:i=0:=by have:=of_decide_eq_false hz; omega
     simp (maxSteps:=1000000) -dsimp only [go_sem,j7,hz]
     refine ⟨by omega,aD (0 + 1) 2 ⟨by omega,ho⟩ (by omega) ?_ ?_⟩
     · simp -dsimp only [go_sem]<;>simp
     · simp -dsimp only [go_sem]<;>simp
    | true=>
     have hz':=of_decide_eq_true hz
     obtain ⟨y,hy⟩:∃ t,v.f[i - 1]? = some t:=⟨_,aU (by omega)⟩
     have hti:((i:Int) - 1).toNat=i - 1:=by omega
     have q2:=fun p=>N8 (n:=(i:Int) - 1) (x:=y) (by rw [hti]; exact hy) p
     have hpi:t7 v.f i=some y.1:=by
      match i,hz',hy with
      | j + 1,_,hy=>rw [t7]; rw [show j + 1 - 1=j by omega] at hy; rw [hy]; rfl
     rw [hpi,U8] at ho
     have f1:(0<=(i:Int) - 1)=True:=eq_true (by omega)
     have f2:((i:Int) - 1 < (v.f.length:Int))=True:=eq_true (by omega)
     cases hc:decide (x.1<=y.1) with
     | true=>
      have:decide (y.1 < x.1)=false:=by have:=of_decide_eq_true hc; simp; omega
      rw [this] at ho
      simp (maxSteps:=1000000) -dsimp only [go_sem,j7,hz,↓q1,↓q2,hc,f1,f2]
      exact ⟨⟨by omega,by omega⟩,⟨by omega,by omega⟩,fin _ _ ho.symm⟩
     | false=>
      have:decide (y.1 < x.1)=true:=by have:=of_decide_eq_false hc; simp; omega
      rw [this,Bool.true_and] at ho
      simp (maxSteps:=1000000) -dsimp only [go_sem,j7,hz,↓q1,↓q2,hc,f1,f2]
      refine ⟨⟨by omega,by omega⟩,⟨by omega,by omega⟩,⟨by omega,by omega⟩,aD (i + 1) 2 ⟨by omega,ho⟩ (by omega) ?_ ?_⟩
      · simp -dsimp only [go_sem]<;>simp
      · simp -dsimp only [go_sem]<;>simp
 · have hg:decide ((i:Int) < (v.f.length:Int))=false:=by simp; omega
   obtain rfl:i=v.f.length:=by omega
   rw [List.drop_length,IL,Bool.true_and] at ho
   simp (maxSteps:=1000000) -dsimp only [go_sem,hg]
   clear hi hge hg hR0
   rw [<-hR] at ho
   refine aL (α:=Nat) (fun i=>[(2,.va (.c1 (.pt 0 0))),(3,.va (.c1 (.pt 1 0))),(8,iS .i64 i)]) (fun _=>[.cells [.vl (.string u.nm),.fz (u.fs.map aN)] 48,.cells [.vl (.int .i64 v.k),.vl (.int .i64 v.n),.vl (.string v.s),.fz (v.l.map aP),.fz (v.f.map a8)] 29])
    (fun i=>i<=u.fs.length/\((u.fs.drop i).all fun f=>f.opt || lB v.f f.num)=R0) (fun i=>u.fs.length - i) 0 2 ⟨Nat.zero_le _,ho⟩ ?_ ?_ ?_
   · simp -dsimp only [go_sem]<;>simp
   · simp -dsimp only [go_sem]<;>simp
   clear ho
   rintro i ⟨hi,ho⟩
   rcases a7 i u.fs.length with hlt | hge
   · have hg:decide ((i:Int) < (u.fs.length:Int))=true:=by simp; omega
     obtain ⟨f,hx⟩:∃ t,u.fs[i]? = some t:=⟨_,aU hlt⟩
     have q1:=aR (row:=aN) hx
     rw [PW hx,<-ZN] at ho
     simp (maxSteps:=1000000) -dsimp only [go_sem,hg,↓q1,aN]
     refine ⟨by omega,E4 hv hk6 ?_⟩
     generalize ((dQ v.f f.num).map (·.2)).getD default=w
     cases h1:(dQ v.f f.num).isSome with
     | true=>
      rw [h1,Bool.or_true,Bool.true_and] at ho
      simp (maxSteps:=1000000) -dsimp only [go_sem,aJ w]
      refine aB rfl (.done ?_)
      simp (maxSteps:=1000000) -dsimp only [go_sem,kW]
      refine ⟨by omega,aD (i + 1) 2 ⟨by omega,ho⟩ (by omega) ?_ ?_⟩
      · simp -dsimp only [go_sem]<;>simp
      · simp -dsimp only [go_sem]<;>simp
     | false=>
      rw [h1,Bool.or_false] at ho
      cases h2:f.opt with
      | true=>
       rw [h2,Bool.true_and] at ho
       simp (maxSteps:=1000000) -dsimp only [go_sem,aJ w]
       refine aB rfl (.done ?_)
       simp (maxSteps:=1000000) -dsimp only [go_sem,kW,↓q1,aN,h2]
       refine ⟨⟨by omega,by omega⟩,by omega,aD (i + 1) 2 ⟨by omega,ho⟩ (by omega) ?_ ?_⟩
       · simp -dsimp only [go_sem]<;>simp
       · simp -dsimp only [go_sem]<;>simp
      | false=>
       rw [h2,Bool.false_and] at ho
       simp (maxSteps:=1000000) -dsimp only [go_sem,aJ w]
       refine aB rfl (.done ?_)
       simp (maxSteps:=1000000) -dsimp only [go_sem,kW,↓q1,aN,h2]
       exact ⟨⟨by omega,by omega⟩,fin _ _ ho.symm⟩
   · have hg:decide ((i:Int) < (u.fs.length:Int))=false:=by simp; omega
     obtain rfl:i=u.fs.length:=by omega
     rw [List.drop_length] at ho
     simp (maxSteps:=1000000) -dsimp only [go_sem,hg]
     exact fin _ _ ho.symm
def yW (v:Vl):Bool:=(v.k != 4 && !(bl v.s == [])) || (v.k != 5 && decide (0 < (v.l.length:Int))) || (v.k != 6 && decide (0 < (v.f.length:Int)))
def HK (v:Vl):Bool:=(v.k == 4 || v.k == 5 || v.k == 6) && v.n != 0
def g5 (s:Sc) (t:Ty) (v:Vl):Bool:=bif !(valF s.ss s.es t) || v.k != t.k || yW v then false else bif HK v then false else bif v.k != 6 then true else dF (stOf s t).fs v.f
theorem PQ {s:Sc} (hs:s.fit) (t:Ty):DU (aH (stOf s t)):=FW hs t.n
theorem ZS:Meets Tryz.prog 60 (fN (fun _ _ _=>True) fun s t v=>.bool (g5 s t v)).sp:=by
 refine aF Tryz.func60 aH3 3 (by rw [Tryz.ntmps60]; decide) (aG tO (aE vM (aG P2 (aA _)))) eE ?_
 intro av H K h
 obtain ⟨s,t,v,rfl,rfl,hs,ht,hv,_,hK⟩:=cW h
 clear h
 have fin:∀ (b:Bool) (R:Hp),g5 s t v=b->W.Fin 0 K (bS b) R:=fun b R h=>by
  rw [h] at hK; exact .sel [] (by simp) (by simp) rfl (.done (by simpa [go_sem] using hK))
 clear hK
 unfold g5 at fin
 have k1:=b9 hv
 have k2:=dS v
 have k4:=dO ht
 have k5:=gO t
 have k6:=cV hs
 have k7:=fY s
 have e:∀ (a b:Bool),(a=true->b=true)->True:=fun _ _ _=>trivial
 clear e
 have tail7:(v.k == 6)=true->(∀ (b:Bool) (R:Hp),dF (stOf s t).fs v.f=b->W.Fin 0 K (bS b) R)->vc [(103,.f r0Fn),(62,.s oW),(104,.f s9Fn)] 0 pcN60_7.ungh
  (eY [(3,.va (.c1 (.pt 0 0))),(4,.va (.c1 (.pt 1 0))),(5,.va (.c1 (.pt 2 0)))]) [.cells [.vl (.int .i64 s.ver),.fz (s.es.map aX),.fz (s.ss.map aH)] 25,.cells [.vl (.int .i64 t.k),.vl (.int .i64 t.s),.vl (.string t.n),.fz (t.e.map aQ)] 42,.cells [.vl (.int .i64 v.k),.vl (.int .i64 v.n),.vl (.string v.s),.fz (v.l.map aP),.fz (v.f.map a8)] 29] (jE 0 lQ K):=fun h6 fin=>by
  have hk6:v.k=6:=eq_of_beq h6
  have u1:=PQ hs t
  have u2:C.st (aH (stOf s t))=stOf s t:=wT _
  simp (maxSteps:=1000000) -dsimp only [go_sem,pcN60_7,lQ]
  refine eO hs ?_
  rw [show (fS s.ss t.n).getD default=stOf s t from rfl]
  generalize stOf s t=u at *
  unfold aH at u1 u2
  simp (maxSteps:=1000000) -dsimp only [go_sem,aH]
  refine aB rfl (.done ?_)
  simp (maxSteps:=1000000) -dsimp only [go_sem,zQ,k1,k2,u1,u2]
  exact ⟨hk6,fin _ _ rfl⟩
 have tail3:(∀ (b:Bool) (R:Hp),(bif HK v then false else bif v.k != 6 then true else dF (stOf s t).fs v.f)=b->W.Fin 0 K (bS b) R)->vc [(103,.f r0Fn),(62,.s oW),(104,.f s9Fn)] 0 pcN60_3.ungh
  (eY [(3,.va (.c1 (.pt 0 0))),(4,.va (.c1 (.pt 1 0))),(5,.va (.c1 (.pt 2 0)))]) [.cells [.vl (.int .i64 s.ver),.fz (s.es.map aX),.fz (s.ss.map aH)] 25,.cells [.vl (.int .i64 t.k),.vl (.int .i64 t.s),.vl (.string t.n),.fz (t.e.map aQ)] 42,.cells [.vl (.int .i64 v.k),.vl (.int .i64 v.n),.vl (.string v.s),.fz (v.l.map aP),.fz (v.f.map a8)] 29] (jE 0 lQ K):=fun fin=>by
  unfold HK at fin
  cases b4:v.k == 4<;>cases b5:v.k == 5<;>cases b6:v.k == 6<;>cases bn:v.n != 0<;>rw [b4,b5,b6,bn] at fin <;>
  · simp (maxSteps:=1000000) -dsimp only [go_sem,pcN60_3,lQ,b4,b5,b6,bn]
    first
     | exact fin false _ rfl
     | (refine aB rfl (.done ?_)
        have c6:(v.k != 6)=!(v.k == 6):=rfl
        rw [b6] at c6
        simp (maxSteps:=1000000) -dsimp only [go_sem,BB,c6,Bool.not_false,Bool.not_true]
        first
         | exact fin true _ (by rw [c6]; rfl)
         | (refine fC 3 (tail7 b6 fun b R h=>fin b R (by rw [c6]; exact h)) ?_ ?_
            · simp -dsimp only [go_sem]<;>simp
            · simp -dsimp only [go_sem]<;>simp))
 cases h1:valF s.ss s.es t with
 | false=>
  rw [h1] at fin
  simp (maxSteps:=1000000) -dsimp only [go_sem,aC,aM t,aJ v,yR,lQ,k4,k5,k6,k7,h1,Bool.not_false]
  exact fin false _ rfl
 | true=>
 cases h2:v.k != t.k with
 | true=>
  rw [h1,h2] at fin
  simp (maxSteps:=1000000) -dsimp only [go_sem,aC,aM t,aJ v,yR,lQ,k4,k5,k6,k7,h1,h2,Bool.not_true]
  exact fin false _ rfl
 | false=>
 rw [h1,h2,Bool.not_true,Bool.false_or,Bool.false_or] at fin
 have hA:∀ b:Bool,yW v=b->((v.k != 4 && !(bl v.s == [])) || (v.k != 5 && decide (0 < (v.l.length:Int))) || (v.k != 6 && decide (0 < (v.f.length:Int))))=b:=fun b h=>h
 cases hA':yW v with
 | true=>
  have hA:=hA true hA'
  rw [hA'] at fin
  cases a1:v.k != 4<;>cases a2:bl v.s == []<;>cases a3:v.k != 5<;>cases a4:decide (0 < (v.l.length:Int))<;>cases a5:v.k != 6<;>cases a6:decide (0 < (v.f.length:Int)) <;>
  first
   | (exfalso; rw [a1,a2,a3,a4,a5,a6] at hA; exact absurd hA (by decide))
   | (simp (maxSteps:=1000000) -dsimp only [go_sem,aC,aM t,aJ v,yR,lQ,k4,k5,k6,k7,h1,h2,a1,a2,a3,a4,a5,a6,Bool.not_true,Bool.false_and]
      exact fin false _ rfl)
 | false=>
  have hA:=hA false hA'
  rw [hA',aY] at fin
  cases a1:v.k != 4<;>cases a2:bl v.s == []<;>cases a3:v.k != 5<;>cases a4:decide (0 < (v.l.length:Int))<;>cases a5:v.k != 6<;>cases a6:decide (0 < (v.f.length:Int)) <;>
  first
   | (exfalso; rw [a1,a2,a3,a4,a5,a6] at hA; exact absurd hA (by decide))
   | (simp (maxSteps:=1000000) -dsimp only [go_sem,aC,aM t,aJ v,yR,lQ,k4,k5,k6,k7,h1,h2,a1,a2,a3,a4,a5,a6,Bool.not_true,Bool.not_false,Bool.true_and,Bool.and_false]
      refine fC 3 (tail3 fin) ?_ ?_
      · simp -dsimp only [go_sem]<;>simp
      · simp -dsimp only [go_sem]<;>simp)
def oT:PC:=.seq (.gh (.reg [.v 105 14,.q 106 (.bin .neq true (.t 105) (.i 0))])) (.cond (.t 106) (.seq (.reg [.v 107 14,.v 6 107]) .ret) .skip)
@[go_sem ↓] theorem aIG:aS oT:=aT _
def pS:PC:=.seq (.gh (.reg [.l 95 (.ldn 3 (.t 3)),.q 96 (.fa 2 (.t 12)),.l 97 (.ldn 4 (.t 96)),.q 98 (.fa 4 (.t 5)),.l 99 (.ld1 (.t 98)),.v 100 11,.l 101 (.ia 6 (.t 99) (.t 100)),.q 102 (.fa 1 (.t 101)),.l 103 (.ldn 5 (.t 102)),.a 104 (.cq 34 [(.t 95),(.t 97),(.t 103)]),.v 14 104])) (oT)
@[go_sem ↓] theorem aKU:aS pS:=aT _
def uK:PC:=.seq (.seq (.gh (.reg [.q 11 (.mv (.i 0))])) (.block 2 (.loop (.seq (.seq (.reg [.v 77 11,.q 78 (.fa 4 (.t 5)),.l 79 (.ld1 (.t 78)),.q 80 (.lnL (.t 79)),.q 81 (.bin .lss true (.t 77) (.t 80))]) (.cond (.t 81) .skip (.exit 2))) (.seq (.block 3 (.seq (.ord  [.q (.l 85 (.ldn 2 (.t 9))),.q (.q 86 (.fa 4 (.t 5))),.q (.l 87 (.ld1 (.t 86))),.q (.v 88 11),.q (.l 89 (.ia 6 (.t 87) (.t 88))),.q (.q 90 (.fa 0 (.t 89))),.q (.l 91 (.ld1 (.t 90))),.m (.a 92 (.cl 63 [(.t 85),(.t 91)] [])),.q (.v 84 92),.q (.q 93 (.ex (.t 84) 0)),.q (.q 94 (.ex (.t 84) 1)),.m (.e 12 (.al (.agg #[(.int .i64 0),(.string (mk [])),(.int .i64 0),(.int .i64 0),(.string (mk [])),(.slice none 0 0),(.bool false)]) 52)),.rc (.v 84 92),.rc (.q 93 (.ex (.t 84) 0)),.rc (.q 94 (.ex (.t 84) 1)),.m (.s (.st 7 (.t 12) (.t 93))),.rc (.q 94 (.ex (.t 84) 1)),.m (.v 13 94)]) (pS))) (.reg [.v 82 11,.q 83 (.bin .add true (.t 82) (.i 1)),.v 11 83])))))) (.seq (.reg [.q 6 (.mv (.i 0))]) .ret)
@[go_sem ↓] theorem aJF:aS uK:=aT _
def u6:PC:=.seq (.gh (.reg [.l 71 (.ldn 3 (.t 3)),.q 72 (.fa 2 (.t 4)),.l 73 (.ld1 (.t 72)),.a 74 (.cl 62 [(.t 71),(.t 73)] []),.v 70 74,.q 75 (.ex (.t 70) 0),.q 76 (.ex (.t 70) 1),.e 9 (.al (.agg #[(.string (mk [])),(.slice none 0 0)]) 48),.s (.st 2 (.t 9) (.t 75)),.v 10 76])) (uK)
@[go_sem ↓] theorem aIH:aS u6:=aT _
def pcM34_7:PC:=.seq (.seq (.gh (.reg [.q 7 (.mv (.i 0))])) (.block 0 (.loop (.seq (.seq (.reg [.v 49 7,.q 50 (.fa 3 (.t 5)),.l 51 (.ld1 (.t 50)),.q 52 (.lnL (.t 51)),.q 53 (.bin .lss true (.t 49) (.t 52))]) (.cond (.t 53) .skip (.exit 0))) (.seq (.block 1 (.seq (.reg [.l 56 (.ldn 3 (.t 3)),.q 57 (.fa 3 (.t 4)),.l 58 (.ld1 (.t 57)),.l 59 (.ia 4 (.t 58) (.i 0)),.l 60 (.ldn 4 (.t 59)),.q 61 (.fa 3 (.t 5)),.l 62 (.ld1 (.t 61)),.v 63 7,.l 64 (.ia 5 (.t 62) (.t 63)),.l 65 (.ldn 5 (.t 64)),.a 66 (.cq 34 [(.t 56),(.t 60),(.t 65)]),.v 8 66]) (.seq (.reg [.v 67 8,.q 68 (.bin .neq true (.t 67) (.i 0))]) (.cond (.t 68) (.seq (.reg [.v 69 8,.v 6 69]) .ret) .skip)))) (.reg [.v 54 7,.q 55 (.bin .add true (.t 54) (.i 1)),.v 7 55])))))) (u6)
@[go_sem ↓] theorem aML:aS pcM34_7:=aT _
def sF:PC:=.seq (.seq (.gh (.reg [.q 25 (.fa 0 (.t 4)),.l 26 (.ld1 (.t 25)),.q 27 (.bin .eql true (.t 26) (.i 4)),.v 28 27,⟨some 29,(some (28,true)),.q (.fa 2 (.t 5))⟩,⟨some 30,(some (28,true)),.l (.ld1 (.t 29))⟩,⟨some 31,(some (28,true)),.q (.lnS (.t 30))⟩,⟨some 32,(some (28,true)),.q (.fa 1 (.t 4))⟩,⟨some 33,(some (28,true)),.l (.ld1 (.t 32))⟩,⟨some 34,(some (28,true)),.q (.bin .gtr true (.t 31) (.t 33))⟩,.a 35 (.pick (.t 28) (.t 34) (.k (.bool false))),.v 36 35,⟨some 37,(some (36,false)),.q (.fa 0 (.t 4))⟩,⟨some 38,(some (36,false)),.l (.ld1 (.t 37))⟩,⟨some 39,(some (36,false)),.q (.bin .eql true (.t 38) (.i 5))⟩,⟨some 40,(some (36,false)),.q (.mv (.t 39))⟩,⟨some 41,(some (40,true)),.q (.fa 3 (.t 5))⟩,⟨some 42,(some (40,true)),.l (.ld1 (.t 41))⟩,⟨some 43,(some (40,true)),.q (.lnL (.t 42))⟩,⟨some 44,(some (40,true)),.q (.fa 1 (.t 4))⟩,⟨some 45,(some (40,true)),.l (.ld1 (.t 44))⟩,⟨some 46,(some (40,true)),.q (.bin .gtr true (.t 43) (.t 45))⟩,⟨some 47,(some (36,false)),.pick (.t 40) (.t 46) (.k (.bool false))⟩,.a 48 (.pick (.t 36) (.k (.bool true)) (.t 47))])) (.cond (.t 48) (.seq (.reg [.q 6 (.mv (.i 3))]) .ret) .skip)) (pcM34_7)
@[go_sem ↓] theorem aLF:aS sF:=aT _
def tF:PC:=.seq (.seq (.gh (.reg [.l 20 (.ldn 3 (.t 3)),.l 21 (.ldn 4 (.t 4)),.l 22 (.ldn 5 (.t 5)),.a 23 (.cq 61 [(.t 20),(.t 21),(.t 22)]),.q 24 (.not (.t 23))])) (.cond (.t 24) (.seq (.reg [.q 6 (.mv (.i 4))]) .ret) .skip)) (sF)
@[go_sem ↓] theorem aLD:aS tF:=aT _
def K4:PC:=.seq (.reg [.e 3 (.bx 25 (.t 0)),.e 4 (.bx 42 (.t 1)),.e 5 (.bx 29 (.t 2)),.q 6 (.mv (.i 0))]) (.seq (.seq (.reg [.l 15 (.ldn 3 (.t 3)),.l 16 (.ldn 4 (.t 4)),.l 17 (.ldn 5 (.t 5)),.a 18 (.cq 60 [(.t 15),(.t 16),(.t 17)]),.q 19 (.not (.t 18))]) (.cond (.t 19) (.seq (.reg [.q 6 (.mv (.i 13))]) .ret) .skip)) (tF))
def yH:List RV:=[.mv (.t 6)]
theorem aIB:aO Tryz.prog true ⟨fun r k=>if r=1/\k=3 then .q else if r=3/\k=3 then .q else if r=10/\k=10 then .q else if r=18/\k=9 then .q else .own [],fun r=>[3,5,7,13,14,18,19].contains r⟩ Tryz.f34=some (K4,yH):=by kernel_rfl
def zM:PC:=.seq (.gh (.reg [.q 28 (.fa 1 (.t 5)),.l 29 (.ld1 (.t 28)),.q 30 (.bin .eql true (.t 29) (.i 0)),.v 31 30,⟨some 32,(some (31,false)),.q (.fa 1 (.t 5))⟩,⟨some 33,(some (31,false)),.l (.ld1 (.t 32))⟩,⟨some 34,(some (31,false)),.q (.bin .eql true (.t 33) (.i 1))⟩,.a 35 (.pick (.t 31) (.k (.bool true)) (.t 34)),.v 6 35])) .ret
@[go_sem ↓] theorem aM9:aS zM:=aT _
def oX:PC:=.seq (.gh (.reg [.q 38 (.fa 1 (.t 4)),.l 39 (.ld1 (.t 38)),.q 40 (.bin .eql true (.t 39) (.i 64)),.v 41 40,⟨some 42,(some (41,false)),.q (.fa 1 (.t 5))⟩,⟨some 43,(some (41,false)),.l (.ld1 (.t 42))⟩,⟨some 44,(some (41,false)),.q (.mv (.t 7))⟩,⟨some 45,(some (41,false)),.q (.bin .sub true (.i 0) (.t 44))⟩,⟨some 46,(some (41,false)),.q (.bin .geq true (.t 43) (.t 45))⟩,⟨some 47,(some (41,false)),.q (.mv (.t 46))⟩,⟨some 48,(some (47,true)),.q (.fa 1 (.t 5))⟩,⟨some 49,(some (47,true)),.l (.ld1 (.t 48))⟩,⟨some 50,(some (47,true)),.q (.mv (.t 7))⟩,⟨some 51,(some (47,true)),.q (.bin .lss true (.t 49) (.t 50))⟩,⟨some 52,(some (41,false)),.pick (.t 47) (.t 51) (.k (.bool false))⟩,.a 53 (.pick (.t 41) (.k (.bool true)) (.t 52)),.v 6 53])) .ret
@[go_sem ↓] theorem aJA:aS oX:=aT _
def uZ:PC:=.seq (.gh (.reg [.q 56 (.fa 1 (.t 5)),.l 57 (.ld1 (.t 56)),.q 58 (.bin .geq true (.t 57) (.i 0)),.v 59 58,⟨some 60,(some (59,true)),.q (.fa 1 (.t 5))⟩,⟨some 61,(some (59,true)),.l (.ld1 (.t 60))⟩,⟨some 62,(some (59,true)),.q (.mv (.t 7))⟩,⟨some 63,(some (59,true)),.q (.bin .mul true (.i 2) (.t 62))⟩,⟨some 64,(some (59,true)),.q (.bin .lss true (.t 61) (.t 63))⟩,.a 65 (.pick (.t 59) (.t 64) (.k (.bool false))),.v 6 65])) .ret
@[go_sem ↓] theorem aIL:aS uZ:=aT _
def uO:PC:=.seq (.gh (.reg [.l 69 (.ldn 3 (.t 3)),.q 70 (.fa 2 (.t 4)),.l 71 (.ld1 (.t 70)),.a 72 (.cl 105 [(.t 69),(.t 71)] []),.v 68 72,.q 73 (.ex (.t 68) 0),.q 74 (.ex (.t 68) 1),.e 9 (.al (.agg #[(.string (mk [])),(.slice none 0 0),(.slice none 0 0)]) 118),.s (.st 3 (.t 9) (.t 73)),.v 10 74])) (.seq (.seq (.reg [.q 11 (.mv (.i 0))]) (.block 3 (.loop (.seq (.seq (.reg [.v 75 11,.q 76 (.fa 2 (.t 9)),.l 77 (.ld1 (.t 76)),.q 78 (.lnL (.t 77)),.q 79 (.bin .lss true (.t 75) (.t 78))]) (.cond (.t 79) .skip (.exit 3))) (.seq (.block 4 (.seq (.reg [.q 82 (.fa 2 (.t 9)),.l 83 (.ld1 (.t 82)),.v 84 11,.l 85 (.ia 1 (.t 83) (.t 84)),.l 86 (.ld1 (.t 85)),.q 87 (.fa 1 (.t 5)),.l 88 (.ld1 (.t 87)),.q 89 (.bin .eql true (.t 86) (.t 88))]) (.cond (.t 89) (.seq (.reg [.q 6 (.mv (.k (.bool true)))]) .ret) .skip))) (.reg [.v 80 11,.q 81 (.bin .add true (.t 80) (.i 1)),.v 11 81])))))) (.seq (.reg [.q 6 (.mv (.k (.bool false)))]) .ret))
@[go_sem ↓] theorem aHV:aS uO:=aT _
def pcM61_6:PC:=.seq (.seq (.gh (.reg [.q 24 (.fa 0 (.t 4)),.l 25 (.ld1 (.t 24))])) (.block 2 (.seq (.reg [.q 27 (.bin .eql true (.t 25) (.i 1)),.v 26 27]) (.cond (.t 26) (zM) (.seq (.reg [.q 37 (.bin .eql true (.t 25) (.i 2)),.v 36 37]) (.cond (.t 36) (oX) (.seq (.reg [.q 55 (.bin .eql true (.t 25) (.i 3)),.v 54 55]) (.cond (.t 54) (uZ) (.seq (.reg [.q 67 (.bin .eql true (.t 25) (.i 7)),.v 66 67]) (.cond (.t 66) (uO) .skip)))))))))) (.seq (.reg [.q 6 (.mv (.k (.bool true)))]) .ret)
@[go_sem ↓] theorem aK4:aS pcM61_6:=aT _
def TJ:PC:=.seq (.reg [.e 3 (.bx 25 (.t 0)),.e 4 (.bx 42 (.t 1)),.e 5 (.bx 29 (.t 2)),.q 6 (.mv (.k (.bool false)))]) (.seq (.reg [.q 7 (.mv (.i 1))]) (.seq (.seq (.reg [.q 8 (.mv (.i 1))]) (.block 0 (.loop (.seq (.seq (.reg [.v 12 8,.q 13 (.fa 1 (.t 4)),.l 14 (.ld1 (.t 13)),.q 15 (.bin .lss true (.t 12) (.t 14)),.v 16 15,⟨some 17,(some (16,true)),.q (.mv (.t 8))⟩,⟨some 18,(some (16,true)),.q (.bin .lss true (.t 17) (.i 63))⟩,.a 19 (.pick (.t 16) (.t 18) (.k (.bool false)))]) (.cond (.t 19) .skip (.exit 0))) (.seq (.block 1 (.reg [.v 22 7,.q 23 (.bin .mul true (.i 2) (.t 22)),.v 7 23])) (.reg [.v 20 8,.q 21 (.bin .add true (.t 20) (.i 1)),.v 8 21])))))) (pcM61_6)))
def nB:List RV:=[.mv (.t 6)]
theorem aKZ:aO Tryz.prog true ⟨fun _ _=>.own [],fun r=>[6,8,10,12,14].contains r⟩ Tryz.f61=some (TJ,nB):=by kernel_rfl
def mZ (i:Nat):Int:=2 ^ (i - 1)
theorem KD {i:Nat} (h:1<=i):2 * mZ i=mZ (i + 1):=by
 unfold mZ
 obtain ⟨j,rfl⟩:∃ j,i=j + 1:=⟨i - 1,by omega⟩
 rw [Nat.add_sub_cancel,Nat.add_sub_cancel,Int.pow_succ,Int.mul_comm]
theorem LM {i:Nat} (h:i<=63):1<=mZ i/\mZ i<=4611686018427387904:=by
 unfold mZ
 have h1:(2:Nat) ^ (i - 1)<=2 ^ 62:=Nat.pow_le_pow_right (by decide) (by omega)
 have h2:1<=(2:Nat) ^ (i - 1):=Nat.one_le_two_pow
 have e:((2:Int) ^ (i - 1))=(((2:Nat) ^ (i - 1):Nat):Int):=by rw [Int.natCast_pow]; rfl
 rw [e]
 have:(2:Nat) ^ 62=4611686018427387904:=by decide
 omega
theorem va2 {ss:List St} {es:List En} {t:Ty} (h:valF ss es t=true) (hk:(t.k == 2)=true):t.s=8\/t.s=16\/t.s=32\/t.s=64:=by
 obtain ⟨k,s,n,e⟩:=t
 have hk:k=2:=eq_of_beq hk
 subst hk
 rw [valF] at h
 simp at h
 show s=8\/s=16\/s=32\/s=64
 omega
theorem va3 {ss:List St} {es:List En} {t:Ty} (h:valF ss es t=true) (hk:(t.k == 3)=true):t.s=8\/t.s=16\/t.s=32:=by
 obtain ⟨k,s,n,e⟩:=t
 have hk:k=3:=eq_of_beq hk
 subst hk
 rw [valF] at h
 simp at h
 show s=8\/s=16\/s=32
 omega
def mR (s:Sc) (t:Ty) (n:Int):Bool:=
 bif t.k == 1 then n == 0 || n == 1
 else bif t.k == 2 then t.s == 64 || (decide (-(2 ^ (t.s.toNat - 1):Int)<=n) && decide (n < (2 ^ (t.s.toNat - 1):Int)))
 else bif t.k == 3 then decide (0<=n) && decide (n < (2 ^ t.s.toNat:Int))
 else bif t.k == 7 then (enOf s t).vs.any fun x=>x == n else true
theorem RQ:Meets Tryz.prog 61 (fN (fun s t _=>valF s.ss s.es t=true) fun s t v=>.bool (mR s t v.n)).sp:=by
 refine aF Tryz.func61 aKZ 3 (by rw [Tryz.ntmps61]; decide) (aE aGV (aA _)) eE ?_
 intro av H K h
 obtain ⟨s,t,v,rfl,rfl,hs,ht,hv,hp,hK⟩:=cW h
 clear h
 have fin:∀ (b:Bool) (R:Hp),mR s t v.n=b->W.Fin 0 K (bS b) R:=fun b R h=>by
  rw [h] at hK; exact .sel [] (by simp) (by simp) rfl (.done (by simpa [go_sem] using hK))
 clear hK
 unfold mR at fin
 have hts:=ht.s
 have hts1:=hts.1
 have hts2:=hts.2
 have he:=YQ hs t
 have tail:∀ i:Nat,i<=63->(i=1\/(i:Int)<=t.s)->(t.s<=(i:Int)\/i=63)->vc [(105,.s xD)] 0 pcM61_6.ungh
  (eY [(3,.va (.c1 (.pt 0 0))),(4,.va (.c1 (.pt 1 0))),(5,.va (.c1 (.pt 2 0))),(7,iS .i64 (mZ i))]) [.cells [.vl (.int .i64 s.ver),.fz (s.es.map aX),.fz (s.ss.map aH)] 25,.cells [.vl (.int .i64 t.k),.vl (.int .i64 t.s),.vl (.string t.n),.fz (t.e.map aQ)] 42,.cells [.vl (.int .i64 v.k),.vl (.int .i64 v.n),.vl (.string v.s),.fz (v.l.map aP),.fz (v.f.map a8)] 29] (jE 0 nB K):=fun i hi2 hi3 hi4=>by
  have hb:=LM hi2
  have hsz:2<=t.s->t.s<=63->mZ i=2 ^ (t.s.toNat - 1)/\2 * mZ i=2 ^ t.s.toNat:=fun h1 h2=>by
   have e:i=t.s.toNat:=by omega
   refine ⟨by rw [e]; rfl,?_⟩
   rw [KD (by omega),e]; rfl
  cases h1:t.k == 1 with
  | true=>
   rw [h1,bB] at fin
   cases n0:v.n == 0<;>cases n1:v.n == 1<;>rw [n0,n1] at fin <;>
   · simp (maxSteps:=1000000) -dsimp only [go_sem,pcM61_6,nB,h1]
     refine aB rfl (.done ?_)
     simp (maxSteps:=1000000) -dsimp only [go_sem,zM,n0,n1]
     exact fin _ _ rfl
  | false=>
  cases h2:t.k == 2 with
  | true=>
   rw [h1,h2,aY,bB] at fin
   simp (maxSteps:=1000000) -dsimp only [go_sem,pcM61_6,nB,h1,h2]
   refine aB rfl (.done ?_)
   have hs:=va2 hp h2
   cases c64:t.s == 64 with
   | true=>
    rw [c64,Bool.true_or] at fin
    simp (maxSteps:=1000000) -dsimp only [go_sem,oX,c64]
    exact fin _ _ rfl
   | false=>
    have hne:t.s ≠ 64:=by simpa using c64
    rw [c64,Bool.false_or,<-(hsz (by omega) (by omega)).1] at fin
    generalize mZ i=hh at *
    cases d1:decide (0 - hh<=v.n)<;>cases d2:decide (v.n < hh) <;>
    · have d1':decide (-hh<=v.n)=decide (0 - hh<=v.n):=by rw [Int.zero_sub]
      rw [d1',d1,d2] at fin
      simp (maxSteps:=1000000) -dsimp only [go_sem,oX,c64,d1,d2]
      exact ⟨⟨by omega,by omega⟩,fin _ _ rfl⟩
  | false=>
  cases h3:t.k == 3 with
  | true=>
   rw [h1,h2,h3,aY,aY,bB] at fin
   simp (maxSteps:=1000000) -dsimp only [go_sem,pcM61_6,nB,h1,h2,h3]
   refine aB rfl (.done ?_)
   have hs:=va3 hp h3
   have hb3:2 * mZ i<=4294967296:=by rw [(hsz (by omega) (by omega)).2]; rcases hs with h | h | h<;>rw [h]<;>decide
   rw [<-(hsz (by omega) (by omega)).2] at fin
   generalize mZ i=hh at *
   cases d1:decide (0<=v.n)<;>cases d2:decide (v.n < 2 * hh)<;>rw [d1,d2] at fin <;>
   · simp (maxSteps:=1000000) -dsimp only [go_sem,uZ,d1,d2]
     first
      | exact fin _ _ rfl
      | exact ⟨⟨by omega,by omega⟩,fin _ _ rfl⟩
  | false=>
  cases h7:t.k == 7 with
  | false=>
   rw [h1,h2,h3,h7,aY,aY,aY,aY] at fin
   simp (maxSteps:=1000000) -dsimp only [go_sem,pcM61_6,nB,h1,h2,h3,h7]
   exact fin _ _ rfl
  | true=>
   rw [h1,h2,h3,h7,aY,aY,aY,bB] at fin
   simp (maxSteps:=1000000) -dsimp only [go_sem,pcM61_6,nB,h1,h2,h3,h7]
   refine aB rfl (.done ?_)
   simp (maxSteps:=1000000) -dsimp only [go_sem,uO]
   refine l8 hs ?_
   rw [show (dL s.es t.n).getD default=enOf s t from rfl]
   generalize enOf s t=e at *
   simp (maxSteps:=1000000) -dsimp only [go_sem,aX]
   have hel:=he.lv
   refine aL (α:=Nat) (fun i=>[(5,.va (.c1 (.pt 2 0))),(9,.va (.c1 (.pt 3 0))),(11,iS .i64 i)]) (fun _=>[.cells [.vl (.int .i64 s.ver),.fz (s.es.map aX),.fz (s.ss.map aH)] 25,.cells [.vl (.int .i64 t.k),.vl (.int .i64 t.s),.vl (.string t.n),.fz (t.e.map aQ)] 42,.cells [.vl (.int .i64 v.k),.vl (.int .i64 v.n),.vl (.string v.s),.fz (v.l.map aP),.fz (v.f.map a8)] 29,.cells [.vl (.string e.nm),.fz (e.ns.map bC),.fz (e.vs.map cH)] 118])
    (fun i=>i<=e.vs.length/\((e.vs.drop i).any fun x=>x == v.n)=(e.vs.any fun x=>x == v.n)) (fun i=>e.vs.length - i) 0 4 ⟨Nat.zero_le _,rfl⟩ ?_ ?_ ?_
   · simp -dsimp only [go_sem]<;>simp
   · simp -dsimp only [go_sem]<;>simp
   rintro j ⟨hj,ho⟩
   rcases a7 j e.vs.length with hlt | hge
   · have hg:decide ((j:Int) < (e.vs.length:Int))=true:=by simp; omega
     have hx:e.vs[j]? = some e.vs[j]:=aU hlt
     have q2:=aR (row:=cH) hx
     rw [List.drop_eq_getElem_cons hlt,List.any_cons] at ho
     generalize e.vs[j]=m at *
     cases hc:m == v.n with
     | true=>
      rw [hc,Bool.true_or] at ho
      simp (maxSteps:=1000000) -dsimp only [go_sem,hg,↓q2,hc]
      exact ⟨⟨by omega,by omega⟩,fin _ _ ho.symm⟩
     | false=>
      rw [hc,Bool.false_or] at ho
      simp (maxSteps:=1000000) -dsimp only [go_sem,hg,↓q2,hc]
      refine ⟨⟨by omega,by omega⟩,⟨by omega,by omega⟩,aD (j + 1) 4 ⟨by omega,ho⟩ (by omega) ?_ ?_⟩
      · simp -dsimp only [go_sem]<;>simp
      · simp -dsimp only [go_sem]<;>simp
   · have hg:decide ((j:Int) < (e.vs.length:Int))=false:=by simp; omega
     have:e.vs.drop j=[]:=List.drop_eq_nil_iff.2 (by omega)
     rw [this,List.any_nil] at ho
     simp (maxSteps:=1000000) -dsimp only [go_sem,hg]
     exact fin _ _ ho.symm
 simp (maxSteps:=1000000) -dsimp only [go_sem,aC,aM t,aJ v,TJ,nB]
 refine aL (α:=Nat) (fun i=>[(3,.va (.c1 (.pt 0 0))),(4,.va (.c1 (.pt 1 0))),(5,.va (.c1 (.pt 2 0))),(7,iS .i64 (mZ i)),(8,iS .i64 i)]) (fun _=>[.cells [.vl (.int .i64 s.ver),.fz (s.es.map aX),.fz (s.ss.map aH)] 25,.cells [.vl (.int .i64 t.k),.vl (.int .i64 t.s),.vl (.string t.n),.fz (t.e.map aQ)] 42,.cells [.vl (.int .i64 v.k),.vl (.int .i64 v.n),.vl (.string v.s),.fz (v.l.map aP),.fz (v.f.map a8)] 29])
  (fun i=>1<=i/\i<=63/\(i=1\/(i:Int)<=t.s)) (fun i=>63 - i) 1 3 ⟨by omega,by omega,.inl rfl⟩ ?_ ?_ ?_
 · simp -dsimp only [go_sem]<;>simp [mZ]
 · simp -dsimp only [go_sem]<;>simp
 rintro i ⟨hi1,hi2,hi3⟩
 have hb:=LM hi2
 cases hg:decide ((i:Int) < t.s) && decide ((i:Int) < 63) with
 | true=>
  obtain ⟨g1,g2⟩:decide ((i:Int) < t.s)=true/\decide ((i:Int) < 63)=true:=by simpa only [Bool.and_eq_true] using hg
  have hsu:=KD hi1
  have h1:=of_decide_eq_true g1
  have h2:=of_decide_eq_true g2
  have hb2:=LM (i:=i + 1) (by omega)
  simp (maxSteps:=1000000) -dsimp only [go_sem,g1,g2]
  refine ⟨⟨by omega,by omega⟩,⟨by omega,by omega⟩,aD (i + 1) 3 ⟨by omega,by omega,.inr (by omega)⟩ (by omega) ?_ ?_⟩
  · simp -dsimp only [go_sem,hsu]<;>simp
  · simp -dsimp only [go_sem]<;>simp
 | false=>
  have hg':(decide ((i:Int) < t.s)=false)\/(decide ((i:Int) < t.s)=true/\decide ((i:Int) < 63)=false):=by
   cases h:decide ((i:Int) < t.s) with
   | false=>exact .inl rfl
   | true=>rw [h,Bool.true_and] at hg; exact .inr ⟨rfl,hg⟩
  rcases hg' with g1 | ⟨g1,g2⟩
  · simp (maxSteps:=1000000) -dsimp only [go_sem,g1]
    refine fC 3 (tail i hi2 hi3 (.inl (by have:=of_decide_eq_false g1; omega))) ?_ ?_
    · simp -dsimp only [go_sem]<;>simp
    · simp -dsimp only [go_sem]<;>simp
  · simp (maxSteps:=1000000) -dsimp only [go_sem,g1,g2]
    refine fC 3 (tail i hi2 hi3 (.inr (by have:=of_decide_eq_false g2; omega))) ?_ ?_
    · simp -dsimp only [go_sem]<;>simp
    · simp -dsimp only [go_sem]<;>simp
def HN (t:Ty) (a b:Int):Bool:=(t.k == 4 && decide (t.s < a)) || (t.k == 5 && decide (t.s < b))
mutual
def m1 (s:Sc) (t:Ty):Vl->Int
 | .mk k n str l f=>bif !(g5 s t (.mk k n str l f)) then 13 else bif !(mR s t n) then 4 else bif HN t (bl str).length l.length then 3
  else bif kN s (t.e.headD default) l != 0 then kN s (t.e.headD default) l else mU s (stOf s t) f
def kN (s:Sc) (t:Ty):List Vl->Int
 | []=>0
 | v :: r=>bif m1 s t v != 0 then m1 s t v else kN s t r
def mU (s:Sc) (u:St):List (Int × Vl)->Int
 | []=>0
 | (i,v) :: r=>bif m1 s (iK u i).ty v != 0 then m1 s (iK u i).ty v else mU s u r
end
theorem nY {α:Type} {l:List α} (h:decide (0 < (l.length:Int))=false):l=[]:=by
 have:=of_decide_eq_false h
 exact List.length_eq_zero_iff.1 (by omega)
theorem aAU {s:Sc} {t:Ty} {n:Int} (hp:valF s.ss s.es t=true) (h4:(t.k == 4)=false) (h5:(t.k == 5)=false) (h6:(t.k == 6)=false):mR s t n=iE s t n:=by
 unfold mR iE
 cases h1:t.k == 1 with
 | true=>rfl
 | false=>
 cases h2:t.k == 2 with
 | true=>rfl
 | false=>
 cases h3:t.k == 3 with
 | true=>rfl
 | false=>
 cases h7:t.k == 7 with
 | true=>rfl
 | false=>
  exfalso
  obtain ⟨k,sz,nm,e⟩:=t
  have h1:(k == 1)=false:=h1
  have h2:(k == 2)=false:=h2
  have h3:(k == 3)=false:=h3
  have h4:(k == 4)=false:=h4
  have h5:(k == 5)=false:=h5
  have h6:(k == 6)=false:=h6
  have h7:(k == 7)=false:=h7
  rw [valF,h1,h2,h3,h4,h5,h6,h7] at hp
  cases hp
mutual
theorem FE (s:Sc) (t:Ty):∀ v:Vl,m1 s t v=d9 s t v
 | .mk k n str l f=>by
  have hL:∀ u,kN s u l=jV s u l:=fun u=>MI s u l
  have hE:mU s (stOf s t) f=jU s ((fS s.ss t.n).getD default).fs f:=NM s (stOf s t) f
  rw [m1,d9,hL,hE]
  unfold g5
  cases hp:valF s.ss s.es t with
  | false=>rfl
  | true=>
  show (bif !(bif !true || k != t.k || yW (.mk k n str l f) then false else bif HK (.mk k n str l f) then false else bif k != 6 then true else dF (stOf s t).fs f) then 13 else _)=_
  cases hk:k != t.k with
  | true=>rfl
  | false=>
  have hk':k=t.k:=by simpa using hk
  subst hk'
  have eA:yW (.mk t.k n str l f)=((t.k != 4 && !(bl str == [])) || (t.k != 5 && decide (0 < (l.length:Int))) || (t.k != 6 && decide (0 < (f.length:Int)))):=rfl
  have eB:HK (.mk t.k n str l f)=((t.k == 4 || t.k == 5 || t.k == 6) && n != 0):=rfl
  rw [eA,eB]
  unfold HN
  cases h4:t.k == 4 with
  | true=>
   have e4:t.k=4:=eq_of_beq h4
   have er:mR s t n=true:=by unfold mR; rw [e4]; rfl
   rw [er,e4]
   unfold oV
   cases hn:n != 0<;>cases hl:decide (0 < (l.length:Int))<;>cases hf:decide (0 < (f.length:Int))<;>cases hs:decide (t.s < ((bl str).length:Int))<;>(try rw [nY hl])<;>(try rw [nY hf])<;>simp [jV,jU]
  | false=>
  cases h5:t.k == 5 with
  | true=>
   have e5:t.k=5:=eq_of_beq h5
   have er:mR s t n=true:=by unfold mR; rw [e5]; rfl
   rw [er,e5]
   generalize jV s (t.e.headD default) l=q
   have hq:(bif q != 0 then q else 0)=q:=by
    cases hz:q != 0 with
    | true=>rfl
    | false=>
     have hq0:q=0:=by simpa using hz
     rw [hq0]; rfl
   cases hn:n != 0<;>cases hb:bl str == []<;>cases hf:decide (0 < (f.length:Int))<;>cases hs:decide (t.s < (l.length:Int))<;>(try rw [nY hf])<;>simp [jU,hq]
  | false=>
  cases h6:t.k == 6 with
  | true=>
   have e6:t.k=6:=eq_of_beq h6
   have er:mR s t n=true:=by unfold mR; rw [e6]; rfl
   have ef:(stOf s t).fs=((fS s.ss t.n).getD default).fs:=rfl
   rw [er,e6,ef]
   cases hn:n != 0<;>cases hb:bl str == []<;>cases hl:decide (0 < (l.length:Int))<;>cases hs:dF ((fS s.ss t.n).getD default).fs f<;>(try rw [nY hl])<;>simp [jV]
  | false=>
   rw [aAU hp h4 h5 h6]
   have c4:(t.k != 4)=true:=by rw [bne,h4]; rfl
   have c5:(t.k != 5)=true:=by rw [bne,h5]; rfl
   have c6:(t.k != 6)=true:=by rw [bne,h6]; rfl
   rw [c4,c5,c6]
   unfold p8
   cases hb:bl str == []<;>cases hl:decide (0 < (l.length:Int))<;>cases hf:decide (0 < (f.length:Int))<;>cases hr:iE s t n<;>(try rw [nY hl])<;>(try rw [nY hf])<;>simp [jV,jU]
theorem MI (s:Sc) (t:Ty):∀ l:List Vl,kN s t l=jV s t l
 | []=>by rw [kN,jV]
 | v :: r=>by rw [kN,jV,FE s t v,MI s t r]
theorem NM (s:Sc) (u:St):∀ l:List (Int × Vl),mU s u l=jU s u.fs l
 | []=>by rw [mU,jU]
 | (i,v) :: r=>by
  rw [mU,jU,FE s (iK u i).ty v,NM s u r]; rfl
end
theorem YG (s:Sc) (t:Ty) (v:Vl):m1 s t v=bif !(g5 s t v) then 13 else bif !(mR s t v.n) then 4 else bif HN t (bl v.s).length v.l.length then 3
 else bif kN s (t.e.headD default) v.l != 0 then kN s (t.e.headD default) v.l else mU s (stOf s t) v.f:=by cases v; rw [m1]; rfl
theorem IV:∀ N,Meets Tryz.prog 34 (fN (uD N) fun s t v=>.int .i64 (m1 s t v)).sp
 | 0=>⟨by kernel_rfl,by rintro xs vs E ro w K _ _ _ h; obtain ⟨_,_,v,_,_,_,_,_,h,_⟩:=cW h; have:=v.h_pos; have h:v.h<=0:=h; omega⟩
 | N + 1=>by
  refine aF Tryz.func34 aIB 3 (by rw [Tryz.ntmps34]; decide) (aG ZS (aG RQ (aG (IV N) (aE vM (aE JI (aA _)))))) eE ?_
  intro av H K h
  obtain ⟨s,t,v,rfl,rfl,hs,ht,hv,hh,hK⟩:=cW h
  clear h
  have hh:v.h<=N + 1:=hh
  have fin:∀ (z:Int) (R:Hp),m1 s t v=z->W.Fin 0 K (iS .i64 z) R:=fun z R h=>by
   have hK:K (iS .i64 (m1 s t v)) []:=hK
   rw [h] at hK; exact .sel [] (by simp) (by simp) rfl (.done (by simpa [go_sem] using hK))
  clear hK
  rw [YG] at fin
  have k1:=b9 hv
  have k2:=dS v
  have k4:=dO ht
  have k5:=gO t
  have k6:=cV hs
  have k7:=fY s
  cases h1:g5 s t v with
  | false=>
   rw [h1] at fin
   simp (maxSteps:=1000000) -dsimp only [go_sem,aC,aM t,aJ v,K4,yH,k1,k2,k4,k5,k6,k7,h1]
   exact fin 13 _ rfl
  | true=>
  have hp:valF s.ss s.es t=true:=by
   cases hp:valF s.ss s.es t with
   | true=>rfl
   | false=>unfold g5 at h1; rw [hp] at h1; cases h1
  rw [h1] at fin
  simp (maxSteps:=1000000) -dsimp only [go_sem,aC,aM t,aJ v,K4,yH,k1,k2,k4,k5,k6,k7,h1]
  refine aB rfl (.done ?_)
  cases h2:mR s t v.n with
  | false=>
   rw [h2] at fin
   simp (maxSteps:=1000000) -dsimp only [go_sem,tF,k1,k2,k4,k5,k6,k7,hp,h2]
   exact fin 4 _ rfl
  | true=>
  rw [h2] at fin
  simp (maxSteps:=1000000) -dsimp only [go_sem,tF,k1,k2,k4,k5,k6,k7,hp,h2]
  refine aB rfl (.done ?_)
  simp only [Bool.not_true,aY] at fin
  have hne:0 < v.l.length->∃ u,t.e=[u]/\TyOk u:=fun hl=>by
   have hk5:v.k=5:=by
    cases h5:v.k != 5 with
    | false=>simpa using h5
    | true=>
     unfold g5 yW at h1
     rw [h5,decide_eq_true (show (0:Int) < (v.l.length:Int) by omega)] at h1
     simp at h1
   have hkt:v.k=t.k:=by
    cases hkt:v.k != t.k with
    | false=>simpa using hkt
    | true=>unfold g5 at h1; rw [hkt] at h1; simp at h1
   obtain ⟨u,he,_⟩:=AT hp (by rw [<-hkt,hk5]; rfl)
   exact ⟨u,he,ht.e u (by rw [he]; simp)⟩
  have tail:(∀ (z:Int) (R:Hp),(bif kN s (t.e.headD default) v.l != 0 then kN s (t.e.headD default) v.l else mU s (stOf s t) v.f)=z->W.Fin 0 K (iS .i64 z) R)->vc [(60,.f (fN (fun _ _ _=>True) fun s t v=>.bool (g5 s t v))),(61,.f (fN (fun s t _=>valF s.ss s.es t=true) fun s t v=>.bool (mR s t v.n))),(34,.f (fN (uD N) fun s t v=>.int .i64 (m1 s t v))),(62,.s oW),(63,.s pV)] 0 pcM34_7.ungh
   (eY [(3,.va (.c1 (.pt 0 0))),(4,.va (.c1 (.pt 1 0))),(5,.va (.c1 (.pt 2 0)))]) [.cells [.vl (.int .i64 s.ver),.fz (s.es.map aX),.fz (s.ss.map aH)] 25,.cells [.vl (.int .i64 t.k),.vl (.int .i64 t.s),.vl (.string t.n),.fz (t.e.map aQ)] 42,.cells [.vl (.int .i64 v.k),.vl (.int .i64 v.n),.vl (.string v.s),.fz (v.l.map aP),.fz (v.f.map a8)] 29] (jE 0 yH K):=fun fin=>by
   have hll:=hv.ll
   simp (maxSteps:=1000000) -dsimp only [go_sem,pcM34_7,yH]
   refine aL (α:=Nat) (fun i=>[(3,.va (.c1 (.pt 0 0))),(4,.va (.c1 (.pt 1 0))),(5,.va (.c1 (.pt 2 0))),(7,iS .i64 i)]) (fun _=>[.cells [.vl (.int .i64 s.ver),.fz (s.es.map aX),.fz (s.ss.map aH)] 25,.cells [.vl (.int .i64 t.k),.vl (.int .i64 t.s),.vl (.string t.n),.fz (t.e.map aQ)] 42,.cells [.vl (.int .i64 v.k),.vl (.int .i64 v.n),.vl (.string v.s),.fz (v.l.map aP),.fz (v.f.map a8)] 29])
    (fun i=>i<=v.l.length/\(bif kN s (t.e.headD default) (v.l.drop i) != 0 then kN s (t.e.headD default) (v.l.drop i) else mU s (stOf s t) v.f)=(bif kN s (t.e.headD default) v.l != 0 then kN s (t.e.headD default) v.l else mU s (stOf s t) v.f)) (fun i=>v.l.length - i) 0 3 ⟨Nat.zero_le _,rfl⟩ ?_ ?_ ?_
   · simp -dsimp only [go_sem]<;>simp
   · simp -dsimp only [go_sem]<;>simp
   rintro i ⟨hi,ho⟩
   rcases a7 i v.l.length with hlt | hge
   · have hg:decide ((i:Int) < (v.l.length:Int))=true:=by simp; omega
     have hx:v.l[i]? = some v.l[i]:=aU hlt
     have q2:=aR (row:=aP) hx
     obtain ⟨u,he,hu⟩:=hne (by omega)
     rw [he,List.headD_cons] at ho
     rw [List.drop_eq_getElem_cons hlt,kN] at ho
     have hxo:=hv.l _ (List.getElem_mem hlt)
     have hxh:=Vl.h_l (List.getElem_mem hlt)
     generalize v.l[i]=x at *
     have j1:=b9 hxo
     have j2:=dS x
     have j4:=dO hu
     have j5:=gO u
     have j8:uD N s u x:=show x.h<=N by omega
     have z0:(0:Int) < ((1:Nat):Int):=by decide
     have z1:(0:Int)<=0:=by decide
     cases hz:m1 s u x != 0 with
     | true=>
      rw [hz,bB,hz,bB] at ho
      simp (maxSteps:=1000000) -dsimp only [go_sem,hg,↓q2,he,aM u,aJ x,forall_eq',z0,z1,List.length_cons,List.length_nil,List.take_succ_cons,List.take_zero,j1,j2,j4,j5,j8,k6,k7,hz]
      exact ⟨⟨by omega,by omega⟩,fin _ _ (by rw [he]; exact ho.symm)⟩
     | false=>
      rw [hz,aY] at ho
      simp (maxSteps:=1000000) -dsimp only [go_sem,hg,↓q2,he,aM u,aJ x,forall_eq',z0,z1,List.length_cons,List.length_nil,List.take_succ_cons,List.take_zero,j1,j2,j4,j5,j8,k6,k7,hz]
      refine ⟨⟨by omega,by omega⟩,⟨by omega,by omega⟩,aD (i + 1) 3 ⟨by omega,by rw [he]; exact ho⟩ (by omega) ?_ ?_⟩
      · simp -dsimp only [go_sem]<;>simp
      · simp -dsimp only [go_sem]<;>simp [he,aM u]
   · have hg:decide ((i:Int) < (v.l.length:Int))=false:=by simp; omega
     have:v.l.drop i=[]:=List.drop_eq_nil_iff.2 (by omega)
     rw [this,kN] at ho
     have ho:mU s (stOf s t) v.f=_:=ho
     rw [<-ho] at fin
     simp (maxSteps:=1000000) -dsimp only [go_sem,hg]
     refine aB rfl (.done ?_)
     simp (maxSteps:=1000000) -dsimp only [go_sem,u6]
     refine eO hs ?_
     rw [show (fS s.ss t.n).getD default=stOf s t from rfl]
     have hwo:=gK hs t
     have hws:=PR hs t
     generalize stOf s t=w at *
     have hlf:=hv.lf
     simp (maxSteps:=1000000) -dsimp only [go_sem,aH]
     refine aB rfl (.done ?_)
     simp (maxSteps:=1000000) -dsimp only [go_sem,uK]
     clear ho this hg hge hi
     refine aL (α:=Nat) (fun i=>[(3,.va (.c1 (.pt 0 0))),(5,.va (.c1 (.pt 2 0))),(9,.va (.c1 (.pt 3 0))),(11,iS .i64 i)]) (fun _=>[.cells [.vl (.int .i64 s.ver),.fz (s.es.map aX),.fz (s.ss.map aH)] 25,.cells [.vl (.int .i64 t.k),.vl (.int .i64 t.s),.vl (.string t.n),.fz (t.e.map aQ)] 42,.cells [.vl (.int .i64 v.k),.vl (.int .i64 v.n),.vl (.string v.s),.fz (v.l.map aP),.fz (v.f.map a8)] 29,.cells [.vl (.string w.nm),.fz (w.fs.map aN)] 48])
      (fun i=>i<=v.f.length/\mU s w (v.f.drop i)=mU s w v.f) (fun i=>v.f.length - i) 0 4 ⟨Nat.zero_le _,rfl⟩ ?_ ?_ ?_
     · simp -dsimp only [go_sem]<;>simp
     · simp -dsimp only [go_sem]<;>simp
     rintro j ⟨hj,ho⟩
     rcases a7 j v.f.length with hlt | hge
     · have hg:decide ((j:Int) < (v.f.length:Int))=true:=by simp; omega
       have hx:v.f[j]? = some v.f[j]:=aU hlt
       have q2:=gT hx
       rw [List.drop_eq_getElem_cons hlt] at ho
       have hxo:=hv.f _ (List.getElem_mem hlt)
       have hxh:=Vl.h_f (List.getElem_mem hlt)
       generalize v.f[j]=x at *
       obtain ⟨n,x⟩:=x
       rw [mU] at ho
       have hdo:=XY hwo n
       simp only at hxo hxh q2
       have j1:=b9 hxo
       have j2:=dS x
       have j8:∀ d:Ty,uD N s d x:=fun d=>show x.h<=N by omega
       simp (maxSteps:=1000000) -dsimp only [go_sem,hg,↓q2]
       refine ⟨⟨by omega,by omega⟩,FN hwo hws ?_⟩
       generalize iK w n=d at *
       have j4:=dO hdo.ty
       have j5:=gO d.ty
       have j8:=j8 d.ty
       simp (maxSteps:=1000000) -dsimp only [go_sem,aN]
       refine aB rfl (.done ?_)
       cases hz:m1 s d.ty x != 0 with
       | true=>
        rw [hz,bB] at ho
        simp (maxSteps:=1000000) -dsimp only [go_sem,pS,↓q2,j1,j2,j4,j5,j8,k6,k7,List.take_succ_cons,List.take_zero,List.length_cons,List.length_nil]
        refine ⟨⟨by omega,by omega⟩,aB rfl (.done ?_)⟩
        simp (maxSteps:=1000000) -dsimp only [go_sem,oT,hz]
        exact fin _ _ ho.symm
       | false=>
        rw [hz,aY] at ho
        simp (maxSteps:=1000000) -dsimp only [go_sem,pS,↓q2,j1,j2,j4,j5,j8,k6,k7,List.take_succ_cons,List.take_zero,List.length_cons,List.length_nil]
        refine ⟨⟨by omega,by omega⟩,aB rfl (.done ?_)⟩
        simp (maxSteps:=1000000) -dsimp only [go_sem,oT,hz]
        refine ⟨⟨by omega,by omega⟩,aD (j + 1) 4 ⟨by omega,ho⟩ (by omega) ?_ ?_⟩
        · simp -dsimp only [go_sem]<;>simp
        · simp -dsimp only [go_sem]<;>simp
     · have hg:decide ((j:Int) < (v.f.length:Int))=false:=by simp; omega
       have:v.f.drop j=[]:=List.drop_eq_nil_iff.2 (by omega)
       rw [this,mU] at ho
       simp (maxSteps:=1000000) -dsimp only [go_sem,hg]
       exact fin _ _ ho.symm
  have hA:∀ b:Bool,HN t (bl v.s).length v.l.length=b->((t.k == 4 && decide (t.s < ((bl v.s).length:Int))) || (t.k == 5 && decide (t.s < (v.l.length:Int))))=b:=fun b h=>h
  cases h3:HN t (bl v.s).length v.l.length with
  | true=>
   have hA:=hA true h3
   rw [h3,bB] at fin
   cases a1:t.k == 4<;>cases a2:decide (t.s < ((bl v.s).length:Int))<;>cases a3:t.k == 5<;>cases a4:decide (t.s < (v.l.length:Int)) <;>
   first
    | (exfalso; rw [a1,a2,a3,a4] at hA; exact absurd hA (by decide))
    | (simp (maxSteps:=1000000) -dsimp only [go_sem,sF,a1,a2,a3,a4,Bool.false_and,Bool.true_and,Bool.and_false]
       exact fin 3 _ rfl)
  | false=>
   have hA:=hA false h3
   rw [h3,aY] at fin
   cases a1:t.k == 4<;>cases a2:decide (t.s < ((bl v.s).length:Int))<;>cases a3:t.k == 5<;>cases a4:decide (t.s < (v.l.length:Int)) <;>
   first
    | (exfalso; rw [a1,a2,a3,a4] at hA; exact absurd hA (by decide))
    | (simp (maxSteps:=1000000) -dsimp only [go_sem,sF,a1,a2,a3,a4,Bool.true_and,Bool.and_false]
       refine fC 3 (tail fin) ?_ ?_
       · simp -dsimp only [go_sem]<;>simp
       · simp -dsimp only [go_sem]<;>simp)
mutual
def cN:Vl->Int
 | .mk k n s l f=>bif mC (.mk k n s l f) then 0 else 1 + iG (fR 0 l) f
def fR (d:Int):List Vl->Int
 | []=>d
 | v :: r=>fR (max d (cN v)) r
def iG (d:Int):List (Int × Vl)->Int
 | []=>d
 | (_,v) :: r=>iG (max d (cN v)) r
end
theorem NK (v:Vl):cN v=bif mC v then 0 else 1 + iG (fR 0 v.l) v.f:=by cases v; rw [cN]; rfl
theorem EJ {g:Vl->Int} {n:Nat} (hg:∀ x,g x=min (cN x) n) (D:Int) (x:Vl):lA g ((n:Int) - 1) (min D n) x=min (max D (cN x)) n:=by
 unfold lA
 rw [hg x]
 cases h:decide (min D (n:Int)<=(n:Int) - 1) with
 | true=>have:=of_decide_eq_true h; rw [bB]; omega
 | false=>have:=of_decide_eq_false h; rw [aY]; omega
theorem SJ {g:Vl->Int} {n:Nat} (hg:∀ x,g x=min (cN x) n):∀ (l:List Vl) (D:Int),l.foldl (lA g ((n:Int) - 1)) (min D n)=min (fR D l) n
 | [],D=>by rw [fR]; rfl
 | x :: l,D=>by rw [List.foldl_cons,EJ hg,SJ hg l,fR]
theorem UM {g:Vl->Int} {n:Nat} (hg:∀ x,g x=min (cN x) n):∀ (l:List (Int × Vl)) (D:Int),l.foldl (n2 g ((n:Int) - 1)) (min D n)=min (iG D l) n
 | [],D=>by rw [iG]; rfl
 | (i,x) :: l,D=>by
  rw [List.foldl_cons,show n2 g ((n:Int) - 1) (min D n) (i,x)=lA g ((n:Int) - 1) (min D n) x from rfl,EJ hg,UM hg l,iG]
theorem VN {g:Vl->Int} {n:Nat} (hg:∀ x,g x=min (cN x) n) (v:Vl):HA g ((n:Int) - 1) v=min (cN v) ((n:Int) + 1):=by
 unfold HA
 rw [NK]
 cases mC v with
 | true=>rw [bB,bB]; omega
 | false=>
  rw [aY,aY]
  have h1:=SJ hg v.l 0
  rw [show min (0:Int) (n:Int)=0 by omega] at h1
  rw [h1,UM hg v.f]
  omega
mutual
theorem XL:∀ v:Vl,0<=cN v
 | .mk k n s l f=>by
  rw [cN]
  have h1:=n7 l 0
  have h2:=nU f (fR 0 l)
  cases mC (.mk k n s l f) with
  | true=>exact Int.le_refl _
  | false=>rw [aY]; omega
theorem n7:∀ (l:List Vl) (d:Int),d<=fR d l
 | [],d=>by rw [fR]; exact Int.le_refl _
 | v :: r,d=>by
  rw [fR]
  have:=n7 r (max d (cN v))
  omega
theorem nU:∀ (l:List (Int × Vl)) (d:Int),d<=iG d l
 | [],d=>by rw [iG]; exact Int.le_refl _
 | (_,v) :: r,d=>by
  rw [iG]
  have:=nU r (max d (cN v))
  omega
end
theorem JZ:∀ (n:Nat) (x:Vl),gZ n x=min (cN x) n
 | 0,x=>by have:=XL x; show (0:Int)=min (cN x) 0; omega
 | n + 1,x=>by
  rw [gZ,xZ,VN (JZ n) x]
  omega
theorem XU (n:Nat) (v:Vl):qP n v=min (cN v) ((n:Int) + 1):=by rw [xZ,VN (JZ n) v]
theorem I0 (v:Vl):decide (6 < qP 7 v)=decide (6 < cN v):=by
 rw [XU]
 rw [Bool.eq_iff_iff,decide_eq_true_iff,decide_eq_true_iff]
 omega
def pcL33_3:PC:=.seq (.gh (.reg [.q 3 (.mv (.i 0))])) (.seq (.seq (.reg [.q 4 (.mv (.i 0))]) (.block 0 (.loop (.seq (.seq (.reg [.v 28 4,.q 29 (.fa 3 (.t 1)),.l 30 (.ld1 (.t 29)),.q 31 (.lnL (.t 30)),.q 32 (.bin .lss true (.t 28) (.t 31))]) (.cond (.t 32) .skip (.exit 0))) (.seq (.block 1 (.seq (.reg [.q 35 (.fa 3 (.t 1)),.l 36 (.ld1 (.t 35)),.v 37 4,.l 38 (.ia 5 (.t 36) (.t 37)),.l 39 (.ldn 5 (.t 38)),.a 40 (.cq 33 [(.t 39)]),.v 5 40]) (.seq (.reg [.v 41 5,.v 42 3,.q 43 (.bin .gtr true (.t 41) (.t 42))]) (.cond (.t 43) (.reg [.v 44 5,.v 3 44]) .skip)))) (.reg [.v 33 4,.q 34 (.bin .add true (.t 33) (.i 1)),.v 4 34])))))) (.seq (.seq (.reg [.q 6 (.mv (.i 0))]) (.block 2 (.loop (.seq (.seq (.reg [.v 45 6,.q 46 (.fa 4 (.t 1)),.l 47 (.ld1 (.t 46)),.q 48 (.lnL (.t 47)),.q 49 (.bin .lss true (.t 45) (.t 48))]) (.cond (.t 49) .skip (.exit 2))) (.seq (.block 3 (.seq (.reg [.q 52 (.fa 4 (.t 1)),.l 53 (.ld1 (.t 52)),.v 54 6,.l 55 (.ia 6 (.t 53) (.t 54)),.q 56 (.fa 1 (.t 55)),.l 57 (.ldn 5 (.t 56)),.a 58 (.cq 33 [(.t 57)]),.v 7 58]) (.seq (.reg [.v 59 7,.v 60 3,.q 61 (.bin .gtr true (.t 59) (.t 60))]) (.cond (.t 61) (.reg [.v 62 7,.v 3 62]) .skip)))) (.reg [.v 50 6,.q 51 (.bin .add true (.t 50) (.i 1)),.v 6 51])))))) (.seq (.reg [.v 63 3,.q 64 (.bin .add true (.t 63) (.i 1)),.v 2 64]) .ret)))
@[go_sem ↓] theorem aK3:aS pcL33_3:=aT _
def LF:PC:=.seq (.reg [.e 1 (.bx 29 (.t 0)),.q 2 (.mv (.i 0))]) (.seq (.seq (.reg [.q 8 (.fa 0 (.t 1)),.l 9 (.ld1 (.t 8)),.q 10 (.bin .neq true (.t 9) (.i 5)),.v 11 10,⟨some 12,(some (11,true)),.q (.fa 0 (.t 1))⟩,⟨some 13,(some (11,true)),.l (.ld1 (.t 12))⟩,⟨some 14,(some (11,true)),.q (.bin .neq true (.t 13) (.i 6))⟩,.a 15 (.pick (.t 11) (.t 14) (.k (.bool false))),.v 16 15,⟨some 17,(some (16,true)),.q (.fa 3 (.t 1))⟩,⟨some 18,(some (16,true)),.l (.ld1 (.t 17))⟩,⟨some 19,(some (16,true)),.q (.lnL (.t 18))⟩,⟨some 20,(some (16,true)),.q (.bin .eql true (.t 19) (.i 0))⟩,.a 21 (.pick (.t 16) (.t 20) (.k (.bool false))),.v 22 21,⟨some 23,(some (22,true)),.q (.fa 4 (.t 1))⟩,⟨some 24,(some (22,true)),.l (.ld1 (.t 23))⟩,⟨some 25,(some (22,true)),.q (.lnL (.t 24))⟩,⟨some 26,(some (22,true)),.q (.bin .eql true (.t 25) (.i 0))⟩,.a 27 (.pick (.t 22) (.t 26) (.k (.bool false)))]) (.cond (.t 27) (.seq (.reg [.q 2 (.mv (.i 0))]) .ret) .skip)) (pcL33_3))
def xE:List RV:=[.mv (.t 2)]
theorem aID:aO Tryz.prog true ⟨fun r k=>if r=7/\k=5 then .q else if r=13/\k=6 then .q else .own [],fun r=>[3].contains r⟩ Tryz.f33=some (LF,xE):=by kernel_rfl
mutual
theorem LU:∀ v:Vl,cN v<=v.h
 | .mk k n s l f=>by
  rw [cN,Vl.h]
  have h1:=U6 l 0
  have h2:=US f (fR 0 l)
  cases mC (.mk k n s l f) with
  | true=>rw [bB]; omega
  | false=>rw [aY]; omega
theorem U6:∀ (l:List Vl) (d:Int),fR d l<=max d (Vl.hl l)
 | [],d=>by rw [fR,Vl.hl]; omega
 | v :: r,d=>by
  rw [fR,Vl.hl]
  have h1:=LU v
  have h2:=U6 r (max d (cN v))
  omega
theorem US:∀ (l:List (Int × Vl)) (d:Int),iG d l<=max d (Vl.hf l)
 | [],d=>by rw [iG,Vl.hf]; omega
 | (i,v) :: r,d=>by
  rw [iG,Vl.hf]
  have h1:=LU v
  have h2:=US r (max d (cN v))
  omega
end
def DP (N:Nat):List S->Prop:=fun av=>match av with
 | [.va (.gs r)]=>lE r/\(C.vv r).h<=N/\N<=1000000
 | _=>False
theorem lU {N:Nat} {av:List S} (h:DP N av):∃ v,av=[.va (.gs (aP v))]/\VlOk v/\v.h<=N/\N<=1000000:=by
 unfold DP at h
 split at h
 · obtain ⟨⟨v,rfl,hv⟩,h1,h2⟩:=h; rw [fI] at h1; exact ⟨v,rfl,hv,h1,h2⟩
 · exact h.elim
noncomputable def SM:List S->A:=fun av=>match av with
 | [.va (.gs r)]=>iA .i64 (cN (C.vv r))
 | _=>.gs []
noncomputable def L5 (N:Nat):Fun:=⟨DP N,SM,fun av h=>by obtain ⟨_,rfl,_⟩:=lU h; trivial⟩
attribute [go_sem] L5 DP SM
theorem FF:∀ N,Meets Tryz.prog 33 (L5 N).sp
 | 0=>⟨by kernel_rfl,by rintro xs vs E ro w K _ _ _ ⟨⟨h,_⟩,_⟩; obtain ⟨v,_,_,h,_⟩:=lU h; have:=v.h_pos; omega⟩
 | N + 1=>by
  refine aF Tryz.func33 aID 1 (by rw [Tryz.ntmps33]; decide) (aG (FF N) (aA _)) (fun av H K h=>by obtain ⟨_,rfl,_⟩:=lU h.1.1; rfl) ?_
  rintro av H K ⟨⟨h,rfl⟩,hK⟩
  obtain ⟨v,rfl,hv,hh,hN⟩:=lU h
  have hK:K (iS .i64 (cN v)) []:=by
   have:(L5 (N + 1)).val [.va (.gs (aP v))]=iA .i64 (cN v):=by show iA .i64 (cN (C.vv (aP v)))=_; rw [fI]
   rw [this] at hK; exact hK
  have fin:∀ (z:Int) (R:Hp),cN v=z->W.Fin 0 K (iS .i64 z) R:=fun z R h=>by
   rw [h] at hK; exact .sel [] (by simp) (by simp) rfl (.done (by simpa [go_sem] using hK))
  clear hK h
  have hvh:=LU v
  rw [NK] at fin hvh
  have hll:=hv.ll
  have hlf:=hv.lf
  have hs:∀ b:Bool,mC v=b->((v.k != 5) && (v.k != 6) && ((v.l.length:Int) == 0) && ((v.f.length:Int) == 0))=b:=fun b h=>h
  have tail:(∀ (z:Int) (R:Hp),1 + iG (fR 0 v.l) v.f=z->W.Fin 0 K (iS .i64 z) R)->1 + iG (fR 0 v.l) v.f<=1000001->vc [(33,.f (L5 N))] 0 pcL33_3.ungh (eY [(1,.va (.c1 (.pt 0 0)))]) [.cells [.vl (.int .i64 v.k),.vl (.int .i64 v.n),.vl (.string v.s),.fz (v.l.map aP),.fz (v.f.map a8)] 29] (jE 0 xE K):=fun fin hb=>by
   simp (maxSteps:=1000000) -dsimp only [go_sem,pcL33_3,xE]
   refine aL (α:=Nat × Int) (fun x=>[(1,.va (.c1 (.pt 0 0))),(3,iS .i64 x.2),(4,iS .i64 x.1)]) (fun _=>[.cells [.vl (.int .i64 v.k),.vl (.int .i64 v.n),.vl (.string v.s),.fz (v.l.map aP),.fz (v.f.map a8)] 29])
    (fun x=>x.1<=v.l.length/\fR x.2 (v.l.drop x.1)=fR 0 v.l) (fun x=>v.l.length - x.1) (0,0) 1 ⟨Nat.zero_le _,rfl⟩ ?_ ?_ ?_
   · simp -dsimp only [go_sem]<;>simp
   · simp -dsimp only [go_sem]<;>simp
   rintro ⟨i,m⟩ ⟨hi,ho⟩
   simp only at hi ho
   rcases a7 i v.l.length with hlt | hge
   · have hg:decide ((i:Int) < (v.l.length:Int))=true:=by simp; omega
     have hx:v.l[i]? = some v.l[i]:=aU hlt
     have q2:=aR (row:=aP) hx
     rw [List.drop_eq_getElem_cons hlt,fR] at ho
     have hxo:=hv.l _ (List.getElem_mem hlt)
     have hxh:=Vl.h_l (List.getElem_mem hlt)
     generalize v.l[i]=x at *
     have j1:=b9 hxo
     have j2:=dS x
     have j3:(x.h<=N)=True:=eq_true (by omega)
     have j4:(N<=1000000)=True:=eq_true (by omega)
     cases hz:decide (m < cN x) with
     | true=>
      have:=of_decide_eq_true hz
      rw [show max m (cN x)=cN x by omega] at ho
      simp (maxSteps:=1000000) -dsimp only [go_sem,hg,↓q2,aJ x,List.take_succ_cons,List.take_zero,List.length_cons,List.length_nil,j1,j2,j3,j4,hz]
      refine ⟨⟨by omega,by omega⟩,⟨by omega,by omega⟩,aD (i + 1,cN x) 1 ⟨by simp only; omega,ho⟩ (by simp only; omega) ?_ ?_⟩
      · simp -dsimp only [go_sem]<;>simp
      · simp -dsimp only [go_sem]<;>simp
     | false=>
      have:=of_decide_eq_false hz
      rw [show max m (cN x)=m by omega] at ho
      simp (maxSteps:=1000000) -dsimp only [go_sem,hg,↓q2,aJ x,List.take_succ_cons,List.take_zero,List.length_cons,List.length_nil,j1,j2,j3,j4,hz]
      refine ⟨⟨by omega,by omega⟩,⟨by omega,by omega⟩,aD (i + 1,m) 1 ⟨by simp only; omega,ho⟩ (by simp only; omega) ?_ ?_⟩
      · simp -dsimp only [go_sem]<;>simp
      · simp -dsimp only [go_sem]<;>simp
   · have hg:decide ((i:Int) < (v.l.length:Int))=false:=by simp; omega
     have:v.l.drop i=[]:=List.drop_eq_nil_iff.2 (by omega)
     rw [this,fR] at ho
     simp (maxSteps:=1000000) -dsimp only [go_sem,hg]
     clear hg this hi hge
     subst ho
     refine aL (α:=Nat × Int) (fun x=>[(1,.va (.c1 (.pt 0 0))),(3,iS .i64 x.2),(6,iS .i64 x.1)]) (fun _=>[.cells [.vl (.int .i64 v.k),.vl (.int .i64 v.n),.vl (.string v.s),.fz (v.l.map aP),.fz (v.f.map a8)] 29])
      (fun x=>x.1<=v.f.length/\iG x.2 (v.f.drop x.1)=iG (fR 0 v.l) v.f) (fun x=>v.f.length - x.1) (0,fR 0 v.l) 1 ⟨Nat.zero_le _,rfl⟩ ?_ ?_ ?_
     · simp -dsimp only [go_sem]<;>simp
     · simp -dsimp only [go_sem]<;>simp
     rintro ⟨j,m⟩ ⟨hj,ho⟩
     simp only at hj ho
     rcases a7 j v.f.length with hlt | hge
     · have hg:decide ((j:Int) < (v.f.length:Int))=true:=by simp; omega
       have hx:v.f[j]? = some v.f[j]:=aU hlt
       have q2:=gT hx
       rw [List.drop_eq_getElem_cons hlt] at ho
       have hxo:=hv.f _ (List.getElem_mem hlt)
       have hxh:=Vl.h_f (List.getElem_mem hlt)
       generalize v.f[j]=x at *
       obtain ⟨n,x⟩:=x
       rw [iG] at ho
       simp only at hxo hxh q2
       have j1:=b9 hxo
       have j2:=dS x
       have j3:(x.h<=N)=True:=eq_true (by omega)
       have j4:(N<=1000000)=True:=eq_true (by omega)
       cases hz:decide (m < cN x) with
       | true=>
        have:=of_decide_eq_true hz
        rw [show max m (cN x)=cN x by omega] at ho
        simp (maxSteps:=1000000) -dsimp only [go_sem,hg,↓q2,List.take_succ_cons,List.take_zero,List.length_cons,List.length_nil,j1,j2,j3,j4,hz]
        refine ⟨⟨by omega,by omega⟩,⟨by omega,by omega⟩,aD (j + 1,cN x) 1 ⟨by simp only; omega,ho⟩ (by simp only; omega) ?_ ?_⟩
        · simp -dsimp only [go_sem]<;>simp
        · simp -dsimp only [go_sem]<;>simp
       | false=>
        have:=of_decide_eq_false hz
        rw [show max m (cN x)=m by omega] at ho
        simp (maxSteps:=1000000) -dsimp only [go_sem,hg,↓q2,List.take_succ_cons,List.take_zero,List.length_cons,List.length_nil,j1,j2,j3,j4,hz]
        refine ⟨⟨by omega,by omega⟩,⟨by omega,by omega⟩,aD (j + 1,m) 1 ⟨by simp only; omega,ho⟩ (by simp only; omega) ?_ ?_⟩
        · simp -dsimp only [go_sem]<;>simp
        · simp -dsimp only [go_sem]<;>simp
     · have hg:decide ((j:Int) < (v.f.length:Int))=false:=by simp; omega
       have:v.f.drop j=[]:=List.drop_eq_nil_iff.2 (by omega)
       rw [this,iG] at ho
       have hm0:0<=iG (fR 0 v.l) v.f:=Int.le_trans (n7 v.l 0) (nU v.f _)
       simp (maxSteps:=1000000) -dsimp only [go_sem,hg]
       exact ⟨⟨by omega,by omega⟩,fin _ _ (by omega)⟩
  cases h0:mC v with
  | true=>
   have hs:=hs true h0
   rw [h0,bB] at fin
   simp only [Bool.and_eq_true] at hs
   obtain ⟨⟨⟨a1,a2⟩,a3⟩,a4⟩:=hs
   simp (maxSteps:=1000000) -dsimp only [go_sem,aJ v,LF,xE,a1,a2,a3,a4]
   exact fin 0 _ rfl
  | false=>
   have hs:=hs false h0
   rw [h0,aY] at fin hvh
   cases a1:v.k != 5<;>cases a2:v.k != 6<;>cases a3:(v.l.length:Int) == 0<;>cases a4:(v.f.length:Int) == 0 <;>
   first
    | (exfalso; rw [a1,a2,a3,a4] at hs; exact absurd hs (by decide))
    | (simp (maxSteps:=1000000) -dsimp only [go_sem,aJ v,LF,xE,a1,a2,a3,a4]
       refine fC 1 (tail fin (by omega)) ?_ ?_
       · simp -dsimp only [go_sem]<;>simp
       · simp -dsimp only [go_sem]<;>simp)
theorem X8 (N:Nat) (hN:N<=1000000):Meets Tryz.prog 15 (fN (uD N) fun s t v=>.int .i64 (jJ s t v)).sp:=by
 refine aF Tryz.func15 aPH 3 (by rw [Tryz.ntmps15]; decide) (aG (FF N) (aG (IV N) (aA _))) eE ?_
 intro av H K h
 obtain ⟨s,t,v,rfl,rfl,hs,ht,hv,hh,hK⟩:=cW h
 clear h
 have fin:∀ (z:Int) (R:Hp),jJ s t v=z->W.Fin 0 K (iS .i64 z) R:=fun z R h=>by
  have hK:K (iS .i64 (jJ s t v)) []:=hK
  rw [h] at hK; exact .sel [] (by simp) (by simp) rfl (.done (by simpa [go_sem] using hK))
 clear hK
 unfold jJ at fin
 rw [I0,<-FE] at fin
 have k1:=b9 hv
 have k2:=dS v
 have k4:=dO ht
 have k5:=gO t
 have k6:=cV hs
 have k7:=fY s
 have k8:(v.h<=N)=True:=eq_true hh
 have k9:(N<=1000000)=True:=eq_true hN
 have k10:uD N s t v:=hh
 cases h1:decide (6 < cN v) with
 | true=>
  rw [h1] at fin
  simp (maxSteps:=1000000) -dsimp only [go_sem,aC,aM t,aJ v,RZ,P3,k1,k2,k8,k9,h1]
  exact fin 9 _ rfl
 | false=>
  rw [h1] at fin
  simp (maxSteps:=1000000) -dsimp only [go_sem,aC,aM t,aJ v,RZ,P3,k1,k2,k4,k5,k6,k7,k8,k9,h1]
  exact fin _ _ rfl
mutual
def prV:Vl->Bool
 | .mk _ _ s l f=>(decide ((bl s).length<=200) && (bl s).all Z9) && (prL l && prG f)
def prL:List Vl->Bool
 | []=>true
 | v :: r=>prV v && prL r
def prG:List (Int × Vl)->Bool
 | []=>true
 | (_,v) :: r=>prV v && prG r
end
def aPX (s:Sc):Prop:=∀ e ∈ s.es,e.ns.length=e.vs.length
structure NSt (ss:List St) (es:List En) (u:St):Prop where
 l:u.fs.length<=16
 n:∀ f ∈ u.fs,1<=f.num/\f.num<=127
 m:∀ f ∈ u.fs,cJ (bl f.nm)=true
 v:∀ f ∈ u.fs,valF ss es f.ty=true
 a:∀ k f g,0 < k->u.fs[k - 1]? = some g->u.fs[k]? = some f->g.num < f.num
 d:∀ k f,u.fs[k]? = some f->(u.fs.take k).any (fun g=>decide (g.nm=f.nm))=false
structure NEn (e:En):Prop where
 l:e.ns.length=e.vs.length
 s:e.ns.length<=16
 m:∀ n ∈ e.ns,cJ (bl n)=true
 d:∀ k x,e.ns[k]? = some x->bP (e.ns.take k) x=false
 a:∀ k x y,0 < k->e.vs[k - 1]? = some x->e.vs[k]? = some y->x < y
 n:∀ x ∈ e.vs,0<=x/\x<=127
structure Nice (s:Sc):Prop where
 st:∀ u ∈ s.ss,NSt s.ss s.es u
 en:∀ e ∈ s.es,NEn e
theorem fJ {b:Bool} {x y:Int} (h:(bif b then x else y)=0) (hx:x ≠ 0):b=false/\y=0:=by
 cases b with
 | true=>exact absurd h hx
 | false=>exact ⟨rfl,h⟩
theorem N9 {x y:Int} (h:(bif x != 0 then x else y)=0):x=0/\y=0:=by
 by_cases c:x=0
 · subst c; exact ⟨rfl,h⟩
 · rw [show (x != 0)=true by simpa using c] at h; exact absurd h c
theorem NG {ss:List St} {es:List En} {t:St} {k:Nat} {f:Fl} (hx:t.fs[k]? = some f) (h:iJ ss es t k=0) :
 (1<=f.num/\f.num<=127)/\(∀ g,0 < k->t.fs[k - 1]? = some g->g.num < f.num)/\cJ (bl f.nm)=true/\(t.fs.take k).any (fun g=>decide (g.nm=f.nm))=false/\valF ss es f.ty=true:=by
 unfold iJ at h
 rw [hx] at h
 simp only at h
 obtain ⟨c1,h⟩:=fJ h (by decide)
 obtain ⟨c2,h⟩:=fJ h (by decide)
 obtain ⟨c3,h⟩:=fJ h (by decide)
 obtain ⟨c4,h⟩:=fJ h (by decide)
 obtain ⟨c5,h⟩:=fJ h (by decide)
 simp only [Bool.or_eq_false_iff,decide_eq_false_iff_not] at c1
 refine ⟨⟨by omega,by omega⟩,fun g hk hg=>?_,by simpa using c3,c4,by simpa using c5⟩
 rw [hg] at c2
 simp only at c2
 rw [show decide (0 < (k:Int))=true by simp; omega,Bool.true_and] at c2
 have:=of_decide_eq_false c2
 omega
theorem BO {e:En} {k:Nat} {x:ByteArray} {n:Int} (hx:e.ns[k]? = some x) (hn:e.vs[k]? = some n) (h:eU e k=0) :
 cJ (bl x)=true/\bP (e.ns.take k) x=false/\(0<=n/\n<=127)/\(k=0->n=0)/\∀ m,0 < k->e.vs[k - 1]? = some m->m < n:=by
 unfold eU at h
 rw [hx,hn] at h
 simp only at h
 obtain ⟨c3,h⟩:=fJ h (by decide)
 obtain ⟨c4,h⟩:=fJ h (by decide)
 obtain ⟨c1,h⟩:=fJ h (by decide)
 obtain ⟨c2,h⟩:=fJ h (by decide)
 rw [Bool.or_eq_false_iff] at c1 c2
 have a1:=of_decide_eq_false c1.1
 have a2:=of_decide_eq_false c1.2
 refine ⟨by simpa using c3,c4,⟨by omega,by omega⟩,fun hk=>?_,fun m hk hm=>?_⟩
 · have c2:=c2.1
   rw [show decide ((k:Int)=0)=true by simp; omega,Bool.true_and] at c2
   exact Decidable.of_not_not (of_decide_eq_false c2)
 · have c2:=c2.2
   rw [hm] at c2
   simp only at c2
   rw [show decide (0 < (k:Int))=true by simp; omega,Bool.true_and] at c2
   have:=of_decide_eq_false c2
   omega
theorem JL {e:En} (h:kQ e=0):0 < e.ns.length/\e.ns.length=e.vs.length/\∀ k < e.ns.length,eU e k=0:=by
 unfold kQ at h
 obtain ⟨c1,h⟩:=fJ h (by decide)
 simp only [Bool.or_eq_false_iff,decide_eq_false_iff_not] at c1
 exact ⟨by omega,by omega,fun k hk=>kG (m:=e.ns.length) (by rw [Nat.sub_zero]; exact h) k hk⟩
theorem pX {s:Sc} (h:bI s=0):cA s=false/\rS s=0/\qO s=0/\hO s.ss=0:=by
 unfold bI at h
 obtain ⟨_,h⟩:=fJ h (by decide)
 obtain ⟨c2,h⟩:=fJ h (by decide)
 obtain ⟨c3,h⟩:=N9 h
 obtain ⟨c4,h⟩:=N9 h
 exact ⟨c2,c3,c4,h⟩
theorem YL {s:Sc} (h:bI s=0):Nice s:=by
 obtain ⟨c2,c3,c4,_⟩:=pX h
 obtain ⟨l1,l2,l3,l4⟩:=tW c2
 refine ⟨fun u hu=>?_,fun e he=>?_⟩
 · obtain ⟨i,hi⟩:=List.mem_iff_getElem?.1 hu
   have hc:=(H6 hi (kG c4 i (bE.1 hi).1)).2
   have key:=fun k f (hx:u.fs[k]? = some f)=>NG hx (kG hc k (bE.1 hx).1)
   have mem:∀ f ∈ u.fs,∃ k,u.fs[k]? = some f:=fun f hf=>List.mem_iff_getElem?.1 hf
   exact ⟨l4 u hu,fun f hf=>(mem f hf).elim fun k hx=>(key k f hx).1,fun f hf=>(mem f hf).elim fun k hx=>(key k f hx).2.2.1,fun f hf=>(mem f hf).elim fun k hx=>(key k f hx).2.2.2.2,
    fun k f g hk hg hf=>(key k f hf).2.1 g hk hg,fun k f hf=>(key k f hf).2.2.2.1⟩
 · obtain ⟨i,hi⟩:=List.mem_iff_getElem?.1 he
   obtain ⟨hp,hl,hc⟩:=JL (JD hi (kG c3 i (bE.1 hi).1)).2.2
   have key:=fun k x n (hx:e.ns[k]? = some x) (hn:e.vs[k]? = some n)=>BO hx hn (hc k (bE.1 hx).1)
   have oth:∀ k x,e.ns[k]? = some x->∃ n,e.vs[k]? = some n:=fun k x hx=>⟨_,aU (hl ▸ (bE.1 hx).1)⟩
   have oth2:∀ k n,e.vs[k]? = some n->∃ x,e.ns[k]? = some x:=fun k x hx=>⟨_,aU (hl ▸ (bE.1 hx).1)⟩
   refine ⟨hl,l3 e he,fun x hx=>?_,fun k x hx=>?_,fun k x y hk hx hy=>?_,fun n hn=>?_⟩
   · obtain ⟨k,hk⟩:=List.mem_iff_getElem?.1 hx
     obtain ⟨n,hn⟩:=oth k x hk
     exact (key k x n hk hn).1
   · obtain ⟨n,hn⟩:=oth k x hx
     exact (key k x n hx hn).2.1
   · obtain ⟨z,hz⟩:=oth2 k y hy
     exact (key k z y hz hy).2.2.2.2 x hk hx
   · obtain ⟨k,hk⟩:=List.mem_iff_getElem?.1 hn
     obtain ⟨z,hz⟩:=oth2 k n hk
     exact (key k z n hz hk).2.2.1
theorem PL {s:Sc} (h:bI s=0) {e:En} (he:e ∈ s.es):e.vs[0]? = some 0:=by
 obtain ⟨c2,c3,c4,_⟩:=pX h
 obtain ⟨i,hi⟩:=List.mem_iff_getElem?.1 he
 obtain ⟨hp,hl,hc⟩:=JL (JD hi (kG c3 i (bE.1 hi).1)).2.2
 have h1:e.ns[0]? = some e.ns[0]:=aU hp
 have h2:e.vs[0]? = some (e.vs[0]'(hl ▸ hp)):=aU (hl ▸ hp)
 rw [h2,(BO h1 h2 (hc 0 hp)).2.2.2.1 rfl]
theorem Nice.stOf {s:Sc} (h:Nice s) (t:Ty):NSt s.ss s.es (stOf s t):=by
 unfold Proofs.YthpbnmebjocbeaaGreat.stOf
 cases h1:fS s.ss t.n with
 | none=>exact ⟨by decide,fun _ h=>(by cases h),fun _ h=>(by cases h),fun _ h=>(by cases h),fun _ _ _ _ h=>(by cases h),fun _ _ h=>(by cases h)⟩
 | some u=>exact h.st u (List.mem_of_find?_eq_some h1)
theorem Nice.enOf {s:Sc} (h:Nice s) (t:Ty):NEn (enOf s t):=by
 unfold Proofs.YthpbnmebjocbeaaGreat.enOf
 cases h1:dL s.es t.n with
 | none=>exact ⟨rfl,by decide,fun _ h=>(by cases h),fun _ _ h=>(by cases h),fun _ _ _ _ h=>(by cases h),fun _ h=>(by cases h)⟩
 | some u=>exact h.en u (List.mem_of_find?_eq_some h1)
theorem Nice.eq {s:Sc} (h:Nice s):aPX s:=fun e he=>(h.en e he).l
theorem PS {x:List UInt8} (h:cJ x=true):x.length<=16:=by
 rcases a7 16 x.length with h1 | h1
 · rw [rG h1] at h; cases h
 · exact h1
structure Ck (s:Sc) (t:Ty) (v:Vl):Prop where
 va:valF s.ss s.es t=true
 kk:v.k=t.k
 tx:(t.k == 4)=true->v.n=0/\v.l=[]/\v.f=[]/\((bl v.s).length:Int)<=t.s
 ls:(t.k == 5)=true->v.n=0/\bl v.s=[]/\v.f=[]/\(v.l.length:Int)<=t.s/\∀ x ∈ v.l,d9 s (t.e.headD default) x=0
 st:(t.k == 6)=true->v.n=0/\bl v.s=[]/\v.l=[]/\dF (stOf s t).fs v.f=true/\∀ x ∈ v.f,d9 s (iK (stOf s t) x.1).ty x.2=0
 nu:(t.k == 4)=false->(t.k == 5)=false->(t.k == 6)=false->bl v.s=[]/\v.l=[]/\v.f=[]/\iE s t v.n=true
theorem FU {s:Sc} {t:Ty}:∀ {l:List Vl},jV s t l=0->∀ x ∈ l,d9 s t x=0
 | [],_,_,h=>by cases h
 | y :: l,h,x,hx=>by
  rw [jV] at h
  by_cases c:d9 s t y=0
  · rw [c] at h
    rcases List.mem_cons.1 hx with rfl | hx
    · exact c
    · exact FU h x hx
  · rw [show (d9 s t y != 0)=true by simpa using c] at h; exact absurd h c
theorem FT {s:Sc} {fs:List Fl}:∀ {l:List (Int × Vl)},jU s fs l=0->∀ x ∈ l,d9 s ((fF fs x.1).getD default).ty x.2=0
 | [],_,_,h=>by cases h
 | y :: l,h,x,hx=>by
  rw [EE] at h
  by_cases c:d9 s ((fF fs y.1).getD default).ty y.2=0
  · rw [c] at h
    rcases List.mem_cons.1 hx with rfl | hx
    · exact c
    · exact FT h x hx
  · rw [show (d9 s ((fF fs y.1).getD default).ty y.2 != 0)=true by simpa using c] at h; exact absurd h c
theorem lY {α:Type} {l:List α} (h:¬ 0 < (l.length:Int)):l=[]:=List.eq_nil_of_length_eq_zero (by omega)
theorem dY {k a b:Int} (h:(k == a)=true) (hab:a ≠ b):(k == b)=false:=by
 have:=eq_of_beq h; simp; omega
theorem l6 {s:Sc} {t:Ty} {v:Vl} (h:d9 s t v=0):Ck s t v:=by
 rw [MC] at h
 cases c1:!(valF s.ss s.es t) || v.k != t.k with
 | true=>rw [c1] at h; simp at h
 | false=>
 rw [c1,aY] at h
 rw [Bool.or_eq_false_iff] at c1
 have va:valF s.ss s.es t=true:=by simpa using c1.1
 have kk:v.k=t.k:=by simpa using c1.2
 cases c4:t.k == 4 with
 | true=>
  rw [c4,bB] at h
  unfold oV at h
  cases d1:v.n != 0 || decide (0 < (v.l.length:Int)) || decide (0 < (v.f.length:Int)) with
  | true=>rw [d1] at h; simp at h
  | false=>
   rw [d1,aY] at h
   cases d2:decide (t.s < ((bl v.s).length:Int)) with
   | true=>rw [d2] at h; simp at h
   | false=>
    simp only [Bool.or_eq_false_iff,decide_eq_false_iff_not,bne_eq_false_iff_eq] at d1 d2
    refine ⟨va,kk,fun _=>⟨d1.1.1,lY d1.1.2,lY d1.2,by omega⟩,fun h=>?_,fun h=>?_,fun h _ _=>?_⟩
    · rw [dY c4 (by decide)] at h; cases h
    · rw [dY c4 (by decide)] at h; cases h
    · rw [c4] at h; cases h
 | false=>
 rw [c4,aY] at h
 cases c5:t.k == 5 with
 | true=>
  rw [c5,bB] at h
  cases d1:v.n != 0 || !(bl v.s == []) || decide (0 < (v.f.length:Int)) with
  | true=>rw [d1] at h; simp at h
  | false=>
   rw [d1,aY] at h
   cases d2:decide (t.s < (v.l.length:Int)) with
   | true=>rw [d2] at h; simp at h
   | false=>
    rw [d2,aY] at h
    simp only [Bool.or_eq_false_iff,decide_eq_false_iff_not,bne_eq_false_iff_eq,Bool.not_eq_false'] at d1 d2
    refine ⟨va,kk,fun h=>?_,fun _=>⟨d1.1.1,eq_of_beq d1.1.2,lY d1.2,by omega,FU h⟩,fun h=>?_,fun _ h _=>?_⟩
    · rw [c4] at h; cases h
    · rw [dY c5 (by decide)] at h; cases h
    · rw [c5] at h; cases h
 | false=>
 rw [c5,aY] at h
 cases c6:t.k == 6 with
 | true=>
  rw [c6,bB] at h
  cases d1:v.n != 0 || !(bl v.s == []) || decide (0 < (v.l.length:Int)) || !(dF ((fS s.ss t.n).getD default).fs v.f) with
  | true=>rw [d1] at h; simp at h
  | false=>
   rw [d1,aY] at h
   simp only [Bool.or_eq_false_iff,decide_eq_false_iff_not,bne_eq_false_iff_eq,Bool.not_eq_false'] at d1
   refine ⟨va,kk,fun h=>?_,fun h=>?_,fun _=>⟨d1.1.1.1,eq_of_beq d1.1.1.2,lY d1.1.2,d1.2,FT h⟩,fun _ _ h=>?_⟩
   · rw [c4] at h; cases h
   · rw [c5] at h; cases h
   · rw [c6] at h; cases h
 | false=>
 rw [c6,aY] at h
 unfold p8 at h
 cases d1:!(bl v.s == []) || decide (0 < (v.l.length:Int)) || decide (0 < (v.f.length:Int)) with
 | true=>rw [d1] at h; simp at h
 | false=>
  rw [d1,aY] at h
  cases d2:iE s t v.n with
  | false=>rw [d2] at h; simp at h
  | true=>
   simp only [Bool.or_eq_false_iff,decide_eq_false_iff_not,Bool.not_eq_false'] at d1
   refine ⟨va,kk,fun h=>?_,fun h=>?_,fun h=>?_,fun _ _ _=>⟨eq_of_beq d1.1.1,lY d1.1.2,lY d1.2,d2⟩⟩
   · rw [c4] at h; cases h
   · rw [c5] at h; cases h
   · rw [c6] at h; cases h
def gG:Nat->Nat
 | 0=>500
 | m + 1=>40 * gG m
theorem uV {s:Sc} {t:Ty} {v:Vl} (h:jJ s t v=0):d9 s t v=0/\cN v<=6:=by
 unfold jJ at h
 rw [I0] at h
 cases c:decide (6 < cN v) with
 | true=>rw [c] at h; simp at h
 | false=>rw [c] at h; exact ⟨h,by have:=of_decide_eq_false c; omega⟩
def qK (a b:Int × Int):Int × Int:=(IntKind.i64.wrap (a.1 + b.1),max a.2 b.2)
mutual
def m5:Vl->Int->Int × Int
 | .mk _ _ _ l f,lev=>bif decide (20 < lev) then (1,lev) else G7 f (lev + 1) (tY l (lev + 1) (1,lev))
def tY:List Vl->Int->Int × Int->Int × Int
 | [],_,a=>a
 | v :: r,lev,a=>tY r lev (qK a (m5 v lev))
def G7:List (Int × Vl)->Int->Int × Int->Int × Int
 | [],_,a=>a
 | (_,v) :: r,lev,a=>G7 r lev (qK a (m5 v lev))
end
mutual
theorem Y1:∀ (v:Vl) (lev:Int),lev<=(m5 v lev).2
 | .mk k n s l f,lev=>by
  rw [m5]
  cases decide (20 < lev) with
  | true=>exact Int.le_refl _
  | false=>
   have h1:=sC l (lev + 1) (1,lev)
   have h2:=sZ f (lev + 1) (tY l (lev + 1) (1,lev))
   rw [aY]
   simp only at h1
   omega
theorem sC:∀ (l:List Vl) (lev:Int) (a:Int × Int),a.2<=(tY l lev a).2
 | [],_,_=>by rw [tY]; exact Int.le_refl _
 | v :: r,lev,a=>by
  have h:=sC r lev (qK a (m5 v lev))
  rw [tY]
  unfold qK at h ⊢
  simp only at h
  omega
theorem sZ:∀ (l:List (Int × Vl)) (lev:Int) (a:Int × Int),a.2<=(G7 l lev a).2
 | [],_,_=>by rw [G7]; exact Int.le_refl _
 | (i,v) :: r,lev,a=>by
  have h:=sZ r lev (qK a (m5 v lev))
  rw [G7]
  unfold qK at h ⊢
  simp only at h
  omega
end
mutual
theorem SW:∀ (v:Vl) (lev:Int),(m5 v lev).2<=12->lev + v.h<=13
 | .mk k n s l f,lev,h=>by
  have h0:=Y1 (.mk k n s l f) lev
  rw [m5] at h h0
  cases c:decide (20 < lev) with
  | true=>have:=of_decide_eq_true c; rw [c,bB] at h; simp only at h; omega
  | false=>
   rw [c,aY] at h h0
   have h1:=sC l (lev + 1) (1,lev)
   have h2:=sZ f (lev + 1) (tY l (lev + 1) (1,lev))
   have h3:=VF f (lev + 1) (tY l (lev + 1) (1,lev)) h
   have h4:=VI l (lev + 1) (1,lev) (by omega)
   rw [Vl.h]
   simp only at h1
   omega
theorem VI:∀ (l:List Vl) (lev:Int) (a:Int × Int),(tY l lev a).2<=12->Vl.hl l=0\/lev + Vl.hl l<=13
 | [],_,_,_=>.inl (by rw [Vl.hl])
 | v :: r,lev,a,h=>by
  rw [tY] at h
  have h1:=sC r lev (qK a (m5 v lev))
  have h2:(m5 v lev).2<=(qK a (m5 v lev)).2:=by unfold qK; simp only; omega
  have h3:=SW v lev (by omega)
  have h4:=VI r lev _ h
  rw [Vl.hl]
  omega
theorem VF:∀ (l:List (Int × Vl)) (lev:Int) (a:Int × Int),(G7 l lev a).2<=12->Vl.hf l=0\/lev + Vl.hf l<=13
 | [],_,_,_=>.inl (by rw [Vl.hf])
 | (i,v) :: r,lev,a,h=>by
  rw [G7] at h
  have h1:=sZ r lev (qK a (m5 v lev))
  have h2:(m5 v lev).2<=(qK a (m5 v lev)).2:=by unfold qK; simp only; omega
  have h3:=SW v lev (by omega)
  have h4:=VF r lev _ h
  rw [Vl.hf]
  omega
end
theorem aDT {ts:List Tk} {n:Nat} (he:Ends ts) (hn:n < ts.length) (hk:(gM ts n).k ≠ 0):c8 ts n=n + 1:=by
 have h:=he.last n _ (FD hn)
 unfold c8
 rw [if_pos]
 by_cases e:n + 1=ts.length
 · exact absurd (h.2 e) hk
 · omega
abbrev iI (n:Nat):Fs:=⟨false,0,n⟩
def moN (w:List UInt8) (ts:List Tk) (n:Nat):Fs:=bif jL [44] ts (iI n) then s8 [44] ts (iI n) else fD w ts (iI n)
theorem NI {ts:List Tk} {z:Fs} (h:z.bad=true):iR ts z=z:=by unfold iR; rw [h]; rfl
theorem GU {w:List UInt8} {ts:List Tk} {z:Fs} (h:z.bad=true):jL w ts z=false:=by unfold jL; rw [h]; rfl
theorem BS {w:List UInt8} {ts:List Tk} {z:Fs} (h:z.bad=true):fD w ts z=z:=by unfold fD; rw [GU h]; exact NI h
structure Vr {α:Type} (ts:List Tk) (r:α × Fs) (v:α) (n:Nat) (b:Bool):Prop where
 hb:r.2.bad=b
 hn:n < ts.length
 ok:b=false->v=r.1/\r.2=iI n
 er:b=true->r.2.off=((gM ts n).a:Int)
theorem XW {ts:List Tk} {n:Nat} (he:Ends ts) (hn:n < ts.length) (hk:(gM ts n).k ≠ 0):n + 1 < ts.length:=by
 have h:=he.last n _ (FD hn)
 by_cases e:n + 1=ts.length
 · exact absurd (h.2 e) hk
 · omega
theorem OR {k:Int} {w:List UInt8} {t:Tk} (h:u4 k w t=true):t.k=k:=by unfold u4 at h; rw [Bool.and_eq_true] at h; exact eq_of_beq h.1
end Go.Proofs.YthpbnmebjocbeaaGreat
namespace Go.W
section
variable {P:Program} {f:FuncId} {s t:Spec}
def C.pl:C->C->Prop
 | .vl v,c'=>c'=.vl v
 | c,c'=>∃ u,c'=.vl u/\(c.one->u.oneCell'=true)
def A.pl:A->A->Prop
 | .c1 c,.c1 c'=>C.pl c c'
 | .gs cs,.gs cs'=>All2 C.pl cs cs'
 | _,_=>False
def S.pl:S->S->Prop
 | .va a,s=>∃ b,s=.va b/\A.pl a b
 | .tu l,s=>∃ m,s=.tu m/\All2 A.pl l m
 | _,s=>s=.un
end
end Go.W
namespace Go.Proofs.YthpbnmebjocbeaaGreat
open Go.W
theorem aJ4 {α:Type} {ts:List Tk} {n:Nat} {v:α} {z:Fs} (h:z=iI z.n\/z=iR ts (iI n)) (hn:n < ts.length) (hz:z.n < ts.length):Vr ts (v,z) v z.n z.bad:=by
 rcases h with h | h
 · rw [h]; exact ⟨rfl,hz,fun _=>⟨rfl,rfl⟩,fun h=>(by cases h)⟩
 · rw [h]; exact ⟨rfl,hn,fun h=>(by cases h),fun _=>rfl⟩
theorem PH (w:List UInt8) (ts:List Tk) (n:Nat):fD w ts (iI n)=iI (fD w ts (iI n)).n\/fD w ts (iI n)=iR ts (iI n):=by
 unfold fD
 cases jL w ts (iI n) with
 | true=>exact .inl rfl
 | false=>exact .inr rfl
abbrev CG:List (Nat × S):=[(0,.va (.c1 (.pt 0 0))),(4,.va (.c1 (.pt 1 0))),(5,.va (.c1 (.pt 2 0))),(6,.va (.c1 (.pt 3 0))),(7,.va (.c1 (.pt 4 0)))]
theorem I2 {ss:List St} {es:List En} {t:Ty} (h:valF ss es t=true):(t.k == 1)=true\/(t.k == 2)=true\/(t.k == 3)=true\/(t.k == 4)=true\/(t.k == 5)=true\/(t.k == 6)=true\/(t.k == 7)=true:=by
 obtain ⟨k,s,n,e⟩:=t
 show (k == 1)=true\/_
 rw [valF.eq_def] at h
 simp only at h
 cases h1:k == 1<;>cases h2:k == 2<;>cases h3:k == 3<;>cases h4:k == 4<;>cases h5:k == 5<;>cases h6:k == 6<;>cases h7:k == 7 <;>
 first
  | (simp [Ty.k,h1,h2,h3,h4,h5,h6,h7]; done)
  | (rw [h1,h2,h3,h4,h5,h6,h7] at h; cases h)
theorem ND {w:List UInt8} {ts:List Tk} {n:Nat}:jL w ts (iI n)=u4 4 w (gM ts n):=by unfold jL; rw [Bool.not_false,Bool.true_and]
theorem EC {w:List UInt8} {ts:List Tk} {n:Nat} (he:Ends ts) (hn:n < ts.length) (h:u4 4 w (gM ts n)=true):s8 w ts (iI n)=iI (n + 1):=by
 unfold s8; rw [ND,h,aDT he hn (by rw [OR h]; decide)]; rfl
structure Ser {α:Type} (one:α->Fs->α × Fs) (sh:List UInt8) (ts:List Tk) (Q:α × Fs) (f:Nat) (m:Bool) (a:α) (n:Nat) (b:Bool):Prop where
 hn:n < ts.length
 go:m=true->b=false/\ts.length < n + f/\y4 one ts f a (iI n)=Q
 no:m=false->Vr ts (Q.1,fD sh ts Q.2) a n b
theorem Ser.next {α:Type} {one:α->Fs->α × Fs} {sh:List UInt8} {ts:List Tk} {Q:α × Fs} {f:Nat} {a a':α} {n n':Nat} {b':Bool} (he:Ends ts) (ho:Onw one ts) (h:Ser one sh ts Q (f + 1) true a n false) (hr:Vr ts (one a (iI n)) a' n' b') :
 (b'=true->Ser one sh ts Q f false a' n' true)/\(b'=false->Ser one sh ts Q f (jL [44] ts (iI n')) a' (moN sh ts n').n (moN sh ts n').bad):=by
 obtain ⟨_,h2,h3⟩:=h.go rfl
 rw [NO] at h3
 simp only [aY] at h3
 refine ⟨fun hb=>?_,fun hb=>?_⟩
 · have hbad:(one a (iI n)).2.bad=true:=by rw [hr.hb,hb]
   rw [GU hbad,aY] at h3
   refine ⟨hr.hn,fun h=>(by cases h),fun _=>?_⟩
   rw [<-h3]
   exact ⟨by rw [BS hbad,hbad],hr.hn,fun h=>(by cases h),fun _=>by rw [BS hbad]; exact hr.er hb⟩
 · obtain ⟨e1,e2⟩:=hr.ok hb
   have hn':=hr.hn
   rw [e2] at h3
   unfold moN
   cases hc:jL [44] ts (iI n') with
   | true=>
    have hc':=hc
    rw [ND] at hc'
    have hm:=XW he hn' (by rw [OR hc']; decide)
    rw [hc,bB,EC he hn' hc'] at h3
    rw [bB,EC he hn' hc']
    refine ⟨hm,fun _=>⟨rfl,?_,by rw [e1]; exact h3⟩,fun h=>(by cases h)⟩
    have h5:=(ho a (iI n) h.hn).1
    rw [e2] at h5
    show ts.length < n' + 1 + f
    have h5:n<=n':=h5
    omega
   | false=>
    rw [hc,aY] at h3
    rw [aY]
    have hq:Q=(a',iI n'):=by rw [<-h3,e1,<-e2]
    refine ⟨(IE (w:=sh) hn').2,fun h=>(by cases h),fun _=>?_⟩
    rw [hq]
    exact aJ4 (PH sh ts n') hn' (IE (w:=sh) hn').2
structure Gtk (k:Int) (x:List UInt8) (n:Int):Prop where
 e:k=0->x=[]/\n=0
 o:k ≠ 0->okK k x n=true
 i:bR n
theorem YH {k:Int} {x:List UInt8} {n:Int} (h:okK k x n=true):x.length<=200:=by
 unfold okK at h
 cases c1:k == 1 with
 | true=>rw [c1,bB,Bool.and_eq_true] at h; have:=PS h.2; omega
 | false=>
 rw [c1,aY] at h
 cases c2:k == 2 with
 | true=>rw [c2,bB] at h; rw [eq_of_beq h]; exact Nat.zero_le _
 | false=>
 rw [c2,aY] at h
 cases c3:k == 3 with
 | true=>rw [c3,bB,Bool.and_eq_true,Bool.and_eq_true] at h; exact of_decide_eq_true h.2.1
 | false=>
 rw [c3,aY] at h
 cases c4:k == 4 with
 | false=>rw [c4] at h; cases h
 | true=>
  rw [c4,bB,Bool.and_eq_true] at h
  match x,h with
  | [],_=>exact Nat.zero_le _
  | [_],_=>exact (by decide:1<=200)
  | _ :: _ :: _,h=>exact absurd h.2 (by simp)
theorem Gtk.len {k:Int} {x:List UInt8} {n:Int} (h:Gtk k x n):x.length<=200:=by
 by_cases hk:k=0
 · rw [(h.e hk).1]; exact Nat.zero_le _
 · exact YH (h.o hk)
structure Dg (s:Sc):Prop where
 ni:Nice s
 g:Gd s.ss s.es
 ac:rE s.ss
 d6:∀ u ∈ s.ss,dD s.ss u.nm<=6
 z:∀ e ∈ s.es,e.vs[0]? = some 0
theorem KX {s:Sc} (hf:s.fit) (h:bI s=0):Dg s:=by
 obtain ⟨c2,c3,c4,c5⟩:=pX h
 unfold hO at c5
 obtain ⟨d1,c5⟩:=fJ c5 (by decide)
 obtain ⟨d2,c5⟩:=fJ c5 (by decide)
 exact ⟨YL h,z8 hf c2 c4,fun t ht=>g8 d1 t ht,fun u hu=>by have:=of_decide_eq_false (g8 d2 u hu); omega,fun e he=>PL h he⟩
abbrev lK (s:Sc) (t:Ty):Int:=bN (dD s.ss) t
theorem BJ (s:Sc) (t:Ty):0<=lK s t:=by
 unfold lK bN
 have:=DZ s.ss (bK t).2.n
 cases (bK t).2.k == 6 with
 | true=>rw [bB]; omega
 | false=>rw [aY]; omega
theorem Y7 {s:Sc} {t u:Ty} (h5:(t.k == 5)=true) (he:t.e=[u]):lK s t=lK s u + 1:=by
 obtain ⟨k,z,n,e⟩:=t
 have hk:k=5:=eq_of_beq h5
 have he:e=[u]:=he
 subst hk he
 unfold lK bN
 rw [bK,show ((5:Int) == 5)=true from rfl,bB,CB]
 simp only
 omega
theorem FK {s:Sc} {t:Ty} (h6:(t.k == 6)=true):lK s t=dD s.ss t.n:=by
 obtain ⟨k,z,n,e⟩:=t
 have hk:k=6:=eq_of_beq h6
 subst hk
 unfold lK bN
 rw [bK,show ((6:Int) == 5)=false from rfl,aY]
 show ((0:Nat):Int) + (bif (6:Int) == 6 then dD s.ss n else 0)=dD s.ss n
 simp
theorem va6 {s:Sc} {t:Ty} (h:valF s.ss s.es t=true) (h6:(t.k == 6)=true):∃ u,fS s.ss t.n=some u/\stOf s t=u/\u ∈ s.ss/\u.nm=t.n:=by
 have hh:cE s.ss t.n=true:=by
  obtain ⟨k,z,n,e⟩:=t
  have hk:k=6:=eq_of_beq h6
  subst hk
  rw [valF] at h; simp at h; exact h.1.1
 rw [<-n4] at hh
 obtain ⟨u,hu⟩:=Option.isSome_iff_exists.1 hh
 exact ⟨u,hu,by unfold stOf; rw [hu]; rfl,(fG hu).1,(fG hu).2⟩
theorem w4 {s:Sc} (hd:Dg s) {t:Ty} (h:valF s.ss s.es t=true) (h6:(t.k == 6)=true):1<=dD s.ss t.n/\dD s.ss t.n<=6/\∀ f ∈ (stOf s t).fs,lK s f.ty + 1<=dD s.ss t.n:=by
 obtain ⟨u,h1,h2,h3,h4⟩:=va6 h h6
 have e:=DG hd.g hd.ac h1
 have h0:=iN (dD s.ss) u.fs
 refine ⟨by omega,by rw [<-h4]; exact hd.d6 u h3,fun f hf=>?_⟩
 rw [h2] at hf
 have:=J3 (dp:=dD s.ss) hf
 show bN (dD s.ss) f.ty + 1<=_
 omega
theorem aHE {ss:List St} {es:List En} {u:St} (hu:NSt ss es u):u.fs.Pairwise fun f g=>f.num < g.num:=by
 have key:∀ (l:List Fl),(∀ k f g,0 < k->l[k - 1]? = some g->l[k]? = some f->g.num < f.num)->l.Pairwise fun f g=>f.num < g.num:=by
  intro l
  induction l with
  | nil=>intro _; exact .nil
  | cons y l ih=>
   intro h
   have hl:=ih fun k f g hk h1 h2=>h (k + 1) f g (by omega) (by rw [show k + 1 - 1=k - 1 + 1 by omega]; simpa using h1) (by simpa using h2)
   refine List.pairwise_cons.2 ⟨fun f hf=>?_,hl⟩
   cases l with
   | nil=>cases hf
   | cons z l=>
    have h1:=h 1 z y (by omega) rfl rfl
    rcases List.mem_cons.1 hf with rfl | hf
    · exact h1
    · exact Int.lt_trans h1 ((List.pairwise_cons.1 hl).1 f hf)
 exact key u.fs hu.a
theorem T7:∀ {fs:List Fl} {f:Fl},fs.Pairwise (fun f g=>f.num < g.num)->f ∈ fs->fF fs f.num=some f
 | y :: l,f,hp,hf=>by
  obtain ⟨h1,h2⟩:=List.pairwise_cons.1 hp
  show List.find? _ _=_
  rw [List.find?_cons]
  rcases List.mem_cons.1 hf with rfl | hf
  · simp
  · have:=h1 f hf
    have e:decide (y.num=f.num)=false:=by simp; omega
    rw [e]
    exact T7 h2 hf
theorem aOT {s:Sc} {t:Ty} (h:valF s.ss s.es t=true) (hk:(t.k == 4)=true\/(t.k == 5)=true):1<=t.s:=by
 obtain ⟨k,z,n,e⟩:=t
 show 1<=z
 rcases hk with hk | hk
 · have hk:k=4:=eq_of_beq hk
   subst hk
   rw [valF.eq_def] at h
   simp at h
   omega
 · have hk:k=5:=eq_of_beq hk
   subst hk
   rw [valF.eq_def] at h
   simp at h
   omega
mutual
def eL:Vl->Vl->Bool
 | .mk k n s l f,.mk k' n' s' l' f'=>k == k' && (n == n' && (bl s == bl s' && (f5 l l' && fT f f')))
def f5:List Vl->List Vl->Bool
 | [],[]=>true
 | x :: a,y :: b=>eL x y && f5 a b
 | [],_ :: _=>false
 | _ :: _,[]=>false
def fT:List (Int × Vl)->List (Int × Vl)->Bool
 | [],[]=>true
 | (i,x) :: a,(j,y) :: b=>i == j && (eL x y && fT a b)
 | [],_ :: _=>false
 | _ :: _,[]=>false
end
mutual
theorem AM:∀ {a b:Vl},eL a b=true ↔ a=b
 | .mk k n s l f,.mk k' n' s' l' f'=>by
  rw [eL]
  simp only [Bool.and_eq_true,beq_iff_eq,JY,IY,Vl.mk.injEq]
  exact ⟨fun ⟨h1,h2,h3,h4,h5⟩=>⟨h1,h2,rR h3,h4,h5⟩,fun ⟨h1,h2,h3,h4,h5⟩=>⟨h1,h2,by rw [h3],h4,h5⟩⟩
theorem JY:∀ {a b:List Vl},f5 a b=true ↔ a=b
 | [],[]=>by rw [f5]; simp
 | [],_ :: _=>by rw [f5]; simp
 | _ :: _,[]=>by rw [f5]; simp
 | x :: a,y :: b=>by rw [f5,Bool.and_eq_true,AM,JY]; simp
theorem IY:∀ {a b:List (Int × Vl)},fT a b=true ↔ a=b
 | [],[]=>by rw [fT]; simp
 | [],_ :: _=>by rw [fT]; simp
 | (_,_) :: _,[]=>by rw [fT]; simp
 | (i,x) :: a,(j,y) :: b=>by rw [fT,Bool.and_eq_true,Bool.and_eq_true,AM,IY]; simp [and_assoc]
end
theorem PJ (a:Vl):eL a a=true:=AM.2 rfl
theorem M7 (a b:Vl):eL a b=(a.k == b.k && (a.n == b.n && (bl a.s == bl b.s && (f5 a.l b.l && fT a.f b.f)))):=by
 cases a; cases b; rw [eL]; rfl
theorem HC (x y:Int × Vl) (a b:List (Int × Vl)):fT (x :: a) (y :: b)=(x.1 == y.1 && (eL x.2 y.2 && fT a b)):=by
 obtain ⟨i,x⟩:=x; obtain ⟨j,y⟩:=y; rw [fT]
def M0 (R:Ty->Vl->List UInt8) (s:Sc) (f:List (Int × Vl)) (g:Fl):List UInt8:=
 bif !(dQ f g.num).isSome || (!g.opt && eL (((dQ f g.num).map (·.2)).getD default) (zF s 23 g.ty)) then [] else jP g.num ++ rL (R g.ty (((dQ f g.num).map (·.2)).getD default))
def fW (R:Ty->Vl->List UInt8) (s:Sc) (fs:List Fl) (f:List (Int × Vl)):List UInt8:=fs.flatMap (M0 R s f)
def jQ (R:Ty->Vl->List UInt8) (t:Ty) (l:List Vl):List UInt8:=l.flatMap fun x=>rL (R t x)
def cG (s:Sc):Nat->Ty->Vl->List UInt8
 | 0,_,_=>[]
 | N + 1,t,v=>bif t.k == 1 || (t.k == 3 || t.k == 7) then jP v.n else bif t.k == 2 then vi (lL v.n) else bif t.k == 4 then bl v.s else bif t.k == 5 then jP v.l.length ++ jQ (cG s N) (t.e.headD default) v.l else fW (cG s N) s (stOf s t).fs v.f
theorem uN (s:Sc) (N:Nat) (t:Ty) (v:Vl):cG s (N + 1) t v=bif t.k == 1 || (t.k == 3 || t.k == 7) then jP v.n else bif t.k == 2 then vi (lL v.n) else bif t.k == 4 then bl v.s else bif t.k == 5 then jP v.l.length ++ jQ (cG s N) (t.e.headD default) v.l else fW (cG s N) s (stOf s t).fs v.f:=rfl
theorem oF {α:Type} {f:α->List UInt8} {B:Nat}:∀ {l:List α},(∀ x ∈ l,(f x).length<=B)->(l.flatMap f).length<=l.length * B
 | [],_=>Nat.zero_le _
 | x :: l,h=>by
  have h1:=h x (List.mem_cons_self ..)
  have h2:=oF fun y hy=>h y (List.mem_cons_of_mem _ hy)
  rw [List.flatMap_cons,List.length_append,List.length_cons,Nat.add_mul,Nat.one_mul]; omega
theorem j9 (l:List UInt8):(rL l).length<=10 + l.length:=by
 unfold rL; have:=gL l.length; rw [List.length_append]; omega
def eB (N:Nat):Nat:=4000 * 40 ^ N
theorem ZH (N:Nat):eB (N + 1)=40 * eB N:=by unfold eB; rw [Nat.pow_succ]; omega
theorem aBN (N:Nat):4000<=eB N:=by unfold eB; have:0 < 40 ^ N:=Nat.pow_pos (by decide); omega
theorem nV {N:Nat} (h:N<=8):eB N<=27000000000000000:=by
 have:40 ^ N<=40 ^ 8:=Nat.pow_le_pow_right (by decide) h
 have h2:(40:Nat) ^ 8=6553600000000:=by decide
 unfold eB; omega
theorem s4 {l:List (Int × Vl)} {k:Int} {x:Int × Vl} (h:dQ l k=some x):x ∈ l/\x.1=k:=by
 unfold dQ at h
 exact ⟨List.mem_of_find?_eq_some h,by have:=List.find?_some h; simpa using this⟩
theorem AL {s:Sc} (hd:Dg s) {t:Ty} {g:Fl} (hg:g ∈ (stOf s t).fs):iK (stOf s t) g.num=g:=by
 unfold iK
 rw [T7 (aHE (hd.ni.stOf t)) hg]; rfl
theorem J5 {s:Sc} (hd:Dg s) {R:Ty->Vl->List UInt8} {t:Ty} {f:List (Int × Vl)} {g:Fl} {B:Nat} (hg:g ∈ (stOf s t).fs) (hR:∀ x ∈ f,(R (iK (stOf s t) x.1).ty x.2).length<=B):(M0 R s f g).length<=20 + B:=by
 unfold M0
 cases hv:dQ f g.num with
 | none=>exact Nat.zero_le _
 | some x=>
  obtain ⟨hm,he⟩:=s4 hv
  have h1:=hR x hm
  rw [he,AL hd hg] at h1
  have h2:=gL g.num
  have h3:=j9 (R g.ty x.2)
  show (bif !true || (!g.opt && eL x.2 (zF s 23 g.ty)) then [] else jP g.num ++ rL (R g.ty x.2)).length<=_
  cases !true || (!g.opt && eL x.2 (zF s 23 g.ty)) with
  | true=>exact Nat.zero_le _
  | false=>rw [cond_false,List.length_append]; omega
theorem oL {s:Sc} {t:Ty} (h:valF s.ss s.es t=true):((t.k == 4)=true->t.s<=2000)/\((t.k == 5)=true->t.s<=32):=by
 obtain ⟨k,z,n,e⟩:=t
 refine ⟨fun hk=>?_,fun hk=>?_⟩
 · have hk:k=4:=eq_of_beq hk
   subst hk
   rw [valF.eq_def] at h
   simp at h
   show z<=2000
   omega
 · have hk:k=5:=eq_of_beq hk
   subst hk
   rw [valF.eq_def] at h
   simp at h
   show z<=32
   omega
theorem jA {s:Sc} (hd:Dg s):∀ (N:Nat) (t:Ty) (v:Vl),v.h<=N->d9 s t v=0->(cG s N t v).length<=eB N
 | 0,_,v,h,_=>by have:=v.h_pos; omega
 | N + 1,t,v,hh,h0=>by
  have hc:=l6 h0
  have hB:=ZH N
  have hp:=aBN N
  have hvz:=oL hc.va
  rw [uN]
  cases c1:t.k == 1 || (t.k == 3 || t.k == 7) with
  | true=>rw [cond_true]; have:=gL v.n; omega
  | false=>
  rw [cond_false]
  cases c2:t.k == 2 with
  | true=>rw [cond_true]; have:=MV (lL v.n); omega
  | false=>
  rw [cond_false]
  cases c4:t.k == 4 with
  | true=>
   rw [cond_true]
   obtain ⟨_,_,_,h1⟩:=hc.tx c4
   have:=hvz.1 c4
   omega
  | false=>
  rw [cond_false]
  cases c5:t.k == 5 with
  | true=>
   rw [cond_true,List.length_append]
   obtain ⟨_,_,_,h1,h2⟩:=hc.ls c5
   have h3:=hvz.2 c5
   have h4:=gL v.l.length
   have h5:(jQ (cG s N) (t.e.headD default) v.l).length<=v.l.length * (10 + eB N):=oF fun x hx=>by
    have:=jA hd N _ x (by have:=Vl.h_l hx; omega) (h2 x hx)
    have:=j9 (cG s N (t.e.headD default) x)
    omega
   have h6:v.l.length * (10 + eB N)<=32 * (10 + eB N):=Nat.mul_le_mul_right _ (by omega)
   omega
  | false=>
   rw [cond_false]
   have c6:(t.k == 6)=true:=by
    rcases I2 hc.va with h | h | h | h | h | h | h
    · rw [h] at c1; cases c1
    · rw [h] at c2; cases c2
    · rw [h,Bool.true_or,Bool.or_true] at c1; cases c1
    · rw [h] at c4; cases c4
    · rw [h] at c5; cases c5
    · exact h
    · rw [h,Bool.or_true,Bool.or_true] at c1; cases c1
   obtain ⟨_,_,_,_,h2⟩:=hc.st c6
   have hl:=(hd.ni.stOf t).l
   have h5:(fW (cG s N) s (stOf s t).fs v.f).length<=(stOf s t).fs.length * (20 + eB N):=oF fun g hg=>J5 hd hg fun x hx=>jA hd N _ x.2 (by have:=Vl.h_f hx; omega) (h2 x hx)
   have h6:(stOf s t).fs.length * (20 + eB N)<=16 * (20 + eB N):=Nat.mul_le_mul_right _ hl
   omega
def kV (s:Sc) (nm:ByteArray) (v:Vl):List UInt8 × Int:=
 bif bI s != 0 then ([],bI s) else bif !(cE s.ss nm) then ([],6) else bif jJ s (.mk 6 0 nm []) v != 0 then ([],jJ s (.mk 6 0 nm []) v) else bif decide (2000 < ((fW (cG s 8) s (stOf s (.mk 6 0 nm [])).fs v.f).length:Int)) then ([],3) else (fW (cG s 8) s (stOf s (.mk 6 0 nm [])).fs v.f,0)
mutual
theorem RX:∀ v:Vl,(v.h:Int)<=cN v + 1
 | .mk k n s l f=>by
  have h1:=UV l 0 (Int.le_refl _)
  have h0:=n7 l 0
  have h2:=WD f (fR 0 l) h0
  have h3:=nU f (fR 0 l)
  rw [cN,Vl.h]
  cases hs:mC (.mk k n s l f) with
  | true=>
   rw [cond_true]
   unfold mC at hs
   simp only [Bool.and_eq_true] at hs
   have e1:l=[]:=by have:=hs.1.2; simpa [Vl.l] using this
   have e2:f=[]:=by have:=hs.2; simpa [Vl.f] using this
   rw [e1,e2,Vl.hl,Vl.hf]; decide
  | false=>rw [cond_false]; omega
theorem UV:∀ (l:List Vl) (d:Int),0<=d->(Vl.hl l:Int)<=fR d l + 1
 | [],d,hd=>by rw [Vl.hl,fR]; omega
 | v :: r,d,hd=>by
  have h1:=RX v
  have h2:=UV r (max d (cN v)) (by omega)
  have h3:=n7 r (max d (cN v))
  rw [Vl.hl,fR]; omega
theorem WD:∀ (l:List (Int × Vl)) (d:Int),0<=d->(Vl.hf l:Int)<=iG d l + 1
 | [],d,hd=>by rw [Vl.hf,iG]; omega
 | (_,v) :: r,d,hd=>by
  have h1:=RX v
  have h2:=WD r (max d (cN v)) (by omega)
  have h3:=nU r (max d (cN v))
  rw [Vl.hf,iG]; omega
end
theorem aCR {s:Sc} {t:Ty} {v:Vl} (h:jJ s t v=0):v.h<=7:=by
 have h1:=(uV h).2
 have h2:=RX v
 omega
def xP:PC:=.seq (.seq (.gh (.reg [.v 10 6,.q 11 (.bin .lss true (.t 10) (.i 0))])) (.cond (.t 11) (.seq (.reg [.q 12 (.bd [(.int .i64 0),(.int .i64 0),(.string (mk [])),(.slice none 0 0),(.slice none 0 0)] []),.s (.st 5 (.t 4) (.t 12)),.q 5 (.mv (.k (.bool false)))]) .ret) .skip)) (.seq (.reg [.q 13 (.fa 4 (.t 2)),.l 14 (.ld1 (.t 13)),.v 15 6,.l 16 (.ia 6 (.t 14) (.t 15)),.q 17 (.fa 1 (.t 16)),.l 18 (.ldn 5 (.t 17)),.a 19 (.cl 81 [(.t 18)] []),.s (.st 5 (.t 4) (.t 19)),.q 5 (.mv (.k (.bool true)))]) .ret)
@[go_sem ↓] theorem aQE:aS xP:=aT _
def QH:PC:=.seq (.reg [.e 2 (.bx 29 (.t 0)),.e 4 (.al (.agg #[(.int .i64 0),(.int .i64 0),(.string (mk [])),(.slice none 0 0),(.slice none 0 0)]) 29),.q 5 (.mv (.k (.bool false)))]) (.seq (.reg [.l 7 (.ldn 5 (.t 2)),.v 8 1,.a 9 (.cq 80 [(.t 7),(.t 8)]),.v 6 9]) (xP))
def QM:List RV:=[.ld (.ldn 5 (.t 4)),.mv (.t 5)]
theorem aRN:aO Tryz.prog true ⟨fun r k=>if r=1/\k=2 then .q else .own [],fun r=>[2].contains r⟩ Tryz.f43=some (QH,QM):=by kernel_rfl
def Z8:PC:=.seq (.reg [.e 2 (.bx 29 (.t 0)),.e 3 (.bx 29 (.t 1)),.q 4 (.mv (.k (.bool false)))]) (.seq (.reg [.l 5 (.ldn 5 (.t 2)),.l 6 (.ldn 5 (.t 3)),.a 7 (.cl 82 [(.t 5),(.t 6)] []),.q 8 (.bin .eql true (.t 7) (.i 0)),.v 4 8]) .ret)
def aFG:List RV:=[.mv (.t 4)]
theorem aQK:aO Tryz.prog true ⟨fun r k=>if r=1/\k=2 then .own [] else .own [],fun _=>false⟩ Tryz.f44=some (Z8,aFG):=by kernel_rfl
def aDJ:PC:=.seq (.reg [.e 2 (.bx 29 (.t 0)),.e 3 (.bx 3 (.t 1)),.q 4 (.mv (.i 0))]) (.seq (.seq (.reg [.q 5 (.fa 0 (.t 2)),.l 6 (.ld1 (.t 5)),.q 7 (.bin .neq true (.t 6) (.i 6))]) (.cond (.t 7) (.seq (.reg [.q 4 (.mv (.i (-1)))]) .ret) .skip)) (.seq (.reg [.q 8 (.fa 4 (.t 2)),.l 9 (.ld1 (.t 8)),.q 10 (.mf 118 [(.t 3)]),.a 11 (.cl 117 [(.t 9),(.t 10)] [1]),.v 4 11]) .ret))
def aCD:List RV:=[.mv (.t 4)]
theorem aOV:aO Tryz.prog true ⟨fun r k=>if r=3/\k=3 then .own [1] else .own [],fun _=>false⟩ Tryz.f80=some (aDJ,aCD):=by kernel_rfl
def aFO:PC:=.seq (.reg [.e 1 (.bx 29 (.t 0)),.e 2 (.al (.agg #[(.int .i64 0),(.int .i64 0),(.string (mk [])),(.slice none 0 0),(.slice none 0 0)]) 29)]) (.seq (.reg [.q 9 (.fa 3 (.t 1)),.l 10 (.ld1 (.t 9)),.q 11 (.fa 4 (.t 1)),.l 12 (.ld1 (.t 11)),.v 3 10,.v 4 12]) (.seq (.reg [.q 13 (.fa 3 (.t 1)),.s (.st 1 (.t 13) (.k (.slice none 0 0))),.q 14 (.fa 4 (.t 1)),.s (.st 1 (.t 14) (.k (.slice none 0 0)))]) (.seq (.seq (.reg [.v 15 3,.q 16 (.lnL (.t 15)),.q 17 (.mv (.i 0))]) (.block 0 (.loop (.seq (.reg [.q 18 (.bin .lss true (.t 17) (.t 16))]) (.seq (.cond (.t 18) .skip (.exit 0)) (.seq (.block 1 (.seq (.reg [.l 19 (.ia 5 (.t 15) (.t 17)),.l 20 (.ldn 5 (.t 19)),.e 6 (.al (.agg #[(.int .i64 0),(.int .i64 0),(.string (mk [])),(.slice none 0 0),(.slice none 0 0)]) 29),.s (.st 5 (.t 6) (.t 20))]) (.ord  [.q (.q 21 (.fa 3 (.t 1))),.q (.l 22 (.ld1 (.t 21))),.q (.l 23 (.ldn 5 (.t 6))),.m (.a 24 (.cl 81 [(.t 23)] [])),.rc (.q 21 (.fa 3 (.t 1))),.rc (.l 22 (.ld1 (.t 21))),.m (.e 25 (.bsl 29 5 [(.t 24)])),.rc (.q 21 (.fa 3 (.t 1))),.rc (.l 22 (.ld1 (.t 21))),.m (.e 26 (.ap 29 5 80 (.t 22) (.t 25))),.q (.q 27 (.fa 3 (.t 1))),.m (.s (.st 1 (.t 27) (.t 26)))]))) (.reg [.q 28 (.bin .add true (.t 17) (.i 1)),.v 17 28]))))))) (.seq (.seq (.reg [.v 29 4,.q 30 (.lnL (.t 29)),.q 31 (.mv (.i 0))]) (.block 2 (.loop (.seq (.reg [.q 32 (.bin .lss true (.t 31) (.t 30))]) (.seq (.cond (.t 32) .skip (.exit 2)) (.seq (.block 3 (.seq (.reg [.l 33 (.ia 6 (.t 29) (.t 31)),.l 34 (.ldn 6 (.t 33)),.e 8 (.al (.agg #[(.int .i64 0),(.int .i64 0),(.int .i64 0),(.string (mk [])),(.slice none 0 0),(.slice none 0 0)]) 76),.s (.st 6 (.t 8) (.t 34))]) (.ord  [.q (.q 35 (.fa 4 (.t 1))),.q (.l 36 (.ld1 (.t 35))),.q (.q 37 (.fa 0 (.t 8))),.q (.l 38 (.ld1 (.t 37))),.q (.q 39 (.fa 1 (.t 8))),.q (.l 40 (.ldn 5 (.t 39))),.m (.a 41 (.cl 81 [(.t 40)] [])),.rc (.q 35 (.fa 4 (.t 1))),.rc (.l 36 (.ld1 (.t 35))),.rc (.q 37 (.fa 0 (.t 8))),.rc (.l 38 (.ld1 (.t 37))),.q (.q 42 (.bd [(.int .i64 0),(.int .i64 0),(.int .i64 0),(.string (mk [])),(.slice none 0 0),(.slice none 0 0)] [(0,1,(.t 38)),(1,5,(.t 41))])),.m (.e 43 (.bsl 76 6 [(.t 42)])),.rc (.q 35 (.fa 4 (.t 1))),.rc (.l 36 (.ld1 (.t 35))),.m (.e 44 (.ap 76 6 88 (.t 36) (.t 43))),.q (.q 45 (.fa 4 (.t 1))),.m (.s (.st 1 (.t 45) (.t 44)))]))) (.reg [.q 46 (.bin .add true (.t 31) (.i 1)),.v 31 46]))))))) (.seq (.reg [.l 47 (.ldn 5 (.t 1)),.s (.st 5 (.t 2) (.t 47))]) .ret)))))
def aEX:List RV:=[.ld (.ldn 5 (.t 2))]
theorem aOG:aO Tryz.prog true ⟨fun _ _=>.own [],fun _=>false⟩ Tryz.f81=some (aFO,aEX):=by kernel_rfl
def y1:PC:=.seq (.gh (.reg [.q 41 (.fa 4 (.t 2)),.l 42 (.ld1 (.t 41)),.q 43 (.fa 4 (.t 3)),.l 44 (.ld1 (.t 43)),.a 45 (.cl 123 [(.t 42),(.t 44),(.f 124)] []),.v 4 45])) .ret
@[go_sem ↓] theorem aK8:aS y1:=aT _
def AS:PC:=.seq (.seq (.gh (.reg [.q 33 (.fa 3 (.t 2)),.l 34 (.ld1 (.t 33)),.q 35 (.fa 3 (.t 3)),.l 36 (.ld1 (.t 35)),.a 37 (.cl 122 [(.t 34),(.t 36),(.f 82)] []),.v 8 37])) (.seq (.reg [.v 38 8,.q 39 (.bin .neq true (.t 38) (.i 0))]) (.cond (.t 39) (.seq (.reg [.v 40 8,.v 4 40]) .ret) .skip))) (y1)
@[go_sem ↓] theorem aLK:aS AS:=aT _
def D3:PC:=.seq (.seq (.gh (.reg [.q 25 (.fa 2 (.t 2)),.l 26 (.ld1 (.t 25)),.q 27 (.fa 2 (.t 3)),.l 28 (.ld1 (.t 27)),.a 29 (.cq 121 [(.t 26),(.t 28)]),.v 7 29])) (.seq (.reg [.v 30 7,.q 31 (.bin .neq true (.t 30) (.i 0))]) (.cond (.t 31) (.seq (.reg [.v 32 7,.v 4 32]) .ret) .skip))) (AS)
@[go_sem ↓] theorem aRA:aS D3:=aT _
def HM:PC:=.seq (.seq (.gh (.reg [.q 17 (.fa 1 (.t 2)),.l 18 (.ld1 (.t 17)),.q 19 (.fa 1 (.t 3)),.l 20 (.ld1 (.t 19)),.a 21 (.cq 120 [(.t 18),(.t 20)]),.v 6 21])) (.seq (.reg [.v 22 6,.q 23 (.bin .neq true (.t 22) (.i 0))]) (.cond (.t 23) (.seq (.reg [.v 24 6,.v 4 24]) .ret) .skip))) (D3)
@[go_sem ↓] theorem aPK:aS HM:=aT _
def aG1:PC:=.seq (.reg [.e 2 (.bx 29 (.t 0)),.e 3 (.bx 29 (.t 1)),.q 4 (.mv (.i 0))]) (.seq (.seq (.reg [.q 9 (.fa 0 (.t 2)),.l 10 (.ld1 (.t 9)),.q 11 (.fa 0 (.t 3)),.l 12 (.ld1 (.t 11)),.a 13 (.cq 119 [(.t 10),(.t 12)]),.v 5 13]) (.seq (.reg [.v 14 5,.q 15 (.bin .neq true (.t 14) (.i 0))]) (.cond (.t 15) (.seq (.reg [.v 16 5,.v 4 16]) .ret) .skip))) (HM))
def aDD:List RV:=[.mv (.t 4)]
theorem aNJ:aO Tryz.prog true ⟨fun r k=>if r=1/\k=4 then .q else if r=4/\k=4 then .q else if r=7/\k=4 then .q else .own [],fun r=>[4,7,10,13].contains r⟩ Tryz.f82=some (aG1,aDD):=by kernel_rfl
def S7:PC:=.seq (.reg [.e 2 (.bx 76 (.t 0)),.q 3 (.mv (.k (.bool false)))]) (.seq (.reg [.q 4 (.fa 0 (.t 2)),.l 5 (.ld1 (.t 4)),.l 6 (.ld1 (.t 1)),.q 7 (.bin .eql true (.t 5) (.t 6)),.v 3 7]) .ret)
def VU:List RV:=[.mv (.t 3)]
theorem aIZ:aO Tryz.prog true ⟨fun _ _=>.own [],fun _=>false⟩ Tryz.f118=some (S7,VU):=by kernel_rfl
def WP:PC:=.seq (.reg [.q 4 (.mv (.i 0))]) (.seq (.block 0 (.seq (.reg [.v 6 0,.v 7 1,.q 8 (.bin .lss true (.t 6) (.t 7)),.v 5 8]) (.cond (.t 5) (.seq (.reg [.q 4 (.mv (.i (-1)))]) .ret) (.seq (.reg [.v 10 0,.v 11 1,.q 12 (.bin .gtr true (.t 10) (.t 11)),.v 9 12]) (.cond (.t 9) (.seq (.reg [.q 4 (.mv (.i 1))]) .ret) .skip))))) (.seq (.reg [.q 4 (.mv (.i 0))]) .ret))
def V3:List RV:=[.mv (.t 4)]
theorem aKK:aO Tryz.prog true ⟨fun _ _=>.own [],fun _=>false⟩ Tryz.f119=some (WP,V3):=by kernel_rfl
def W5:PC:=.seq (.reg [.q 4 (.mv (.i 0))]) (.seq (.block 0 (.seq (.reg [.v 6 0,.v 7 1,.q 8 (.bin .lss true (.t 6) (.t 7)),.v 5 8]) (.cond (.t 5) (.seq (.reg [.q 4 (.mv (.i (-1)))]) .ret) (.seq (.reg [.v 10 0,.v 11 1,.q 12 (.bin .gtr true (.t 10) (.t 11)),.v 9 12]) (.cond (.t 9) (.seq (.reg [.q 4 (.mv (.i 1))]) .ret) .skip))))) (.seq (.reg [.q 4 (.mv (.i 0))]) .ret))
def TX:List RV:=[.mv (.t 4)]
theorem aKF:aO Tryz.prog true ⟨fun _ _=>.own [],fun _=>false⟩ Tryz.f120=some (W5,TX):=by kernel_rfl
def UP:PC:=.seq (.reg [.q 6 (.mv (.i 0))]) (.seq (.seq (.reg [.v 11 0,.q 12 (.lnL (.t 11)),.q 13 (.mv (.i 0))]) (.block 0 (.loop (.seq (.reg [.q 14 (.bin .lss true (.t 13) (.t 12))]) (.seq (.cond (.t 14) .skip (.exit 0)) (.seq (.block 1 (.seq (.reg [.v 15 13,.l 16 (.ia 5 (.t 11) (.t 13)),.l 17 (.ldn 5 (.t 16)),.e 8 (.al (.agg #[(.int .i64 0),(.int .i64 0),(.string (mk [])),(.slice none 0 0),(.slice none 0 0)]) 29),.v 7 15,.s (.st 5 (.t 8) (.t 17))]) (.seq (.seq (.reg [.v 18 7,.v 19 1,.q 20 (.lnL (.t 19)),.q 21 (.bin .geq true (.t 18) (.t 20))]) (.cond (.t 21) (.seq (.reg [.q 6 (.mv (.i 1))]) .ret) .skip)) (.seq (.reg [.v 22 1,.v 23 7,.l 24 (.ia 5 (.t 22) (.t 23)),.l 25 (.ldn 5 (.t 24)),.e 9 (.al (.agg #[(.int .i64 0),(.int .i64 0),(.string (mk [])),(.slice none 0 0),(.slice none 0 0)]) 29),.s (.st 5 (.t 9) (.t 25))]) (.seq (.reg [.v 26 2,.l 27 (.ldn 5 (.t 8)),.l 28 (.ldn 5 (.t 9)),.a 29 (.ca (.t 26) [(.t 27),(.t 28)] []),.v 10 29]) (.seq (.reg [.v 30 10,.q 31 (.bin .neq true (.t 30) (.i 0))]) (.cond (.t 31) (.seq (.reg [.v 32 10,.v 6 32]) .ret) .skip))))))) (.reg [.q 33 (.bin .add true (.t 13) (.i 1)),.v 13 33]))))))) (.seq (.seq (.reg [.v 34 0,.q 35 (.lnL (.t 34)),.v 36 1,.q 37 (.lnL (.t 36)),.q 38 (.bin .lss true (.t 35) (.t 37))]) (.cond (.t 38) (.seq (.reg [.q 6 (.mv (.i (-1)))]) .ret) .skip)) (.seq (.reg [.q 6 (.mv (.i 0))]) .ret)))
def SE:List RV:=[.mv (.t 6)]
theorem aKW:aO Tryz.prog true ⟨fun _ _=>.own [],fun _=>false⟩ Tryz.f122=some (UP,SE):=by kernel_rfl
def WJ:PC:=.seq (.reg [.q 6 (.mv (.i 0))]) (.seq (.seq (.reg [.v 11 0,.q 12 (.lnL (.t 11)),.q 13 (.mv (.i 0))]) (.block 0 (.loop (.seq (.reg [.q 14 (.bin .lss true (.t 13) (.t 12))]) (.seq (.cond (.t 14) .skip (.exit 0)) (.seq (.block 1 (.seq (.reg [.v 15 13,.l 16 (.ia 6 (.t 11) (.t 13)),.l 17 (.ldn 6 (.t 16)),.e 8 (.al (.agg #[(.int .i64 0),(.int .i64 0),(.int .i64 0),(.string (mk [])),(.slice none 0 0),(.slice none 0 0)]) 76),.v 7 15,.s (.st 6 (.t 8) (.t 17))]) (.seq (.seq (.reg [.v 18 7,.v 19 1,.q 20 (.lnL (.t 19)),.q 21 (.bin .geq true (.t 18) (.t 20))]) (.cond (.t 21) (.seq (.reg [.q 6 (.mv (.i 1))]) .ret) .skip)) (.seq (.reg [.v 22 1,.v 23 7,.l 24 (.ia 6 (.t 22) (.t 23)),.l 25 (.ldn 6 (.t 24)),.e 9 (.al (.agg #[(.int .i64 0),(.int .i64 0),(.int .i64 0),(.string (mk [])),(.slice none 0 0),(.slice none 0 0)]) 76),.s (.st 6 (.t 9) (.t 25))]) (.seq (.reg [.v 26 2,.l 27 (.ldn 6 (.t 8)),.l 28 (.ldn 6 (.t 9)),.a 29 (.ca (.t 26) [(.t 27),(.t 28)] []),.v 10 29]) (.seq (.reg [.v 30 10,.q 31 (.bin .neq true (.t 30) (.i 0))]) (.cond (.t 31) (.seq (.reg [.v 32 10,.v 6 32]) .ret) .skip))))))) (.reg [.q 33 (.bin .add true (.t 13) (.i 1)),.v 13 33]))))))) (.seq (.seq (.reg [.v 34 0,.q 35 (.lnL (.t 34)),.v 36 1,.q 37 (.lnL (.t 36)),.q 38 (.bin .lss true (.t 35) (.t 37))]) (.cond (.t 38) (.seq (.reg [.q 6 (.mv (.i (-1)))]) .ret) .skip)) (.seq (.reg [.q 6 (.mv (.i 0))]) .ret)))
def WX:List RV:=[.mv (.t 6)]
theorem aHU:aO Tryz.prog true ⟨fun _ _=>.own [],fun _=>false⟩ Tryz.f123=some (WJ,WX):=by kernel_rfl
def AK:PC:=.seq (.gh (.reg [.q 14 (.fa 1 (.t 2)),.l 15 (.ldn 5 (.t 14)),.q 16 (.fa 1 (.t 3)),.l 17 (.ldn 5 (.t 16)),.a 18 (.cl 82 [(.t 15),(.t 17)] []),.v 4 18])) .ret
@[go_sem ↓] theorem aMH:aS AK:=aT _
def UC:PC:=.seq (.reg [.e 2 (.bx 76 (.t 0)),.e 3 (.bx 76 (.t 1)),.q 4 (.mv (.i 0))]) (.seq (.seq (.reg [.q 6 (.fa 0 (.t 2)),.l 7 (.ld1 (.t 6)),.q 8 (.fa 0 (.t 3)),.l 9 (.ld1 (.t 8)),.a 10 (.cq 119 [(.t 7),(.t 9)]),.v 5 10]) (.seq (.reg [.v 11 5,.q 12 (.bin .neq true (.t 11) (.i 0))]) (.cond (.t 12) (.seq (.reg [.v 13 5,.v 4 13]) .ret) .skip))) (AK))
def V1:List RV:=[.mv (.t 4)]
theorem aIC:aO Tryz.prog true ⟨fun r k=>if r=1/\k=4 then .q else if r=4/\k=4 then .own [] else .own [],fun r=>[4].contains r⟩ Tryz.f124=some (UC,V1):=by kernel_rfl
end Go.Proofs.YthpbnmebjocbeaaGreat
namespace Go.Proofs
open Go.Shelf
def Tryz.lays106_ren:Go.Shelf.Ren:=⟨fun | 106=>121 | 213=>152 | 265=>160 | n=>n,fun | 9=>9 | 3=>3 | n=>n,fun | n=>n⟩
theorem Tryz.lays106:Go.Proofs.Lays.n106 Tryz.prog Tryz.lays106_ren:={
 mixed:=by kernel_rfl
 f106:=Tryz.func121.trans (congrArg some (by kernel_rfl))
 f213:=Tryz.func152.trans (congrArg some (by kernel_rfl))
 f265:=Tryz.func160.trans (congrArg some (by kernel_rfl))
 t3:=Tryz.underlying3
 a3:=Tryz.isAgg3
 z3:=Tryz.sizeOf3
 v3:=Tryz.zeroValue3
 t9:=Tryz.underlying9
 a9:=Tryz.isAgg9
 z9:=Tryz.sizeOf9
 v9:=Tryz.zeroValue9 }
end Go.Proofs
namespace Go.Proofs.YthpbnmebjocbeaaGreat
open Go.W
theorem XC (a b:ByteArray) (w:World):Calls Tryz.prog 121 #[.string a,.string b] w fun e w'=>e=.returned (.int .i64 (Lib.compareBytes a.data.toList b.data.toList))/\w'=w:=Any.strings_Compare Tryz.lays106 a b w
def DE:List S->Prop:=fun av=>match av with
 | [.va (.c1 (.vl (.string _))),.va (.c1 (.vl (.string _)))]=>True
 | _=>False
theorem xK {av:List S} (h:DE av):∃ a b:ByteArray,av=[tS a,tS b]:=by
 unfold DE at h
 split at h
 · exact ⟨_,_,rfl⟩
 · exact h.elim
def LS:List S->A:=fun av=>match av with
 | [.va (.c1 (.vl (.string a))),.va (.c1 (.vl (.string b)))]=>iA .i64 (Lib.compareBytes (bl a) (bl b))
 | _=>.gs []
def scFn:Fun:=⟨DE,LS,fun av h=>by obtain ⟨a,b,rfl⟩:=xK h; trivial⟩
attribute [go_sem] scFn DE LS
theorem ZL:Meets Tryz.prog 121 scFn.sp:=by
 refine ⟨by kernel_rfl,?_⟩
 rintro av vs E ro w K hlen hrel hR ⟨⟨h,hE⟩,hK⟩ _
 obtain ⟨a,b,rfl⟩:=xK h
 obtain ⟨v0,v1,rfl⟩:∃ v0 v1,vs=[v0,v1]:=by
  match vs,hlen with
  | [v0,v1],_=>exact ⟨v0,v1,rfl⟩
 have h0:v0=.string a:=hrel 0 _ _ rfl rfl
 have h1:v1=.string b:=hrel 1 _ _ rfl rfl
 subst h0 h1
 refine (XC a b w).mono ?_
 rintro e w' ⟨rfl,rfl⟩
 exact ⟨iS .i64 (Lib.compareBytes (bl a) (bl b)),_,E,ro,rfl,rfl,by rw [hE]; exact hK,hR⟩
theorem EV:∀ (a b:List UInt8),(Lib.compareBytes a b == 0)=(a == b)
 | [],[]=>rfl
 | [],_ :: _=>rfl
 | _ :: _,[]=>rfl
 | x :: a,y :: b=>by
  rw [Lib.compareBytes]
  split
  · rename_i h
    have:(x :: a == y :: b)=false:=by
     rw [beq_eq_false_iff_ne]; intro e; cases e; exact UInt8.lt_irrefl _ h
    rw [this]; rfl
  · split
    · rename_i h
      have:(x :: a == y :: b)=false:=by
       rw [beq_eq_false_iff_ne]; intro e; cases e; exact UInt8.lt_irrefl _ h
      rw [this]; rfl
    · rename_i h1 h2
      have e:x=y:=UInt8.le_antisymm (UInt8.not_lt.1 h2) (UInt8.not_lt.1 h1)
      rw [e,EV a b]
      simp
theorem mO (a b:Int):(kZ a b == 0)=(a == b):=by
 unfold kZ
 cases h1:decide (a < b) with
 | true=>
  have:=of_decide_eq_true h1
  rw [cond_true,show (a == b)=false by simp; omega]; rfl
 | false=>
  have h1:=of_decide_eq_false h1
  rw [cond_false]
  cases h2:decide (b < a) with
  | true=>
   have:=of_decide_eq_true h2
   rw [cond_true,show (a == b)=false by simp; omega]; rfl
  | false=>
   have h2:=of_decide_eq_false h2
   rw [cond_false,show (a == b)=true by simp; omega]; rfl
theorem WH:Meets Tryz.prog 119 sgFn.sp:=by
 refine aF Tryz.func119 aKK 2 (by rw [Tryz.ntmps119]; decide) (aA _) v7 ?_
 rintro av H K ⟨⟨h,rfl⟩,hK⟩
 obtain ⟨a,b,rfl⟩:=jF h
 have hK:K (iS .i64 (kZ a b)) []:=hK
 clear h
 unfold kZ at hK
 simp (maxSteps:=1000000) -dsimp only [go_sem,WP,V3]
 refine ⟨fun h1=>?_,fun h1=>⟨fun h2=>?_,fun h2=>?_⟩⟩
 · rw [h1] at hK; exact .done hK
 · rw [h1,h2] at hK; exact .done hK
 · rw [h1,h2] at hK; exact .done hK
theorem aJZ:Meets Tryz.prog 120 sgFn.sp:=by
 refine aF Tryz.func120 aKF 2 (by rw [Tryz.ntmps120]; decide) (aA _) v7 ?_
 rintro av H K ⟨⟨h,rfl⟩,hK⟩
 obtain ⟨a,b,rfl⟩:=jF h
 have hK:K (iS .i64 (kZ a b)) []:=hK
 clear h
 unfold kZ at hK
 simp (maxSteps:=1000000) -dsimp only [go_sem,W5,TX]
 refine ⟨fun h1=>?_,fun h1=>⟨fun h2=>?_,fun h2=>?_⟩⟩
 · rw [h1] at hK; exact .done hK
 · rw [h1,h2] at hK; exact .done hK
 · rw [h1,h2] at hK; exact .done hK
def BD (N:Nat):W.Spec:=fun av H K=>∃ a b:Vl,av=[.va (.gs (aP a)),.va (.gs (aP b))]/\H=[]/\VlOk a/\VlOk b/\a.h<=N/\∀ r:Int,(r == 0)=eL a b->K (iS .i64 r) []
theorem nZ {N:Nat} {a b:Vl} {K:S->Hp->Prop} (h1:VlOk a) (h2:VlOk b) (h3:a.h<=N) (hK:∀ r:Int,(r == 0)=eL a b->K (iS .i64 r) []) :
 BD N [.va (.gs [.vl (.int .i64 a.k),.vl (.int .i64 a.n),.vl (.string a.s),.fz (a.l.map aP),.fz (a.f.map a8)]),.va (.gs [.vl (.int .i64 b.k),.vl (.int .i64 b.n),.vl (.string b.s),.fz (b.l.map aP),.fz (b.f.map a8)])] [] K:=
 ⟨a,b,by rw [aJ,aJ],rfl,h1,h2,h3,hK⟩
abbrev cmV:S:=.va (.c1 (.fn 82 []))
abbrev cnV:S:=.va (.c1 (.fn 124 []))
def aBE (N:Nat):W.Spec:=fun av H K=>∃ a b:List Vl,av=[.va (.c1 (.fz (a.map aP))),.va (.c1 (.fz (b.map aP))),cmV]/\H=[]/\(∀ x ∈ a,VlOk x/\x.h<=N)/\(∀ x ∈ b,VlOk x)/\a.length<=1000000000000000/\b.length<=1000000000000000/\∀ r:Int,(r == 0)=f5 a b->K (iS .i64 r) []
theorem aES {N:Nat} {a b:List Vl} {K:S->Hp->Prop} (h1:∀ x ∈ a,VlOk x/\x.h<=N) (h2:∀ x ∈ b,VlOk x) (h3:a.length<=1000000000000000) (h4:b.length<=1000000000000000) (hK:∀ r:Int,(r == 0)=f5 a b->K (iS .i64 r) []) :
 aBE N [.va (.c1 (.fz (a.map aP))),.va (.c1 (.fz (b.map aP))),cmV] [] K:=⟨a,b,rfl,rfl,h1,h2,h3,h4,hK⟩
theorem G2 (x y:Vl) (a b:List Vl):f5 (x :: a) (y :: b)=(eL x y && f5 a b):=by rw [f5]
theorem aHX {N:Nat} (hC:Meets Tryz.prog 82 (BD N)):Meets Tryz.prog 122 (aBE N):=by
 refine aF Tryz.func122 aKW 3 (by rw [Tryz.ntmps122]; decide) (aE hC (aA _)) (fun av H K h=>by obtain ⟨_,_,rfl,_⟩:=h; rfl) ?_
 rintro av H K ⟨a,b,rfl,rfl,ha,hb,hla,hlb,hK⟩
 have fin:∀ (r:Int) (R:Hp),(r == 0)=f5 a b->W.Fin 0 K (iS .i64 r) R:=fun r R h=>.sel [] (by simp) (by simp) rfl (.done (by simpa [go_sem] using hK r h))
 simp (maxSteps:=1000000) -dsimp only [go_sem,UP,SE]
 refine aL (α:=Nat) (fun i=>[(0,.va (.c1 (.fz (a.map aP)))),(1,.va (.c1 (.fz (b.map aP)))),(2,cmV),(11,.va (.c1 (.fz (a.map aP)))),(12,iS .i64 a.length),(13,iS .i64 i)]) (fun _=>[])
  (fun i=>i<=a.length/\i<=b.length/\f5 (a.drop i) (b.drop i)=f5 a b) (fun i=>a.length - i) 0 0 ⟨Nat.zero_le _,Nat.zero_le _,rfl⟩ ?_ ?_ ?_
 · simp -dsimp only [go_sem]<;>simp
 · simp -dsimp only [go_sem]<;>simp
 rintro i ⟨hi,hib,ho⟩
 rcases a7 i a.length with hlt | hge
 · have hg:decide ((i:Int) < (a.length:Int))=true:=by simp; omega
   have hx:a[i]? = some a[i]:=aU hlt
   have q1:=lX hx
   have hxo:=ha _ (List.getElem_mem hlt)
   rw [List.drop_eq_getElem_cons hlt] at ho
   generalize a[i]=x at *
   rcases a7 i b.length with hlt2 | hge2
   · have hg2:decide ((b.length:Int)<=(i:Int))=false:=by simp; omega
     have hy:b[i]? = some b[i]:=aU hlt2
     have q2:=lX hy
     have hyo:=hb _ (List.getElem_mem hlt2)
     rw [List.drop_eq_getElem_cons hlt2,G2] at ho
     generalize b[i]=y at *
     simp (maxSteps:=1000000) -dsimp only [go_sem,hg,hg2,↓q1,↓q2]
     refine ⟨by omega,by omega,nZ hxo.1 hyo hxo.2 fun r hr=>?_⟩
     simp (maxSteps:=1000000) -dsimp only [go_sem]
     refine ⟨fun h1=>fin r _ ?_,fun h1=>?_⟩
     · have h2:(r == 0)=false:=by simpa using h1
       rw [h2] at hr ⊢
       rw [<-ho,<-hr]; rfl
     · have h2:(r == 0)=true:=by simpa using h1
       rw [h2] at hr
       rw [<-hr,Bool.true_and] at ho
       refine ⟨by omega,aD (i + 1) 0 ⟨by omega,by omega,ho⟩ (by omega) ?_ ?_⟩
       · simp -dsimp only [go_sem]<;>simp
       · simp -dsimp only [go_sem]<;>simp
   · have hg2:decide ((b.length:Int)<=(i:Int))=true:=by simp; omega
     have hd:b.drop i=[]:=List.drop_eq_nil_iff.2 hge2
     rw [hd,f5] at ho
     simp (maxSteps:=1000000) -dsimp only [go_sem,hg,hg2,↓q1]
     exact ⟨by omega,fin 1 _ ho⟩
 · have hg:decide ((i:Int) < (a.length:Int))=false:=by simp; omega
   have hd:a.drop i=[]:=List.drop_eq_nil_iff.2 hge
   rw [hd] at ho
   simp (maxSteps:=1000000) -dsimp only [go_sem,hg]
   refine ⟨fun h1=>fin (-1) _ ?_,fun h1=>fin 0 _ ?_⟩
   · have h1:=of_decide_eq_true h1
     have hlt2:i < b.length:=by omega
     rw [List.drop_eq_getElem_cons hlt2,f5] at ho
     exact ho
   · have h1:=of_decide_eq_false h1
     have hd2:b.drop i=[]:=List.drop_eq_nil_iff.2 (by omega)
     rw [hd2,f5] at ho
     exact ho
def aDV (N:Nat):W.Spec:=fun av H K=>∃ x y:Int × Vl,av=[.va (.gs (a8 x)),.va (.gs (a8 y))]/\H=[]/\VlOk x.2/\VlOk y.2/\x.2.h<=N/\∀ r:Int,(r == 0)=(x.1 == y.1 && eL x.2 y.2)->K (iS .i64 r) []
theorem aBM {N:Nat} {x y:Int × Vl} {K:S->Hp->Prop} (h1:VlOk x.2) (h2:VlOk y.2) (h3:x.2.h<=N) (hK:∀ r:Int,(r == 0)=(x.1 == y.1 && eL x.2 y.2)->K (iS .i64 r) []) :
 aDV N [.va (.gs [.vl (.int .i64 x.1),.vl (.int .i64 x.2.k),.vl (.int .i64 x.2.n),.vl (.string x.2.s),.fz (x.2.l.map aP),.fz (x.2.f.map a8)]),.va (.gs [.vl (.int .i64 y.1),.vl (.int .i64 y.2.k),.vl (.int .i64 y.2.n),.vl (.string y.2.s),.fz (y.2.l.map aP),.fz (y.2.f.map a8)])] [] K:=
 ⟨x,y,by rw [jO,jO],rfl,h1,h2,h3,hK⟩
theorem aHB {N:Nat} (hC:Meets Tryz.prog 82 (BD N)):Meets Tryz.prog 124 (aDV N):=by
 refine aF Tryz.func124 aIC 2 (by rw [Tryz.ntmps124]; decide) (aG WH (aE hC (aA _))) (fun av H K h=>by obtain ⟨_,_,rfl,_⟩:=h; rfl) ?_
 rintro av H K ⟨x,y,rfl,rfl,hx,hy,hh,hK⟩
 have fin:∀ (r:Int) (R:Hp),(r == 0)=(x.1 == y.1 && eL x.2 y.2)->W.Fin 0 K (iS .i64 r) R:=fun r R h=>.sel [] (by simp) (by simp) rfl (.done (by simpa [go_sem] using hK r h))
 have hs:=mO x.1 y.1
 simp (maxSteps:=1000000) -dsimp only [go_sem,jO x,jO y,UC,V1]
 refine ⟨fun h1=>fin _ _ ?_,fun h1=>aB rfl (.done ?_)⟩
 · have h2:(kZ x.1 y.1 == 0)=false:=by simpa using h1
   rw [h2] at hs ⊢
   rw [<-hs]; rfl
 · have h2:(kZ x.1 y.1 == 0)=true:=by simpa using h1
   rw [h2] at hs
   simp (maxSteps:=1000000) -dsimp only [go_sem,AK,List.take_succ_cons,List.take_zero,List.length_cons,List.length_nil]
   refine nZ hx hy hh fun r hr=>?_
   simp (maxSteps:=1000000) -dsimp only [go_sem]
   exact fin r _ (by rw [hr,<-hs]; rfl)
def TF (N:Nat):W.Spec:=fun av H K=>∃ a b:List (Int × Vl),av=[.va (.c1 (.fz (a.map a8))),.va (.c1 (.fz (b.map a8))),cnV]/\H=[]/\(∀ x ∈ a,VlOk x.2/\x.2.h<=N)/\(∀ x ∈ b,VlOk x.2)/\a.length<=1000000000000000/\b.length<=1000000000000000/\∀ r:Int,(r == 0)=fT a b->K (iS .i64 r) []
theorem ZT {N:Nat} {a b:List (Int × Vl)} {K:S->Hp->Prop} (h1:∀ x ∈ a,VlOk x.2/\x.2.h<=N) (h2:∀ x ∈ b,VlOk x.2) (h3:a.length<=1000000000000000) (h4:b.length<=1000000000000000) (hK:∀ r:Int,(r == 0)=fT a b->K (iS .i64 r) []) :
 TF N [.va (.c1 (.fz (a.map a8))),.va (.c1 (.fz (b.map a8))),cnV] [] K:=⟨a,b,rfl,rfl,h1,h2,h3,h4,hK⟩
theorem aHS {N:Nat} (hC:Meets Tryz.prog 82 (BD N)):Meets Tryz.prog 123 (TF N):=by
 refine aF Tryz.func123 aHU 3 (by rw [Tryz.ntmps123]; decide) (aE (aHB hC) (aA _)) (fun av H K h=>by obtain ⟨_,_,rfl,_⟩:=h; rfl) ?_
 rintro av H K ⟨a,b,rfl,rfl,ha,hb,hla,hlb,hK⟩
 have fin:∀ (r:Int) (R:Hp),(r == 0)=fT a b->W.Fin 0 K (iS .i64 r) R:=fun r R h=>.sel [] (by simp) (by simp) rfl (.done (by simpa [go_sem] using hK r h))
 simp (maxSteps:=1000000) -dsimp only [go_sem,WJ,WX]
 refine aL (α:=Nat) (fun i=>[(0,.va (.c1 (.fz (a.map a8)))),(1,.va (.c1 (.fz (b.map a8)))),(2,cnV),(11,.va (.c1 (.fz (a.map a8)))),(12,iS .i64 a.length),(13,iS .i64 i)]) (fun _=>[])
  (fun i=>i<=a.length/\i<=b.length/\fT (a.drop i) (b.drop i)=fT a b) (fun i=>a.length - i) 0 0 ⟨Nat.zero_le _,Nat.zero_le _,rfl⟩ ?_ ?_ ?_
 · simp -dsimp only [go_sem]<;>simp
 · simp -dsimp only [go_sem]<;>simp
 rintro i ⟨hi,hib,ho⟩
 rcases a7 i a.length with hlt | hge
 · have hg:decide ((i:Int) < (a.length:Int))=true:=by simp; omega
   have hx:a[i]? = some a[i]:=aU hlt
   have q1:=gT hx
   have hxo:=ha _ (List.getElem_mem hlt)
   rw [List.drop_eq_getElem_cons hlt] at ho
   generalize a[i]=x at *
   rcases a7 i b.length with hlt2 | hge2
   · have hg2:decide ((b.length:Int)<=(i:Int))=false:=by simp; omega
     have hy:b[i]? = some b[i]:=aU hlt2
     have q2:=gT hy
     have hyo:=hb _ (List.getElem_mem hlt2)
     rw [List.drop_eq_getElem_cons hlt2,HC] at ho
     generalize b[i]=y at *
     simp (maxSteps:=1000000) -dsimp only [go_sem,hg,hg2,↓q1,↓q2]
     refine ⟨by omega,by omega,aBM hxo.1 hyo hxo.2 fun r hr=>?_⟩
     rw [<-Bool.and_assoc,<-hr] at ho
     simp (maxSteps:=1000000) -dsimp only [go_sem]
     refine ⟨fun h1=>fin r _ ?_,fun h1=>?_⟩
     · have h2:(r == 0)=false:=by simpa using h1
       rw [h2,Bool.false_and] at ho
       rw [h2]; exact ho
     · have h2:(r == 0)=true:=by simpa using h1
       rw [h2,Bool.true_and] at ho
       refine ⟨by omega,aD (i + 1) 0 ⟨by omega,by omega,ho⟩ (by omega) ?_ ?_⟩
       · simp -dsimp only [go_sem]<;>simp
       · simp -dsimp only [go_sem]<;>simp
   · have hg2:decide ((b.length:Int)<=(i:Int))=true:=by simp; omega
     have hd:b.drop i=[]:=List.drop_eq_nil_iff.2 hge2
     have he:fT (x :: a.drop (i + 1)) []=false:=by obtain ⟨j,x⟩:=x; rw [fT]
     rw [hd,he] at ho
     simp (maxSteps:=1000000) -dsimp only [go_sem,hg,hg2,↓q1]
     exact ⟨by omega,fin 1 _ ho⟩
 · have hg:decide ((i:Int) < (a.length:Int))=false:=by simp; omega
   have hd:a.drop i=[]:=List.drop_eq_nil_iff.2 hge
   rw [hd] at ho
   simp (maxSteps:=1000000) -dsimp only [go_sem,hg]
   refine ⟨fun h1=>fin (-1) _ ?_,fun h1=>fin 0 _ ?_⟩
   · have h1:=of_decide_eq_true h1
     have hlt2:i < b.length:=by omega
     rw [List.drop_eq_getElem_cons hlt2] at ho
     have he:∀ y:Int × Vl,fT [] (y :: b.drop (i + 1))=false:=fun y=>by obtain ⟨j,y⟩:=y; rw [fT]
     rw [he] at ho
     exact ho
   · have h1:=of_decide_eq_false h1
     have hd2:b.drop i=[]:=List.drop_eq_nil_iff.2 (by omega)
     rw [hd2,fT] at ho
     exact ho
theorem rD:∀ N,Meets Tryz.prog 82 (BD N)
 | 0=>⟨by kernel_rfl,by rintro xs vs E ro w K _ _ _ ⟨a,_,_,_,_,_,h,_⟩; have:=a.h_pos; omega⟩
 | N + 1=>by
  refine aF Tryz.func82 aNJ 2 (by rw [Tryz.ntmps82]; decide) (aG WH (aG aJZ (aG ZL (aE (aHX (rD N)) (aE (aHS (rD N)) (aA _)))))) (fun av H K h=>by obtain ⟨_,_,rfl,_⟩:=h; rfl) ?_
  rintro av H K ⟨a,b,rfl,rfl,ha,hb,hh,hK⟩
  have hE:=M7 a b
  have fin:∀ (r:Int) (R:Hp),(r == 0)=eL a b->W.Fin 0 K (iS .i64 r) R:=fun r R h=>.sel [] (by simp) (by simp) rfl (.done (by simpa [go_sem] using hK r h))
  have hs1:=mO a.k b.k
  have hs2:=mO a.n b.n
  have hs3:=EV (bl a.s) (bl b.s)
  have hla:=ha.ll
  have hlb:=hb.ll
  have hfa:=ha.lf
  have hfb:=hb.lf
  simp (maxSteps:=1000000) -dsimp only [go_sem,aJ a,aJ b,aG1,aDD]
  refine ⟨fun h1=>fin _ _ ?_,fun h1=>aB rfl (.done ?_)⟩
  · have h2:(kZ a.k b.k == 0)=false:=by simpa using h1
    rw [h2] at hs1 ⊢
    rw [hE,<-hs1]; rfl
  have h2:(kZ a.k b.k == 0)=true:=by simpa using h1
  rw [h2] at hs1
  rw [<-hs1,Bool.true_and] at hE
  simp (maxSteps:=1000000) -dsimp only [go_sem,HM]
  refine ⟨fun h1=>fin _ _ ?_,fun h1=>aB rfl (.done ?_)⟩
  · have h2:(kZ a.n b.n == 0)=false:=by simpa using h1
    rw [h2] at hs2 ⊢
    rw [hE,<-hs2]; rfl
  have h2:(kZ a.n b.n == 0)=true:=by simpa using h1
  rw [h2] at hs2
  rw [<-hs2,Bool.true_and] at hE
  simp (maxSteps:=1000000) -dsimp only [go_sem,D3]
  refine ⟨fun h1=>fin _ _ ?_,fun h1=>aB rfl (.done ?_)⟩
  · have h2:(Lib.compareBytes (bl a.s) (bl b.s) == 0)=false:=by simpa using h1
    rw [h2] at hs3 ⊢
    rw [hE,<-hs3]; rfl
  have h2:(Lib.compareBytes (bl a.s) (bl b.s) == 0)=true:=by simpa using h1
  rw [h2] at hs3
  rw [<-hs3,Bool.true_and] at hE
  simp (maxSteps:=1000000) -dsimp only [go_sem,AS]
  refine aES (fun x hx=>⟨ha.l x hx,by have:=Vl.h_l hx; omega⟩) hb.l (by omega) (by omega) fun r hr=>?_
  simp (maxSteps:=1000000) -dsimp only [go_sem]
  refine ⟨fun h1=>fin _ _ ?_,fun h1=>aB rfl (.done ?_)⟩
  · have h2:(r == 0)=false:=by simpa using h1
    rw [h2] at hr ⊢
    rw [hE,<-hr]; rfl
  have h2:(r == 0)=true:=by simpa using h1
  rw [h2] at hr
  rw [<-hr,Bool.true_and] at hE
  simp (maxSteps:=1000000) -dsimp only [go_sem,y1]
  refine ZT (fun x hx=>⟨ha.f x hx,by have:=Vl.h_f hx; omega⟩) hb.f (by omega) (by omega) fun r hr=>?_
  simp (maxSteps:=1000000) -dsimp only [go_sem]
  exact fin r _ (by rw [hr,hE])
def C8:List S->Prop:=fun av=>match av with
 | [.va (.gs r),.va (.gs q)]=>lE r/\lE q
 | _=>False
theorem o9 {av:List S} (h:C8 av):∃ a b:Vl,av=[.va (.gs (aP a)),.va (.gs (aP b))]/\VlOk a/\VlOk b:=by
 unfold C8 at h
 split at h
 · obtain ⟨⟨a,rfl,h1⟩,⟨b,rfl,h2⟩⟩:=h; exact ⟨a,b,rfl,h1,h2⟩
 · exact h.elim
noncomputable def VG:List S->A:=fun av=>match av with
 | [.va (.gs r),.va (.gs q)]=>bA (eL (C.vv r) (C.vv q))
 | _=>.gs []
noncomputable def eqFn2:Fun:=⟨C8,VG,fun av h=>by obtain ⟨a,b,rfl,_⟩:=o9 h; trivial⟩
attribute [go_sem] eqFn2 C8 VG
theorem R7 (N:Nat):Meets Tryz.prog 44 (fun av H K=>∃ a b:Vl,av=[.va (.gs (aP a)),.va (.gs (aP b))]/\H=[]/\VlOk a/\VlOk b/\a.h<=N/\K (bS (eL a b)) []):=by
 refine aF Tryz.func44 aQK 2 (by rw [Tryz.ntmps44]; decide) (aE (rD N) (aA _)) (fun av H K h=>by obtain ⟨_,_,rfl,_⟩:=h; rfl) ?_
 rintro av H K ⟨a,b,rfl,rfl,ha,hb,hh,hK⟩
 simp (maxSteps:=1000000) -dsimp only [go_sem,aJ a,aJ b,Z8,aFG]
 refine nZ ha hb hh fun r hr=>?_
 simp (maxSteps:=1000000) -dsimp only [go_sem]
 exact .sel [] (by simp) (by simp) rfl (.done (by rw [hr]; simpa [go_sem] using hK))
theorem H8:Meets Tryz.prog 44 eqFn2.sp:=dI (0:Nat) R7 fun av H K h=>by
 obtain ⟨⟨h,e⟩,hK⟩:=h
 obtain ⟨a,b,rfl,ha,hb⟩:=o9 h
 have hK:K (bS (eL (C.vv (aP a)) (C.vv (aP b)))) []:=hK
 rw [fI,fI] at hK
 exact ⟨a.h,a,b,rfl,e,ha,hb,Nat.le_refl _,hK⟩
def aFQ (N:Nat):W.Spec:=fun av H K=>∃ v:Vl,av=[.va (.gs (aP v))]/\H=[]/\VlOk v/\v.h<=N/\K (.va (.gs (aP v))) []
theorem D8 {N:Nat} {v:Vl} {K:S->Hp->Prop} (h1:VlOk v) (h2:v.h<=N) (hK:K (.va (.gs [.vl (.int .i64 v.k),.vl (.int .i64 v.n),.vl (.string v.s),.fz (v.l.map aP),.fz (v.f.map a8)])) []) :
 aFQ N [.va (.gs [.vl (.int .i64 v.k),.vl (.int .i64 v.n),.vl (.string v.s),.fz (v.l.map aP),.fz (v.f.map a8)])] [] K:=⟨v,by rw [aJ],rfl,h1,h2,by rw [aJ]; exact hK⟩
theorem J0:∀ N,Meets Tryz.prog 81 (aFQ N)
 | 0=>⟨by kernel_rfl,by rintro xs vs E ro w K _ _ _ ⟨v,_,_,_,h,_⟩; have:=v.h_pos; omega⟩
 | N + 1=>by
  refine aF Tryz.func81 aOG 1 (by rw [Tryz.ntmps81]; decide) (aE (J0 N) (aA _)) (fun av H K h=>by obtain ⟨_,rfl,_⟩:=h; rfl) ?_
  rintro av H K ⟨v,rfl,rfl,hv,hh,hK⟩
  have hll:=hv.ll
  have hlf:=hv.lf
  rw [aJ] at hK
  simp (maxSteps:=1000000) -dsimp only [go_sem,aJ v,aFO,aEX]
  refine cQ (α:=Nat) (fun i=>[(1,.va (.c1 (.pt 0 0))),(2,.va (.c1 (.pt 1 0))),(4,.va (.c1 (.fz (v.f.map a8)))),(15,.va (.c1 (.fz (v.l.map aP)))),(16,iS .i64 v.l.length),(17,iS .i64 i)])
   (fun i=>[.cells [.vl (.int .i64 v.k),.vl (.int .i64 v.n),.vl (.string v.s),.sl 2 i,.vl (.slice none 0 0)] 29,.cells [.vl (.int .i64 0),.vl (.int .i64 0),.vl (.string (mk [])),.vl (.slice none 0 0),.vl (.slice none 0 0)] 29,.row ((v.l.take i).map aP) 29 5])
   (fun i=>i<=v.l.length) (fun i=>v.l.length - i) (.nilc 0 3 29 5 [.vl (.int .i64 v.k),.vl (.int .i64 v.n),.vl (.string v.s),.vl (.slice none 0 0),.vl (.slice none 0 0)] 29 rfl rfl (jM 0 3 (Nat.zero_le _) ?_ ?_)) ?_
  · simp -dsimp only [go_sem]<;>simp
  · simp -dsimp only [go_sem]<;>simp
  intro i hi
  have hz:(v.l.take i).length=i:=by rw [List.length_take]; omega
  rcases a7 i v.l.length with hlt | hge
  · have hg:decide ((i:Int) < (v.l.length:Int))=true:=by simp; omega
    have hx:v.l[i]? = some v.l[i]:=aU hlt
    have q1:=lX hx
    have hxm:=List.getElem_mem hlt
    have hxo:=hv.l _ hxm
    have hxh:v.l[i].h<=N:=by have:=Vl.h_l hxm; omega
    have htk:=dH hx
    generalize v.l[i]=x at *
    simp (maxSteps:=1000000) -dsimp only [go_sem,hg,↓q1]
    refine ⟨by omega,D8 hxo hxh ?_⟩
    simp (maxSteps:=1000000) -dsimp only [go_sem]
    refine ⟨hz,by omega,by omega,aD (i + 1) 3 (by omega) (by omega) ?_ ?_⟩
    · simp -dsimp only [go_sem]<;>simp
    · simp -dsimp only [go_sem,htk]<;>simp [aJ x]
  · have hg:decide ((i:Int) < (v.l.length:Int))=false:=by simp; omega
    obtain rfl:i=v.l.length:=by omega
    rw [List.take_length]
    simp (maxSteps:=1000000) -dsimp only [go_sem,hg]
    clear hi hge hg hz
    refine cQ (α:=Nat) (fun i=>[(1,.va (.c1 (.pt 0 0))),(2,.va (.c1 (.pt 1 0))),(29,.va (.c1 (.fz (v.f.map a8)))),(30,iS .i64 v.f.length),(31,iS .i64 i)])
     (fun i=>[.cells [.vl (.int .i64 v.k),.vl (.int .i64 v.n),.vl (.string v.s),.sl 2 v.l.length,.sl 3 i] 29,.cells [.vl (.int .i64 0),.vl (.int .i64 0),.vl (.string (mk [])),.vl (.slice none 0 0),.vl (.slice none 0 0)] 29,.row (v.l.map aP) 29 5,.row ((v.f.take i).map a8) 76 6])
     (fun i=>i<=v.f.length) (fun i=>v.f.length - i) (.nilc 0 4 76 6 [.vl (.int .i64 v.k),.vl (.int .i64 v.n),.vl (.string v.s),.sl 2 v.l.length,.vl (.slice none 0 0)] 29 rfl rfl (jM 0 4 (Nat.zero_le _) ?_ ?_)) ?_
    · simp -dsimp only [go_sem]<;>simp
    · simp -dsimp only [go_sem]<;>simp
    intro i hi
    have hz:(v.f.take i).length=i:=by rw [List.length_take]; omega
    rcases a7 i v.f.length with hlt | hge
    · have hg:decide ((i:Int) < (v.f.length:Int))=true:=by simp; omega
      have hx:v.f[i]? = some v.f[i]:=aU hlt
      have q1:=gT hx
      have hxm:=List.getElem_mem hlt
      have hxo:=hv.f _ hxm
      have hxh:v.f[i].2.h<=N:=by have:=Vl.h_f hxm; omega
      have htk:=dH hx
      generalize v.f[i]=x at *
      simp (maxSteps:=1000000) -dsimp only [go_sem,hg,↓q1,List.take_succ_cons,List.take_zero,List.length_cons,List.length_nil]
      refine ⟨by omega,D8 hxo hxh ?_⟩
      simp (maxSteps:=1000000) -dsimp only [go_sem]
      refine ⟨hz,by omega,by omega,aD (i + 1) 4 (by omega) (by omega) ?_ ?_⟩
      · simp -dsimp only [go_sem]<;>simp
      · simp -dsimp only [go_sem,htk]<;>simp [jO x]
    · have hg:decide ((i:Int) < (v.f.length:Int))=false:=by simp; omega
      obtain rfl:i=v.f.length:=by omega
      rw [List.take_length]
      simp (maxSteps:=1000000) -dsimp only [go_sem,hg]
      refine .pub 2 _ _ _ rfl (.pub 3 _ _ _ rfl (.sel [] (by simp) (by simp [cD]) rfl (.done ?_)))
      simp -dsimp only [go_sem,cD]
      simpa using hK
abbrev fdV:S:=.va (.c1 (.fn 118 [(false,[.pt 0 0])]))
abbrev pQ (k:Int):B:=.cells [.vl (.int .i64 k)] 3
def SB:W.Spec:=fun av H K=>∃ (x:Int × Vl) (k:Int),av=[.va (.gs (J8 x)),.va (.c1 (.pt 0 0))]/\H=[pQ k]/\K (bS (x.1 == k)) [pQ k]
theorem X3 {x:Int × Vl} {k:Int} {K:S->Hp->Prop} (hK:K (bS (x.1 == k)) [pQ k]):SB [.va (.gs (J8 x)),.va (.c1 (.pt 0 0))] [pQ k] K:=⟨x,k,rfl,rfl,hK⟩
theorem ZA:Meets Tryz.prog 118 SB:=by
 refine aF Tryz.func118 aIZ 2 (by rw [Tryz.ntmps118]; decide) (aA _) (fun av H K h=>by obtain ⟨_,_,rfl,_⟩:=h; rfl) ?_
 rintro av H K ⟨x,k,rfl,rfl,hK⟩
 simp -dsimp only [go_sem,J8,S7,VU]
 exact .sel [0] (by simp) (by simp) rfl (.done (by simpa [go_sem] using hK))
def aC4:W.Spec:=fun av H K=>∃ (l:List (Int × Vl)) (k:Int),av=[.va (.c1 (.fz (l.map a8))),fdV]/\H=[pQ k]/\l.length<=9223372036854775807/\K (iS .i64 (jB k l 0)) [pQ k]
theorem aEL {l:List (Int × Vl)} {k:Int} {K:S->Hp->Prop} (h:l.length<=9223372036854775807) (hK:K (iS .i64 (jB k l 0)) [pQ k]):aC4 [.va (.c1 (.fz (l.map a8))),fdV] [pQ k] K:=⟨l,k,rfl,rfl,h,hK⟩
theorem YF:Meets Tryz.prog 117 aC4:=by
 refine aF Tryz.func117 UX 2 (by rw [Tryz.ntmps117]; decide) (aE ZA (aA _)) (fun av H K h=>by obtain ⟨_,_,rfl,_⟩:=h; rfl) ?_
 rintro av H K ⟨l,k,rfl,rfl,hl,hK⟩
 simp -dsimp only [go_sem,LO,KZ]
 refine aL (α:=Nat) (fun i=>[(0,.va (.c1 (.fz (l.map a8)))),(1,fdV),(7,iS .i64 l.length),(8,iS .i64 i)]) (fun _=>[pQ k])
  (fun i=>i<=l.length/\jB k (l.drop i) i=jB k l 0) (fun i=>l.length - i) 0 1 ⟨Nat.zero_le _,rfl⟩ ?_ ?_ ?_
 · simp -dsimp only [go_sem]<;>simp
 · simp -dsimp only [go_sem]<;>simp
 rintro i ⟨hi,ho⟩
 rcases a7 i l.length with hlt | hge
 · have hg:decide ((i:Int) < (l.length:Int))=true:=by simp; omega
   have hx:l[i]? = some l[i]:=aU hlt
   have q2:=gT hx
   rw [List.drop_eq_getElem_cons hlt,jB] at ho
   generalize l[i]=y at *
   simp -dsimp only [go_sem,hg,↓q2]
   refine ⟨by omega,X3 ?_⟩
   cases hc:y.1 == k with
   | true=>
    rw [hc,bB] at ho
    simp -dsimp only [go_sem]
    exact .sel [0] (by simp) (by simp) rfl (.done (by simpa [go_sem,ho] using hK))
   | false=>
    rw [hc,aY] at ho
    simp -dsimp only [go_sem]
    refine ⟨by omega,aD (i + 1) 1 ⟨by omega,ho⟩ (by omega) ?_ ?_⟩
    · simp -dsimp only [go_sem]<;>simp
    · simp -dsimp only [go_sem]<;>simp
 · have hg:decide ((i:Int) < (l.length:Int))=false:=by simp; omega
   have:l.drop i=[]:=List.drop_eq_nil_iff.2 (by omega)
   rw [this] at ho
   simp -dsimp only [go_sem,hg]
   exact .sel [0] (by simp) (by simp) rfl (.done (by rw [show jB k l 0=-1 from ho.symm] at hK; simpa [go_sem] using hK))
theorem EO (k:Int):∀ (l:List (Int × Vl)) (i:Nat),(dQ l k=none/\jB k l i=-1)\/(∃ j x,l[j]? = some x/\dQ l k=some x/\jB k l i=((i + j:Nat):Int))
 | [],_=>.inl ⟨rfl,rfl⟩
 | y :: l,i=>by
  rw [jB]
  unfold dQ
  rw [List.find?_cons]
  by_cases h:y.1=k
  · rw [show (y.1 == k)=true by simpa using h,decide_eq_true h]
    exact .inr ⟨0,y,rfl,rfl,rfl⟩
  · rw [show (y.1 == k)=false by simpa using h,decide_eq_false h,cond_false]
    rcases EO k l (i + 1) with ⟨h1,h2⟩ | ⟨j,x,h1,h2,h3⟩
    · exact .inl ⟨h1,h2⟩
    · exact .inr ⟨j + 1,x,by simpa using h1,h2,by rw [h3]; congr 1; omega⟩
def DC:List S->Prop:=fun av=>match av with
 | [.va (.gs r),.va (.c1 (.vl (.int .i64 _)))]=>lE r/\(C.vv r).k=6
 | _=>False
theorem pO {av:List S} (h:DC av):∃ (v:Vl) (k:Int),av=[.va (.gs (aP v)),iS .i64 k]/\VlOk v/\v.k=6:=by
 unfold DC at h
 split at h
 · obtain ⟨⟨v,rfl,h1⟩,h2⟩:=h; rw [fI] at h2; exact ⟨v,_,rfl,h1,h2⟩
 · exact h.elim
noncomputable def VZ:List S->A:=fun av=>match av with
 | [.va (.gs r),.va (.c1 (.vl (.int .i64 k)))]=>iA .i64 (jB k (C.vv r).f 0)
 | _=>.gs []
noncomputable def vxFn:Fun:=⟨DC,VZ,fun av h=>by obtain ⟨v,k,rfl,_⟩:=pO h; trivial⟩
theorem PM:∀ av H K,vxFn.sp av H K->av.length=2:=fun av H K h=>by obtain ⟨v,k,rfl,_⟩:=pO h.1.1; rfl
attribute [go_sem] vxFn DC VZ
theorem ZR:Meets Tryz.prog 80 vxFn.sp:=by
 refine aF Tryz.func80 aOV 2 (by rw [Tryz.ntmps80]; decide) (aE YF (aA _)) PM ?_
 rintro av H K ⟨⟨h,rfl⟩,hK⟩
 obtain ⟨v,k,rfl,hv,h6⟩:=pO h
 have hK:K (iS .i64 (jB k (C.vv (aP v)).f 0)) []:=hK
 rw [fI] at hK
 clear h
 have g6:(v.k != 6)=false:=by rw [h6]; rfl
 have hl:=hv.lf
 simp (maxSteps:=1000000) -dsimp only [go_sem,aJ v,aDJ,aCD,g6]
 refine aEL (by omega) ?_
 simp (maxSteps:=1000000) -dsimp only [go_sem]
 exact .sel [] (by simp) (by simp) rfl (.done (by simpa [go_sem] using hK))
theorem RP (N:Nat):Meets Tryz.prog 43 (fun av H K=>∃ (v:Vl) (k:Int),av=[.va (.gs (aP v)),iS .i64 k]/\H=[]/\VlOk v/\v.k=6/\v.h<=N/\K (.tu [.gs (aP (((dQ v.f k).map (·.2)).getD default)),bA (dQ v.f k).isSome]) []):=by
 refine aF Tryz.func43 aRN 2 (by rw [Tryz.ntmps43]; decide) (aG ZR (aE (J0 N) (aA _))) (fun av H K h=>by obtain ⟨_,_,rfl,_⟩:=h; rfl) ?_
 rintro av H K ⟨v,k,rfl,rfl,hv,h6,hh,hK⟩
 have k1:=b9 hv
 have k2:=dS v
 have k3:(v.k=6)=True:=eq_true h6
 have hl:=hv.lf
 rcases EO k v.f 0 with ⟨e1,e2⟩ | ⟨j,x,e0,e1,e2⟩
 · rw [e1] at hK
   have g0:decide ((-1:Int) < 0)=true:=rfl
   simp (maxSteps:=1000000) -dsimp only [go_sem,aJ v,QH,QM,k1,k2,k3,e2]
   refine aB rfl (.done ?_)
   simp (maxSteps:=1000000) -dsimp only [go_sem,xP,g0]
   exact .sel [] (by simp) (by simp) rfl (.done (by simpa [go_sem,s5] using hK))
 · rw [e1] at hK
   rw [Nat.zero_add] at e2
   have hj:=(bE.1 e0).1
   have g0:decide (((j:Nat):Int) < 0)=false:=by simp
   have q2:=gT e0
   have hxm:=bV e0
   simp (maxSteps:=1000000) -dsimp only [go_sem,aJ v,QH,QM,k1,k2,k3,e2]
   refine aB rfl (.done ?_)
   simp (maxSteps:=1000000) -dsimp only [go_sem,xP,g0,↓q2,List.take_succ_cons,List.take_zero,List.length_cons,List.length_nil]
   refine ⟨by omega,D8 (hv.f x hxm) (by have:=Vl.h_f hxm; omega) ?_⟩
   simp (maxSteps:=1000000) -dsimp only [go_sem]
   exact .sel [] (by simp) (by simp) rfl (.done (by simpa [go_sem,aJ x.2] using hK))
theorem YE:Meets Tryz.prog 43 PF:=dI (0:Nat) RP fun av H K h=>by
 obtain ⟨v,k,rfl,e,hv,h6,hK⟩:=h
 exact ⟨v.h,v,k,rfl,e,hv,h6,Nat.le_refl _,hK⟩
def CZ:PC:=.seq (.gh (.reg [.l 29 (.ldn 3 (.t 3)),.l 30 (.ldn 2 (.t 8)),.l 31 (.ldn 5 (.t 5)),.a 32 (.cq 26 [(.t 29),(.t 30),(.t 31)]),.v 11 32])) (.seq (.seq (.reg [.v 33 11,.q 34 (.lnS (.t 33)),.q 35 (.bin .gtr true (.t 34) (.i 2000))]) (.cond (.t 35) (.seq (.reg [.q 6 (.mv (.k (.string (mk [])))),.q 7 (.mv (.i 3))]) .ret) .skip)) (.seq (.reg [.v 36 11,.v 6 36,.q 7 (.mv (.i 0))]) .ret))
@[go_sem ↓] theorem aR8:aS CZ:=aT _
def D1:PC:=.seq (.seq (.gh (.ord  [.q (.l 21 (.ldn 3 (.t 3))),.q (.v 22 1),.q (.l 24 (.ldn 5 (.t 5))),.m (.a 23 (.cl 25 [(.t 22)] [])),.rc (.l 21 (.ldn 3 (.t 3))),.rc (.l 24 (.ldn 5 (.t 5))),.m (.a 25 (.cq 24 [(.t 21),(.t 23),(.t 24)])),.m (.v 10 25)])) (.seq (.reg [.v 26 10,.q 27 (.bin .neq true (.t 26) (.i 0))]) (.cond (.t 27) (.seq (.reg [.v 28 10,.q 6 (.mv (.k (.string (mk [])))),.v 7 28]) .ret) .skip))) (CZ)
@[go_sem ↓] theorem aTB:aS D1:=aT _
def rX:PC:=.seq (.seq (.gh (.reg [.v 18 9,.q 19 (.bin .neq true (.t 18) (.i 0))])) (.cond (.t 19) (.seq (.reg [.v 20 9,.q 6 (.mv (.k (.string (mk [])))),.v 7 20]) .ret) .skip)) (D1)
@[go_sem ↓] theorem aTG:aS rX:=aT _
def pc9:PC:=.seq (.reg [.e 3 (.bx 25 (.t 0)),.e 5 (.bx 29 (.t 2)),.q 6 (.mv (.k (.string (mk [])))),.q 7 (.mv (.i 0))]) (.seq (.reg [.l 13 (.ldn 3 (.t 3)),.v 14 1,.a 15 (.cl 23 [(.t 13),(.t 14)] []),.v 12 15,.q 16 (.ex (.t 12) 0),.q 17 (.ex (.t 12) 1),.e 8 (.al (.agg #[(.string (mk [])),(.slice none 0 0)]) 48),.s (.st 2 (.t 8) (.t 16)),.v 9 17]) (rX))
def rs9:List RV:=[.mv (.t 6),.mv (.t 7)]
theorem ok9:aO Tryz.prog true ⟨fun r k=>if r=4/\k=4 then .q else if r=7/\k=3 then .q else .own [],fun r=>[2,4,7].contains r⟩ Tryz.f9=some (pc9,rs9):=by kernel_rfl
def FG:PC:=.seq (.gh (.reg [.l 24 (.ldn 3 (.t 3)),.l 25 (.ldn 2 (.t 8)),.v 26 2,.a 27 (.cl 30 [(.t 24),(.t 25),(.t 26)] []),.q 28 (.ex (.t 27) 0),.q 29 (.ex (.t 27) 1),.s (.st 5 (.t 6) (.t 28)),.v 7 29])) .ret
@[go_sem ↓] theorem aO7:aS FG:=aT _
def oI:PC:=.seq (.seq (.gh (.reg [.v 16 9,.q 17 (.bin .neq true (.t 16) (.i 0))])) (.cond (.t 17) (.seq (.reg [.q 18 (.bd [(.int .i64 0),(.int .i64 0),(.string (mk [])),(.slice none 0 0),(.slice none 0 0)] []),.v 19 9,.s (.st 5 (.t 6) (.t 18)),.v 7 19]) .ret) .skip)) (.seq (.seq (.reg [.v 20 2,.q 21 (.lnS (.t 20)),.q 22 (.bin .gtr true (.t 21) (.i 2000))]) (.cond (.t 22) (.seq (.reg [.q 23 (.bd [(.int .i64 0),(.int .i64 0),(.string (mk [])),(.slice none 0 0),(.slice none 0 0)] []),.s (.st 5 (.t 6) (.t 23)),.q 7 (.mv (.i 3))]) .ret) .skip)) (FG))
@[go_sem ↓] theorem aRR:aS oI:=aT _
def aFT:PC:=.seq (.reg [.e 3 (.bx 25 (.t 0)),.e 6 (.al (.agg #[(.int .i64 0),(.int .i64 0),(.string (mk [])),(.slice none 0 0),(.slice none 0 0)]) 29),.q 7 (.mv (.i 0))]) (.seq (.reg [.l 11 (.ldn 3 (.t 3)),.v 12 1,.a 13 (.cl 23 [(.t 11),(.t 12)] []),.v 10 13,.q 14 (.ex (.t 10) 0),.q 15 (.ex (.t 10) 1),.e 8 (.al (.agg #[(.string (mk [])),(.slice none 0 0)]) 48),.s (.st 2 (.t 8) (.t 14)),.v 9 15]) (oI))
def aDA:List RV:=[.ld (.ldn 5 (.t 6)),.mv (.t 7)]
theorem aRM:aO Tryz.prog true ⟨fun _ _=>.own [],fun r=>[2,6].contains r⟩ Tryz.f12=some (aFT,aDA):=by kernel_rfl
def wL:PC:=.seq (.gh (.reg [.v 11 6,.q 12 (.bin .neq true (.t 11) (.i 0))])) (.cond (.t 12) (.seq (.reg [.q 13 (.bd [(.string (mk [])),(.slice none 0 0)] []),.v 14 6,.s (.st 2 (.t 4) (.t 13)),.v 5 14]) .ret) .skip)
@[go_sem ↓] theorem aNV:aS wL:=aT _
def wG:PC:=.seq (.seq (.gh (.reg [.v 21 8,.q 22 (.not (.t 21))])) (.cond (.t 22) (.seq (.reg [.q 23 (.bd [(.string (mk [])),(.slice none 0 0)] []),.s (.st 2 (.t 4) (.t 23)),.q 5 (.mv (.i 6))]) .ret) .skip)) (.seq (.reg [.l 24 (.ldn 2 (.t 7)),.s (.st 2 (.t 4) (.t 24)),.q 5 (.mv (.i 0))]) .ret)
@[go_sem ↓] theorem aPG:aS wG:=aT _
def EW:PC:=.seq (.gh (.reg [.l 16 (.ldn 3 (.t 2)),.v 17 1,.a 18 (.cl 40 [(.t 16),(.t 17)] []),.v 15 18,.q 19 (.ex (.t 15) 0),.q 20 (.ex (.t 15) 1),.e 7 (.al (.agg #[(.string (mk [])),(.slice none 0 0)]) 48),.s (.st 2 (.t 7) (.t 19)),.v 8 20])) (wG)
@[go_sem ↓] theorem aQW:aS EW:=aT _
def aD9:PC:=.seq (.reg [.e 2 (.bx 25 (.t 0)),.e 4 (.al (.agg #[(.string (mk [])),(.slice none 0 0)]) 48),.q 5 (.mv (.i 0))]) (.seq (.seq (.reg [.l 9 (.ldn 3 (.t 2)),.a 10 (.cq 39 [(.t 9)]),.v 6 10]) (wL)) (EW))
def aEA:List RV:=[.ld (.ldn 2 (.t 4)),.mv (.t 5)]
theorem aRV:aO Tryz.prog true ⟨fun r k=>if r=1/\k=1 then .q else .own [],fun r=>[2,4,5].contains r⟩ Tryz.f23=some (aD9,aEA):=by kernel_rfl
def aGI:PC:=.seq (.reg [.e 2 (.al (.agg #[(.int .i64 0),(.int .i64 0),(.string (mk [])),(.slice none 0 0)]) 42)]) (.seq (.reg [.v 3 0,.q 4 (.bd [(.int .i64 0),(.int .i64 0),(.string (mk [])),(.slice none 0 0)] [(0,1,(.i 6)),(2,1,(.t 3))]),.s (.st 4 (.t 2) (.t 4))]) .ret)
def aBI:List RV:=[.ld (.ldn 4 (.t 2))]
theorem aRP:aO Tryz.prog true ⟨fun _ _=>.own [],fun _=>false⟩ Tryz.f25=some (aGI,aBI):=by kernel_rfl
def yM:PC:=.gh (.reg [.v 41 7,.q 42 (.fa 0 (.t 9)),.l 43 (.ld1 (.t 42)),.q 44 (.cvt .u64 (.t 43)),.a 45 (.cq 46 [(.t 44)]),.l 46 (.ldn 3 (.t 3)),.q 47 (.fa 2 (.t 9)),.l 48 (.ldn 4 (.t 47)),.l 49 (.ldn 5 (.t 10)),.a 50 (.cq 48 [(.t 46),(.t 48),(.t 49)]),.a 51 (.cq 47 [(.t 50)]),.q 52 (.bin .add true (.t 45) (.t 51)),.q 53 (.bin .add true (.t 41) (.t 52)),.v 7 53])
@[go_sem ↓] theorem aPS:aS yM:=aT _
def qX:PC:=.seq (.seq (.gh (.ord  [.q (.v 26 11),.q (.q 27 (.not (.t 26))),.q (.v 28 27),.q ⟨some 29,(some (28,false)),.q (.fa 6 (.t 9))⟩,.q ⟨some 30,(some (28,false)),.l (.ld1 (.t 29))⟩,.q ⟨some 31,(some (28,false)),.q (.not (.t 30))⟩,.q ⟨some 32,(some (28,false)),.q (.mv (.t 31))⟩,.q ⟨some 33,(some (32,true)),.l (.ldn 5 (.t 10))⟩,.q ⟨some 34,(some (32,true)),.l (.ldn 3 (.t 3))⟩,.q ⟨some 35,(some (32,true)),.q (.fa 2 (.t 9))⟩,.q ⟨some 36,(some (32,true)),.l (.ldn 4 (.t 35))⟩,.m ⟨some 37,(some (32,true)),.cl 45 [(.t 34),(.t 36)] []⟩,.rc ⟨some 33,(some (32,true)),.l (.ldn 5 (.t 10))⟩,.m ⟨some 38,(some (32,true)),.cq 44 [(.t 33),(.t 37)]⟩,.q ⟨some 39,(some (28,false)),.pick (.t 32) (.t 38) (.k (.bool false))⟩,.q (.a 40 (.pick (.t 28) (.k (.bool true)) (.t 39)))])) (.cond (.t 40) (.exit 1) .skip)) (yM)
@[go_sem ↓] theorem aOY:aS qX:=aT _
def aDZ:PC:=.seq (.reg [.e 3 (.bx 25 (.t 0)),.e 4 (.bx 48 (.t 1)),.e 5 (.bx 29 (.t 2)),.q 6 (.mv (.k (.string (mk []))))]) (.seq (.reg [.q 7 (.mv (.k (.string (mk []))))]) (.seq (.seq (.reg [.q 12 (.fa 1 (.t 4)),.l 13 (.ld1 (.t 12)),.q 14 (.lnL (.t 13)),.q 15 (.mv (.i 0))]) (.block 0 (.loop (.seq (.reg [.q 16 (.bin .lss true (.t 15) (.t 14))]) (.seq (.cond (.t 16) .skip (.exit 0)) (.seq (.block 1 (.seq (.reg [.l 17 (.ia 7 (.t 13) (.t 15)),.l 18 (.ldn 7 (.t 17)),.e 9 (.al (.agg #[(.int .i64 0),(.string (mk [])),(.int .i64 0),(.int .i64 0),(.string (mk [])),(.slice none 0 0),(.bool false)]) 52),.s (.st 7 (.t 9) (.t 18))]) (.seq (.reg [.l 20 (.ldn 5 (.t 5)),.q 21 (.fa 0 (.t 9)),.l 22 (.ld1 (.t 21)),.a 23 (.cl 43 [(.t 20),(.t 22)] []),.v 19 23,.q 24 (.ex (.t 19) 0),.q 25 (.ex (.t 19) 1),.e 10 (.al (.agg #[(.int .i64 0),(.int .i64 0),(.string (mk [])),(.slice none 0 0),(.slice none 0 0)]) 29),.s (.st 5 (.t 10) (.t 24)),.v 11 25]) (qX)))) (.reg [.q 54 (.bin .add true (.t 15) (.i 1)),.v 15 54]))))))) (.seq (.reg [.v 55 7,.v 6 55]) .ret)))
def aFR:List RV:=[.mv (.t 6)]
theorem aRY:aO Tryz.prog true ⟨fun r k=>if r=6/\k=12 then .q else if r=7/\k=4 then .q else if r=7/\k=9 then .q else if r=7/\k=10 then .q else .own [],fun r=>[6,7].contains r⟩ Tryz.f26=some (aDZ,aFR):=by kernel_rfl
def iX:List OJ:=[.rc ⟨some 64,(some (63,true)),.l (.ldn 5 (.t 15))⟩,.m ⟨some 69,(some (63,true)),.cq 44 [(.t 64),(.t 68)]⟩,.q (.a 70 (.pick (.t 63) (.t 69) (.k (.bool false)))),.q (.v 71 70),.q ⟨some 72,(some (71,true)),.q (.fa 2 (.t 13))⟩,.q ⟨some 73,(some (71,true)),.q (.fa 0 (.t 72))⟩,.q ⟨some 74,(some (71,true)),.l (.ld1 (.t 73))⟩,.q ⟨some 75,(some (71,true)),.q (.bin .neq true (.t 74) (.i 6))⟩,.q ⟨some 76,(some (71,true)),.q (.mv (.t 75))⟩,.q ⟨some 77,(some (76,false)),.q (.fa 1 (.t 10))⟩,.q ⟨some 78,(some (76,false)),.l (.ld1 (.t 77))⟩,.q ⟨some 79,(some (76,false)),.q (.bin .eql true (.t 78) (.k (.string (mk []))))⟩,.q ⟨some 80,(some (71,true)),.pick (.t 76) (.k (.bool true)) (.t 79)⟩,.q (.a 81 (.pick (.t 71) (.t 80) (.k (.bool false))))]
def oD:PC:=.gh (.reg [.v 86 8,.q 87 (.fa 0 (.t 10)),.l 88 (.ld1 (.t 87)),.l 89 (.ldn 5 (.t 15)),.s (.mu (.int .i64) (.t 86) (.t 88) (.t 89))])
@[go_sem ↓] theorem aLT:aS oD:=aT _
def i5:PC:=.seq (.seq (.gh (.reg [.v 82 12,.q 83 (.bin .neq true (.t 82) (.i 0))])) (.cond (.t 83) (.seq (.reg [.q 84 (.bd [(.int .i64 0),(.int .i64 0),(.string (mk [])),(.slice none 0 0),(.slice none 0 0)] []),.v 85 12,.s (.st 5 (.t 6) (.t 84)),.v 7 85]) .ret) .skip)) (oD)
@[go_sem ↓] theorem aLG:aS i5:=aT _
def oQ:PC:=.seq (.seq (.gh (.ord  (.q (.v 56 12) :: .q (.q 57 (.bin .eql true (.t 56) (.i 0))) :: .q (.v 58 57) :: .q ⟨some 59,(some (58,true)),.q (.fa 6 (.t 13))⟩ :: .q ⟨some 60,(some (58,true)),.l (.ld1 (.t 59))⟩ :: .q ⟨some 61,(some (58,true)),.q (.not (.t 60))⟩ :: .q (.a 62 (.pick (.t 58) (.t 61) (.k (.bool false)))) :: .q (.v 63 62) :: .q ⟨some 64,(some (63,true)),.l (.ldn 5 (.t 15))⟩ :: .q ⟨some 65,(some (63,true)),.l (.ldn 3 (.t 3))⟩ :: .q ⟨some 66,(some (63,true)),.q (.fa 2 (.t 13))⟩ :: .q ⟨some 67,(some (63,true)),.l (.ldn 4 (.t 66))⟩ :: .m ⟨some 68,(some (63,true)),.cl 45 [(.t 65),(.t 67)] []⟩ :: iX))) (.cond (.t 81) (.reg [.q 12 (.mv (.i 2))]) .skip)) (i5)
@[go_sem ↓] theorem aMD:aS oQ:=aT _
def AI:PC:=.seq (.gh (.reg [.l 48 (.ldn 3 (.t 3)),.q 49 (.fa 2 (.t 13)),.l 50 (.ldn 4 (.t 49)),.q 51 (.fa 1 (.t 10)),.l 52 (.ld1 (.t 51)),.a 53 (.cl 55 [(.t 48),(.t 50),(.t 52)] []),.v 47 53,.q 54 (.ex (.t 47) 0),.q 55 (.ex (.t 47) 1),.e 15 (.al (.agg #[(.int .i64 0),(.int .i64 0),(.string (mk [])),(.slice none 0 0),(.slice none 0 0)]) 29),.s (.st 5 (.t 15) (.t 54)),.v 12 55])) (oQ)
@[go_sem ↓] theorem aM6:aS AI:=aT _
def wF:PC:=.seq (.seq (.gh (.reg [.v 45 14,.q 46 (.not (.t 45))])) (.cond (.t 46) (.exit 1) .skip)) (AI)
@[go_sem ↓] theorem aRG:aS wF:=aT _
def HS:PC:=.seq (.gh (.reg [.l 39 (.ldn 2 (.t 4)),.q 40 (.fa 0 (.t 10)),.l 41 (.ld1 (.t 40)),.a 42 (.cl 54 [(.t 39),(.t 41)] []),.v 38 42,.q 43 (.ex (.t 38) 0),.q 44 (.ex (.t 38) 1),.e 13 (.al (.agg #[(.int .i64 0),(.string (mk [])),(.int .i64 0),(.int .i64 0),(.string (mk [])),(.slice none 0 0),(.bool false)]) 52),.s (.st 7 (.t 13) (.t 43)),.v 14 44])) (wF)
@[go_sem ↓] theorem aOR:aS HS:=aT _
def E5:PC:=.seq (.gh (.reg [.q 35 (.fa 0 (.t 10)),.l 36 (.ld1 (.t 35)),.v 37 11,.v 9 36,.v 2 37])) (HS)
@[go_sem ↓] theorem aQ5:aS E5:=aT _
def xU:PC:=.seq (.seq (.gh (.reg [.v 31 12,.q 32 (.bin .neq true (.t 31) (.i 0))])) (.cond (.t 32) (.seq (.reg [.q 33 (.bd [(.int .i64 0),(.int .i64 0),(.string (mk [])),(.slice none 0 0),(.slice none 0 0)] []),.v 34 12,.s (.st 5 (.t 6) (.t 33)),.v 7 34]) .ret) .skip)) (E5)
@[go_sem ↓] theorem aN9:aS xU:=aT _
def HO:PC:=.seq (.gh (.reg [.v 25 2,.v 26 9,.a 27 (.cl 53 [(.t 25),(.t 26)] []),.v 24 27,.q 28 (.ex (.t 24) 0),.q 29 (.ex (.t 24) 1),.q 30 (.ex (.t 24) 2),.e 10 (.al (.agg #[(.int .i64 0),(.string (mk []))]) 89),.s (.st 2 (.t 10) (.t 28)),.v 11 29,.v 12 30])) (xU)
@[go_sem ↓] theorem aRE:aS HO:=aT _
def AD:PC:=.gh (.reg [.l 113 (.ldn 3 (.t 3)),.q 114 (.fa 2 (.t 18)),.l 115 (.ldn 4 (.t 114)),.a 116 (.cl 45 [(.t 113),(.t 115)] []),.s (.st 5 (.t 19) (.t 116))])
@[go_sem ↓] theorem aMN:aS AD:=aT _
def tE:PC:=.gh (.reg [.q 117 (.fa 4 (.t 16)),.l 118 (.ld1 (.t 117)),.q 119 (.fa 0 (.t 18)),.l 120 (.ld1 (.t 119)),.l 121 (.ldn 5 (.t 19)),.q 122 (.bd [(.int .i64 0),(.int .i64 0),(.int .i64 0),(.string (mk [])),(.slice none 0 0),(.slice none 0 0)] [(0,1,(.t 120)),(1,5,(.t 121))]),.e 123 (.bsl 76 6 [(.t 122)]),.e 124 (.ap 76 6 88 (.t 118) (.t 123)),.q 125 (.fa 4 (.t 16)),.s (.st 1 (.t 125) (.t 124))])
@[go_sem ↓] theorem aMR:aS tE:=aT _
def sJ:PC:=.seq (.seq (.gh (.reg [.v 111 20,.q 112 (.not (.t 111))])) (.cond (.t 112) (AD) .skip)) (tE)
@[go_sem ↓] theorem aK2:aS sJ:=aT _
def oP:PC:=.seq (.seq (.gh (.reg [.v 105 20,.q 106 (.not (.t 105)),.v 107 106,⟨some 108,(some (107,true)),.q (.fa 6 (.t 18))⟩,⟨some 109,(some (107,true)),.l (.ld1 (.t 108))⟩,.a 110 (.pick (.t 107) (.t 109) (.k (.bool false)))])) (.cond (.t 110) (.exit 3) .skip)) (sJ)
@[go_sem ↓] theorem aMG:aS oP:=aT _
def tJ:PC:=.seq (.gh (.reg [.v 99 8,.q 100 (.fa 0 (.t 18)),.l 101 (.ld1 (.t 100)),.l 102 (.lk (.int .i64) (.agg #[(.int .i64 0),(.int .i64 0),(.string (mk [])),(.slice none 0 0),(.slice none 0 0)]) true (.t 99) (.t 101)),.v 98 102,.q 103 (.ex (.t 98) 0),.q 104 (.ex (.t 98) 1),.e 19 (.al (.agg #[(.int .i64 0),(.int .i64 0),(.string (mk [])),(.slice none 0 0),(.slice none 0 0)]) 29),.s (.st 5 (.t 19) (.t 103)),.v 20 104])) (oP)
@[go_sem ↓] theorem aLB:aS tJ:=aT _
def BA:PC:=.seq (.seq (.gh (.reg [.q 91 (.fa 1 (.t 4)),.l 92 (.ld1 (.t 91)),.q 93 (.lnL (.t 92)),.q 94 (.mv (.i 0))])) (.block 2 (.loop (.seq (.reg [.q 95 (.bin .lss true (.t 94) (.t 93))]) (.seq (.cond (.t 95) .skip (.exit 2)) (.seq (.block 3 (.seq (.reg [.l 96 (.ia 7 (.t 92) (.t 94)),.l 97 (.ldn 7 (.t 96)),.e 18 (.al (.agg #[(.int .i64 0),(.string (mk [])),(.int .i64 0),(.int .i64 0),(.string (mk [])),(.slice none 0 0),(.bool false)]) 52),.s (.st 7 (.t 18) (.t 97))]) (tJ))) (.reg [.q 126 (.bin .add true (.t 94) (.i 1)),.v 94 126]))))))) (.seq (.reg [.l 127 (.ldn 5 (.t 16)),.s (.st 5 (.t 6) (.t 127)),.q 7 (.mv (.i 0))]) .ret)
@[go_sem ↓] theorem aMS:aS BA:=aT _
def zU:PC:=.seq (.gh (.reg [.q 90 (.bd [(.int .i64 0),(.int .i64 0),(.string (mk [])),(.slice none 0 0),(.slice none 0 0)] [(0,1,(.i 6))]),.e 16 (.al (.agg #[(.int .i64 0),(.int .i64 0),(.string (mk [])),(.slice none 0 0),(.slice none 0 0)]) 29),.s (.st 5 (.t 16) (.t 90))])) (BA)
@[go_sem ↓] theorem aM7:aS zU:=aT _
def aD3:PC:=.seq (.reg [.e 3 (.bx 25 (.t 0)),.e 4 (.bx 48 (.t 1)),.e 6 (.al (.agg #[(.int .i64 0),(.int .i64 0),(.string (mk [])),(.slice none 0 0),(.slice none 0 0)]) 29),.q 7 (.mv (.i 0))]) (.seq (.reg [.e 21 (.mm (.int .i64)),.v 8 21]) (.seq (.reg [.q 9 (.mv (.i 0))]) (.seq (.block 0 (.loop (.seq (.seq (.reg [.v 22 2,.q 23 (.bin .neq true (.t 22) (.k (.string (mk []))))]) (.cond (.t 23) .skip (.exit 0))) (.block 1 (HO))))) (zU))))
def aAN:List RV:=[.ld (.ldn 5 (.t 6)),.mv (.t 7)]
theorem aNR:aO Tryz.prog true ⟨fun r k=>if r=11/\k=13 then .q else .own [],fun r=>[4,5,7,8,9,10,11,13,16,17,20,21,22,15,23,24].contains r⟩ Tryz.f30=some (aD3,aAN):=by kernel_rfl
def AH:PC:=.gh (.reg [.v 47 8,.l 48 (.ldn 5 (.t 10)),.a 49 (.ca (.t 47) [(.t 48)] [3,0,1])])
@[go_sem ↓] theorem aLP:aS AH:=aT _
def A1:PC:=.seq (.gh (.reg [.l 51 (.ld1 (.t 7)),.v 6 51])) .ret
@[go_sem ↓] theorem aK7:aS A1:=aT _
def zT:PC:=.seq (.gh (.reg [.q 34 (.fa 3 (.t 5)),.l 35 (.ld1 (.t 34)),.q 36 (.lnL (.t 35)),.q 37 (.cvt .u64 (.t 36)),.a 38 (.cq 46 [(.t 37)]),.e 7 (.al (.string (mk [])) 9),.s (.st 1 (.t 7) (.t 38))])) (.seq (.reg [.q 39 (.mf 85 [(.t 7),(.t 3),(.t 4)]),.v 8 39]) (.seq (.seq (.reg [.q 40 (.fa 3 (.t 5)),.l 41 (.ld1 (.t 40)),.q 42 (.lnL (.t 41)),.q 43 (.mv (.i 0))]) (.block 1 (.loop (.seq (.reg [.q 44 (.bin .lss true (.t 43) (.t 42))]) (.seq (.cond (.t 44) .skip (.exit 1)) (.seq (.block 2 (.seq (.reg [.l 45 (.ia 5 (.t 41) (.t 43)),.l 46 (.ldn 5 (.t 45)),.e 10 (.al (.agg #[(.int .i64 0),(.int .i64 0),(.string (mk [])),(.slice none 0 0),(.slice none 0 0)]) 29),.s (.st 5 (.t 10) (.t 46))]) (AH))) (.reg [.q 50 (.bin .add true (.t 43) (.i 1)),.v 43 50]))))))) (A1)))
@[go_sem ↓] theorem aMK:aS zT:=aT _
def mH:PC:=.seq (.seq (.gh (.reg [.q 16 (.bin .eql true (.t 14) (.i 1)),.v 15 16])) (.cond (.t 15) .skip (.seq (.reg [.q 17 (.bin .eql true (.t 14) (.i 3)),.v 15 17]) (.cond (.t 15) .skip (.reg [.q 18 (.bin .eql true (.t 14) (.i 7)),.v 15 18]))))) (.cond (.t 15) (.seq (.reg [.q 19 (.fa 1 (.t 5)),.l 20 (.ld1 (.t 19)),.q 21 (.cvt .u64 (.t 20)),.a 22 (.cq 46 [(.t 21)]),.v 6 22]) .ret) (.seq (.reg [.q 24 (.bin .eql true (.t 14) (.i 2)),.v 23 24]) (.cond (.t 23) (.seq (.reg [.q 25 (.fa 1 (.t 5)),.l 26 (.ld1 (.t 25)),.a 27 (.cq 84 [(.t 26)]),.v 6 27]) .ret) (.seq (.reg [.q 29 (.bin .eql true (.t 14) (.i 4)),.v 28 29]) (.cond (.t 28) (.seq (.reg [.q 30 (.fa 2 (.t 5)),.l 31 (.ld1 (.t 30)),.v 6 31]) .ret) (.seq (.reg [.q 33 (.bin .eql true (.t 14) (.i 5)),.v 32 33]) (.cond (.t 32) (zT) .skip)))))))
@[go_sem ↓] theorem aQ0:aS mH:=aT _
def zK:PC:=.seq (.gh (.reg [.l 59 (.ldn 3 (.t 3)),.l 60 (.ldn 2 (.t 11)),.l 61 (.ldn 5 (.t 5)),.a 62 (.cq 26 [(.t 59),(.t 60),(.t 61)]),.v 6 62])) .ret
@[go_sem ↓] theorem aL0:aS zK:=aT _
def y2:PC:=.seq (.gh (.reg [.l 53 (.ldn 3 (.t 3)),.q 54 (.fa 2 (.t 4)),.l 55 (.ld1 (.t 54)),.a 56 (.cl 40 [(.t 53),(.t 55)] []),.v 52 56,.q 57 (.ex (.t 52) 0),.q 58 (.ex (.t 52) 1),.e 11 (.al (.agg #[(.string (mk [])),(.slice none 0 0)]) 48),.s (.st 2 (.t 11) (.t 57)),.v 12 58])) (zK)
@[go_sem ↓] theorem aL8:aS y2:=aT _
def aB0:PC:=.seq (.reg [.e 3 (.bx 25 (.t 0)),.e 4 (.bx 42 (.t 1)),.e 5 (.bx 29 (.t 2)),.q 6 (.mv (.k (.string (mk []))))]) (.seq (.seq (.reg [.q 13 (.fa 0 (.t 4)),.l 14 (.ld1 (.t 13))]) (.block 0 (mH))) (y2))
def aGN:List RV:=[.mv (.t 6)]
theorem aRT:aO Tryz.prog true ⟨fun r k=>if r=5/\k=3 then .q else if r=7/\k=2 then .q else if r=11/\k=4 then .q else if r=16/\k=2 then .own [3,0,1] else if r=20/\k=3 then .q else .own [],fun r=>[2,11,18,19,20,16].contains r⟩ Tryz.f48=some (aB0,aGN):=by kernel_rfl
def E7:PC:=.seq (.gh (.reg [.v 38 7,.q 39 (.cvt .i64 (.t 38)),.v 40 10,.q 41 (.bd [(.int .i64 0),(.string (mk []))] [(0,1,(.t 39)),(1,1,(.t 40))]),.v 42 8,.v 43 9,.s (.st 2 (.t 4) (.t 41)),.v 5 42,.v 6 43])) .ret
@[go_sem ↓] theorem aOJ:aS E7:=aT _
def aE9:PC:=.seq (.reg [.e 4 (.al (.agg #[(.int .i64 0),(.string (mk []))]) 89),.q 5 (.mv (.k (.string (mk [])))),.q 6 (.mv (.i 0))]) (.seq (.reg [.v 12 0,.a 13 (.cl 94 [(.t 12)] []),.v 11 13,.q 14 (.ex (.t 11) 0),.q 15 (.ex (.t 11) 1),.q 16 (.ex (.t 11) 2),.v 7 14,.v 8 15,.v 9 16]) (.seq (.block 0 (.seq (.reg [.v 18 9,.q 19 (.bin .neq true (.t 18) (.i 0)),.v 17 19]) (.cond (.t 17) (.seq (.reg [.q 20 (.bd [(.int .i64 0),(.string (mk []))] []),.v 21 9,.s (.st 2 (.t 4) (.t 20)),.q 5 (.mv (.k (.string (mk [])))),.v 6 21]) .ret) (.seq (.reg [.v 23 7,.q 24 (.bin .gtr true (.t 23) (.k (.int .u64 2147483647))),.v 22 24]) (.cond (.t 22) (.seq (.reg [.q 25 (.bd [(.int .i64 0),(.string (mk []))] []),.s (.st 2 (.t 4) (.t 25)),.q 5 (.mv (.k (.string (mk [])))),.q 6 (.mv (.i 4))]) .ret) (.seq (.reg [.v 27 7,.q 28 (.cvt .i64 (.t 27)),.v 29 1,.q 30 (.bin .leq true (.t 28) (.t 29)),.v 26 30]) (.cond (.t 26) (.seq (.reg [.q 31 (.bd [(.int .i64 0),(.string (mk []))] []),.s (.st 2 (.t 4) (.t 31)),.q 5 (.mv (.k (.string (mk [])))),.q 6 (.mv (.i 2))]) .ret) .skip))))))) (.seq (.reg [.v 33 8,.a 34 (.cl 95 [(.t 33)] []),.v 32 34,.q 35 (.ex (.t 32) 0),.q 36 (.ex (.t 32) 1),.q 37 (.ex (.t 32) 2),.v 10 35,.v 8 36,.v 9 37]) (E7))))
def aFF:List RV:=[.ld (.ldn 2 (.t 4)),.mv (.t 5),.mv (.t 6)]
theorem aOO:aO Tryz.prog true ⟨fun _ _=>.own [],fun r=>[9].contains r⟩ Tryz.f53=some (aE9,aFF):=by kernel_rfl
def kR:PC:=.seq (.gh (.reg [.q 13 (.bin .eql true (.t 11) (.i 1)),.v 12 13])) (.cond (.t 12) (.seq (.reg [.v 14 2,.a 15 (.cl 97 [(.t 14)] []),.q 16 (.ex (.t 15) 0),.q 17 (.ex (.t 15) 1),.s (.st 5 (.t 6) (.t 16)),.v 7 17]) .ret) (.seq (.seq (.reg [.q 19 (.bin .eql true (.t 11) (.i 2)),.v 18 19]) (.cond (.t 18) .skip (.seq (.reg [.q 20 (.bin .eql true (.t 11) (.i 3)),.v 18 20]) (.cond (.t 18) .skip (.reg [.q 21 (.bin .eql true (.t 11) (.i 7)),.v 18 21]))))) (.cond (.t 18) (.seq (.reg [.l 22 (.ldn 3 (.t 3)),.l 23 (.ldn 4 (.t 4)),.v 24 2,.a 25 (.cl 98 [(.t 22),(.t 23),(.t 24)] []),.q 26 (.ex (.t 25) 0),.q 27 (.ex (.t 25) 1),.s (.st 5 (.t 6) (.t 26)),.v 7 27]) .ret) (.seq (.reg [.q 29 (.bin .eql true (.t 11) (.i 4)),.v 28 29]) (.cond (.t 28) (.seq (.seq (.reg [.v 30 2,.q 31 (.lnS (.t 30)),.q 32 (.fa 1 (.t 4)),.l 33 (.ld1 (.t 32)),.q 34 (.bin .gtr true (.t 31) (.t 33))]) (.cond (.t 34) (.seq (.reg [.q 35 (.bd [(.int .i64 0),(.int .i64 0),(.string (mk [])),(.slice none 0 0),(.slice none 0 0)] []),.s (.st 5 (.t 6) (.t 35)),.q 7 (.mv (.i 3))]) .ret) .skip)) (.seq (.reg [.v 36 2,.q 37 (.bd [(.int .i64 0),(.int .i64 0),(.string (mk [])),(.slice none 0 0),(.slice none 0 0)] [(0,1,(.i 4)),(2,1,(.t 36))]),.s (.st 5 (.t 6) (.t 37)),.q 7 (.mv (.i 0))]) .ret)) (.seq (.reg [.q 39 (.bin .eql true (.t 11) (.i 5)),.v 38 39]) (.cond (.t 38) (.seq (.reg [.l 40 (.ldn 3 (.t 3)),.l 41 (.ldn 4 (.t 4)),.v 42 2,.a 43 (.cl 99 [(.t 40),(.t 41),(.t 42)] []),.q 44 (.ex (.t 43) 0),.q 45 (.ex (.t 43) 1),.s (.st 5 (.t 6) (.t 44)),.v 7 45]) .ret) .skip)))))))
@[go_sem ↓] theorem aND:aS kR:=aT _
def A9:PC:=.seq (.gh (.reg [.l 53 (.ldn 3 (.t 3)),.l 54 (.ldn 2 (.t 8)),.v 55 2,.a 56 (.cl 30 [(.t 53),(.t 54),(.t 55)] []),.q 57 (.ex (.t 56) 0),.q 58 (.ex (.t 56) 1),.s (.st 5 (.t 6) (.t 57)),.v 7 58])) .ret
@[go_sem ↓] theorem aLN:aS A9:=aT _
def AJ:PC:=.seq (.gh (.reg [.l 47 (.ldn 3 (.t 3)),.q 48 (.fa 2 (.t 4)),.l 49 (.ld1 (.t 48)),.a 50 (.cl 40 [(.t 47),(.t 49)] []),.v 46 50,.q 51 (.ex (.t 46) 0),.q 52 (.ex (.t 46) 1),.e 8 (.al (.agg #[(.string (mk [])),(.slice none 0 0)]) 48),.s (.st 2 (.t 8) (.t 51)),.v 9 52])) (A9)
@[go_sem ↓] theorem aM5:aS AJ:=aT _
def aFU:PC:=.seq (.reg [.e 3 (.bx 25 (.t 0)),.e 4 (.bx 42 (.t 1)),.e 6 (.al (.agg #[(.int .i64 0),(.int .i64 0),(.string (mk [])),(.slice none 0 0),(.slice none 0 0)]) 29),.q 7 (.mv (.i 0))]) (.seq (.seq (.reg [.q 10 (.fa 0 (.t 4)),.l 11 (.ld1 (.t 10))]) (.block 0 (kR))) (AJ))
def aA0:List RV:=[.ld (.ldn 5 (.t 6)),.mv (.t 7)]
theorem aRB:aO Tryz.prog true ⟨fun _ _=>.own [],fun r=>[2,14,15].contains r⟩ Tryz.f55=some (aFU,aA0):=by kernel_rfl
def aF1:PC:=.seq (.reg [.e 4 (.bx 29 (.t 0))]) (.reg [.l 5 (.ld1 (.t 1)),.l 6 (.ldn 3 (.t 2)),.q 7 (.fa 3 (.t 3)),.l 8 (.ld1 (.t 7)),.l 9 (.ia 4 (.t 8) (.i 0)),.l 10 (.ldn 4 (.t 9)),.l 11 (.ldn 5 (.t 4)),.a 12 (.cq 48 [(.t 6),(.t 10),(.t 11)]),.a 13 (.cq 47 [(.t 12)]),.q 14 (.bin .add true (.t 5) (.t 13)),.s (.st 1 (.t 1) (.t 14))])
def aEH:List RV:=[]
theorem aOF:aO Tryz.prog true ⟨fun r k=>if r=1/\k=7 then .q else if r=1/\k=8 then .q else .own [],fun _=>false⟩ Tryz.f85=some (aF1,aEH):=by kernel_rfl
def yQ:PC:=.seq (.gh (.reg [.v 14 7,.q 15 (.bin .neq true (.t 14) (.i 0))])) (.cond (.t 15) (.seq (.reg [.v 16 7,.q 2 (.mv (.k (.int .u64 0))),.q 3 (.mv (.k (.string (mk [])))),.v 4 16]) .ret) .skip)
@[go_sem ↓] theorem aPD:aS yQ:=aT _
def F2:PC:=.seq (.gh (.ord  [.q (.v 17 6),.q (.v 18 0),.q (.v 19 0),.q (.q 20 (.lnS (.t 19))),.q (.v 21 5),.m (.a 22 (.cl 136 [(.t 21)] [0])),.rc (.v 17 6),.rc (.v 18 0),.rc (.v 19 0),.rc (.q 20 (.lnS (.t 19))),.q (.q 23 (.bin .sub true (.t 20) (.t 22))),.q (.q 24 (.ss (.t 18) (some (.t 23)) none)),.m (.v 2 17),.rc (.v 18 0),.rc (.v 19 0),.rc (.q 20 (.lnS (.t 19))),.rc (.q 23 (.bin .sub true (.t 20) (.t 22))),.rc (.q 24 (.ss (.t 18) (some (.t 23)) none)),.m (.v 3 24),.m (.q 4 (.mv (.i 0)))])) .ret
@[go_sem ↓] theorem aNK:aS F2:=aT _
def ER:PC:=.seq (.seq (.gh (.reg [.v 12 5,.a 13 (.cl 135 [(.t 12)] [0]),.v 7 13])) (yQ)) (F2)
@[go_sem ↓] theorem aP8:aS ER:=aT _
def FI:PC:=.seq (.gh (.reg [.v 10 5,.a 11 (.cl 134 [(.t 10)] [0]),.v 6 11])) (ER)
@[go_sem ↓] theorem aQS:aS FI:=aT _
def aF6:PC:=.seq (.reg [.q 2 (.mv (.k (.int .u64 0))),.q 3 (.mv (.k (.string (mk [])))),.q 4 (.mv (.i 0))]) (.seq (.reg [.v 8 0,.a 9 (.cl 133 [(.t 8)] []),.v 5 9]) (FI))
def aBC:List RV:=[.mv (.t 2),.mv (.t 3),.mv (.t 4)]
theorem aN7:aO Tryz.prog true ⟨fun r k=>if r=2/\k=1 then .own [0] else if r=3/\k=1 then .own [0] else if r=6/\k=5 then .own [0] else .own [],fun r=>[2,3,4,6].contains r⟩ Tryz.f94=some (aF6,aBC):=by kernel_rfl
def rH:PC:=.seq (.seq (.gh (.reg [.v 12 4,.q 13 (.bin .neq true (.t 12) (.i 0))])) (.cond (.t 13) (.seq (.reg [.v 14 4,.q 2 (.mv (.k (.string (mk [])))),.q 3 (.mv (.k (.string (mk [])))),.v 4 14]) .ret) .skip)) (.seq (.seq (.reg [.v 15 5,.v 16 0,.q 17 (.lnS (.t 16)),.q 18 (.cvt .u64 (.t 17)),.q 19 (.bin .gtr true (.t 15) (.t 18))]) (.cond (.t 19) (.seq (.reg [.q 2 (.mv (.k (.string (mk [])))),.q 3 (.mv (.k (.string (mk [])))),.q 4 (.mv (.i 1))]) .ret) .skip)) (.seq (.reg [.v 20 0,.v 21 5,.q 22 (.ss (.t 20) none (some (.t 21))),.v 23 0,.v 24 5,.q 25 (.ss (.t 23) (some (.t 24)) none),.v 2 22,.v 3 25,.q 4 (.mv (.i 0))]) .ret))
@[go_sem ↓] theorem aPT:aS rH:=aT _
def aAE:PC:=.seq (.reg [.q 2 (.mv (.k (.string (mk [])))),.q 3 (.mv (.k (.string (mk [])))),.q 4 (.mv (.i 0))]) (.seq (.reg [.v 7 0,.a 8 (.cl 94 [(.t 7)] []),.v 6 8,.q 9 (.ex (.t 6) 0),.q 10 (.ex (.t 6) 1),.q 11 (.ex (.t 6) 2),.v 5 9,.v 0 10,.v 4 11]) (rH))
def aE3:List RV:=[.mv (.t 2),.mv (.t 3),.mv (.t 4)]
theorem aNZ:aO Tryz.prog true ⟨fun _ _=>.own [],fun r=>[2].contains r⟩ Tryz.f95=some (aAE,aE3):=by kernel_rfl
def RK:PC:=.seq (.reg [.e 2 (.al (.agg #[(.int .i64 0),(.int .i64 0),(.string (mk [])),(.slice none 0 0),(.slice none 0 0)]) 29),.q 3 (.mv (.i 0))]) (.seq (.block 0 (.seq (.reg [.v 5 0,.q 6 (.bin .eql true (.t 5) (.k (.string (mk [])))),.v 4 6]) (.cond (.t 4) (.seq (.reg [.q 7 (.bd [(.int .i64 0),(.int .i64 0),(.string (mk [])),(.slice none 0 0),(.slice none 0 0)] []),.s (.st 5 (.t 2) (.t 7)),.q 3 (.mv (.i 1))]) .ret) (.seq (.reg [.v 9 0,.a 10 (.ix (.t 9) (.i 0)),.q 11 (.bin .gtr true (.t 10) (.k (.int .u8 1))),.v 12 11,⟨some 13,(some (12,false)),.q (.mv (.t 0))⟩,⟨some 14,(some (12,false)),.q (.lnS (.t 13))⟩,⟨some 15,(some (12,false)),.q (.bin .gtr true (.t 14) (.i 1))⟩,.a 16 (.pick (.t 12) (.k (.bool true)) (.t 15)),.v 8 16]) (.cond (.t 8) (.seq (.reg [.q 17 (.bd [(.int .i64 0),(.int .i64 0),(.string (mk [])),(.slice none 0 0),(.slice none 0 0)] []),.s (.st 5 (.t 2) (.t 17)),.q 3 (.mv (.i 2))]) .ret) .skip))))) (.seq (.reg [.v 18 0,.a 19 (.ix (.t 18) (.i 0)),.q 20 (.cvt .i64 (.t 19)),.q 21 (.bd [(.int .i64 0),(.int .i64 0),(.string (mk [])),(.slice none 0 0),(.slice none 0 0)] [(0,1,(.i 1)),(1,1,(.t 20))]),.s (.st 5 (.t 2) (.t 21)),.q 3 (.mv (.i 0))]) .ret))
def P0:List RV:=[.ld (.ldn 5 (.t 2)),.mv (.t 3)]
theorem aQG:aO Tryz.prog true ⟨fun _ _=>.own [],fun _=>false⟩ Tryz.f97=some (RK,P0):=by kernel_rfl
def w5:PC:=.gh (.reg [.q 19 (.fa 1 (.t 4)),.l 20 (.ld1 (.t 19)),.q 21 (.bin .eql true (.t 20) (.i 64)),.v 22 21,⟨some 23,(some (22,false)),.q (.mv (.t 9))⟩,⟨some 24,(some (22,false)),.q (.fa 1 (.t 4))⟩,⟨some 25,(some (22,false)),.l (.ld1 (.t 24))⟩,⟨some 26,(some (22,false)),.q (.bin .sub true (.t 25) (.i 1))⟩,⟨some 27,(some (22,false)),.q (.bin .shl true (.i (-1)) (.t 26))⟩,⟨some 28,(some (22,false)),.q (.bin .geq true (.t 23) (.t 27))⟩,⟨some 29,(some (22,false)),.q (.mv (.t 28))⟩,⟨some 30,(some (29,true)),.q (.mv (.t 9))⟩,⟨some 31,(some (29,true)),.q (.fa 1 (.t 4))⟩,⟨some 32,(some (29,true)),.l (.ld1 (.t 31))⟩,⟨some 33,(some (29,true)),.q (.bin .sub true (.t 32) (.i 1))⟩,⟨some 34,(some (29,true)),.q (.bin .shl true (.i 1) (.t 33))⟩,⟨some 35,(some (29,true)),.q (.bin .lss true (.t 30) (.t 34))⟩,⟨some 36,(some (22,false)),.pick (.t 29) (.t 35) (.k (.bool false))⟩,.a 37 (.pick (.t 22) (.k (.bool true)) (.t 36)),.v 10 37])
@[go_sem ↓] theorem aRW:aS w5:=aT _
def sU:PC:=.gh (.reg [.v 48 10,.v 49 48,⟨some 50,(some (49,true)),.q (.mv (.t 9))⟩,⟨some 51,(some (49,true)),.q (.fa 1 (.t 4))⟩,⟨some 52,(some (49,true)),.l (.ld1 (.t 51))⟩,⟨some 53,(some (49,true)),.q (.bin .shl true (.i 1) (.t 52))⟩,⟨some 54,(some (49,true)),.q (.bin .lss true (.t 50) (.t 53))⟩,.a 55 (.pick (.t 49) (.t 54) (.k (.bool false))),.v 10 55])
@[go_sem ↓] theorem aK5:aS sU:=aT _
def sO:PC:=.gh (.reg [.v 56 10,.v 57 56,⟨some 58,(some (57,true)),.l (.ldn 3 (.t 3))⟩,⟨some 59,(some (57,true)),.q (.fa 2 (.t 4))⟩,⟨some 60,(some (57,true)),.l (.ld1 (.t 59))⟩,⟨some 61,(some (57,true)),.q (.mv (.t 9))⟩,⟨some 62,(some (57,true)),.cq 139 [(.t 58),(.t 60),(.t 61)]⟩,.a 63 (.pick (.t 57) (.t 62) (.k (.bool false))),.v 10 63])
@[go_sem ↓] theorem aK9:aS sO:=aT _
def l0:PC:=.seq (.gh (.reg [.q 45 (.fa 0 (.t 4)),.l 46 (.ld1 (.t 45)),.q 47 (.bin .eql true (.t 46) (.i 3))])) (.cond (.t 47) (sU) (sO))
@[go_sem ↓] theorem aM1:aS l0:=aT _
def FY:PC:=.seq (.gh (.reg [.v 42 11,.q 43 (.bin .and true (.t 42) (.k (.int .u64 4294967295))),.q 44 (.cvt .i64 (.t 43)),.v 9 44])) (l0)
@[go_sem ↓] theorem aOL:aS FY:=aT _
def EU:PC:=.seq (.gh (.reg [.v 40 11,.q 41 (.bin .lss true (.t 40) (.k (.int .u64 4294967296))),.v 10 41])) (FY)
@[go_sem ↓] theorem aPY:aS EU:=aT _
def sM:PC:=.seq (.gh (.reg [.v 77 10,.q 78 (.not (.t 77)),.v 76 78])) (.cond (.t 76) (.seq (.reg [.q 79 (.bd [(.int .i64 0),(.int .i64 0),(.string (mk [])),(.slice none 0 0),(.slice none 0 0)] []),.s (.st 5 (.t 6) (.t 79)),.q 7 (.mv (.i 4))]) .ret) .skip)
@[go_sem ↓] theorem aK0:aS sM:=aT _
def zY:PC:=.seq (.gh (.reg [.v 72 8,.a 73 (.cl 136 [(.t 72)] [3]),.q 74 (.bin .gtr true (.t 73) (.i 0)),.v 71 74])) (.cond (.t 71) (.seq (.reg [.q 75 (.bd [(.int .i64 0),(.int .i64 0),(.string (mk [])),(.slice none 0 0),(.slice none 0 0)] []),.s (.st 5 (.t 6) (.t 75)),.q 7 (.mv (.i 2))]) .ret) (sM))
@[go_sem ↓] theorem aMW:aS zY:=aT _
def pc98_13:PC:=.seq (.gh (.reg [.v 65 8,.a 66 (.cl 135 [(.t 65)] [3]),.q 67 (.bin .neq true (.t 66) (.i 0)),.v 64 67])) (.cond (.t 64) (.seq (.reg [.q 68 (.bd [(.int .i64 0),(.int .i64 0),(.string (mk [])),(.slice none 0 0),(.slice none 0 0)] []),.v 69 8,.a 70 (.cl 135 [(.t 69)] [3]),.s (.st 5 (.t 6) (.t 68)),.v 7 70]) .ret) (zY))
@[go_sem ↓] theorem aLE:aS pc98_13:=aT _
def n5:PC:=.seq (.gh (.reg [.q 80 (.fa 0 (.t 4)),.l 81 (.ld1 (.t 80)),.v 82 9,.q 83 (.bd [(.int .i64 0),(.int .i64 0),(.string (mk [])),(.slice none 0 0),(.slice none 0 0)] [(0,1,(.t 81)),(1,1,(.t 82))]),.s (.st 5 (.t 6) (.t 83)),.q 7 (.mv (.i 0))])) .ret
@[go_sem ↓] theorem aLI:aS n5:=aT _
def wU:PC:=.seq (.seq (.gh (.reg [.q 14 (.fa 0 (.t 4)),.l 15 (.ld1 (.t 14)),.q 16 (.bin .eql true (.t 15) (.i 2))])) (.cond (.t 16) (.seq (.reg [.v 17 8,.a 18 (.cl 138 [(.t 17)] [3]),.v 9 18]) (w5)) (.seq (.reg [.v 38 8,.a 39 (.cl 134 [(.t 38)] [3]),.v 11 39]) (EU)))) (.seq (.block 0 (pc98_13)) (n5))
@[go_sem ↓] theorem aOP:aS wU:=aT _
def F6:PC:=.seq (.gh (.reg [.q 10 (.mv (.k (.bool true)))])) (wU)
@[go_sem ↓] theorem aNP:aS F6:=aT _
def E0:PC:=.seq (.gh (.reg [.q 9 (.mv (.i 0))])) (F6)
@[go_sem ↓] theorem aOE:aS E0:=aT _
def aCU:PC:=.seq (.reg [.e 3 (.bx 25 (.t 0)),.e 4 (.bx 42 (.t 1)),.e 6 (.al (.agg #[(.int .i64 0),(.int .i64 0),(.string (mk [])),(.slice none 0 0),(.slice none 0 0)]) 29),.q 7 (.mv (.i 0))]) (.seq (.reg [.v 12 2,.a 13 (.cl 133 [(.t 12)] []),.v 8 13]) (E0))
def rA:List RV:=[.ld (.ldn 5 (.t 6)),.mv (.t 7)]
theorem aQZ:aO Tryz.prog true ⟨fun r k=>if r=5/\k=1 then .own [3] else if r=7/\k=1 then .own [3] else if r=12/\k=6 then .q else if r=13/\k=1 then .own [3] else if r=14/\k=2 then .own [3] else if r=15/\k=1 then .own [3] else .own [],fun r=>[2,3,4,6,8,9,10,13,15,17,19,6,11,12].contains r⟩ Tryz.f98=some (aCU,rA):=by kernel_rfl
def y6:PC:=.seq (.gh (.reg [.q 59 (.fa 3 (.t 10)),.l 60 (.ld1 (.t 59)),.l 61 (.ldn 5 (.t 14)),.e 62 (.bsl 29 5 [(.t 61)]),.e 63 (.ap 29 5 80 (.t 60) (.t 62)),.q 64 (.fa 3 (.t 10)),.s (.st 1 (.t 64) (.t 63))])) (.reg [.v 65 12,.v 2 65])
@[go_sem ↓] theorem aMF:aS y6:=aT _
def s7:PC:=.seq (.seq (.gh (.reg [.v 55 13,.q 56 (.bin .neq true (.t 55) (.i 0))])) (.cond (.t 56) (.seq (.reg [.q 57 (.bd [(.int .i64 0),(.int .i64 0),(.string (mk [])),(.slice none 0 0),(.slice none 0 0)] []),.v 58 13,.s (.st 5 (.t 6) (.t 57)),.v 7 58]) .ret) .skip)) (y6)
@[go_sem ↓] theorem aMU:aS s7:=aT _
def AW:PC:=.seq (.gh (.ord  [.q (.l 46 (.ldn 3 (.t 3))),.q (.q 47 (.fa 3 (.t 4))),.q (.l 48 (.ld1 (.t 47))),.q (.l 49 (.ia 4 (.t 48) (.i 0))),.q (.l 50 (.ldn 4 (.t 49))),.q (.v 51 11),.m (.a 52 (.cl 55 [(.t 46),(.t 50),(.t 51)] [])),.q (.v 45 52),.q (.q 53 (.ex (.t 45) 0)),.q (.q 54 (.ex (.t 45) 1)),.m (.e 14 (.al (.agg #[(.int .i64 0),(.int .i64 0),(.string (mk [])),(.slice none 0 0),(.slice none 0 0)]) 29)),.rc (.v 45 52),.rc (.q 53 (.ex (.t 45) 0)),.rc (.q 54 (.ex (.t 45) 1)),.m (.s (.st 5 (.t 14) (.t 53))),.rc (.q 54 (.ex (.t 45) 1)),.m (.v 13 54)])) (s7)
@[go_sem ↓] theorem aMY:aS AW:=aT _
def tG:PC:=.seq (.seq (.gh (.reg [.v 41 13,.q 42 (.bin .neq true (.t 41) (.i 0))])) (.cond (.t 42) (.seq (.reg [.q 43 (.bd [(.int .i64 0),(.int .i64 0),(.string (mk [])),(.slice none 0 0),(.slice none 0 0)] []),.v 44 13,.s (.st 5 (.t 6) (.t 43)),.v 7 44]) .ret) .skip)) (AW)
@[go_sem ↓] theorem aLJ:aS tG:=aT _
def GW:PC:=.seq (.gh (.reg [.v 36 2,.a 37 (.cl 95 [(.t 36)] []),.v 35 37,.q 38 (.ex (.t 35) 0),.q 39 (.ex (.t 35) 1),.q 40 (.ex (.t 35) 2),.v 11 38,.v 12 39,.v 13 40])) (tG)
@[go_sem ↓] theorem aQT:aS GW:=aT _
def tC:PC:=.seq (.seq (.gh (.reg [.v 67 2,.q 68 (.bin .neq true (.t 67) (.k (.string (mk []))))])) (.cond (.t 68) (.seq (.reg [.q 69 (.bd [(.int .i64 0),(.int .i64 0),(.string (mk [])),(.slice none 0 0),(.slice none 0 0)] []),.s (.st 5 (.t 6) (.t 69)),.q 7 (.mv (.i 2))]) .ret) .skip)) (.seq (.reg [.l 70 (.ldn 5 (.t 10)),.s (.st 5 (.t 6) (.t 70)),.q 7 (.mv (.i 0))]) .ret)
@[go_sem ↓] theorem aL9:aS tC:=aT _
def G3:PC:=.seq (.seq (.gh (.reg [.v 32 8,.q 33 (.mv (.k (.int .u64 0)))])) (.block 0 (.loop (.seq (.reg [.q 34 (.bin .lss true (.t 33) (.t 32))]) (.seq (.cond (.t 34) .skip (.exit 0)) (.seq (.block 1 (GW)) (.reg [.q 66 (.bin .add true (.t 33) (.k (.int .u64 1))),.v 33 66]))))))) (tC)
@[go_sem ↓] theorem aN8:aS G3:=aT _
def EN:PC:=.seq (.gh (.reg [.q 31 (.bd [(.int .i64 0),(.int .i64 0),(.string (mk [])),(.slice none 0 0),(.slice none 0 0)] [(0,1,(.i 5))]),.e 10 (.al (.agg #[(.int .i64 0),(.int .i64 0),(.string (mk [])),(.slice none 0 0),(.slice none 0 0)]) 29),.s (.st 5 (.t 10) (.t 31))])) (G3)
@[go_sem ↓] theorem aOW:aS EN:=aT _
def xH:PC:=.seq (.seq (.gh (.reg [.v 25 8,.q 26 (.fa 1 (.t 4)),.l 27 (.ld1 (.t 26)),.q 28 (.cvt .u64 (.t 27)),.q 29 (.bin .gtr true (.t 25) (.t 28))])) (.cond (.t 29) (.seq (.reg [.q 30 (.bd [(.int .i64 0),(.int .i64 0),(.string (mk [])),(.slice none 0 0),(.slice none 0 0)] []),.s (.st 5 (.t 6) (.t 30)),.q 7 (.mv (.i 3))]) .ret) .skip)) (EN)
@[go_sem ↓] theorem aQB:aS xH:=aT _
def w9:PC:=.seq (.seq (.gh (.reg [.v 21 9,.q 22 (.bin .neq true (.t 21) (.i 0))])) (.cond (.t 22) (.seq (.reg [.q 23 (.bd [(.int .i64 0),(.int .i64 0),(.string (mk [])),(.slice none 0 0),(.slice none 0 0)] []),.v 24 9,.s (.st 5 (.t 6) (.t 23)),.v 7 24]) .ret) .skip)) (xH)
@[go_sem ↓] theorem aNW:aS w9:=aT _
def aGW:PC:=.seq (.reg [.e 3 (.bx 25 (.t 0)),.e 4 (.bx 42 (.t 1)),.e 6 (.al (.agg #[(.int .i64 0),(.int .i64 0),(.string (mk [])),(.slice none 0 0),(.slice none 0 0)]) 29),.q 7 (.mv (.i 0))]) (.seq (.reg [.v 16 2,.a 17 (.cl 94 [(.t 16)] []),.v 15 17,.q 18 (.ex (.t 15) 0),.q 19 (.ex (.t 15) 1),.q 20 (.ex (.t 15) 2),.v 8 18,.v 2 19,.v 9 20]) (w9))
def aDX:List RV:=[.ld (.ldn 5 (.t 6)),.mv (.t 7)]
theorem aQM:aO Tryz.prog true ⟨fun _ _=>.own [],fun r=>[2,4,6,7,9,10,12,13,15,18].contains r⟩ Tryz.f99=some (aGW,aDX):=by kernel_rfl
def zI:PC:=.seq (.seq (.gh (.reg [.q 17 (.fa 2 (.t 7)),.l 18 (.ld1 (.t 17)),.q 19 (.lnL (.t 18)),.q 20 (.mv (.i 0))])) (.block 0 (.loop (.seq (.reg [.q 21 (.bin .lss true (.t 20) (.t 19))]) (.seq (.cond (.t 21) .skip (.exit 0)) (.seq (.block 1 (.seq (.reg [.l 22 (.ia 1 (.t 18) (.t 20)),.l 23 (.ld1 (.t 22)),.v 10 23]) (.seq (.reg [.v 24 10,.v 25 2,.q 26 (.bin .eql true (.t 24) (.t 25))]) (.cond (.t 26) (.seq (.reg [.q 6 (.mv (.k (.bool true)))]) .ret) .skip)))) (.reg [.q 27 (.bin .add true (.t 20) (.i 1)),.v 20 27]))))))) (.seq (.reg [.q 6 (.mv (.k (.bool false)))]) .ret)
@[go_sem ↓] theorem aLO:aS zI:=aT _
def WO:PC:=.seq (.reg [.e 3 (.bx 25 (.t 0)),.q 6 (.mv (.k (.bool false)))]) (.seq (.reg [.l 12 (.ldn 3 (.t 3)),.v 13 1,.a 14 (.cl 113 [(.t 12),(.t 13)] []),.v 11 14,.q 15 (.ex (.t 11) 0),.q 16 (.ex (.t 11) 1),.e 7 (.al (.agg #[(.string (mk [])),(.slice none 0 0),(.slice none 0 0)]) 118),.s (.st 3 (.t 7) (.t 15)),.v 8 16]) (zI))
def TM:List RV:=[.mv (.t 6)]
theorem aII:aO Tryz.prog true ⟨fun _ _=>.own [],fun r=>[2].contains r⟩ Tryz.f139=some (WO,TM):=by kernel_rfl
abbrev uA (n:Nat):A:=.c1 (.vl (.int .u64 n))
theorem aD6:∀ x:Nat,x < 256->IntKind.u8.wrap ((BitVec.ofInt IntKind.u8.bits (x:Int) &&& BitVec.ofInt IntKind.u8.bits 127).toNat:Int)=((x % 128:Nat):Int):=by decide +kernel
theorem XD (c:UInt8):IntKind.u8.wrap ((BitVec.ofInt IntKind.u8.bits (c.toNat:Int) &&& BitVec.ofInt IntKind.u8.bits 127).toNat:Int)=((c.toNat % 128:Nat):Int):=aD6 _ c.toNat_lt
theorem nN {n:Nat} (h:n < 18446744073709551616):IntKind.u64.wrap (n:Int)=n:=by
 have h2:IntKind.u64.wrap (n:Int)=(n:Int) % 18446744073709551616:=by simp [IntKind.wrap,IntKind.signed,IntKind.bits]
 rw [h2]; omega
theorem aED {n m i:Nat} (hn:n < 128 ^ i) (hs:n + m * 128 ^ i < 18446744073709551616) (hi:i<=9) :
 IntKind.u64.wrap ((BitVec.ofInt IntKind.u64.bits (n:Int) ||| BitVec.ofInt IntKind.u64.bits (IntKind.u64.wrap ((m:Int) * 2 ^ (min ((7:Int) * (i:Int)).toNat 64)))).toNat:Int)=((n + m * 128 ^ i:Nat):Int):=by
 have hb:IntKind.u64.bits=64:=rfl
 have e1:((7:Int) * (i:Int)).toNat=7 * i:=by omega
 have e2:min (7 * i) 64=7 * i:=by omega
 have e3:(2:Nat) ^ (7 * i)=128 ^ i:=by rw [Nat.pow_mul]
 have e4:(m:Int) * 2 ^ (7 * i)=((m * 128 ^ i:Nat):Int):=by
  rw [<-e3]; simp
 rw [hb,e1,e2,e4,nN (n:=m * 128 ^ i) (by omega)]
 have e5:(BitVec.ofInt 64 (n:Int)).toNat=n:=by
  rw [BitVec.ofInt_natCast,BitVec.toNat_ofNat]; exact Nat.mod_eq_of_lt (by omega)
 have e6:(BitVec.ofInt 64 ((m * 128 ^ i:Nat):Int)).toNat=m * 128 ^ i:=by
  rw [BitVec.ofInt_natCast,BitVec.toNat_ofNat]; exact Nat.mod_eq_of_lt (by omega)
 rw [BitVec.toNat_or,e5,e6]
 have e7:n ||| m * 128 ^ i=n + m * 128 ^ i:=by
  rw [Nat.or_comm,<-e3,<-Nat.shiftLeft_eq,<-Nat.shiftLeft_add_eq_or_of_lt (by rw [e3]; exact hn),Nat.add_comm]
 rw [e7,nN hs]
def aCY:W.Spec:=fun av H K=>∃ x:ByteArray,av=[tS x]/\H=[]/\x.size<=9223372036854775807/\K (.tu [uA (vr (bl x)).1,iA .i64 (vr (bl x)).2.1,iA .i64 (vr (bl x)).2.2]) []
theorem aFA {x:ByteArray} {K:S->Hp->Prop} (h:x.size<=9223372036854775807) (hK:K (.tu [uA (vr (bl x)).1,iA .i64 (vr (bl x)).2.1,iA .i64 (vr (bl x)).2.2]) []):aCY [tS x] [] K:=⟨x,rfl,rfl,h,hK⟩
theorem PI:Meets Tryz.prog 156 aCY:=by
 refine aF Tryz.func156 aKO 1 (by rw [Tryz.ntmps156]; decide) (aA _) (fun av H K h=>by obtain ⟨_,rfl,_⟩:=h; rfl) ?_
 rintro av H K ⟨x,rfl,rfl,hx,hK⟩
 obtain ⟨l,rfl⟩:∃ l,x=mk l:=⟨bl x,(hY x).symm⟩
 rw [dZ,p9] at hx
 rw [p9] at hK
 have fin:∀ (n k:Nat) (e:Int),vr l=(n,k,e)->W.Fin 0 K (.tu [uA n,iA .i64 k,iA .i64 e]) []:=fun n k e h=>by
  rw [h] at hK; exact .done hK
 clear hK
 simp (maxSteps:=1000000) -dsimp only [go_sem,VJ,TW]
 refine aL (α:=Nat × Nat) (fun z=>[(0,tS (mk l)),(5,iS .u64 z.2),(8,iS .i64 z.1)]) (fun _=>[])
  (fun z=>z.1<=9/\z.2 < 128 ^ z.1/\z.1<=l.length/\xF z.1 z.2 (l.drop z.1)=vr l) (fun z=>10 - z.1) (0,0) 0 ⟨by decide,by decide,Nat.zero_le _,rfl⟩ ?_ ?_ ?_
 · simp -dsimp only [go_sem]<;>simp
 · simp [go_sem]
 rintro ⟨i,n⟩ ⟨hi,hn,hil,ho⟩
 simp only at hi hn hil ho ⊢
 have hg:decide ((i:Int) < 10)=true:=by simp; omega
 rcases a7 i l.length with hlt | hge
 · have hg2:((i:Int) == (l.length:Int))=false:=by simp; omega
   obtain ⟨c,hc⟩:∃ c,l[i]? = some c:=⟨_,aU hlt⟩
   have hd:l.drop i=c :: l.drop (i + 1):=by
    obtain ⟨h,rfl⟩:=bE.1 hc
    exact List.drop_eq_getElem_cons h
   rw [hd,GV] at ho
   have e9:((i:Int) == 9)=(i == 9):=by rw [Bool.eq_iff_iff]; simp; omega
   have e1:decide ((1:Int) < (c.toNat:Int))=decide (1 < c.toNat):=by rw [Bool.eq_iff_iff]; simp; omega
   have e128:decide ((128:Int)<=(c.toNat:Int))=decide (128<=c.toNat):=by rw [Bool.eq_iff_iff]; simp; omega
   have e0:((c.toNat:Int) == 0)=(c.toNat == 0):=by rw [Bool.eq_iff_iff]; simp
   have ei:decide ((0:Int) < (i:Int))=decide (0 < i):=by rw [Bool.eq_iff_iff]; simp
   have hc256:=c.toNat_lt
   cases c1:i == 9 && decide (1 < c.toNat) with
   | true=>
    rw [c1] at ho
    rw [Bool.and_eq_true] at c1
    simp (maxSteps:=1000000) -dsimp only [go_sem,hg,hg2,hc,aI,forall_eq',e9,e1,c1.1,c1.2]
    exact ⟨by omega,fin 0 0 2 ho.symm⟩
   | false=>
    rw [c1,cond_false] at ho
    have key:n + c.toNat % 128 * 128 ^ i < 18446744073709551616:=by
     rcases a7 i 9 with h9 | h9
     · have h1:128 ^ (i + 1)<=128 ^ 9:=Nat.pow_le_pow_right (by decide) (by omega)
       have h2:c.toNat % 128 * 128 ^ i<=127 * 128 ^ i:=Nat.mul_le_mul_right _ (by omega)
       have h3:(128:Nat) ^ 9=9223372036854775808:=by decide
       have h4:128 ^ (i + 1)=128 * 128 ^ i:=by rw [Nat.pow_succ,Nat.mul_comm]
       omega
     · obtain rfl:i=9:=by omega
       rw [show ((9:Nat) == 9)=true from rfl,Bool.true_and] at c1
       have h1:=of_decide_eq_false c1
       have h3:(128:Nat) ^ 9=9223372036854775808:=by decide
       rw [h3] at hn ⊢
       have:c.toNat % 128<=1:=by omega
       have h2:c.toNat % 128 * 9223372036854775808<=1 * 9223372036854775808:=Nat.mul_le_mul_right _ this
       omega
    have hos:=aED hn key hi
    have c1':((i == 9)=false\/decide (1 < c.toNat)=false):=by rw [Bool.and_eq_false_iff] at c1; exact c1
    have g9:∀ (P Q:Prop),(((bif i == 9 then decide (1 < c.toNat) else false)=true->P)/\((bif i == 9 then decide (1 < c.toNat) else false)=false->Q))=Q:=fun P Q=>by
     have:(bif i == 9 then decide (1 < c.toNat) else false)=false:=by rw [GS]; exact c1
     rw [this]; simp
    simp (maxSteps:=1000000) -dsimp only [go_sem,hg,hg2,hc,aI,forall_eq',e9,e1,c1,XD,e128,e0,ei]
    have hw:IntKind.u64.wrap ((c.toNat % 128:Nat):Int)=((c.toNat % 128:Nat):Int):=nN (by omega)
    simp only [hw,hos]
    refine ⟨by omega,by omega,by omega,fun h1=>?_,fun h1=>⟨fun h2=>?_,fun h2=>?_⟩⟩
    · rw [h1,cond_true] at ho
      have h128:=of_decide_eq_true h1
      have hi9:i ≠ 9:=fun e=>by
       subst e
       rcases c1' with h | h
       · cases h
       · have:=of_decide_eq_false h; omega
      have hm:c.toNat % 128 * 128 ^ i<=127 * 128 ^ i:=Nat.mul_le_mul_right _ (by omega)
      have hp:128 ^ (i + 1)=128 * 128 ^ i:=by rw [Nat.pow_succ,Nat.mul_comm]
      refine ⟨by omega,aD (i + 1,n + c.toNat % 128 * 128 ^ i) 0 ⟨by simp only; omega,by simp only; rw [hp]; omega,by simp only; omega,ho⟩ (by simp only; omega) ?_ ?_⟩
      · simp -dsimp only [go_sem,hw,hos]<;>simp [hw,hos]
      · simp [go_sem]
    · rw [h1,cond_false,h2,cond_true] at ho
      exact fin 0 0 2 ho.symm
    · rw [h1,cond_false,h2,cond_false] at ho
      refine ⟨by omega,fin (n + c.toNat % 128 * 128 ^ i) (i + 1) 0 ho.symm⟩
 · have hg2:((i:Int) == (l.length:Int))=true:=by simp; omega
   have hd:l.drop i=[]:=List.drop_eq_nil_iff.2 hge
   rw [hd,IR] at ho
   simp (maxSteps:=1000000) -dsimp only [go_sem,hg,hg2]
   exact fin 0 0 1 ho.symm
def tN (b:List UInt8):Vl × Int:=bif b == [] then (v0,1) else bif decide (1 < (b.headD 0).toNat) || decide (1 < b.length) then (v0,2) else (.mk 1 (b.headD 0).toNat (mk []) [] [],0)
def jS (k:Int) (n:Nat):Int:=bif k == 2 then wQ n else n
def t6 (s:Sc) (t:Ty) (b:List UInt8):Vl × Int:=bif (vr b).2.2 != 0 then (v0,(vr b).2.2) else bif decide ((vr b).2.1 < b.length) then (v0,2) else bif !(iE s t (jS t.k (vr b).1)) then (v0,4) else (.mk t.k (jS t.k (vr b).1) (mk []) [] [],0)
def UL (t:Ty) (b:List UInt8):Vl × Int:=bif decide (t.s < (b.length:Int)) then (v0,3) else (.mk 4 0 (mk b) [] [],0)
def eX (R:List UInt8->Vl × Int):Nat->List UInt8->(List Vl × List UInt8) × Int
 | 0,b=>(([],b),0)
 | n + 1,b=>bif (bT b).2.2 != 0 then (([],[]),(bT b).2.2) else bif (R (bT b).1).2 != 0 then (([],[]),(R (bT b).1).2) else bif (eX R n (bT b).2.1).2 != 0 then (([],[]),(eX R n (bT b).2.1).2) else (((R (bT b).1).1 :: (eX R n (bT b).2.1).1.1,(eX R n (bT b).2.1).1.2),0)
theorem wB (R:List UInt8->Vl × Int) (n:Nat) (b:List UInt8):eX R (n + 1) b=bif (bT b).2.2 != 0 then (([],[]),(bT b).2.2) else bif (R (bT b).1).2 != 0 then (([],[]),(R (bT b).1).2) else bif (eX R n (bT b).2.1).2 != 0 then (([],[]),(eX R n (bT b).2.1).2) else (((R (bT b).1).1 :: (eX R n (bT b).2.1).1.1,(eX R n (bT b).2.1).1.2),0):=rfl
def lJ (R:List UInt8->Vl × Int) (sz:Int) (b:List UInt8):Vl × Int:=
 bif (bF b).2.2 != 0 then (v0,(bF b).2.2) else bif decide (sz < ((bF b).1:Int)) then (v0,3) else bif (eX R (bF b).1 (bF b).2.1).2 != 0 then (v0,(eX R (bF b).1 (bF b).2.1).2)
 else bif !((eX R (bF b).1 (bF b).2.1).1.2 == []) then (v0,2) else (.mk 5 0 (mk []) (eX R (bF b).1 (bF b).2.1).1.1 [],0)
def EP (R:Ty->List UInt8->Vl × Int) (s:Sc) (f:Fl) (b:List UInt8):Int:=
 bif (R f.ty b).2 != 0 then (R f.ty b).2 else bif !f.opt && (eL (R f.ty b).1 (zF s 23 f.ty) && (f.ty.k != 6 || b == [])) then 2 else 0
def gQ (R:Ty->List UInt8->Vl × Int) (s:Sc) (fs:List Fl):Nat->Int->List UInt8->List (Int × Vl) × Int
 | 0,_,_=>([],0)
 | g + 1,last,b=>bif b == [] then ([],0) else bif (bJ b last).2.2 != 0 then ([],(bJ b last).2.2)
  else bif !(fF fs (bJ b last).1.1).isSome then gQ R s fs g (bJ b last).1.1 (bJ b last).2.1
  else bif EP R s ((fF fs (bJ b last).1.1).getD default) (bJ b last).1.2 != 0 then ([],EP R s ((fF fs (bJ b last).1.1).getD default) (bJ b last).1.2)
  else bif (gQ R s fs g (bJ b last).1.1 (bJ b last).2.1).2 != 0 then ([],(gQ R s fs g (bJ b last).1.1 (bJ b last).2.1).2)
  else (((bJ b last).1.1,(R ((fF fs (bJ b last).1.1).getD default).ty (bJ b last).1.2).1) :: (gQ R s fs g (bJ b last).1.1 (bJ b last).2.1).1,0)
def J2 (s:Sc) (L:List (Int × Vl)) (f:Fl):List (Int × Vl):=bif (dQ L f.num).isSome then [(f.num,((dQ L f.num).map (·.2)).getD default)] else bif f.opt then [] else [(f.num,zF s 23 f.ty)]
def m6 (s:Sc) (fs:List Fl) (L:List (Int × Vl)):List (Int × Vl):=fs.flatMap (J2 s L)
def m8 (R:Ty->List UInt8->Vl × Int) (s:Sc) (fs:List Fl) (b:List UInt8):Vl × Int:=
 bif (gQ R s fs b.length 0 b).2 != 0 then (v0,(gQ R s fs b.length 0 b).2) else (.mk 6 0 (mk []) [] (m6 s fs (gQ R s fs b.length 0 b).1),0)
def cK (s:Sc):Nat->Ty->List UInt8->Vl × Int
 | 0,_,_=>(v0,0)
 | N + 1,t,b=>bif t.k == 1 then tN b else bif t.k == 2 || (t.k == 3 || t.k == 7) then t6 s t b else bif t.k == 4 then UL t b else bif t.k == 5 then lJ (cK s N (t.e.headD default)) t.s b else m8 (cK s N) s (stOf s t).fs b
theorem FV (s:Sc) (N:Nat) (t:Ty) (b:List UInt8):cK s (N + 1) t b=bif t.k == 1 then tN b else bif t.k == 2 || (t.k == 3 || t.k == 7) then t6 s t b else bif t.k == 4 then UL t b else bif t.k == 5 then lJ (cK s N (t.e.headD default)) t.s b else m8 (cK s N) s (stOf s t).fs b:=rfl
def oK (s:Sc) (nm:ByteArray) (b:List UInt8):Vl × Int:=
 bif bI s != 0 then (v0,bI s) else bif !(cE s.ss nm) then (v0,6) else bif decide (2000 < (b.length:Int)) then (v0,3) else m8 (cK s 8) s (stOf s (.mk 6 0 nm [])).fs b
def nG {α:Type} (acc:List α) (q:List α × Int):List α × Int:=bif q.2 != 0 then ([],q.2) else (acc ++ q.1,0)
theorem X1 {α:Type} {q:List α × Int} (h:q.2 ≠ 0->q.1=[]):nG [] q=q:=by
 unfold nG
 cases hq:q.2 != 0 with
 | true=>rw [cond_true]; obtain ⟨a,b⟩:=q; have:=h (OB hq); simp only at this; rw [this]
 | false=>rw [cond_false]; obtain ⟨a,b⟩:=q; have:=qM hq; simp only at this; rw [this]; rfl
theorem aFK {α:Type} (a b:List α) (q:List α × Int):nG a (nG b q)=nG (a ++ b) q:=by
 unfold nG
 cases hq:q.2 != 0 with
 | true=>simp only [cond_true,hq]
 | false=>simp only [cond_false]; rw [show ((0:Int) != 0)=false from rfl,cond_false,List.append_assoc]
theorem yX {α:Type} (a:List α) {e:Int} (h:(e != 0)=true):nG a ([],e)=([],e):=by unfold nG; rw [h]; rfl
theorem aB7 {α:Type} (a b:List α):nG a (b,0)=(a ++ b,0):=rfl
theorem IU {R:Ty->List UInt8->Vl × Int} {s:Sc} {fs:List Fl} (g:Nat) (last:Int):gQ R s fs g last []=([],0):=by cases g<;>rfl
theorem uM {R:Ty->List UInt8->Vl × Int} {s:Sc} {fs:List Fl} {g:Nat} {last:Int} {b:List UInt8} (h:b ≠ []):gQ R s fs (g + 1) last b=bif (bJ b last).2.2 != 0 then ([],(bJ b last).2.2)
 else bif !(fF fs (bJ b last).1.1).isSome then gQ R s fs g (bJ b last).1.1 (bJ b last).2.1
 else bif EP R s ((fF fs (bJ b last).1.1).getD default) (bJ b last).1.2 != 0 then ([],EP R s ((fF fs (bJ b last).1.1).getD default) (bJ b last).1.2)
 else nG [((bJ b last).1.1,(R ((fF fs (bJ b last).1.1).getD default).ty (bJ b last).1.2).1)] (gQ R s fs g (bJ b last).1.1 (bJ b last).2.1):=by
 have hb:(b == [])=false:=by simpa using h
 rw [gQ,hb,cond_false]; rfl
theorem V8 {R:Ty->List UInt8->Vl × Int} {s:Sc} {fs:List Fl}:∀ (g:Nat) (last:Int) (b:List UInt8),(gQ R s fs g last b).2 ≠ 0->(gQ R s fs g last b).1=[]
 | 0,_,_,h=>absurd rfl h
 | g + 1,last,b,h=>by
  by_cases hb:b=[]
  · subst hb; rfl
  · rw [uM hb] at h ⊢
    cases c1:(bJ b last).2.2 != 0 with
    | true=>rfl
    | false=>
    rw [c1,cond_false] at h
    rw [cond_false]
    cases c2:!(fF fs (bJ b last).1.1).isSome with
    | true=>rw [c2,cond_true] at h; rw [cond_true]; exact V8 g _ _ h
    | false=>
    rw [c2,cond_false] at h
    rw [cond_false]
    cases c3:EP R s ((fF fs (bJ b last).1.1).getD default) (bJ b last).1.2 != 0 with
    | true=>rfl
    | false=>
    rw [c3,cond_false] at h
    rw [cond_false]
    unfold nG at h ⊢
    cases c4:(gQ R s fs g (bJ b last).1.1 (bJ b last).2.1).2 != 0 with
    | true=>rfl
    | false=>rw [c4] at h; exact absurd rfl h
def aO8:Ty:=.mk 2 8 (mk []) []
def xTx:Ty:=.mk 4 5 (mk []) []
def xMo:Ty:=.mk 7 0 (mk [77,111,100,101]) []
def xBo:Ty:=.mk 1 0 (mk []) []
def xLi:Ty:=.mk 5 2 (mk []) [xBo]
def xF1:Fl:=⟨1,mk [120],aO8,false⟩
def xF2:Fl:=⟨2,mk [110,97,109,101],xTx,true⟩
def xF4:Fl:=⟨4,mk [109,111,100,101],xMo,false⟩
def xF5:Fl:=⟨5,mk [108],xLi,false⟩
def xSt:St:=⟨mk [80,111,115,101],[xF1,xF2,xF4,xF5]⟩
def xEn:En:=⟨mk [77,111,100,101],[mk [105,100,108,101],mk [114,117,110]],[0,3]⟩
def xS:Sc:=⟨1,[xEn],[xSt]⟩
def xT:Ty:=.mk 6 0 (mk [80,111,115,101]) []
def x1:List UInt8:=[123,120,32,61,32,45,53,44,32,109,111,100,101,32,61,32,114,117,110,44,32,108,32,61,32,91,116,114,117,101,44,32,102,97,108,115,101,93,125]
def x2:List UInt8:=[123,120,32,61,32,50,48,48,44,32,109,111,100,101,32,61,32,114,117,110,44,32,108,32,61,32,91,93,125]
def x3:List UInt8:=[123,109,111,100,101,32,61,32,114,117,110,44,32,120,32,61,32,49,125]
def x4:List UInt8:=[123,120,32,61,32,49,44,32,109,111,100,101,32,61,32,115,116,111,112,44,32,108,32,61,32,91,93,125]
def TQ (k n:Int):Vl:=.mk k n (mk []) [] []
def xL:Vl:=.mk 5 0 (mk []) [TQ 1 1,TQ 1 0] []
def xV:Vl:=.mk 6 0 (mk []) [] [(1,TQ 2 (-5)),(4,TQ 7 3),(5,xL)]
theorem e1:LC (pP 10) xS xT x1=(xV,0,0):=by kernel_rfl
theorem e2:LC (pP 10) xS xT x2=(v0,4,0):=by kernel_rfl
theorem e3:LC (pP 10) xS xT x3=(v0,2,13):=by kernel_rfl
theorem e4:LC (pP 10) xS xT x4=(v0,2,15):=by kernel_rfl
theorem e0:jJ xS xT xV=0:=by kernel_rfl
theorem e5:aP9 (fP 10) xS xT xV=x1:=by kernel_rfl
theorem ty0 (k s:Int) (n:ByteArray) (h1:bR k) (h2:bR s) (h3:n.size<=9223372036854775807):TyOk (.mk k s n []):=.mk h1 h2 h3 (Nat.zero_le _) (fun t h=>by cases h)
theorem iU:VlOk v0:=FS ⟨by decide,by decide⟩ ⟨by decide,by decide⟩ (by decide)
theorem JW {P:Vl->Prop} {R:List UInt8->Vl × Int}:∀ (n:Nat) (b:List UInt8),(∀ c,c.length<=b.length->P (R c).1)->(∀ x ∈ (eX R n b).1.1,P x)/\(eX R n b).1.1.length<=n/\(eX R n b).1.2.length<=b.length
 | 0,b,_=>⟨fun x h=>(by cases h),Nat.le_refl _,Nat.le_refl _⟩
 | n + 1,b,h=>by
  have hl:=FL b
  obtain ⟨i1,i2,i3⟩:=JW n (bT b).2.1 fun c hc=>h c (Nat.le_trans hc hl.2.1)
  have nil:(∀ x ∈ ([]:List Vl),P x)/\([]:List Vl).length<=n + 1/\([]:List UInt8).length<=b.length:=⟨fun x h=>(by cases h),Nat.zero_le _,Nat.zero_le _⟩
  rw [wB]
  cases (bT b).2.2 != 0 with
  | true=>exact nil
  | false=>
  rw [cond_false]
  cases (R (bT b).1).2 != 0 with
  | true=>exact nil
  | false=>
  rw [cond_false]
  cases (eX R n (bT b).2.1).2 != 0 with
  | true=>exact nil
  | false=>
   rw [cond_false]
   refine ⟨fun x hx=>?_,by rw [List.length_cons]; omega,Nat.le_trans i3 hl.2.1⟩
   rcases List.mem_cons.1 hx with rfl | hx
   · exact h _ hl.1
   · exact i1 x hx
theorem JH {P:Int->Vl->Prop} {R:Ty->List UInt8->Vl × Int} {s:Sc} {fs:List Fl}:∀ (g:Nat) (last:Int) (b:List UInt8),(∀ f ∈ fs,∀ c,c.length<=b.length->P f.num (R f.ty c).1)->(∀ x ∈ (gQ R s fs g last b).1,P x.1 x.2)
 | 0,_,b,_,x,h=>(by cases h)
 | g + 1,last,b,h,x,hx=>by
  by_cases hb:b=[]
  · subst hb; rw [IU] at hx; cases hx
  · rw [uM hb] at hx
    have hl:=MA b last
    have ih:=JH (P:=P) (R:=R) (s:=s) (fs:=fs) g (bJ b last).1.1 (bJ b last).2.1 fun f hf c hc=>h f hf c (Nat.le_trans hc hl.2.1)
    cases c1:(bJ b last).2.2 != 0 with
    | true=>rw [c1] at hx; cases hx
    | false=>
    rw [c1,cond_false] at hx
    cases c2:!(fF fs (bJ b last).1.1).isSome with
    | true=>rw [c2,cond_true] at hx; exact ih x hx
    | false=>
    rw [c2,cond_false] at hx
    cases c3:EP R s ((fF fs (bJ b last).1.1).getD default) (bJ b last).1.2 != 0 with
    | true=>rw [c3] at hx; cases hx
    | false=>
    rw [c3,cond_false] at hx
    unfold nG at hx
    cases c4:(gQ R s fs g (bJ b last).1.1 (bJ b last).2.1).2 != 0 with
    | true=>rw [c4] at hx; cases hx
    | false=>
     rw [c4,cond_false] at hx
     rcases List.mem_append.1 hx with hx | hx
     · obtain rfl:=List.mem_singleton.1 hx
       cases hf:fF fs (bJ b last).1.1 with
       | none=>rw [hf] at c2; cases c2
       | some f=>
        have hm:f ∈ fs:=List.mem_of_find?_eq_some hf
        have he:f.num=(bJ b last).1.1:=by have:=List.find?_some hf; simpa using this
        have:=h f hm (bJ b last).1.2 hl.1
        rw [he] at this
        exact this
     · exact ih x hx
theorem Y4 {P:Int->Vl->Prop} {s:Sc} {fs:List Fl} {L:List (Int × Vl)} (h1:∀ x ∈ L,P x.1 x.2) (h2:∀ f ∈ fs,P f.num (zF s 23 f.ty)):∀ x ∈ m6 s fs L,P x.1 x.2:=fun x hx=>by
 obtain ⟨f,hf,hx⟩:=List.mem_flatMap.1 hx
 unfold J2 at hx
 cases hv:dQ L f.num with
 | some y=>
  obtain ⟨hm,he⟩:=s4 hv
  rw [hv] at hx
  obtain rfl:=List.mem_singleton.1 hx
  have:=h1 y hm
  rw [he] at this
  exact this
 | none=>
  rw [hv] at hx
  change x ∈ bif f.opt then [] else _ at hx
  cases ho:f.opt with
  | true=>rw [ho] at hx; cases hx
  | false=>rw [ho] at hx; obtain rfl:=List.mem_singleton.1 hx; exact h2 f hf
theorem ZG (s:Sc) (L:List (Int × Vl)) (f:Fl):(J2 s L f).length<=1:=by
 unfold J2
 cases (dQ L f.num).isSome<;>cases f.opt<;>simp
theorem BU {α β:Type} {f:α->List β}:∀ {l:List α},(∀ x,(f x).length<=1)->(l.flatMap f).length<=l.length
 | [],_=>Nat.le_refl _
 | x :: l,h=>by
  have h1:=h x
  have h2:=BU (l:=l) h
  rw [List.flatMap_cons,List.length_append,List.length_cons]; omega
theorem IP (s:Sc) (fs:List Fl) (L:List (Int × Vl)):(m6 s fs L).length<=fs.length:=BU (ZG s L)
theorem aBO {n:Nat} (h:n < 18446744073709551616):bR (wQ n):=by
 unfold wQ bR
 split<;>omega
theorem rg3 {s:Sc} {t:Ty} {n:Int} (h3:(t.k == 3)=true):iE s t n=(decide (0<=n) && decide (n < (2 ^ t.s.toNat:Int))):=by
 unfold iE
 rw [dY h3 (b:=1) (by decide),dY h3 (b:=2) (by decide),h3]; rfl
theorem rg7 {s:Sc} {t:Ty} {n:Int} (h7:(t.k == 7)=true):iE s t n=(enOf s t).vs.any (fun x=>x == n):=by
 unfold iE
 rw [dY h7 (b:=1) (by decide),dY h7 (b:=2) (by decide),dY h7 (b:=3) (by decide),h7]; rfl
theorem S4 {s:Sc} (hd:Dg s) {t:Ty} (hv:valF s.ss s.es t=true) (hk:(t.k == 2 || (t.k == 3 || t.k == 7))=true) {n:Nat} (hn:n < 18446744073709551616) (hr:iE s t (jS t.k n)=true):bR (jS t.k n)/\((t.k == 2)=false->jS t.k n=n/\n < 4294967296):=by
 unfold jS at hr ⊢
 cases c2:t.k == 2 with
 | true=>rw [cond_true]; exact ⟨aBO hn,fun h=>(by cases h)⟩
 | false=>
  rw [c2,cond_false] at hr
  rw [cond_false]
  have key:n < 4294967296:=by
   cases c3:t.k == 3 with
   | true=>
    rw [rg3 c3,Bool.and_eq_true] at hr
    have h2:=of_decide_eq_true hr.2
    have h32:(2:Int) ^ (32:Int).toNat=4294967296:=by decide
    have h16:(2:Int) ^ (16:Int).toNat=65536:=by decide
    have h8:(2:Int) ^ (8:Int).toNat=256:=by decide
    rcases PU hv c3 with h | h | h<;>rw [h] at h2<;>omega
   | false=>
    have c7:(t.k == 7)=true:=by rw [c2,c3] at hk; simpa using hk
    rw [rg7 c7,List.any_eq_true] at hr
    obtain ⟨x,hx,he⟩:=hr
    have:=(hd.ni.enOf t).n x hx
    have he:=eq_of_beq he
    omega
  exact ⟨⟨by omega,by omega⟩,fun _=>⟨rfl,key⟩⟩
theorem K0 (b:List UInt8):(vr b).1 < 18446744073709551616:=by
 rcases sK b with ⟨_,h,_⟩ | ⟨_,_,_,_,_,h⟩
 · rw [h]; decide
 · exact h
theorem aJX (b:List UInt8):(bF b).1 < 18446744073709551616:=by
 rcases x6 b with ⟨_,h,_⟩ | ⟨_,_,h⟩
 · rw [h]; decide
 · exact h
theorem ZZ {s:Sc} (hs:s.fit) (hd:Dg s) {R:Ty->List UInt8->Vl × Int} {t:Ty} {b:List UInt8} (hR:∀ f ∈ (stOf s t).fs,∀ c,c.length<=b.length->VlOk (R f.ty c).1):VlOk (m8 R s (stOf s t).fs b).1:=by
 unfold m8
 cases (gQ R s (stOf s t).fs b.length 0 b).2 != 0 with
 | true=>exact iU
 | false=>
  rw [cond_false]
  have hn:=hd.ni.stOf t
  have key:=Y4 (P:=fun i v=>bR i/\VlOk v) (s:=s) (fs:=(stOf s t).fs) (L:=(gQ R s (stOf s t).fs b.length 0 b).1)
   (JH (P:=fun i v=>bR i/\VlOk v) b.length 0 b fun f hf c hc=>⟨by have:=hn.n f hf; exact ⟨by omega,by omega⟩,hR f hf c hc⟩)
   (fun f hf=>⟨by have:=hn.n f hf; exact ⟨by omega,by omega⟩,wV hs 23 f.ty ((gK hs t).fs f hf).ty⟩)
  have hl:=IP s (stOf s t).fs (gQ R s (stOf s t).fs b.length 0 b).1
  have hl2:=hn.l
  exact .mk ⟨by decide,by decide⟩ ⟨by decide,by decide⟩ (by decide) (by simp) (by omega) (fun x h=>(by cases h)) (fun x hx=>(key x hx).1) (fun x hx=>(key x hx).2)
theorem sL {s:Sc} (hs:s.fit) (hd:Dg s):∀ (N:Nat) (t:Ty) (b:List UInt8),TyOk t->valF s.ss s.es t=true->b.length<=1000000000->VlOk (cK s N t b).1
 | 0,_,_,_,_,_=>iU
 | N + 1,t,b,ht,hv,hb=>by
  rw [FV]
  cases c1:t.k == 1 with
  | true=>
   rw [cond_true]
   unfold tN
   cases b == [] with
   | true=>exact iU
   | false=>
   cases decide (1 < (b.headD 0).toNat) || decide (1 < b.length) with
   | true=>exact iU
   | false=>have:=(b.headD 0).toNat_lt; exact FS ⟨by decide,by decide⟩ ⟨by omega,by omega⟩ (by decide)
  | false=>
  rw [cond_false]
  cases c2:t.k == 2 || (t.k == 3 || t.k == 7) with
  | true=>
   rw [cond_true]
   unfold t6
   cases (vr b).2.2 != 0 with
   | true=>exact iU
   | false=>
   rw [cond_false]
   cases decide ((vr b).2.1 < b.length) with
   | true=>exact iU
   | false=>
   rw [cond_false]
   cases c3:iE s t (jS t.k (vr b).1) with
   | false=>exact iU
   | true=>exact FS ht.k (S4 hd hv c2 (K0 b) c3).1 (by decide)
  | false=>
  rw [cond_false]
  cases c4:t.k == 4 with
  | true=>
   rw [cond_true]
   unfold UL
   cases decide (t.s < (b.length:Int)) with
   | true=>exact iU
   | false=>exact FS ⟨by decide,by decide⟩ ⟨by decide,by decide⟩ (by rw [dZ,p9]; omega)
  | false=>
  rw [cond_false]
  cases c5:t.k == 5 with
  | true=>
   rw [cond_true]
   obtain ⟨u,he,hu⟩:=AT hv c5
   have hto:=ht.e u (by rw [he]; exact List.mem_singleton.2 rfl)
   rw [he]
   show VlOk (lJ (cK s N u) t.s b).1
   unfold lJ
   have hcl:=rQ b
   obtain ⟨i1,i2,_⟩:=JW (P:=VlOk) (R:=cK s N u) (bF b).1 (bF b).2.1 fun c hc=>sL hs hd N u c hto hu (by omega)
   cases (bF b).2.2 != 0 with
   | true=>exact iU
   | false=>
   rw [cond_false]
   cases c6:decide (t.s < ((bF b).1:Int)) with
   | true=>exact iU
   | false=>
   rw [cond_false]
   cases (eX (cK s N u) (bF b).1 (bF b).2.1).2 != 0 with
   | true=>exact iU
   | false=>
   rw [cond_false]
   cases !((eX (cK s N u) (bF b).1 (bF b).2.1).1.2 == []) with
   | true=>exact iU
   | false=>
    rw [cond_false]
    have h1:=of_decide_eq_false c6
    have h2:=(oL hv).2 c5
    exact .mk ⟨by decide,by decide⟩ ⟨by decide,by decide⟩ (by decide) (by omega) (by simp) i1 (fun x h=>(by cases h)) (fun x h=>(by cases h))
  | false=>
   rw [cond_false]
   have hn:=hd.ni.stOf t
   exact ZZ hs hd fun f hf c hc=>sL hs hd N f.ty c ((gK hs t).fs f hf).ty (hn.v f hf) (by omega)
theorem I1 {n:Nat} (h:n < 18446744073709551616):jP (n:Int)=vi n:=by
 unfold jP
 have h2:IntKind.u64.wrap (n:Int)=(n:Int) % 18446744073709551616:=by simp [IntKind.wrap,IntKind.signed,IntKind.bits]
 rw [h2,show ((n:Int) % 18446744073709551616).toNat=n by omega]
theorem FA:vi 0=[0]/\vi 1=[1]:=by
 unfold vi
 exact ⟨by rw [kA (by decide) (by decide)]; rfl,by rw [kA (by decide) (by decide)]; rfl⟩
theorem RH (y:Int × Vl) (F:List (Int × Vl)) (k:Int):dQ (y :: F) k=if y.1=k then some y else dQ F k:=by
 unfold dQ
 rw [List.find?_cons]
 by_cases h:y.1=k
 · rw [decide_eq_true h,if_pos h]
 · rw [decide_eq_false h,if_neg h]
theorem YX {fs:List Fl} {k:Int} {f:Fl} (h:fF fs k=some f):f ∈ fs/\f.num=k:=by
 exact ⟨List.mem_of_find?_eq_some h,by have:=List.find?_some h; simpa using this⟩
structure Fits (s:Sc) (u:St) (F:List (Int × Vl)):Prop where
 p:F.Pairwise (fun x y=>x.1 < y.1)
 m:∀ x ∈ F,∃ f ∈ u.fs,f.num=x.1
 r:∀ f ∈ u.fs,f.opt=false->∃ x ∈ F,x.1=f.num
def omG (s:Sc) (F:List (Int × Vl)) (g:Fl):Bool:=!(dQ F g.num).isSome || (!g.opt && eL (((dQ F g.num).map (·.2)).getD default) (zF s 23 g.ty))
theorem NF (R:Ty->Vl->List UInt8) (s:Sc) (F:List (Int × Vl)) (g:Fl):M0 R s F g=bif omG s F g then [] else jP g.num ++ rL (R g.ty (((dQ F g.num).map (·.2)).getD default)):=rfl
theorem LB {s:Sc} {t:Ty} (hv:valF s.ss s.es t=true) (c1:(t.k == 1)=false) (c2:(t.k == 2 || (t.k == 3 || t.k == 7))=false) (c4:(t.k == 4)=false) (c5:(t.k == 5)=false):(t.k == 6)=true:=by
 rw [Bool.or_eq_false_iff,Bool.or_eq_false_iff] at c2
 rcases I2 hv with h | h | h | h | h | h | h
 · rw [h] at c1; cases c1
 · rw [h] at c2; cases c2.1
 · rw [h] at c2; cases c2.2.1
 · rw [h] at c4; cases c4
 · rw [h] at c5; cases c5
 · exact h
 · rw [h] at c2; cases c2.2.2
def dV (x:List UInt8) (a:Nat) (e:Int):List C:=[.vl (.string (mk x)),.vl (.int .i64 a),.vl (.int .i64 e)]
abbrev gY (x:List UInt8) (a:Nat) (e:Int):B:=.cells (dV x a e) 199
abbrev BX (n:Nat):B:=.cells [.vl (.int .u64 n)] 83
def LT:W.Spec:=fun av H K=>∃ x:List UInt8,av=[tS (mk x)]/\H=[]/\K (.va (.c1 (.pt 0 0))) [gY x 0 0]
theorem O1 {x:List UInt8} {K:S->Hp->Prop} (hK:K (.va (.c1 (.pt 0 0))) [gY x 0 0]):LT [tS (mk x)] [] K:=⟨x,rfl,rfl,hK⟩
theorem yJ:Meets Tryz.prog 133 LT:=by
 refine aF Tryz.func133 aH8 1 (by rw [Tryz.ntmps133]; decide) (aA _) (fun av H K h=>by obtain ⟨_,rfl,_⟩:=h; rfl) ?_
 rintro av H K ⟨x,rfl,rfl,hK⟩
 simp (maxSteps:=1000000) -dsimp only [go_sem,UN,SO]
 exact .done hK
def DM:W.Spec:=fun av H K=>∃ (x:List UInt8) (a:Nat) (e:Int),av=[.va (.c1 (.pt 0 0))]/\H=[gY x a e]/\K (iS .i64 e) [gY x a e]
theorem zR {x:List UInt8} {a:Nat} {e:Int} {K:S->Hp->Prop} (hK:K (iS .i64 e) [gY x a e]):DM [.va (.c1 (.pt 0 0))] [gY x a e] K:=⟨x,a,e,rfl,rfl,hK⟩
theorem aF3:Meets Tryz.prog 135 DM:=by
 refine aF Tryz.func135 aJ0 1 (by rw [Tryz.ntmps135]; decide) (aA _) (fun av H K h=>by obtain ⟨_,_,_,rfl,_⟩:=h; rfl) ?_
 rintro av H K ⟨x,a,e,rfl,rfl,hK⟩
 simp (maxSteps:=1000000) -dsimp only [go_sem,dV,V9,S3]
 exact .done hK
def DH:W.Spec:=fun av H K=>∃ (x:List UInt8) (a:Nat) (e:Int),av=[.va (.c1 (.pt 0 0))]/\H=[gY x a e]/\a<=x.length/\x.length<=9223372036854775807/\K (iS .i64 ((x.length:Int) - a)) [gY x a e]
theorem KA {x:List UInt8} {a:Nat} {e:Int} {K:S->Hp->Prop} (h1:a<=x.length) (h2:x.length<=9223372036854775807) (hK:K (iS .i64 ((x.length:Int) - a)) [gY x a e]):DH [.va (.c1 (.pt 0 0))] [gY x a e] K:=⟨x,a,e,rfl,rfl,h1,h2,hK⟩
theorem SI:Meets Tryz.prog 136 DH:=by
 refine aF Tryz.func136 aJ9 1 (by rw [Tryz.ntmps136]; decide) (aA _) (fun av H K h=>by obtain ⟨_,_,_,rfl,_⟩:=h; rfl) ?_
 rintro av H K ⟨x,a,e,rfl,rfl,h1,h2,hK⟩
 simp (maxSteps:=1000000) -dsimp only [go_sem,dV,TB,W4]
 exact ⟨by omega,.done hK⟩
def aEQ:W.Spec:=fun av H K=>∃ (x:List UInt8) (m:Nat),av=[tS (mk x),.va (.c1 (.pt 0 0))]/\H=[BX m]/\x.length<=9223372036854775807/\K (.tu [iA .i64 (vr x).2.1,iA .i64 (vr x).2.2]) [BX (vr x).1]
theorem aER {x:List UInt8} {m:Nat} {K:S->Hp->Prop} (h:x.length<=9223372036854775807) (hK:K (.tu [iA .i64 (vr x).2.1,iA .i64 (vr x).2.2]) [BX (vr x).1]):aEQ [tS (mk x),.va (.c1 (.pt 0 0))] [BX m] K:=⟨x,m,rfl,rfl,h,hK⟩
theorem aCJ:Meets Tryz.prog 155 aEQ:=by
 refine aF Tryz.func155 aKT 2 (by rw [Tryz.ntmps155]; decide) (aE PI (aA _)) (fun av H K h=>by obtain ⟨_,_,rfl,_⟩:=h; rfl) ?_
 rintro av H K ⟨x,m,rfl,rfl,h,hK⟩
 simp (maxSteps:=1000000) -dsimp only [go_sem,UR,TU]
 refine aFA (by rw [dZ,p9]; exact h) ?_
 rw [p9]
 simp (maxSteps:=1000000) -dsimp only [go_sem]
 refine aB rfl (.done ?_)
 simp (maxSteps:=1000000) -dsimp only [go_sem,AA]
 exact .done hK
def UE:W.Spec:=fun av H K=>∃ (x:List UInt8) (m:Nat),av=[.va (.c1 (.pt 0 0)),.va (.c1 (.fn 155 [(false,[.pt 1 0])]))]/\H=[gY x 0 0,BX m]/\x.length<=9223372036854775807/\K (.tu []) [gY x (vr x).2.1 (vr x).2.2,BX (vr x).1]
theorem ZP {x:List UInt8} {m:Nat} {K:S->Hp->Prop} (h:x.length<=9223372036854775807) (hK:K (.tu []) [gY x (vr x).2.1 (vr x).2.2,BX (vr x).1]):UE [.va (.c1 (.pt 0 0)),.va (.c1 (.fn 155 [(false,[.pt 1 0])]))] [gY x 0 0,BX m] K:=⟨x,m,rfl,rfl,h,hK⟩
theorem aEV:Meets Tryz.prog 154 UE:=by
 refine aF Tryz.func154 aJL 2 (by rw [Tryz.ntmps154]; decide) (aE aCJ (aA _)) (fun av H K h=>by obtain ⟨_,_,rfl,_⟩:=h; rfl) ?_
 rintro av H K ⟨x,m,rfl,rfl,h,hK⟩
 simp (maxSteps:=1000000) -dsimp only [go_sem,dV,ST,W0,bne_self_eq_false]
 refine aB rfl (.done ?_)
 have z0:(0:Int)<=((0:Nat):Int):=by decide
 have z1:((0:Nat):Int)<=(x.length:Int):=by omega
 simp (maxSteps:=1000000) -dsimp only [go_sem,dV,A5,List.take_length,List.drop_zero,z0,z1]
 refine ⟨by omega,aER h ?_⟩
 simp (maxSteps:=1000000) -dsimp only [go_sem]
 refine aB rfl (.done ?_)
 rcases sK x with ⟨h0,h1,h2,_⟩ | ⟨h0,h1,h2,h3,_,_⟩
 · have hne:((vr x).2.2 != 0)=true:=by simpa using h0
   rw [h1,h2] at hK ⊢
   simp (maxSteps:=1000000) -dsimp only [go_sem,dV,s9,hne]
   exact .done hK
 · rw [h0] at hK ⊢
   simp (maxSteps:=1000000) -dsimp only [go_sem,dV,s9,bne_self_eq_false]
   refine ⟨by omega,.done ?_⟩
   rw [show ((0:Nat):Int) + ((vr x).2.1:Int)=((vr x).2.1:Int) by omega]
   exact hK
def LK:W.Spec:=fun av H K=>∃ x:List UInt8,av=[.va (.c1 (.pt 0 0))]/\H=[gY x 0 0]/\x.length<=9223372036854775807/\K (iS .u64 (vr x).1) [gY x (vr x).2.1 (vr x).2.2]
theorem GT {x:List UInt8} {K:S->Hp->Prop} (h:x.length<=9223372036854775807) (hK:K (iS .u64 (vr x).1) [gY x (vr x).2.1 (vr x).2.2]):LK [.va (.c1 (.pt 0 0))] [gY x 0 0] K:=⟨x,rfl,rfl,h,hK⟩
theorem FJ:Meets Tryz.prog 134 LK:=by
 refine aF Tryz.func134 aI2 1 (by rw [Tryz.ntmps134]; decide) (aE aEV (aA _)) (fun av H K h=>by obtain ⟨_,rfl,_⟩:=h; rfl) ?_
 rintro av H K ⟨x,rfl,rfl,h,hK⟩
 simp (maxSteps:=1000000) -dsimp only [go_sem,S9,WF]
 refine aB rfl (.done ?_)
 simp (maxSteps:=1000000) -dsimp only [go_sem,zC]
 refine ZP (m:=0) h ?_
 simp (maxSteps:=1000000) -dsimp only [go_sem]
 refine aB rfl (.done ?_)
 simp (maxSteps:=1000000) -dsimp only [go_sem,zJ]
 refine .sel [0] (by simp) (by simp) rfl (.done ?_)
 simp -dsimp only [go_sem,dV]
 exact hK
theorem aPC (n:Nat):IntKind.u64.wrap ((BitVec.ofInt IntKind.u64.bits (n:Int) &&& BitVec.ofInt IntKind.u64.bits 1).toNat:Int)=((n % 2:Nat):Int):=by
 have hb:IntKind.u64.bits=64:=rfl
 have e:(BitVec.ofInt 64 (n:Int) &&& BitVec.ofInt 64 1).toNat=n % 2:=by
  rw [BitVec.toNat_and,BitVec.ofInt_natCast,BitVec.toNat_ofNat,show (BitVec.ofInt 64 1).toNat=1 from rfl,Nat.and_one_is_mod]
  omega
 rw [hb,e,nN (by omega)]
theorem A7 {n:Int} (h:bR n):IntKind.i64.wrap n=n:=by
 unfold bR at h
 exact uX (aJ2 h.1 h.2)
theorem RN (n:Nat) (h:n < 18446744073709551616):IntKind.i64.wrap (n:Int)=if n < 9223372036854775808 then (n:Int) else (n:Int) - 18446744073709551616:=by
 simp [IntKind.wrap,IntKind.signed,IntKind.bits]
 split<;>omega
theorem aB8 {n:Nat} (h:n < 18446744073709551616):IntKind.i64.wrap ((BitVec.ofInt IntKind.i64.bits (IntKind.i64.wrap ((n:Int).fdiv (2 ^ min 1 64))) ^^^ BitVec.ofInt IntKind.i64.bits (IntKind.i64.wrap (0 - IntKind.i64.wrap ((n % 2:Nat):Int)))).toNat:Int)=wQ n:=by
 have hb:IntKind.i64.bits=64:=rfl
 have e1:(n:Int).fdiv (2 ^ min 1 64)=((n / 2:Nat):Int):=by
  rw [show (2:Int) ^ min 1 64=2 from rfl,Int.fdiv_eq_ediv_of_nonneg _ (by decide)]; omega
 have e2:IntKind.i64.wrap ((n / 2:Nat):Int)=((n / 2:Nat):Int):=A7 ⟨by omega,by omega⟩
 have e3:IntKind.i64.wrap ((n % 2:Nat):Int)=((n % 2:Nat):Int):=A7 ⟨by omega,by omega⟩
 have e4:IntKind.i64.wrap (0 - ((n % 2:Nat):Int))=0 - ((n % 2:Nat):Int):=A7 ⟨by omega,by omega⟩
 rw [hb,e1,e2,e3,e4]
 have e5:BitVec.ofInt 64 ((n / 2:Nat):Int)=BitVec.ofNat 64 (n / 2):=BitVec.ofInt_natCast ..
 rw [e5]
 unfold wQ
 rcases Nat.mod_two_eq_zero_or_one n with h0 | h0
 · rw [h0,if_neg (by decide),show (0:Int) - ((0:Nat):Int)=0 from rfl,show BitVec.ofInt 64 0=0#64 from rfl,BitVec.xor_zero,BitVec.toNat_ofNat,Nat.mod_eq_of_lt (by omega)]
   exact e2
 · rw [h0,if_pos rfl,show (0:Int) - ((1:Nat):Int)=-1 from rfl,show BitVec.ofInt 64 (-1)=BitVec.allOnes 64 from rfl,BitVec.xor_allOnes,BitVec.toNat_not,BitVec.toNat_ofNat,Nat.mod_eq_of_lt (show n / 2 < 2 ^ 64 by omega),RN _ (by omega)]
   rw [if_neg (by omega)]
   omega
theorem aAL {n:Int} (h:bR n):IntKind.u64.wrap ((BitVec.ofInt IntKind.u64.bits (IntKind.u64.wrap (IntKind.u64.wrap n * 2 ^ min 1 64)) ^^^ BitVec.ofInt IntKind.u64.bits (IntKind.u64.wrap (n.fdiv (2 ^ min 63 64)))).toNat:Int)=(lL n:Int):=by
 unfold bR at h
 have hb:IntKind.u64.bits=64:=rfl
 have hw:∀ x:Int,IntKind.u64.wrap x=x % 18446744073709551616:=fun x=>by simp [IntKind.wrap,IntKind.signed,IntKind.bits]
 have hp:(2:Int) ^ min 63 64=9223372036854775808:=by decide
 rw [hb,hp,show (2:Int) ^ min 1 64=2 from rfl,Int.fdiv_eq_ediv_of_nonneg _ (by decide)]
 unfold lL
 by_cases h0:n < 0
 · have e1:n / 9223372036854775808=-1:=by omega
   have e2:IntKind.u64.wrap (IntKind.u64.wrap n * 2)=((n * 2 + 18446744073709551616).toNat:Int):=by rw [hw,hw]; omega
   rw [if_pos h0,e1,e2,show BitVec.ofInt 64 (IntKind.u64.wrap (-1))=BitVec.allOnes 64 from rfl,BitVec.xor_allOnes,BitVec.toNat_not,BitVec.ofInt_natCast,BitVec.toNat_ofNat,Nat.mod_eq_of_lt (show (n * 2 + 18446744073709551616).toNat < 2 ^ 64 by omega),nN (by omega)]
   omega
 · have e1:n / 9223372036854775808=0:=by omega
   have e2:IntKind.u64.wrap (IntKind.u64.wrap n * 2)=((n * 2).toNat:Int):=by rw [hw,hw]; omega
   rw [if_neg h0,e1,e2,show BitVec.ofInt 64 (IntKind.u64.wrap 0)=0#64 from rfl,BitVec.xor_zero,BitVec.ofInt_natCast,BitVec.toNat_ofNat,Nat.mod_eq_of_lt (show (n * 2).toNat < 2 ^ 64 by omega),nN (by omega)]
   omega
def DK:W.Spec:=fun av H K=>∃ x:List UInt8,av=[.va (.c1 (.pt 0 0))]/\H=[gY x 0 0]/\x.length<=9223372036854775807/\K (iS .i64 (wQ (vr x).1)) [gY x (vr x).2.1 (vr x).2.2]
theorem ZC {x:List UInt8} {K:S->Hp->Prop} (h:x.length<=9223372036854775807) (hK:K (iS .i64 (wQ (vr x).1)) [gY x (vr x).2.1 (vr x).2.2]):DK [.va (.c1 (.pt 0 0))] [gY x 0 0] K:=⟨x,rfl,rfl,h,hK⟩
theorem aJM:Meets Tryz.prog 138 DK:=by
 refine aF Tryz.func138 aJS 1 (by rw [Tryz.ntmps138]; decide) (aE FJ (aA _)) (fun av H K h=>by obtain ⟨_,rfl,_⟩:=h; rfl) ?_
 rintro av H K ⟨x,rfl,rfl,h,hK⟩
 simp (maxSteps:=1000000) -dsimp only [go_sem,TO,TD]
 refine GT h ?_
 simp (maxSteps:=1000000) -dsimp only [go_sem]
 refine aB rfl (.done ?_)
 simp (maxSteps:=1000000) -dsimp only [go_sem,zV,aPC]
 have hlt:(vr x).1 < 18446744073709551616:=by
  rcases sK x with ⟨_,h,_⟩ | ⟨_,_,_,_,_,h⟩
  · rw [h]; decide
  · exact h
 rw [aB8 hlt]
 refine ⟨by decide,.done ?_⟩
 simp -dsimp only [go_sem,dV]
 exact hK
def C5:List S->Prop:=fun av=>match av with
 | [.va (.c1 (.vl (.int .i64 n)))]=>bR n
 | _=>False
theorem jI {av:List S} (h:C5 av):∃ n:Int,av=[iS .i64 n]/\bR n:=by
 unfold C5 at h
 split at h
 · exact ⟨_,rfl,h⟩
 · exact h.elim
def HJ (f:Int->Value):Fun:=⟨C5,TL f,fun av h=>by obtain ⟨n,rfl,_⟩:=jI h; trivial⟩
theorem wC {f:Int->Value}:∀ av H K,(HJ f).sp av H K->av.length=1:=fun av H K h=>by obtain ⟨n,rfl,_⟩:=jI h.1.1; rfl
attribute [go_sem] HJ C5
theorem aIR:Meets Tryz.prog 84 (HJ fun n=>.string (mk (vi (lL n)))).sp:=by
 refine aF Tryz.func84 aPV 1 (by rw [Tryz.ntmps84]; decide) (aG x9 (aA _)) wC ?_
 rintro av H K ⟨⟨h,rfl⟩,hK⟩
 obtain ⟨n,rfl,hn⟩:=jI h
 have hK:K (tS (mk (vi (lL n)))) []:=hK
 clear h
 simp (maxSteps:=1000000) -dsimp only [go_sem,aB4,aFL]
 have hz:lL n < 18446744073709551616:=by
  unfold bR at hn
  unfold lL
  split<;>omega
 rw [aAL hn]
 exact ⟨by decide,by decide,by omega,.done hK⟩
end Go.Proofs.YthpbnmebjocbeaaGreat
