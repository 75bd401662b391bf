/- Lemmas and walks for the proof. -/
import Derived.Test.YthpbnmebjocbeaaGreatDc
import Derived.Test.YthpbnmebjocbeaaGreatProg
import Derived.WalkKit
import Derived.Shelf.Slices.Clone
set_option maxRecDepth 100000
set_option maxHeartbeats 8000000
namespace Go.Proofs.YthpbnmebjocbeaaGreat
open Go.W
def aIH:PC:=.seq (.reg [.q 2 (.mv (.k (.string (mk []))))]) (.seq (.reg [.q 3 (.mv (.k (.string (mk []))))]) (.seq (.block 0 (.loop (.seq (.seq (.reg [.v 4 0,.q 5 (.bin .geq true (.t 4) (.k (.int .u64 128)))]) (.cond (.t 5) .skip (.exit 0))) (.block 1 (.seq (.reg [.v 6 3,.v 7 0,.q 8 (.bin .rem true (.t 7) (.k (.int .u64 128))),.q 9 (.bin .add true (.k (.int .u64 128)) (.t 8)),.q 10 (.cvt .u8 (.t 9)),.e 11 (.bsl 5 1 [(.t 10)]),.q 12 (.b2s (.t 11)),.q 13 (.bin .add true (.t 6) (.t 12)),.v 3 13]) (.reg [.v 14 0,.q 15 (.bin .quo true (.t 14) (.k (.int .u64 128))),.v 0 15])))))) (.seq (.reg [.v 16 3,.v 17 0,.q 18 (.cvt .u8 (.t 17)),.e 19 (.bsl 5 1 [(.t 18)]),.q 20 (.b2s (.t 19)),.q 21 (.bin .add true (.t 16) (.t 20)),.v 2 21]) .ret)))
def aKX:List RV:=[.mv (.t 2)]
theorem aS2:aO Tryz.prog true ⟨fun _ _=>.own [],fun _=>false⟩ Tryz.f36=some (aIH,aKX):=by kernel_rfl
def aD2:PC:=.seq (.reg [.q 2 (.mv (.k (.string (mk []))))]) (.seq (.reg [.v 3 0,.q 4 (.lnS (.t 3)),.q 5 (.cvt .u64 (.t 4)),.a 6 (.cq 36 [(.t 5)]),.v 7 0,.q 8 (.bin .add true (.t 6) (.t 7)),.v 2 8]) .ret)
def aJ4:List RV:=[.mv (.t 2)]
theorem aUO:aO Tryz.prog true ⟨fun r k=>if r=1/\k=3 then .q else .own [],fun _=>false⟩ Tryz.f37=some (aD2,aJ4):=by kernel_rfl
def aHG:PC:=.seq (.reg [.q 2 (.mv (.k (.string (mk []))))]) (.seq (.reg [.v 3 0,.q 4 (.lnS (.t 3)),.q 5 (.cvt .u64 (.t 4)),.a 6 (.cq 46 [(.t 5)]),.v 7 0,.q 8 (.bin .add true (.t 6) (.t 7)),.v 2 8]) .ret)
def aJ2:List RV:=[.mv (.t 2)]
theorem aSS:aO Tryz.prog true ⟨fun r k=>if r=1/\k=3 then .q else .own [],fun _=>false⟩ Tryz.f47=some (aHG,aJ2):=by kernel_rfl
def aFS:PC:=.seq (.reg [.q 2 (.mv (.k (.string (mk []))))]) (.seq (.reg [.v 3 0,.q 4 (.cvt .u64 (.t 3)),.q 5 (.bin .shl true (.t 4) (.k (.int .u64 1))),.v 6 0,.q 7 (.bin .shr true (.t 6) (.k (.int .u64 63))),.q 8 (.cvt .u64 (.t 7)),.q 9 (.bin .xor true (.t 5) (.t 8)),.a 10 (.cq 46 [(.t 9)]),.v 2 10]) .ret)
def aJD:List RV:=[.mv (.t 2)]
theorem aUI:aO Tryz.prog true ⟨fun r k=>if r=1/\k=7 then .q else .own [],fun _=>false⟩ Tryz.f84=some (aFS,aJD):=by kernel_rfl
def XS:PC:=.seq (.reg [.q 2 (.mv (.k (.pointer none)))]) (.seq (.reg [.v 3 0,.q 4 (.bd [(.string (mk [])),(.int .i64 0),(.int .i64 0)] [(0,1,(.t 3))]),.e 5 (.bx 199 (.t 4)),.v 2 5]) .ret)
def VS:List RV:=[.mv (.t 2)]
theorem aMD:aO Tryz.prog true ⟨fun _ _=>.own [],fun _=>false⟩ Tryz.f133=some (XS,VS):=by kernel_rfl
def BV:PC:=.seq (.gh (.reg [.l 7 (.ld1 (.t 3)),.v 2 7])) .ret
@[go_sem ↓] theorem aQR:aM BV:=aN _
def BQ:PC:=.seq (.gh (.reg [.v 4 0,.q 5 (.mf 155 [(.t 3)]),.a 6 (.cl 154 [(.t 4),(.t 5)] [0,1])])) (BV)
@[go_sem ↓] theorem aQQ:aM BQ:=aN _
def V9:PC:=.seq (.reg [.q 2 (.mv (.k (.int .u64 0)))]) (.seq (.reg [.e 3 (.al (.int .u64 0) 83),.s (.st 1 (.t 3) (.k (.int .u64 0)))]) (BQ))
def ZZ:List RV:=[.mv (.t 2)]
theorem aNB:aO Tryz.prog true ⟨fun r k=>if r=2/\k=2 then .own [0,1] else .own [],fun r=>[2,3].contains r⟩ Tryz.f134=some (V9,ZZ):=by kernel_rfl
def ZQ:PC:=.seq (.reg [.q 2 (.mv (.i 0))]) (.seq (.seq (.reg [.v 3 0,.q 4 (.eqP false (.t 3) (.k (.pointer none)))]) (.cond (.t 4) (.seq (.reg [.q 2 (.mv (.i 6))]) .ret) .skip)) (.seq (.reg [.v 5 0,.q 6 (.nc (.t 5)),.q 7 (.fa 2 (.t 6)),.l 8 (.ld1 (.t 7)),.v 2 8]) .ret))
def V4:List RV:=[.mv (.t 2)]
theorem aOJ:aO Tryz.prog true ⟨fun _ _=>.own [],fun _=>false⟩ Tryz.f135=some (ZQ,V4):=by kernel_rfl
def WC:PC:=.seq (.reg [.q 2 (.mv (.i 0))]) (.seq (.seq (.reg [.v 3 0,.q 4 (.eqP false (.t 3) (.k (.pointer none)))]) (.cond (.t 4) (.seq (.reg [.q 2 (.mv (.i 0))]) .ret) .skip)) (.seq (.reg [.v 5 0,.q 6 (.nc (.t 5)),.q 7 (.fa 0 (.t 6)),.l 8 (.ld1 (.t 7)),.q 9 (.lnS (.t 8)),.v 10 0,.q 11 (.nc (.t 10)),.q 12 (.fa 1 (.t 11)),.l 13 (.ld1 (.t 12)),.q 14 (.bin .sub true (.t 9) (.t 13)),.v 2 14]) .ret))
def aAO:List RV:=[.mv (.t 2)]
theorem aOV:aO Tryz.prog true ⟨fun _ _=>.own [],fun _=>false⟩ Tryz.f136=some (WC,aAO):=by kernel_rfl
def CA:PC:=.seq (.gh (.reg [.v 6 3,.q 7 (.bin .shr true (.t 6) (.k (.int .u64 1))),.q 8 (.cvt .i64 (.t 7)),.v 9 3,.q 10 (.bin .and true (.t 9) (.k (.int .u64 1))),.q 11 (.cvt .i64 (.t 10)),.q 12 (.neg false (.t 11)),.q 13 (.bin .xor true (.t 8) (.t 12)),.v 2 13])) .ret
@[go_sem ↓] theorem aR3:aM CA:=aN _
def WU:PC:=.seq (.reg [.q 2 (.mv (.i 0))]) (.seq (.reg [.v 4 0,.a 5 (.cl 134 [(.t 4)] [0]),.v 3 5]) (CA))
def WF:List RV:=[.mv (.t 2)]
theorem aN9:aO Tryz.prog true ⟨fun r k=>if r=1/\k=1 then .own [0] else .own [],fun r=>[2].contains r⟩ Tryz.f138=some (WU,WF):=by kernel_rfl
def v7:PC:=.seq (.seq (.gh (.reg [.v 29 5,.q 30 (.bin .neq true (.t 29) (.i 0))])) (.cond (.t 30) (.seq (.reg [.v 31 0,.v 32 5,.q 33 (.nc (.t 31)),.q 34 (.fa 2 (.t 33)),.s (.st 1 (.t 34) (.t 32))]) .ret) .skip)) (.reg [.v 35 0,.q 36 (.nc (.t 35)),.q 37 (.fa 1 (.t 36)),.l 38 (.ld1 (.t 37)),.v 39 4,.q 40 (.bin .add true (.t 38) (.t 39)),.q 41 (.nc (.t 35)),.q 42 (.fa 1 (.t 41)),.s (.st 1 (.t 42) (.t 40))])
@[go_sem ↓] theorem aRJ:aM v7:=aN _
def DK:PC:=.seq (.gh (.ord  [.q (.v 16 1),.q (.v 17 0),.q (.q 18 (.nc (.t 17))),.q (.q 19 (.fa 0 (.t 18))),.q (.l 20 (.ld1 (.t 19))),.q (.v 21 0),.q (.q 22 (.nc (.t 21))),.q (.q 23 (.fa 1 (.t 22))),.q (.l 24 (.ld1 (.t 23))),.q (.q 25 (.ss (.t 20) (some (.t 24)) none)),.m (.a 26 (.ca (.t 16) [(.t 25)] [1])),.q (.v 15 26),.q (.q 27 (.ex (.t 15) 0)),.q (.q 28 (.ex (.t 15) 1)),.m (.v 4 27),.rc (.q 28 (.ex (.t 15) 1)),.m (.v 5 28)])) (v7)
@[go_sem ↓] theorem aQS:aM DK:=aN _
def VX:PC:=.seq (.seq (.reg [.v 6 0,.q 7 (.eqP false (.t 6) (.k (.pointer none))),.v 8 7,⟨some 9,(some (8,false)),.q (.mv (.t 0))⟩,⟨some 10,(some (8,false)),.q (.nc (.t 9))⟩,⟨some 11,(some (8,false)),.q (.fa 2 (.t 10))⟩,⟨some 12,(some (8,false)),.l (.ld1 (.t 11))⟩,⟨some 13,(some (8,false)),.q (.bin .neq true (.t 12) (.i 0))⟩,.a 14 (.pick (.t 8) (.k (.bool true)) (.t 13))]) (.cond (.t 14) .ret .skip)) (DK)
def aAK:List RV:=[]
theorem aN1:aO Tryz.prog true ⟨fun r k=>if r=1/\k=10 then .own [1] else .own [],fun r=>[1,2].contains r⟩ Tryz.f154=some (VX,aAK):=by kernel_rfl
def CI:PC:=.seq (.gh (.reg [.v 14 5,.s (.st 1 (.t 1) (.t 14))])) (.seq (.reg [.v 15 6,.v 16 7,.v 3 15,.v 4 16]) .ret)
@[go_sem ↓] theorem aQM:aM CI:=aN _
def XW:PC:=.seq (.reg [.q 3 (.mv (.i 0)),.q 4 (.mv (.i 0))]) (.seq (.reg [.v 9 0,.a 10 (.cl 156 [(.t 9)] []),.v 8 10,.q 11 (.ex (.t 8) 0),.q 12 (.ex (.t 8) 1),.q 13 (.ex (.t 8) 2),.v 5 11,.v 6 12,.v 7 13]) (CI))
def W1:List RV:=[.mv (.t 3),.mv (.t 4)]
theorem aPH:aO Tryz.prog true ⟨fun _ _=>.own [],fun r=>[2].contains r⟩ Tryz.f155=some (XW,W1):=by kernel_rfl
def YV:PC:=.seq (.reg [.q 2 (.mv (.k (.int .u64 0))),.q 3 (.mv (.i 0)),.q 4 (.mv (.i 0))]) (.seq (.reg [.q 5 (.mv (.k (.int .u64 0)))]) (.seq (.seq (.reg [.q 8 (.mv (.i 0))]) (.block 0 (.loop (.seq (.reg [.q 9 (.bin .lss true (.t 8) (.i 10))]) (.seq (.cond (.t 9) .skip (.exit 0)) (.seq (.block 1 (.seq (.reg [.v 10 8,.v 6 10]) (.seq (.seq (.reg [.v 11 6,.v 12 0,.q 13 (.lnS (.t 12)),.q 14 (.bin .eql true (.t 11) (.t 13))]) (.cond (.t 14) (.seq (.reg [.q 2 (.mv (.k (.int .u64 0))),.q 3 (.mv (.i 0)),.q 4 (.mv (.i 1))]) .ret) .skip)) (.seq (.reg [.v 15 0,.v 16 6,.a 17 (.ix (.t 15) (.t 16)),.v 7 17]) (.seq (.seq (.reg [.v 18 6,.q 19 (.bin .eql true (.t 18) (.i 9)),.v 20 19,⟨some 21,(some (20,true)),.q (.mv (.t 7))⟩,⟨some 22,(some (20,true)),.q (.bin .gtr true (.t 21) (.k (.int .u8 1)))⟩,.a 23 (.pick (.t 20) (.t 22) (.k (.bool false)))]) (.cond (.t 23) (.seq (.reg [.q 2 (.mv (.k (.int .u64 0))),.q 3 (.mv (.i 0)),.q 4 (.mv (.i 2))]) .ret) .skip)) (.seq (.reg [.v 24 5,.v 25 7,.q 26 (.bin .and true (.t 25) (.k (.int .u8 127))),.q 27 (.cvt .u64 (.t 26)),.v 28 6,.q 29 (.bin .mul true (.i 7) (.t 28)),.q 30 (.bin .shl true (.t 27) (.t 29)),.q 31 (.bin .or true (.t 24) (.t 30)),.v 5 31]) (.seq (.seq (.reg [.v 32 7,.q 33 (.bin .geq true (.t 32) (.k (.int .u8 128)))]) (.cond (.t 33) (.exit 1) .skip)) (.seq (.seq (.reg [.v 34 7,.q 35 (.bin .eql true (.t 34) (.k (.int .u8 0))),.v 36 35,⟨some 37,(some (36,true)),.q (.mv (.t 6))⟩,⟨some 38,(some (36,true)),.q (.bin .gtr true (.t 37) (.i 0))⟩,.a 39 (.pick (.t 36) (.t 38) (.k (.bool false)))]) (.cond (.t 39) (.seq (.reg [.q 2 (.mv (.k (.int .u64 0))),.q 3 (.mv (.i 0)),.q 4 (.mv (.i 2))]) .ret) .skip)) (.seq (.reg [.v 40 5,.v 41 6,.q 42 (.bin .add true (.t 41) (.i 1)),.v 2 40,.v 3 42,.q 4 (.mv (.i 0))]) .ret))))))))) (.reg [.q 43 (.bin .add true (.t 8) (.i 1)),.v 8 43]))))))) (.seq (.reg [.q 2 (.mv (.k (.int .u64 0))),.q 3 (.mv (.i 0)),.q 4 (.mv (.i 2))]) .ret)))
def W3:List RV:=[.mv (.t 2),.mv (.t 3),.mv (.t 4)]
theorem aPC:aO Tryz.prog true ⟨fun _ _=>.own [],fun _=>false⟩ Tryz.f156=some (YV,W3):=by kernel_rfl
def N7:List S->Prop:=fun av=>match av with
 |[.va (.c1 (.vl (.int .u64 n)))]=>0<=n/\n<18446744073709551616
 |_=>False
theorem oH {av:List S} (h:N7 av):∃n:Nat,av=[iS .u64 n]/\n<18446744073709551616:=by
 unfold N7 at h
 split at h
 · rename_i n
   exact ⟨n.toNat,by rw[Int.toNat_of_nonneg h.1],by omega⟩
 · exact h.elim
def NQ (f:Nat->Value):List S->A:=fun av=>match av with
 |[.va (.c1 (.vl (.int .u64 n)))]=>.c1 (.vl (f n.toNat))
 |_=>.gs []
def MO (f:Nat->Value):Fun:=⟨N7,NQ f,fun av h=>by obtain ⟨n,rfl,_⟩:=oH h;trivial⟩
theorem aA3 {f:Nat->Value}:∀av H K,(MO f).sp av H K->av.length=1:=fun av H K h=>by obtain ⟨n,rfl,_⟩:=oH h.1.1;rfl
attribute [go_sem] MO N7 NQ
def vi (n:Nat):List UInt8:=uL 10 n
theorem AQ:Meets Tryz.prog 46 (MO fun n=>.string (mk (vi n))).sp:=by
 refine ⟨by kernel_rfl,?_⟩
 rintro av vs E ro w K hlen hrel hR ⟨⟨h,hE⟩,hK⟩ _
 obtain ⟨n,rfl,hn⟩:=oH h
 obtain ⟨v0,rfl⟩:∃v0,vs=[v0]:=by
  match vs,hlen with
  |[v0],_=>exact ⟨v0,rfl⟩
 have h0:v0=.int .u64 n:=hrel 0 _ _ rfl rfl
 subst h0
 refine (TY n hn w).mono ?_
 rintro e w' ⟨rfl,C,rfl⟩
 have hK:K (tS (mk (vi n))) []:=by simpa[MO,NQ] using hK
 exact ⟨tS (mk (vi n)),_,E,ro,rfl,rfl,by rw[hE];exact hK,hR.aside (fun b hb=>gB w _ b hb) (eT w _) rfl rfl rfl⟩
theorem PU:∀(f n:Nat),(uL f n).length<=f
 |0,_=>Nat.le_refl _
 |f+1,n=>by
  by_cases h:n<128
  · rw[gP (Nat.succ_pos _) h];simp
  · rw[i5 h];have:=PU f (n / 128);simp;omega
theorem PQ (n:Nat):(vi n).length<=10:=PU 10 n
def eI (x:Int):List UInt8:=vi (IntKind.u64.wrap x).toNat
theorem hT (x:Int):(eI x).length<=10:=PQ _
theorem P9 (x:Int):(0<=IntKind.u64.wrap x/\IntKind.u64.wrap x<18446744073709551616)=True:=by
 have h:IntKind.u64.wrap x=x % 18446744073709551616:=by simp[IntKind.wrap,IntKind.signed,IntKind.bits]
 rw[h];exact eq_true ⟨by omega,by omega⟩
theorem iL (x:Int):(0<=IntKind.u64.wrap x)=True:=eq_true (of_eq_true (P9 x)).1
theorem iT (x:Int):(IntKind.u64.wrap x<18446744073709551616)=True:=eq_true (of_eq_true (P9 x)).2
theorem d9 (x:Int):vi (IntKind.u64.wrap x).toNat=eI x:=rfl
def mP (l:List UInt8):List UInt8:=eI l.length++l
theorem rB1 (x:Int):oX [[C.vl (.int .u8 x)]]=[UInt8.ofNat x.toNat]:=rfl
theorem ZO {m:Nat} (h:m<256):IntKind.u8.wrap (m:Int)=(m:Int):=by
 have h2:IntKind.u8.wrap (m:Int)=(m:Int) % 256:=by simp[IntKind.wrap,IntKind.signed,IntKind.bits]
 rw[h2];omega
theorem aL6 {m:Nat} (h:m<128):oX [[C.vl (.int .u8 (IntKind.u8.wrap (m:Int)))]]=[m.toUInt8]:=by
 rw[rB1,ZO (by omega)];rfl
theorem BX (m:Nat):(m:Int).tmod 128=((m % 128:Nat):Int):=by rw[Int.tmod_eq_emod_of_nonneg (by omega)];omega
theorem aBQ (m:Nat):(m:Int).tdiv 128=((m / 128:Nat):Int):=by rw[Int.tdiv_eq_ediv_of_nonneg (by omega)];omega
theorem aO9 (m:Nat):oX [[C.vl (.int .u8 (IntKind.u8.wrap (128+(m:Int).tmod 128)))]]=[(m % 128+128).toUInt8]:=by
 rw[rB1,BX,show (128:Int)+((m % 128:Nat):Int)=((m % 128+128:Nat):Int) by omega,ZO (by omega)];rfl
theorem zP:Meets Tryz.prog 36 (MO fun n=>.string (mk (vi n))).sp:=by
 refine aF Tryz.func36 aS2 1 (by rw[Tryz.ntmps36];decide) (aB _) aA3 ?_
 rintro av H K ⟨⟨h,rfl⟩,hK⟩
 obtain ⟨n,rfl,hn⟩:=oH h
 have hK:K (tS (mk (vi n))) []:=by simpa[MO,NQ] using hK
 simp(maxSteps:=9^6)-dsimp only[go_sem,aIH,aKX]
 refine aL (α:=Nat×List UInt8×Nat) (fun z=>[(0,iS .u64 z.1),(3,tS (mk z.2.1))]) (fun _=>[])
  (fun z=>z.1<=n/\z.2.2<=10/\z.1<128 ^ z.2.2/\0<z.2.2/\z.2.1.length+z.2.2=10/\vi n=z.2.1++uL z.2.2 z.1) (fun z=>z.1) (n,[],10) 0 ⟨Nat.le_refl _,Nat.le_refl _,by show n<128 ^ 10;omega,by show 0<10;decide,rfl,rfl⟩ ?_ ?_ ?_
 · simp -dsimp only[go_sem]<;>simp
 · simp[go_sem]
 rintro ⟨m,o,f⟩ ⟨hmn,hf,hm,hf0,hol,hu⟩
 simp only at hmn hf hm hf0 hol hu ⊢
 by_cases hlt:m<128
 · have hg:decide (128<=(m:Int))=false:=by simp;omega
   rw[gP hf0 hlt] at hu
   have e1:=aL6 hlt
   simp(maxSteps:=9^6)-dsimp only[go_sem,hg,e1,List.length_singleton]
   refine ⟨rfl,by omega,.z (?_)⟩
   rw[<-hu];exact hK
 · have hg:decide (128<=(m:Int))=true:=by simp;omega
   obtain ⟨f,rfl⟩:∃g,f=g+1:=⟨f-1,by omega⟩
   rw[i5 hlt] at hu
   have hm3:m / 128<128 ^ f:=by rw[Nat.pow_succ] at hm;omega
   have hf1:0<f:=by
    rcases Nat.eq_zero_or_pos f with rfl|h0
    · simp at hm;omega
    · exact h0
   have e1:=aO9 m
   simp(maxSteps:=9^6)-dsimp only[go_sem,hg,e1,List.length_singleton,aBQ]
   refine ⟨by decide,⟨by rw[BX];omega,by rw[BX];omega⟩,rfl,by omega,⟨by decide,by omega,by omega⟩,aE (m / 128,o++[(m % 128+128).toUInt8],f) 0 ⟨by show m / 128<=n;omega,by show f<=10;omega,hm3,hf1,by simp;omega,by rw[hu,List.append_assoc];rfl⟩ (by show m / 128<m;omega) ?_ ?_⟩
   · simp -dsimp only[go_sem]<;>simp
   · simp[go_sem]
def WP (f:Int->Value):List S->A:=fun av=>match av with
 |[.va (.c1 (.vl (.int .i64 n)))]=>.c1 (.vl (f n))
 |_=>.gs []
attribute [go_sem] WP
def pY:Nat->Nat->List UInt8->Nat×Nat×Int
 |_,_,[]=>(0,0,1)
 |i,n,c::r=>bif i==9&&decide (1<c.toNat) then (0,0,2) else bif decide (128<=c.toNat) then pY (i+1) (n+c.toNat % 128*128 ^ i) r else bif c.toNat==0&&decide (0<i) then (0,0,2) else (n+c.toNat % 128*128 ^ i,i+1,0)
theorem B0 (i n:Nat):pY i n []=(0,0,1):=by rw[pY]
theorem nV (i n:Nat) (c:UInt8) (r:List UInt8):pY i n (c::r)=bif i==9&&decide (1<c.toNat) then (0,0,2) else bif decide (128<=c.toNat) then pY (i+1) (n+c.toNat % 128*128 ^ i) r else bif c.toNat==0&&decide (0<i) then (0,0,2) else (n+c.toNat % 128*128 ^ i,i+1,0):=by rw[pY]
def vr (l:List UInt8):Nat×Nat×Int:=pY 0 0 l
theorem R8:∀(l:List UInt8) (i a n k:Nat) (e:Int),i<=9->a<128 ^ i->pY i a l=(n,k,e)->(e≠0/\n=0/\k=0/\(e=1\/e=2))\/
 (e=0/\∃m j,n=a+m*128 ^ i/\k=i+j/\j=(uL (10-i) m).length/\0<j/\j<=l.length/\l.take j=uL (10-i) m/\(0<i->0<m)/\n<18446744073709551616)
 |[],i,a,n,k,e,_,_,h=>by
  rw[B0] at h
  simp only[Prod.mk.injEq] at h
  obtain ⟨rfl,rfl,rfl⟩:=h
  exact .inl ⟨by decide,rfl,rfl,.inl rfl⟩
 |c::r,i,a,n,k,e,hi,ha,h=>by
  rw[nV] at h
  have hpos:0<128 ^ i:=Nat.pow_pos (by decide)
  cases c1:i==9&&decide (1<c.toNat) with
  |true=>
   rw[c1] at h
   simp only[cond_true,Prod.mk.injEq] at h
   obtain ⟨rfl,rfl,rfl⟩:=h
   exact .inl ⟨by decide,rfl,rfl,.inr rfl⟩
  |false=>
  rw[c1,cond_false] at h
  cases c2:decide (128<=c.toNat) with
  |true=>
   rw[c2,cond_true] at h
   have h128:=of_decide_eq_true c2
   have hi9:i≠9:=fun e=>by subst e;rw[show ((9:Nat)==9)=true from rfl,Bool.true_and] at c1;have:=of_decide_eq_false c1;omega
   have hc:=c.toNat_lt
   have hm:c.toNat % 128<=127:=by omega
   have hmul:c.toNat % 128*128 ^ i<=127*128 ^ i:=Nat.mul_le_mul_right _ hm
   have hp:128 ^ (i+1)=128*128 ^ i:=by rw[Nat.pow_succ,Nat.mul_comm]
   rcases R8 r (i+1) _ n k e (by omega) (by rw[hp];omega) h with h|⟨he,m,j,h1,h2,h3,h4,h5,h6,h7,h8⟩
   · exact .inl h
   · have hm0:=h7 (by omega)
     have hfu:10-i=(10-(i+1))+1:=by omega
     have hmm:¬ c.toNat % 128+128*m<128:=by omega
     have hd:(c.toNat % 128+128*m) / 128=m:=by omega
     have hr:(c.toNat % 128+128*m) % 128+128=c.toNat:=by omega
     have hu:uL (10-i) (c.toNat % 128+128*m)=c::uL (10-(i+1)) m:=by
      rw[hfu,i5 hmm,hd,hr]
      simp
     refine .inr ⟨he,c.toNat % 128+128*m,j+1,?_,by omega,by rw[hu,List.length_cons,h3],by omega,by simp;omega,by rw[hu,List.take_succ_cons,h6],fun _=>by omega,h8⟩
     rw[h1,hp,Nat.add_mul,Nat.mul_comm 128 m,Nat.mul_assoc,Nat.add_assoc]
  |false=>
   rw[c2,cond_false] at h
   have hlt:c.toNat<128:=by have:=of_decide_eq_false c2;omega
   cases c3:c.toNat==0&&decide (0<i) with
   |true=>
    rw[c3] at h
    simp only[cond_true,Prod.mk.injEq] at h
    obtain ⟨rfl,rfl,rfl⟩:=h
    exact .inl ⟨by decide,rfl,rfl,.inr rfl⟩
   |false=>
    rw[c3] at h
    simp only[cond_false,Prod.mk.injEq] at h
    obtain ⟨rfl,rfl,rfl⟩:=h
    have hm:c.toNat % 128=c.toNat:=by omega
    have hu:uL (10-i) c.toNat=[c]:=by rw[gP (by omega) hlt];simp
    refine .inr ⟨rfl,c.toNat,1,by rw[hm],rfl,by rw[hu];rfl,by decide,by simp,by rw[hu];rfl,fun h0=>?_,?_⟩
    · rw[decide_eq_true h0,Bool.and_true] at c3
      have:=ne_of_beq_false c3
      omega
    · rw[hm]
      rcases bB i 9 with h9|h9
      · have h1:128 ^ i<=128 ^ 8:=Nat.pow_le_pow_right (by decide) (by omega)
        have h2:c.toNat*128 ^ i<=127*128 ^ i:=Nat.mul_le_mul_right _ (by omega)
        have h3:(128:Nat) ^ 8=72057594037927936:=by decide
        omega
      · obtain rfl:i=9:=by omega
        rw[show ((9:Nat)==9)=true from rfl,Bool.true_and] at c1
        have h1:=of_decide_eq_false c1
        have h3:(128:Nat) ^ 9=9223372036854775808:=by decide
        rw[h3] at ha ⊢
        have:c.toNat<=1:=by omega
        rcases Nat.le_one_iff_eq_zero_or_eq_one.1 this with h|h<;>rw[h]<;>omega
theorem fL (l:List UInt8):((vr l).2.2≠0/\(vr l).1=0/\(vr l).2.1=0/\((vr l).2.2=1\/(vr l).2.2=2))\/
 ((vr l).2.2=0/\(vr l).2.1=(vi (vr l).1).length/\0<(vr l).2.1/\(vr l).2.1<=l.length/\l.take (vr l).2.1=vi (vr l).1/\(vr l).1<18446744073709551616):=by
 rcases R8 l 0 0 (vr l).1 (vr l).2.1 (vr l).2.2 (by decide) (by decide) rfl with h|⟨h0,m,j,h1,h2,h3,h4,h5,h6,_,h8⟩
 · exact .inl h
 · have e1:(vr l).1=m:=by rw[h1];simp
   have e2:(vr l).2.1=j:=by rw[h2];simp
   rw[e1] at h8
   rw[e1,e2]
   exact .inr ⟨h0,h3,h4,h5,h6,h8⟩
theorem P8:∀(f i a m:Nat) (r:List UInt8),f+i=10->0<f->m*128 ^ i<18446744073709551616->(0<i->0<m)->pY i a (uL f m++r)=(a+m*128 ^ i,i+(uL f m).length,0)
 |0,i,a,m,r,_,h,_,_=>absurd h (by decide)
 |f+1,i,a,m,r,hf,_,hm,h0=>by
  by_cases hlt:m<128
  · rw[gP (by omega) hlt]
    show pY i a (m.toUInt8::r)=_
    have ht:m.toUInt8.toNat=m:=by show m % 256=m;omega
    rw[nV,ht]
    have c1:(i==9&&decide (1<m))=false:=by
     cases h9:i==9 with
     |false=>rfl
     |true=>
      have h9:i=9:=eq_of_beq h9
      subst h9
      rw[Bool.true_and,decide_eq_false_iff_not]
      have h3:(128:Nat) ^ 9=9223372036854775808:=by decide
      rw[h3] at hm
      omega
    have c3:(m==0&&decide (0<i))=false:=by
     cases hz:m==0 with
     |false=>rfl
     |true=>
      have hz:m=0:=eq_of_beq hz
      rw[Bool.true_and,decide_eq_false_iff_not]
      intro hi
      have:=h0 hi
      omega
    rw[c1,decide_eq_false (show ¬ 128<=m by omega),c3,show m % 128=m by omega]
    rfl
  · rw[i5 hlt]
    show pY i a ((m % 128+128).toUInt8::(uL f (m / 128)++r))=_
    have ht:(m % 128+128).toUInt8.toNat=m % 128+128:=by show (m % 128+128) % 256=_;omega
    have hi9:i<9:=by
     rcases bB i 9 with h|h
     · exact h
     · have:128 ^ 9<=128 ^ i:=Nat.pow_le_pow_right (by decide) h
       have h3:(128:Nat) ^ 9=9223372036854775808:=by decide
       have h4:128*128 ^ i<=m*128 ^ i:=Nat.mul_le_mul_right _ (by omega)
       omega
    have c1:(i==9&&decide (1<(m % 128+128)))=false:=by
     rw[show (i==9)=false by simp;omega];rfl
    have hp:128 ^ (i+1)=128*128 ^ i:=by rw[Nat.pow_succ,Nat.mul_comm]
    have hdm:m % 128+128*(m / 128)=m:=Nat.mod_add_div m 128
    have hsum:m % 128*128 ^ i+m / 128*128 ^ (i+1)=m*128 ^ i:=by
     rw[hp,<-Nat.mul_assoc,Nat.mul_comm (m / 128) 128,<-Nat.add_mul,hdm]
    rw[nV,ht,c1,decide_eq_true (show 128<=m % 128+128 by omega),cond_false,cond_true,show (m % 128+128) % 128=m % 128 by omega,
     P8 f (i+1) _ (m / 128) r (by omega) (by omega) (by omega) (fun _=>by omega)]
    rw[Nat.add_assoc,hsum,List.length_cons,show i+1+(uL f (m / 128)).length=i+((uL f (m / 128)).length+1) by omega]
theorem ZI {n:Nat} (h:n<18446744073709551616) (r:List UInt8):vr (vi n++r)=(n,(vi n).length,0):=by
 have:=P8 10 0 0 n r rfl (by decide) (by simpa using h) (fun h=>absurd h (by decide))
 unfold vr vi
 rw[this];simp
theorem J2 (n:Nat):0<(vi n).length:=by
 unfold vi
 by_cases h:n<128
 · rw[gP (by decide) h];exact Nat.one_pos
 · rw[i5 h];simp
def a7 (l:List UInt8):Nat×List UInt8×Int:=bif (vr l).2.2 != 0 then (0,[],(vr l).2.2) else ((vr l).1,l.drop (vr l).2.1,0)
def bL (l:List UInt8):List UInt8×List UInt8×Int:=bif (a7 l).2.2 != 0 then ([],[],(a7 l).2.2) else bif decide ((a7 l).2.1.length<(a7 l).1) then ([],[],1) else ((a7 l).2.1.take (a7 l).1,(a7 l).2.1.drop (a7 l).1,0)
def bC (l:List UInt8) (last:Int):(Int×List UInt8)×List UInt8×Int:=
 bif (a7 l).2.2 != 0 then ((0,[]),[],(a7 l).2.2) else bif decide (2147483647<(a7 l).1) then ((0,[]),[],4) else bif decide (((a7 l).1:Int)<=last) then ((0,[]),[],2)
 else ((((a7 l).1:Int),(bL (a7 l).2.1).1),(bL (a7 l).2.1).2.1,(bL (a7 l).2.1).2.2)
theorem cU {x:Int} (h:(x != 0)=false):x=0:=by simpa using h
theorem eL {x:Int} (h:(x != 0)=true):x≠0:=by simpa using h
theorem sA (l:List UInt8):((a7 l).2.2≠0/\(a7 l).1=0/\(a7 l).2.1=[]/\((a7 l).2.2=1\/(a7 l).2.2=2))\/((a7 l).2.2=0/\l=vi (a7 l).1++(a7 l).2.1/\(a7 l).1<18446744073709551616):=by
 unfold a7
 rcases fL l with ⟨h,h1,h2,h3⟩|⟨h0,h1,h2,h3,h4,h5⟩
 · rw[show ((vr l).2.2 != 0)=true by simpa using h]
   exact .inl ⟨h,rfl,rfl,h3⟩
 · rw[h0]
   refine .inr ⟨rfl,?_,h5⟩
   show l=vi (vr l).1++l.drop (vr l).2.1
   rw[<-h4,List.take_append_drop]
theorem OZ {n:Nat} (h:n<18446744073709551616) (r:List UInt8):a7 (vi n++r)=(n,r,0):=by
 unfold a7
 rw[ZI h r]
 show (n,(vi n++r).drop (vi n).length,(0:Int))=_
 rw[List.drop_left]
theorem t7 (l:List UInt8):(a7 l).2.1.length<=l.length/\((a7 l).2.2=0->(a7 l).2.1.length<l.length):=by
 rcases sA l with ⟨h,_,h2,_⟩|⟨_,h1,_⟩
 · rw[h2];exact ⟨Nat.zero_le _,fun e=>absurd e h⟩
 · have:=congrArg List.length h1
   have hp:=J2 (a7 l).1
   rw[List.length_append] at this
   exact ⟨by omega,fun _=>by omega⟩
theorem NR (l:List UInt8):((bL l).2.2≠0/\(bL l).1=[]/\(bL l).2.1=[]/\((bL l).2.2=1\/(bL l).2.2=2))\/((bL l).2.2=0/\l=vi (bL l).1.length++(bL l).1++(bL l).2.1):=by
 unfold bL
 rcases sA l with ⟨h,_,_,h3⟩|⟨h0,h1,h2⟩
 · rw[show ((a7 l).2.2 != 0)=true by simpa using h]
   exact .inl ⟨h,rfl,rfl,h3⟩
 · rw[h0]
   show (_\/_)
   rw[show ((0:Int) != 0)=false from rfl,cond_false]
   cases hd:decide ((a7 l).2.1.length<(a7 l).1) with
   |true=>exact .inl ⟨by show (1:Int)≠0;decide,rfl,rfl,.inl rfl⟩
   |false=>
    have:=of_decide_eq_false hd
    refine .inr ⟨rfl,?_⟩
    show l=vi ((a7 l).2.1.take (a7 l).1).length++(a7 l).2.1.take (a7 l).1++(a7 l).2.1.drop (a7 l).1
    rw[List.append_assoc,List.take_append_drop,List.length_take,Nat.min_eq_left (by omega)]
    exact h1
theorem X6 {x:List UInt8} (h:x.length<18446744073709551616) (r:List UInt8):bL (vi x.length++x++r)=(x,r,0):=by
 unfold bL
 rw[List.append_assoc,OZ h]
 show (bif decide ((x++r).length<x.length) then _ else ((x++r).take x.length,(x++r).drop x.length,(0:Int)))=_
 rw[decide_eq_false (by simp),List.take_left,List.drop_left];rfl
theorem HV (l:List UInt8):(bL l).1.length<=l.length/\(bL l).2.1.length<=l.length/\((bL l).2.2=0->(bL l).1.length+(bL l).2.1.length<l.length):=by
 rcases NR l with ⟨h,h1,h2,_⟩|⟨_,h1⟩
 · rw[h1,h2];exact ⟨Nat.zero_le _,Nat.zero_le _,fun e=>absurd e h⟩
 · have:=congrArg List.length h1
   have hp:=J2 (bL l).1.length
   rw[List.length_append,List.length_append] at this
   exact ⟨by omega,by omega,fun _=>by omega⟩
theorem OL (l:List UInt8) (last:Int):((bC l last).2.2≠0)\/((bC l last).2.2=0/\last<(bC l last).1.1/\0<=(bC l last).1.1/\(bC l last).1.1<=2147483647/\l=vi (bC l last).1.1.toNat++(vi (bC l last).1.2.length++(bC l last).1.2)++(bC l last).2.1):=by
 unfold bC
 rcases sA l with ⟨h,_,_,_⟩|⟨h0,h1,h2⟩
 · rw[show ((a7 l).2.2 != 0)=true by simpa using h]
   exact .inl h
 · rw[h0,show ((0:Int) != 0)=false from rfl,cond_false]
   cases hd:decide (2147483647<(a7 l).1) with
   |true=>exact .inl (by show (4:Int)≠0;decide)
   |false=>
   rw[cond_false]
   cases hq:decide (((a7 l).1:Int)<=last) with
   |true=>exact .inl (by show (2:Int)≠0;decide)
   |false=>
   rw[cond_false]
   have g1:=of_decide_eq_false hd
   have g2:=of_decide_eq_false hq
   rcases NR (a7 l).2.1 with ⟨h,_,_,_⟩|⟨h3,h4⟩
   · exact .inl h
   · refine .inr ⟨h3,by show last<((a7 l).1:Int);omega,by show (0:Int)<=((a7 l).1:Int);omega,by show ((a7 l).1:Int)<=2147483647;omega,?_⟩
     show l=vi ((a7 l).1:Int).toNat++(vi (bL (a7 l).2.1).1.length++(bL (a7 l).2.1).1)++(bL (a7 l).2.1).2.1
     rw[Int.toNat_natCast,List.append_assoc,<-h4]
     exact h1
theorem aLH {n:Nat} {x:List UInt8} {last:Int} (h1:n<=2147483647) (h2:last<n) (h:x.length<18446744073709551616) (r:List UInt8):bC (vi n++(vi x.length++x)++r) last=(((n:Int),x),r,0):=by
 unfold bC
 rw[List.append_assoc,OZ (by omega)]
 show (bif decide (2147483647<n) then _ else bif decide ((n:Int)<=last) then _ else (((n:Int),(bL (vi x.length++x++r)).1),(bL (vi x.length++x++r)).2.1,(bL (vi x.length++x++r)).2.2))=_
 rw[decide_eq_false (by omega),decide_eq_false (by omega),X6 h];rfl
theorem y2 (l:List UInt8) (last:Int):(bC l last).1.2.length<=l.length/\(bC l last).2.1.length<=l.length/\((bC l last).2.2=0->(bC l last).1.2.length+(bC l last).2.1.length<l.length):=by
 have h1:=t7 l
 have h2:=HV (a7 l).2.1
 unfold bC
 cases (a7 l).2.2 != 0 with
 |true=>exact ⟨Nat.zero_le _,Nat.zero_le _,fun e=>by
  rcases sA l with ⟨h,_⟩|⟨h,_⟩
  · exact absurd e h
  · have:=h1.2 h;show 0+0<_;omega⟩
 |false=>
 rw[cond_false]
 cases decide (2147483647<(a7 l).1) with
 |true=>exact ⟨Nat.zero_le _,Nat.zero_le _,fun e=>absurd e (by show (4:Int)≠0;decide)⟩
 |false=>
 rw[cond_false]
 cases decide (((a7 l).1:Int)<=last) with
 |true=>exact ⟨Nat.zero_le _,Nat.zero_le _,fun e=>absurd e (by show (2:Int)≠0;decide)⟩
 |false=>
  exact ⟨Nat.le_trans h2.1 h1.1,Nat.le_trans h2.2.1 h1.1,fun e=>Nat.lt_of_lt_of_le (h2.2.2 e) h1.1⟩
def iF (n:Int):Nat:=if n<0 then (2*(-(n+1))+1).toNat else (2*n).toNat
def fD (n:Nat):Int:=if n % 2=1 then -1-((n / 2:Nat):Int) else ((n / 2:Nat):Int)
inductive Vl where
 |mk (k n:Int) (s:ByteArray) (l:List Vl) (f:List (Int×Vl))
instance:Inhabited Vl:=⟨.mk 0 0 ByteArray.empty [] []⟩
def Vl.k:Vl->Int | .mk k _ _ _ _=>k
def Vl.n:Vl->Int | .mk _ n _ _ _=>n
def Vl.s:Vl->ByteArray | .mk _ _ s _ _=>s
def Vl.l:Vl->List Vl | .mk _ _ _ l _=>l
def Vl.f:Vl->List (Int×Vl) | .mk _ _ _ _ f=>f
mutual
def aP:Vl->List C
 |.mk k n s l f=>[.vl (.int .i64 k),.vl (.int .i64 n),.vl (.string s),.fz (mL l),.fz (mK f)]
def mL:List Vl->List (List C)
 |[]=>[]
 |v::r=>aP v::mL r
def mK:List (Int×Vl)->List (List C)
 |[]=>[]
 | (i,v)::r=>(.vl (.int .i64 i)::aP v)::mK r
end
def bD (x:Int×Vl):List C:=.vl (.int .i64 x.1)::aP x.2
theorem H6:∀l:List Vl,mL l=l.map aP
 |[]=>rfl
 |v::r=>by rw[mL,H6 r];rfl
theorem HJ:∀l:List (Int×Vl),mK l=l.map bD
 |[]=>rfl
 | (i,v)::r=>by rw[mK,HJ r];rfl
theorem aJ (v:Vl):aP v=[.vl (.int .i64 v.k),.vl (.int .i64 v.n),.vl (.string v.s),.fz (v.l.map aP),.fz (v.f.map bD)]:=by
 cases v with
 |mk k n s l f=>rw[aP,H6,HJ];rfl
theorem cH (x:Int×Vl):bD x=[.vl (.int .i64 x.1),.vl (.int .i64 x.2.k),.vl (.int .i64 x.2.n),.vl (.string x.2.s),.fz (x.2.l.map aP),.fz (x.2.f.map bD)]:=by
 show C.vl (.int .i64 x.1)::aP x.2=_
 rw[aJ]
mutual
theorem uW:∀{a b:Vl},aP a=aP b->a=b
 |.mk k n s l f,.mk k' n' s' l' f',h=>by
  rw[aP,aP] at h
  simp only[List.cons.injEq,C.vl.injEq,Value.int.injEq,Value.string.injEq,C.fz.injEq,true_and,and_true] at h
  obtain ⟨rfl,rfl,rfl,h4,h5⟩:=h
  rw[GI h4,HS h5]
theorem GI:∀{a b:List Vl},mL a=mL b->a=b
 |[],[],_=>rfl
 |[],_::_,h=>by rw[mL,mL] at h;cases h
 |_::_,[],h=>by rw[mL,mL] at h;cases h
 |x::a,y::b,h=>by
  rw[mL,mL] at h
  obtain ⟨h1,h2⟩:=List.cons.inj h
  rw[uW h1,GI h2]
theorem HS:∀{a b:List (Int×Vl)},mK a=mK b->a=b
 |[],[],_=>rfl
 |[],(_,_)::_,h=>by rw[mK,mK] at h;cases h
 | (_,_)::_,[],h=>by rw[mK,mK] at h;cases h
 | (i,x)::a,(j,y)::b,h=>by
  rw[mK,mK] at h
  obtain ⟨h1,h2⟩:=List.cons.inj h
  obtain ⟨h3,h4⟩:=List.cons.inj h1
  have e:i=j:=by simpa using h3
  rw[e,uW h4,HS h2]
end
noncomputable def C.vv:=sS aP
@[go_sem] theorem iR (v:Vl):C.vv (aP v)=v:=jV uW v
mutual
def Vl.h:Vl->Nat
 |.mk _ _ _ l f=>max (Vl.hl l) (Vl.hf f)+1
def Vl.hl:List Vl->Nat
 |[]=>0
 |v::r=>max v.h (Vl.hl r)
def Vl.hf:List (Int×Vl)->Nat
 |[]=>0
 | (_,v)::r=>max v.h (Vl.hf r)
end
theorem Vl.h_pos (v:Vl):0<v.h:=by cases v;rw[Vl.h];omega
theorem Vl.hl_mem:∀{l:List Vl} {v:Vl},v∈l->v.h<=Vl.hl l
 |x::l,v,h=>by
  rw[Vl.hl]
  rcases List.mem_cons.1 h with rfl|h
  · omega
  · have:=Vl.hl_mem h;omega
theorem Vl.hf_mem:∀{l:List (Int×Vl)} {x:Int×Vl},x∈l->x.2.h<=Vl.hf l
 | (i,y)::l,x,h=>by
  rw[Vl.hf]
  rcases List.mem_cons.1 h with rfl|h
  · dsimp only;omega
  · have:=Vl.hf_mem h;omega
theorem Vl.h_l {v x:Vl} (h:x∈v.l):x.h<v.h:=by
 cases v with
 |mk k n s l f=>have:=Vl.hl_mem (show x∈l from h);rw[Vl.h];omega
theorem Vl.h_f {v:Vl} {x:Int×Vl} (h:x∈v.f):x.2.h<v.h:=by
 cases v with
 |mk k n s l f=>have:=Vl.hf_mem (show x∈f from h);rw[Vl.h];omega
inductive VlOk:Vl->Prop
 |mk {k n:Int} {s:ByteArray} {l:List Vl} {f:List (Int×Vl)}:bT k->bT n->s.size<=9223372036854775807->l.length*80<=140737488355328->f.length*88<=140737488355328->(∀v∈l,VlOk v)->(∀x∈f,bT x.1)->(∀x∈f,VlOk x.2)->VlOk (.mk k n s l f)
theorem VlOk.k {v:Vl} (h:VlOk v):bT v.k:=by cases h;assumption
theorem VlOk.n {v:Vl} (h:VlOk v):bT v.n:=by cases h;assumption
theorem VlOk.s {v:Vl} (h:VlOk v):v.s.size<=9223372036854775807:=by cases h;assumption
theorem VlOk.ll {v:Vl} (h:VlOk v):v.l.length*80<=140737488355328:=by cases h;assumption
theorem VlOk.lf {v:Vl} (h:VlOk v):v.f.length*88<=140737488355328:=by cases h;assumption
theorem VlOk.l {v:Vl} (h:VlOk v):∀x∈v.l,VlOk x:=by cases h;assumption
theorem VlOk.fn {v:Vl} (h:VlOk v):∀x∈v.f,bT x.1:=by cases h;assumption
theorem VlOk.f {v:Vl} (h:VlOk v):∀x∈v.f,VlOk x.2:=by cases h;assumption
def o9 (r:List C):Prop:=∃v,r=aP v/\VlOk v
theorem LF {v:Vl} (h:VlOk v):o9 (aP v):=⟨v,rfl,h⟩
def aD1:PC:=.seq (.reg [.e 2 (.bx 29 (.t 0)),.e 4 (.al (.agg cS) 29),.q 5 (.mv (.k (.bool false)))]) (.seq (.seq (.reg [.q 6 (.mv (.i 0))]) (.block 0 (.loop (.seq (.seq (.reg [.v 7 6,.q 8 (.fa 4 (.t 2)),.l 9 (.ld1 (.t 8)),.q 10 (.lnL (.t 9)),.q 11 (.bin .lss true (.t 7) (.t 10)),.v 12 11,⟨some 13,(some (12,true)),.q (.fa 0 (.t 2))⟩,⟨some 14,(some (12,true)),.l (.ld1 (.t 13))⟩,⟨some 15,(some (12,true)),.q (.bin .eql true (.t 14) (.i 6))⟩,.a 16 (.pick (.t 12) (.t 15) (.k (.bool false)))]) (.cond (.t 16) .skip (.exit 0))) (.seq (.block 1 (.seq (.reg [.q 19 (.fa 4 (.t 2)),.l 20 (.ld1 (.t 19)),.v 21 6,.l 22 (.ia 6 (.t 20) (.t 21)),.q 23 (.fa 0 (.t 22)),.l 24 (.ld1 (.t 23)),.v 25 1,.q 26 (.bin .eql true (.t 24) (.t 25))]) (.cond (.t 26) (.seq (.reg [.q 27 (.fa 4 (.t 2)),.l 28 (.ld1 (.t 27)),.v 29 6,.l 30 (.ia 6 (.t 28) (.t 29)),.q 31 (.fa 1 (.t 30)),.l 32 (.ldn 5 (.t 31)),.s (.st 5 (.t 4) (.t 32)),.q 5 (.mv (.k (.bool true)))]) .ret) .skip))) (.reg [.v 17 6,.q 18 (.bin .add true (.t 17) (.i 1)),.v 6 18])))))) (.seq (.reg [.q 33 (.bd [(.int .i64 0),(.int .i64 0),(.string (mk [])),(.slice none 0 0),(.slice none 0 0)] []),.s (.st 5 (.t 4) (.t 33)),.q 5 (.mv (.k (.bool false)))]) .ret))
def aHN:List RV:=[.ld (.ldn 5 (.t 4)),.mv (.t 5)]
theorem aWS:aO Tryz.prog true ⟨fun _ _=>.own [],fun _=>false⟩ Tryz.f50=some (aD1,aHN):=by kernel_rfl
def aEG:PC:=.seq (.reg [.e 2 (.bx 25 (.t 0)),.e 3 (.bx 42 (.t 1)),.e 4 (.al (.agg cS) 29)]) (.seq (.reg [.l 5 (.ldn 3 (.t 2)),.l 6 (.ldn 4 (.t 3)),.a 7 (.cl 92 [(.t 5),(.t 6),(.i 12)] []),.s (.st 5 (.t 4) (.t 7))]) .ret)
def aDP:List RV:=[.ld (.ldn 5 (.t 4))]
theorem aT4:aO Tryz.prog true ⟨fun _ _=>.own [],fun _=>false⟩ Tryz.f51=some (aEG,aDP):=by kernel_rfl
def aF7:PC:=.seq (.reg [.q 4 (.mv (.i 0))]) (.seq (.seq (.reg [.v 5 0,.v 6 1,.q 7 (.bin .lss true (.t 5) (.t 6))]) (.cond (.t 7) (.seq (.reg [.q 4 (.mv (.i (-1)))]) .ret) .skip)) (.seq (.seq (.reg [.v 8 0,.v 9 1,.q 10 (.bin .gtr true (.t 8) (.t 9))]) (.cond (.t 10) (.seq (.reg [.q 4 (.mv (.i 1))]) .ret) .skip)) (.seq (.reg [.q 4 (.mv (.i 0))]) .ret)))
def aFJ:List RV:=[.mv (.t 4)]
theorem aV7:aO Tryz.prog true ⟨fun _ _=>.own [],fun _=>false⟩ Tryz.f58=some (aF7,aFJ):=by kernel_rfl
def aEV:PC:=.seq (.reg [.q 4 (.mv (.i 0))]) (.seq (.seq (.reg [.q 5 (.mv (.i 0))]) (.block 0 (.loop (.seq (.seq (.reg [.v 6 5,.v 7 0,.q 8 (.lnS (.t 7)),.q 9 (.bin .lss true (.t 6) (.t 8)),.v 10 9,⟨some 11,(some (10,true)),.q (.mv (.t 5))⟩,⟨some 12,(some (10,true)),.q (.mv (.t 1))⟩,⟨some 13,(some (10,true)),.q (.lnS (.t 12))⟩,⟨some 14,(some (10,true)),.q (.bin .lss true (.t 11) (.t 13))⟩,.a 15 (.pick (.t 10) (.t 14) (.k (.bool false)))]) (.cond (.t 15) .skip (.exit 0))) (.seq (.block 1 (.seq (.seq (.reg [.v 18 0,.v 19 5,.a 20 (.ix (.t 18) (.t 19)),.v 21 1,.v 22 5,.a 23 (.ix (.t 21) (.t 22)),.q 24 (.bin .lss true (.t 20) (.t 23))]) (.cond (.t 24) (.seq (.reg [.q 4 (.mv (.i (-1)))]) .ret) .skip)) (.seq (.reg [.v 25 0,.v 26 5,.a 27 (.ix (.t 25) (.t 26)),.v 28 1,.v 29 5,.a 30 (.ix (.t 28) (.t 29)),.q 31 (.bin .gtr true (.t 27) (.t 30))]) (.cond (.t 31) (.seq (.reg [.q 4 (.mv (.i 1))]) .ret) .skip)))) (.reg [.v 16 5,.q 17 (.bin .add true (.t 16) (.i 1)),.v 5 17])))))) (.seq (.reg [.v 32 0,.q 33 (.lnS (.t 32)),.v 34 1,.q 35 (.lnS (.t 34)),.a 36 (.cq 58 [(.t 33),(.t 35)]),.v 4 36]) .ret))
def aER:List RV:=[.mv (.t 4)]
theorem aVK:aO Tryz.prog true ⟨fun r k=>if r=8/\k=4 then .q else .own [],fun _=>false⟩ Tryz.f59=some (aEV,aER):=by kernel_rfl
def aKJ:PC:=.seq (.reg [.e 2 (.bx 25 (.t 0)),.e 4 (.al (.agg #[(.string (mk [])),(.slice none 0 0)]) 48),.q 5 (.mv (.k (.bool false)))]) (.seq (.seq (.reg [.q 6 (.mv (.i 0))]) (.block 0 (.loop (.seq (.seq (.reg [.v 7 6,.q 8 (.fa 2 (.t 2)),.l 9 (.ld1 (.t 8)),.q 10 (.lnL (.t 9)),.q 11 (.bin .lss true (.t 7) (.t 10))]) (.cond (.t 11) .skip (.exit 0))) (.seq (.block 1 (.seq (.reg [.q 14 (.fa 2 (.t 2)),.l 15 (.ld1 (.t 14)),.v 16 6,.l 17 (.ia 2 (.t 15) (.t 16)),.q 18 (.fa 0 (.t 17)),.l 19 (.ld1 (.t 18)),.v 20 1,.q 21 (.bin .eql true (.t 19) (.t 20))]) (.cond (.t 21) (.seq (.reg [.q 22 (.fa 2 (.t 2)),.l 23 (.ld1 (.t 22)),.v 24 6,.l 25 (.ia 2 (.t 23) (.t 24)),.l 26 (.ldn 2 (.t 25)),.s (.st 2 (.t 4) (.t 26)),.q 5 (.mv (.k (.bool true)))]) .ret) .skip))) (.reg [.v 12 6,.q 13 (.bin .add true (.t 12) (.i 1)),.v 6 13])))))) (.seq (.reg [.q 27 (.bd [(.string (mk [])),(.slice none 0 0)] []),.s (.st 2 (.t 4) (.t 27)),.q 5 (.mv (.k (.bool false)))]) .ret))
def aGN:List RV:=[.ld (.ldn 2 (.t 4)),.mv (.t 5)]
theorem aWT:aO Tryz.prog true ⟨fun _ _=>.own [],fun _=>false⟩ Tryz.f62=some (aKJ,aGN):=by kernel_rfl
def IW:PC:=.seq (.reg [.e 3 (.bx 25 (.t 0)),.e 4 (.bx 42 (.t 1)),.e 6 (.al (.agg cS) 29)]) (.seq (.seq (.reg [.l 11 (.ldn 3 (.t 3)),.l 12 (.ldn 4 (.t 4)),.a 13 (.cq 103 [(.t 11),(.t 12)]),.q 14 (.not (.t 13)),.v 15 14,⟨some 16,(some (15,false)),.q (.mv (.t 2))⟩,⟨some 17,(some (15,false)),.q (.bin .lss true (.t 16) (.i 1))⟩,.a 18 (.pick (.t 15) (.k (.bool true)) (.t 17))]) (.cond (.t 18) (.seq (.reg [.q 19 (.bd [(.int .i64 0),(.int .i64 0),(.string (mk [])),(.slice none 0 0),(.slice none 0 0)] []),.s (.st 5 (.t 6) (.t 19))]) .ret) .skip)) (.seq (.reg [.q 20 (.fa 0 (.t 4)),.l 21 (.ld1 (.t 20)),.q 22 (.bd [(.int .i64 0),(.int .i64 0),(.string (mk [])),(.slice none 0 0),(.slice none 0 0)] [(0,1,(.t 21))]),.e 7 (.al (.agg cS) 29),.s (.st 5 (.t 7) (.t 22))]) (.seq (.seq (.reg [.q 23 (.fa 0 (.t 4)),.l 24 (.ld1 (.t 23)),.q 25 (.bin .neq true (.t 24) (.i 6))]) (.cond (.t 25) (.seq (.reg [.l 26 (.ldn 5 (.t 7)),.s (.st 5 (.t 6) (.t 26))]) .ret) .skip)) (.seq (.reg [.l 28 (.ldn 3 (.t 3)),.q 29 (.fa 2 (.t 4)),.l 30 (.ld1 (.t 29)),.a 31 (.cl 62 [(.t 28),(.t 30)] []),.v 27 31,.q 32 (.ex (.t 27) 0),.q 33 (.ex (.t 27) 1),.e 8 (.al (.agg #[(.string (mk [])),(.slice none 0 0)]) 48),.s (.st 2 (.t 8) (.t 32)),.v 9 33]) (.seq (.seq (.reg [.q 10 (.mv (.i 0))]) (.block 0 (.loop (.seq (.seq (.reg [.v 34 10,.q 35 (.fa 1 (.t 8)),.l 36 (.ld1 (.t 35)),.q 37 (.lnL (.t 36)),.q 38 (.bin .lss true (.t 34) (.t 37))]) (.cond (.t 38) .skip (.exit 0))) (.seq (.block 1 (.seq (.reg [.q 41 (.fa 1 (.t 8)),.l 42 (.ld1 (.t 41)),.v 43 10,.l 44 (.ia 7 (.t 42) (.t 43)),.q 45 (.fa 6 (.t 44)),.l 46 (.ld1 (.t 45)),.q 47 (.not (.t 46))]) (.cond (.t 47) (.ord  [.q (.q 48 (.fa 4 (.t 7))),.q (.l 49 (.ld1 (.t 48))),.q (.q 50 (.fa 1 (.t 8))),.q (.l 51 (.ld1 (.t 50))),.q (.v 52 10),.q (.l 53 (.ia 7 (.t 51) (.t 52))),.q (.q 54 (.fa 0 (.t 53))),.q (.l 55 (.ld1 (.t 54))),.q (.l 56 (.ldn 3 (.t 3))),.q (.q 57 (.fa 1 (.t 8))),.q (.l 58 (.ld1 (.t 57))),.q (.v 59 10),.q (.l 60 (.ia 7 (.t 58) (.t 59))),.q (.q 61 (.fa 2 (.t 60))),.q (.l 62 (.ldn 4 (.t 61))),.q (.v 63 2),.q (.q 64 (.bin .sub true (.t 63) (.i 1))),.m (.a 65 (.cl 92 [(.t 56),(.t 62),(.t 64)] [])),.rc (.q 48 (.fa 4 (.t 7))),.rc (.l 49 (.ld1 (.t 48))),.rc (.q 50 (.fa 1 (.t 8))),.rc (.l 51 (.ld1 (.t 50))),.rc (.v 52 10),.rc (.l 53 (.ia 7 (.t 51) (.t 52))),.rc (.q 54 (.fa 0 (.t 53))),.rc (.l 55 (.ld1 (.t 54))),.q (.q 66 (.bd [(.int .i64 0),(.int .i64 0),(.int .i64 0),(.string (mk [])),(.slice none 0 0),(.slice none 0 0)] [(0,1,(.t 55)),(1,5,(.t 65))])),.m (.e 67 (.bsl 76 6 [(.t 66)])),.rc (.q 48 (.fa 4 (.t 7))),.rc (.l 49 (.ld1 (.t 48))),.m (.e 68 (.ap 76 6 88 (.t 49) (.t 67))),.q (.q 69 (.fa 4 (.t 7))),.m (.s (.st 1 (.t 69) (.t 68)))]) .skip))) (.reg [.v 39 10,.q 40 (.bin .add true (.t 39) (.i 1)),.v 10 40])))))) (.seq (.reg [.l 70 (.ldn 5 (.t 7)),.s (.st 5 (.t 6) (.t 70))]) .ret))))))
def HD:List RV:=[.ld (.ldn 5 (.t 6))]
theorem aV8:aO Tryz.prog true ⟨fun r k=>if r=1/\k=2 then .q else .own [],fun _=>false⟩ Tryz.f92=some (IW,HD):=by kernel_rfl
def YX:PC:=.seq (.reg [.e 2 (.bx 25 (.t 0)),.e 3 (.bx 42 (.t 1)),.q 4 (.mv (.k (.bool false)))]) (.seq (.reg [.l 5 (.ldn 3 (.t 2)),.l 6 (.ldn 4 (.t 3)),.a 7 (.cq 128 [(.t 5),(.t 6)]),.v 4 7]) .ret)
def XC:List RV:=[.mv (.t 4)]
theorem aK8:aO Tryz.prog true ⟨fun r k=>if r=1/\k=2 then .q else .own [],fun _=>false⟩ Tryz.f103=some (YX,XC):=by kernel_rfl
def mG (a b:Int):Int:=bif decide (a<b) then -1 else bif decide (b<a) then 1 else 0
def F2:List S->Prop:=fun av=>match av with
 |[.va (.c1 (.vl (.int .i64 _))),.va (.c1 (.vl (.int .i64 _)))]=>True
 |_=>False
theorem kK {av:List S} (h:F2 av):∃a b:Int,av=[iS .i64 a,iS .i64 b]:=by
 unfold F2 at h
 split at h
 · exact ⟨_,_,rfl⟩
 · exact h.elim
def W6:List S->A:=fun av=>match av with
 |[.va (.c1 (.vl (.int _ a))),.va (.c1 (.vl (.int _ b)))]=>iA .i64 (mG a b)
 |_=>.gs []
def sgFn:Fun:=⟨F2,W6,fun av h=>by obtain ⟨a,b,rfl⟩:=kK h;trivial⟩
theorem yR:∀av H K,sgFn.sp av H K->av.length=2:=fun av H K h=>by obtain ⟨a,b,rfl⟩:=kK h.1.1;rfl
attribute [go_sem] sgFn F2 W6
theorem XZ:Meets Tryz.prog 58 sgFn.sp:=by
 refine aF Tryz.func58 aV7 2 (by rw[Tryz.ntmps58];decide) (aB _) yR ?_
 rintro av H K ⟨⟨h,rfl⟩,hK⟩
 obtain ⟨a,b,rfl⟩:=kK h
 have hK:K (iS .i64 (mG a b)) []:=hK
 clear h
 unfold mG at hK
 simp(maxSteps:=9^6)-dsimp only[go_sem,aF7,aFJ]
 refine ⟨fun h1=>?_,fun h1=>⟨fun h2=>?_,fun h2=>?_⟩⟩
 · rw[h1] at hK;exact .done hK
 · rw[h1,h2] at hK;exact .done hK
 · rw[h1,h2] at hK;exact .done hK
def bP (v:Vl):List C:=[.vl (.int .i64 v.k),.vl (.int .i64 v.n),.vl (.string v.s),.fz (v.l.map aP),.fz (v.f.map bD)]
theorem m0 {l:List Vl} {i:Nat} {x:Vl} (h:l[i]? = some x) (p:List C->Prop):(∀r,(l.map aP)[((i:Nat):Int).toNat]? = some r->p r)=p [.vl (.int .i64 x.k),.vl (.int .i64 x.n),.vl (.string x.s),.fz (x.l.map aP),.fz (x.f.map bD)]:=by
 rw[<-aJ];exact aT (row:=aP) h p
theorem kO {l:List (Int×Vl)} {i:Nat} {x:Int×Vl} (h:l[i]? = some x) (p:List C->Prop):(∀r,(l.map bD)[((i:Nat):Int).toNat]? = some r->p r)=p [.vl (.int .i64 x.1),.vl (.int .i64 x.2.k),.vl (.int .i64 x.2.n),.vl (.string x.2.s),.fz (x.2.l.map aP),.fz (x.2.f.map bD)]:=by
 rw[<-cH];exact aT (row:=bD) h p
theorem cY {v:Vl} (h:VlOk v):o9 [.vl (.int .i64 v.k),.vl (.int .i64 v.n),.vl (.string v.s),.fz (v.l.map aP),.fz (v.f.map bD)]:=by rw[<-aJ];exact LF h
theorem gD (v:Vl):C.vv [.vl (.int .i64 v.k),.vl (.int .i64 v.n),.vl (.string v.s),.fz (v.l.map aP),.fz (v.f.map bD)]=v:=by rw[<-aJ,iR]
mutual
def szW:Vl->Int
 |.mk _ _ _ l f=>szF (szL 1 l) f
def szL:Int->List Vl->Int
 |a,[]=>a
 |a,v::r=>szL (IntKind.i64.wrap (a+szW v)) r
def szF:Int->List (Int×Vl)->Int
 |a,[]=>a
 |a,(_,v)::r=>szF (IntKind.i64.wrap (a+szW v)) r
end
theorem yH:Meets Tryz.prog 126 (uO fun l=>.bool (cO l)).sp:=by
 refine aF Tryz.func126 aOF 1 (by rw[Tryz.ntmps126];decide) (aB _) oQ ?_
 rintro xs H K ⟨⟨h,rfl⟩,hK⟩
 obtain ⟨s,rfl⟩:=hJ h
 simp -dsimp only[go_sem,Y3,XT] at hK ⊢
 refine ⟨fun h1=>?_,fun h1=>?_⟩
 · refine fG hK ?_
   have:cO (bl s)=false:=by
    simp at h1
    rcases h1 with h1|h1
    · have:bl s=[]:=List.length_eq_zero_iff.1 (by omega)
      rw[this];rfl
    · exact tO (by omega)
   rw[this]
 · have hlen:0<(bl s).length/\(bl s).length<=16:=by simp at h1;omega
   obtain ⟨hl0,hl⟩:=hlen
   refine aL (α:=Nat) (fun i=>[(0,tS s),(3,iS .i64 i)]) (fun i=>[]) (fun i=>i<=(bl s).length/\(∀(j:Nat) (x:UInt8),j<i->(bl s)[j]? = some x->cA x=true)/\(0<i->∀x,(bl s)[0]? = some x->cE x.toNat=true)) (fun i=>(bl s).length-i) 0 0 ⟨by omega,by omega,by omega⟩ ?_ ?_ ?_
   · simp -dsimp only[go_sem];simp
   · simp[go_sem]
   rintro i ⟨hi,ha,hb⟩
   rcases bB i (bl s).length with hlt|hge
   · have hg:decide ((i:Int)<((bl s).length:Int))=true:=by simp;omega
     obtain ⟨c,hc⟩:∃c,(bl s)[i]? = some c:=⟨_,aU hlt⟩
     have bad:(i=0/\cE c.toNat=false)\/cA c=false->W.Fin 0 K (bS false) []:=fun h=>fG hK (by
      rcases h with ⟨rfl,h⟩|h
      · rw[zI hc h]
      · rw[MF hc h])
     have dM:cA c=true->(i=0->cE c.toNat=true)->(i+1<=(bl s).length/\(∀(j:Nat) (x:UInt8),j<i+1->(bl s)[j]? = some x->cA x=true)/\(0<i+1->∀x,(bl s)[0]? = some x->cE x.toNat=true)):=fun h1 h2=>⟨by omega,fun j x hj hx=>by
      rcases bB j i with h4|h4
      · exact ha j x h4 hx
      · obtain rfl:j=i:=by omega
        rw[hc] at hx;obtain rfl:=cI hx;exact h1,fun _ x hx=>by
      rcases Nat.eq_zero_or_pos i with h0|h0
      · subst h0;rw[hc] at hx;obtain rfl:=cI hx;exact h2 rfl
      · exact hb h0 x hx⟩
     have hb255:=c.toNat_lt
     have hcs:(0<=(c.toNat:Int)/\(c.toNat:Int)<=47)\/(48<=(c.toNat:Int)/\(c.toNat:Int)<=57)\/(58<=(c.toNat:Int)/\(c.toNat:Int)<=64)\/(65<=(c.toNat:Int)/\(c.toNat:Int)<=90)\/(91<=(c.toNat:Int)/\(c.toNat:Int)<=94)\/(95<=(c.toNat:Int)/\(c.toNat:Int)<=95)\/(96<=(c.toNat:Int)/\(c.toNat:Int)<=96)\/(97<=(c.toNat:Int)/\(c.toNat:Int)<=122)\/(123<=(c.toNat:Int)/\(c.toNat:Int)<=255):=by omega
     rcases hcs with h2|h2|h2|h2|h2|h2|h2|h2|h2
     · have d1:decide (97<=(c.toNat:Int))=false:=decide_eq_false (by omega)
       have d2:decide ((c.toNat:Int)<=122)=true:=decide_eq_true (by omega)
       have d3:decide (65<=(c.toNat:Int))=false:=decide_eq_false (by omega)
       have d4:decide ((c.toNat:Int)<=90)=true:=decide_eq_true (by omega)
       have d5:((c.toNat:Int)==95)=false:=by simp;omega
       have d6:decide (48<=(c.toNat:Int))=false:=decide_eq_false (by omega)
       have d7:decide ((c.toNat:Int)<=57)=true:=decide_eq_true (by omega)
       have hL:cE c.toNat=false:=by unfold cE;rw[d1,d2,d3,d4];rfl
       have hW:cA c=false:=by unfold cA jQ jF;rw[hL,d5,d6,d7];rfl
       rcases Nat.eq_zero_or_pos i with h0|h0
       · have hz:((i:Int)==0)=true:=by simp;omega
         simp(maxSteps:=9^6)-dsimp only[go_sem,hg,hc,aI,forall_eq',Int.toNat_natCast,d1,d3,d5,d6,hz,Bool.true_and,Bool.and_true,Bool.false_and,Bool.and_false,Bool.not_true,Bool.not_false]
         repeat' first|intro _|apply And.intro
         all_goals first|omega|(rename_i h9;simp at h9;done)|skip
         all_goals exact bad (by rw[hL,hW];exact .inl ⟨h0,rfl⟩)
       · have hz:((i:Int)==0)=false:=by simp;omega
         simp(maxSteps:=9^6)-dsimp only[go_sem,hg,hc,aI,forall_eq',Int.toNat_natCast,d1,d3,d5,d6,hz,Bool.true_and,Bool.and_true,Bool.false_and,Bool.not_false]
         repeat' first|intro _|apply And.intro
         all_goals first|omega|(rename_i h9;simp at h9;done)|skip
         all_goals exact bad (by rw[hL,hW];exact .inr rfl)
     · have d1:decide (97<=(c.toNat:Int))=false:=decide_eq_false (by omega)
       have d2:decide ((c.toNat:Int)<=122)=true:=decide_eq_true (by omega)
       have d3:decide (65<=(c.toNat:Int))=false:=decide_eq_false (by omega)
       have d4:decide ((c.toNat:Int)<=90)=true:=decide_eq_true (by omega)
       have d5:((c.toNat:Int)==95)=false:=by simp;omega
       have d6:decide (48<=(c.toNat:Int))=true:=decide_eq_true (by omega)
       have d7:decide ((c.toNat:Int)<=57)=true:=decide_eq_true (by omega)
       have hL:cE c.toNat=false:=by unfold cE;rw[d1,d2,d3,d4];rfl
       have hW:cA c=true:=by unfold cA jQ jF;rw[hL,d5,d6,d7];rfl
       rcases Nat.eq_zero_or_pos i with h0|h0
       · have hz:((i:Int)==0)=true:=by simp;omega
         simp(maxSteps:=9^6)-dsimp only[go_sem,hg,hc,aI,forall_eq',Int.toNat_natCast,d1,d3,d5,d6,hz,Bool.true_and,Bool.and_true,Bool.false_and,Bool.and_false,Bool.not_true,Bool.not_false]
         repeat' first|intro _|apply And.intro
         all_goals first|omega|(rename_i h9;simp at h9;done)|skip
         all_goals exact bad (by rw[hL,hW];exact .inl ⟨h0,rfl⟩)
       · have hz:((i:Int)==0)=false:=by simp;omega
         simp(maxSteps:=9^6)-dsimp only[go_sem,hg,hc,aI,forall_eq',Int.toNat_natCast,d1,d3,d5,d6,d7,hz,Bool.true_and,Bool.and_true,Bool.false_and,Bool.not_false]
         repeat' first|intro _|apply And.intro
         all_goals first|omega|(rename_i h9;simp at h9;done)|skip
         all_goals exact aE (i+1) 0 (dM (by rw[hW]) (fun h3=>by omega)) (by omega) (by simp -dsimp only[go_sem];simp) (by simp[go_sem])
     · have d1:decide (97<=(c.toNat:Int))=false:=decide_eq_false (by omega)
       have d2:decide ((c.toNat:Int)<=122)=true:=decide_eq_true (by omega)
       have d3:decide (65<=(c.toNat:Int))=false:=decide_eq_false (by omega)
       have d4:decide ((c.toNat:Int)<=90)=true:=decide_eq_true (by omega)
       have d5:((c.toNat:Int)==95)=false:=by simp;omega
       have d6:decide (48<=(c.toNat:Int))=true:=decide_eq_true (by omega)
       have d7:decide ((c.toNat:Int)<=57)=false:=decide_eq_false (by omega)
       have hL:cE c.toNat=false:=by unfold cE;rw[d1,d2,d3,d4];rfl
       have hW:cA c=false:=by unfold cA jQ jF;rw[hL,d5,d6,d7];rfl
       rcases Nat.eq_zero_or_pos i with h0|h0
       · have hz:((i:Int)==0)=true:=by simp;omega
         simp(maxSteps:=9^6)-dsimp only[go_sem,hg,hc,aI,forall_eq',Int.toNat_natCast,d1,d3,d5,d6,hz,Bool.true_and,Bool.and_true,Bool.false_and,Bool.and_false,Bool.not_true,Bool.not_false]
         repeat' first|intro _|apply And.intro
         all_goals first|omega|(rename_i h9;simp at h9;done)|skip
         all_goals exact bad (by rw[hL,hW];exact .inl ⟨h0,rfl⟩)
       · have hz:((i:Int)==0)=false:=by simp;omega
         simp(maxSteps:=9^6)-dsimp only[go_sem,hg,hc,aI,forall_eq',Int.toNat_natCast,d1,d3,d5,d6,d7,hz,Bool.true_and,Bool.and_true,Bool.false_and,Bool.not_false]
         repeat' first|intro _|apply And.intro
         all_goals first|omega|(rename_i h9;simp at h9;done)|skip
         all_goals exact bad (by rw[hL,hW];exact .inr rfl)
     · have d1:decide (97<=(c.toNat:Int))=false:=decide_eq_false (by omega)
       have d2:decide ((c.toNat:Int)<=122)=true:=decide_eq_true (by omega)
       have d3:decide (65<=(c.toNat:Int))=true:=decide_eq_true (by omega)
       have d4:decide ((c.toNat:Int)<=90)=true:=decide_eq_true (by omega)
       have d5:((c.toNat:Int)==95)=false:=by simp;omega
       have d6:decide (48<=(c.toNat:Int))=true:=decide_eq_true (by omega)
       have d7:decide ((c.toNat:Int)<=57)=false:=decide_eq_false (by omega)
       have hL:cE c.toNat=true:=by unfold cE;rw[d1,d2,d3,d4];rfl
       have hW:cA c=true:=by unfold cA jQ jF;rw[hL,d5,d6,d7];rfl
       rcases Nat.eq_zero_or_pos i with h0|h0
       · have hz:((i:Int)==0)=true:=by simp;omega
         simp(maxSteps:=9^6)-dsimp only[go_sem,hg,hc,aI,forall_eq',Int.toNat_natCast,d1,d3,d4,d5,d6,hz,Bool.true_and,Bool.and_true,Bool.false_and,Bool.and_false,Bool.not_true,Bool.not_false]
         repeat' first|intro _|apply And.intro
         all_goals first|omega|(rename_i h9;simp at h9;done)|skip
         all_goals exact aE (i+1) 0 (dM (by rw[hW]) (fun h3=>by rw[hL])) (by omega) (by simp -dsimp only[go_sem];simp) (by simp[go_sem])
       · have hz:((i:Int)==0)=false:=by simp;omega
         simp(maxSteps:=9^6)-dsimp only[go_sem,hg,hc,aI,forall_eq',Int.toNat_natCast,d1,d3,d4,d5,d6,d7,hz,Bool.true_and,Bool.and_true,Bool.false_and,Bool.not_false]
         repeat' first|intro _|apply And.intro
         all_goals first|omega|(rename_i h9;simp at h9;done)|skip
         all_goals exact aE (i+1) 0 (dM (by rw[hW]) (fun h3=>by rw[hL])) (by omega) (by simp -dsimp only[go_sem];simp) (by simp[go_sem])
     · have d1:decide (97<=(c.toNat:Int))=false:=decide_eq_false (by omega)
       have d2:decide ((c.toNat:Int)<=122)=true:=decide_eq_true (by omega)
       have d3:decide (65<=(c.toNat:Int))=true:=decide_eq_true (by omega)
       have d4:decide ((c.toNat:Int)<=90)=false:=decide_eq_false (by omega)
       have d5:((c.toNat:Int)==95)=false:=by simp;omega
       have d6:decide (48<=(c.toNat:Int))=true:=decide_eq_true (by omega)
       have d7:decide ((c.toNat:Int)<=57)=false:=decide_eq_false (by omega)
       have hL:cE c.toNat=false:=by unfold cE;rw[d1,d2,d3,d4];rfl
       have hW:cA c=false:=by unfold cA jQ jF;rw[hL,d5,d6,d7];rfl
       rcases Nat.eq_zero_or_pos i with h0|h0
       · have hz:((i:Int)==0)=true:=by simp;omega
         simp(maxSteps:=9^6)-dsimp only[go_sem,hg,hc,aI,forall_eq',Int.toNat_natCast,d1,d3,d4,d5,d6,hz,Bool.true_and,Bool.and_true,Bool.false_and,Bool.and_false,Bool.not_true,Bool.not_false]
         repeat' first|intro _|apply And.intro
         all_goals first|omega|(rename_i h9;simp at h9;done)|skip
         all_goals exact bad (by rw[hL,hW];exact .inl ⟨h0,rfl⟩)
       · have hz:((i:Int)==0)=false:=by simp;omega
         simp(maxSteps:=9^6)-dsimp only[go_sem,hg,hc,aI,forall_eq',Int.toNat_natCast,d1,d3,d4,d5,d6,d7,hz,Bool.true_and,Bool.and_true,Bool.false_and,Bool.not_false]
         repeat' first|intro _|apply And.intro
         all_goals first|omega|(rename_i h9;simp at h9;done)|skip
         all_goals exact bad (by rw[hL,hW];exact .inr rfl)
     · have d1:decide (97<=(c.toNat:Int))=false:=decide_eq_false (by omega)
       have d2:decide ((c.toNat:Int)<=122)=true:=decide_eq_true (by omega)
       have d3:decide (65<=(c.toNat:Int))=true:=decide_eq_true (by omega)
       have d4:decide ((c.toNat:Int)<=90)=false:=decide_eq_false (by omega)
       have d5:((c.toNat:Int)==95)=true:=by simp;omega
       have d6:decide (48<=(c.toNat:Int))=true:=decide_eq_true (by omega)
       have d7:decide ((c.toNat:Int)<=57)=false:=decide_eq_false (by omega)
       have hL:cE c.toNat=false:=by unfold cE;rw[d1,d2,d3,d4];rfl
       have hW:cA c=true:=by unfold cA jQ jF;rw[hL,d5,d6,d7];rfl
       rcases Nat.eq_zero_or_pos i with h0|h0
       · have hz:((i:Int)==0)=true:=by simp;omega
         simp(maxSteps:=9^6)-dsimp only[go_sem,hg,hc,aI,forall_eq',Int.toNat_natCast,d1,d3,d4,d5,hz,Bool.true_and,Bool.and_true,Bool.false_and,Bool.and_false,Bool.not_true,Bool.not_false]
         repeat' first|intro _|apply And.intro
         all_goals first|omega|(rename_i h9;simp at h9;done)|skip
         all_goals exact bad (by rw[hL,hW];exact .inl ⟨h0,rfl⟩)
       · have hz:((i:Int)==0)=false:=by simp;omega
         simp(maxSteps:=9^6)-dsimp only[go_sem,hg,hc,aI,forall_eq',Int.toNat_natCast,d1,d3,d4,d5,hz,Bool.true_and,Bool.and_true,Bool.false_and,Bool.not_true,Bool.not_false]
         repeat' first|intro _|apply And.intro
         all_goals first|omega|(rename_i h9;simp at h9;done)|skip
         all_goals exact aE (i+1) 0 (dM (by rw[hW]) (fun h3=>by omega)) (by omega) (by simp -dsimp only[go_sem];simp) (by simp[go_sem])
     · have d1:decide (97<=(c.toNat:Int))=false:=decide_eq_false (by omega)
       have d2:decide ((c.toNat:Int)<=122)=true:=decide_eq_true (by omega)
       have d3:decide (65<=(c.toNat:Int))=true:=decide_eq_true (by omega)
       have d4:decide ((c.toNat:Int)<=90)=false:=decide_eq_false (by omega)
       have d5:((c.toNat:Int)==95)=false:=by simp;omega
       have d6:decide (48<=(c.toNat:Int))=true:=decide_eq_true (by omega)
       have d7:decide ((c.toNat:Int)<=57)=false:=decide_eq_false (by omega)
       have hL:cE c.toNat=false:=by unfold cE;rw[d1,d2,d3,d4];rfl
       have hW:cA c=false:=by unfold cA jQ jF;rw[hL,d5,d6,d7];rfl
       rcases Nat.eq_zero_or_pos i with h0|h0
       · have hz:((i:Int)==0)=true:=by simp;omega
         simp(maxSteps:=9^6)-dsimp only[go_sem,hg,hc,aI,forall_eq',Int.toNat_natCast,d1,d3,d4,d5,d6,hz,Bool.true_and,Bool.and_true,Bool.false_and,Bool.and_false,Bool.not_true,Bool.not_false]
         repeat' first|intro _|apply And.intro
         all_goals first|omega|(rename_i h9;simp at h9;done)|skip
         all_goals exact bad (by rw[hL,hW];exact .inl ⟨h0,rfl⟩)
       · have hz:((i:Int)==0)=false:=by simp;omega
         simp(maxSteps:=9^6)-dsimp only[go_sem,hg,hc,aI,forall_eq',Int.toNat_natCast,d1,d3,d4,d5,d6,d7,hz,Bool.true_and,Bool.and_true,Bool.false_and,Bool.not_false]
         repeat' first|intro _|apply And.intro
         all_goals first|omega|(rename_i h9;simp at h9;done)|skip
         all_goals exact bad (by rw[hL,hW];exact .inr rfl)
     · have d1:decide (97<=(c.toNat:Int))=true:=decide_eq_true (by omega)
       have d2:decide ((c.toNat:Int)<=122)=true:=decide_eq_true (by omega)
       have d3:decide (65<=(c.toNat:Int))=true:=decide_eq_true (by omega)
       have d4:decide ((c.toNat:Int)<=90)=false:=decide_eq_false (by omega)
       have d5:((c.toNat:Int)==95)=false:=by simp;omega
       have d6:decide (48<=(c.toNat:Int))=true:=decide_eq_true (by omega)
       have d7:decide ((c.toNat:Int)<=57)=false:=decide_eq_false (by omega)
       have hL:cE c.toNat=true:=by unfold cE;rw[d1,d2,d3,d4];rfl
       have hW:cA c=true:=by unfold cA jQ jF;rw[hL,d5,d6,d7];rfl
       rcases Nat.eq_zero_or_pos i with h0|h0
       · have hz:((i:Int)==0)=true:=by simp;omega
         simp(maxSteps:=9^6)-dsimp only[go_sem,hg,hc,aI,forall_eq',Int.toNat_natCast,d1,d2,d5,d6,hz,Bool.true_and,Bool.and_true,Bool.false_and,Bool.and_false,Bool.not_true,Bool.not_false]
         repeat' first|intro _|apply And.intro
         all_goals first|omega|(rename_i h9;simp at h9;done)|skip
         all_goals exact aE (i+1) 0 (dM (by rw[hW]) (fun h3=>by rw[hL])) (by omega) (by simp -dsimp only[go_sem];simp) (by simp[go_sem])
       · have hz:((i:Int)==0)=false:=by simp;omega
         simp(maxSteps:=9^6)-dsimp only[go_sem,hg,hc,aI,forall_eq',Int.toNat_natCast,d1,d2,d5,d6,d7,hz,Bool.true_and,Bool.and_true,Bool.false_and,Bool.not_true,Bool.not_false]
         repeat' first|intro _|apply And.intro
         all_goals first|omega|(rename_i h9;simp at h9;done)|skip
         all_goals exact aE (i+1) 0 (dM (by rw[hW]) (fun h3=>by rw[hL])) (by omega) (by simp -dsimp only[go_sem];simp) (by simp[go_sem])
     · have d1:decide (97<=(c.toNat:Int))=true:=decide_eq_true (by omega)
       have d2:decide ((c.toNat:Int)<=122)=false:=decide_eq_false (by omega)
       have d3:decide (65<=(c.toNat:Int))=true:=decide_eq_true (by omega)
       have d4:decide ((c.toNat:Int)<=90)=false:=decide_eq_false (by omega)
       have d5:((c.toNat:Int)==95)=false:=by simp;omega
       have d6:decide (48<=(c.toNat:Int))=true:=decide_eq_true (by omega)
       have d7:decide ((c.toNat:Int)<=57)=false:=decide_eq_false (by omega)
       have hL:cE c.toNat=false:=by unfold cE;rw[d1,d2,d3,d4];rfl
       have hW:cA c=false:=by unfold cA jQ jF;rw[hL,d5,d6,d7];rfl
       rcases Nat.eq_zero_or_pos i with h0|h0
       · have hz:((i:Int)==0)=true:=by simp;omega
         simp(maxSteps:=9^6)-dsimp only[go_sem,hg,hc,aI,forall_eq',Int.toNat_natCast,d1,d2,d3,d4,d5,d6,hz,Bool.true_and,Bool.and_true,Bool.and_false,Bool.not_true,Bool.not_false]
         repeat' first|intro _|apply And.intro
         all_goals first|omega|(rename_i h9;simp at h9;done)|skip
         all_goals exact bad (by rw[hL,hW];exact .inl ⟨h0,rfl⟩)
       · have hz:((i:Int)==0)=false:=by simp;omega
         simp(maxSteps:=9^6)-dsimp only[go_sem,hg,hc,aI,forall_eq',Int.toNat_natCast,d1,d2,d3,d4,d5,d6,d7,hz,Bool.true_and,Bool.and_true,Bool.not_false]
         repeat' first|intro _|apply And.intro
         all_goals first|omega|(rename_i h9;simp at h9;done)|skip
         all_goals exact bad (by rw[hL,hW];exact .inr rfl)
   · have hg:decide ((i:Int)<((bl s).length:Int))=false:=by simp;omega
     obtain rfl:i=(bl s).length:=by omega
     obtain ⟨c,hc⟩:∃c,(bl s)[0]? = some c:=⟨_,aU hl0⟩
     simp(maxSteps:=9^6)-dsimp only[go_sem,hg]
     refine fG hK ?_
     rw[FA hc hl (hb hl0 c hc) fun j x hx=>ha j x (bJ.1 hx).1 hx]
theorem JA:Meets Tryz.prog 125 (uO fun l=>.bool (oL l)).sp:=by
 refine aF Tryz.func125 aM9 1 (by rw[Tryz.ntmps125];decide) (aG yH (aB _)) oQ ?_
 rintro xs H K ⟨⟨h,rfl⟩,hK⟩
 obtain ⟨s,rfl⟩:=hJ h
 have hK':K (.va (.c1 (.vl (.bool (oL (bl s)))))) []:=hK
 clear hK h
 unfold oL at hK'
 cases hn:cO (bl s) with
 |false=>
  rw[hn] at hK'
  simp -dsimp only[go_sem,N8,OA,hn]
  exact .done hK'
 |true=>
  cases hl:bl s with
  |nil=>rw[hl] at hn;cases hn
  |cons c r=>
   rw[hl] at hn hK'
   rw[hn] at hK'
   simp -dsimp only[go_sem,N8,OA,hl,hn]
   refine ⟨by omega,fun d hd=>⟨fun _=>by omega,fun e he=>?_⟩⟩
   subst hd
   cases hc:decide (65<=(c.toNat:Int)) with
   |false=>simp only[hc,Bool.true_and,Bool.false_and] at hK';exact .done hK'
   |true=>
    obtain rfl:=he hc
    simp only[hc,Bool.true_and] at hK';exact .done hK'
theorem aDI:Meets Tryz.prog 153 (pF iO C.ty fun t=>.bool ((t.e.length:Int)==0)).sp:=by
 refine aF Tryz.func153 aO0 1 (by rw[Tryz.ntmps153];decide) (aB _) lG ?_
 rintro av H K ⟨⟨h,rfl⟩,hK⟩
 obtain ⟨_,rfl,t,rfl,ht⟩:=f7 h
 have hK:K (bS ((t.e.length:Int)==0)) []:=by
  have:(pF iO C.ty fun t=>.bool ((t.e.length:Int)==0)).val [.va (.gs (aQ t))]=bA ((t.e.length:Int)==0):=by simp -dsimp only[go_sem]
  rw[this] at hK;exact hK
 simp(maxSteps:=9^6)-dsimp only[go_sem,aR,aAL,Z0]
 exact .z ((by simpa[go_sem] using hK))
def FH:List S->Prop:=fun av=>match av with
 |[.va (.c1 (.fz rs)),.va (.c1 (.vl (.int .i64 k))),.va (.c1 (.vl (.string _)))]=>sB rs/\0<=k/\k<=9223372036854775807
 |_=>False
theorem qR {av:List S} (h:FH av):∃(l:List ByteArray) (n:Nat) (x:ByteArray),av=[.va (.c1 (.fz (l.map bF))),iS .i64 n,tS x]/\l.length<=9223372036854775807/\(n:Int)<=9223372036854775807:=by
 unfold FH at h
 split at h
 · obtain ⟨⟨l,rfl,h1⟩,h2,h3⟩:=h
   rename_i k x
   exact ⟨l,k.toNat,x,by rw[Int.toNat_of_nonneg h2],h1,by omega⟩
 · exact h.elim
noncomputable def aAV:List S->A:=fun av=>match av with
 |[.va (.c1 (.fz rs)),.va (.c1 (.vl (.int .i64 k))),.va (.c1 (.vl (.string x)))]=>bA (bW ((rs.map C.bs).take k.toNat) x)
 |_=>.gs []
noncomputable def inFn:Fun:=⟨FH,aAV,fun av h=>by obtain ⟨l,n,x,rfl,_⟩:=qR h;trivial⟩
theorem SY:∀av H K,inFn.sp av H K->av.length=3:=fun av H K h=>by obtain ⟨l,n,x,rfl,_⟩:=qR h.1.1;rfl
attribute [go_sem] inFn FH aAV
theorem S5:Meets Tryz.prog 90 inFn.sp:=by
 refine aF Tryz.func90 aUY 3 (by rw[Tryz.ntmps90];decide) (aB _) SY ?_
 rintro av H K ⟨⟨h,rfl⟩,hK⟩
 obtain ⟨l,n,x,rfl,hl,hn⟩:=qR h
 have hK:K (bS (bW (l.take n) x)) []:=by
  have:inFn.val [.va (.c1 (.fz (l.map bF))),iS .i64 n,tS x]=bA (bW (l.take n) x):=by simp -dsimp only[go_sem,Int.toNat_natCast]
  rw[this] at hK;exact hK
 clear h
 simp(maxSteps:=9^6)-dsimp only[go_sem,aFN,aE3]
 refine aL (α:=Nat) (fun i=>[(0,.va (.c1 (.fz (l.map bF)))),(1,iS .i64 n),(2,tS x),(7,iS .i64 i)]) (fun _=>[])
  (fun i=>i<=(l.take n).length/\bW ((l.take n).drop i) x=bW (l.take n) x) (fun i=>l.length-i) 0 0 ⟨Nat.zero_le _,rfl⟩ ?_ ?_ ?_
 · simp[go_sem]
 · simp[go_sem]
 rintro i ⟨hi,ho⟩
 have hlt0:(l.take n).length=min n l.length:=by simp
 rcases bB i (l.take n).length with hlt|hge
 · have g1:decide ((i:Int)<(n:Int))=true:=by simp;omega
   have g2:decide ((i:Int)<(l.length:Int))=true:=by simp;omega
   obtain ⟨y,hx⟩:∃y,l[i]? = some y:=⟨_,aU (by omega)⟩
   have hx':(l.take n)[i]? = some y:=by rw[List.getElem?_take,if_pos (by omega)];exact hx
   have q2:=aT (row:=bF) hx
   rw[bW,cL hx'] at ho
   simp(maxSteps:=9^6)-dsimp only[go_sem,g1,g2,↓q2,cN]
   have hsy:decide (y=x)=decide (x=y):=by simp[eq_comm]
   refine ⟨by omega,fun hc=>?_,fun hc=>⟨by omega,aE (i+1) 0 ⟨by omega,?_⟩ (by omega) ?_ ?_⟩⟩
   · rw[<-hsy,hc,Bool.true_or] at ho
     rw[<-ho] at hK
     exact .done hK
   · rw[<-hsy,hc,Bool.false_or] at ho
     exact ho
   · simp[go_sem]
   · simp[go_sem]
 · obtain rfl:i=(l.take n).length:=by omega
   rw[bW,eH] at ho
   rw[<-ho] at hK
   generalize hm:(l.take n).length=m at *
   rcases bB m n with h1|h1
   · have g1:decide ((m:Int)<(n:Int))=true:=by simp;omega
     have g2:decide ((m:Int)<(l.length:Int))=false:=by simp;omega
     simp(maxSteps:=9^6)-dsimp only[go_sem,g1,g2]
     exact .done hK
   · have g1:decide ((m:Int)<(n:Int))=false:=by simp;omega
     simp(maxSteps:=9^6)-dsimp only[go_sem,g1]
     exact .done hK
theorem nG:Meets Tryz.prog 17 uQ:=by
 refine aF Tryz.func17 aUC 2 (by rw[Tryz.ntmps17];decide) (aB _) (fun av H K h=>by obtain ⟨_,_,rfl,_⟩:=h;rfl) ?_
 rintro av H K ⟨s,n,rfl,rfl,hs,hK⟩
 rw[<-pQ] at hK
 have hl:=hs.ok.ls
 simp -dsimp only[go_sem,aD,aF5,aEN]
 refine aL (α:=Nat) (fun i=>[(1,tS n),(2,.va (.c1 (.pt 0 0))),(4,.va (.c1 (.pt 1 0))),(6,iS .i64 i)]) (fun _=>[.cells (aD s) 25,.cells [.vl (.string (mk [])),.vl (.slice none 0 0)] 48])
  (fun i=>i<=s.ss.length/\fS (s.ss.drop i) n=fS s.ss n) (fun i=>s.ss.length-i) 0 2 ⟨Nat.zero_le _,rfl⟩ ?_ ?_ ?_
 · simp[go_sem]
 · simp[go_sem,aD]
 rintro i ⟨hi,ho⟩
 rcases bB i s.ss.length with hlt|hge
 · have hg:decide ((i:Int)<(s.ss.length:Int))=true:=by simp;omega
   obtain ⟨t,hx⟩:∃e,s.ss[i]? = some e:=⟨_,aU hlt⟩
   have q2:=aT (row:=aH) hx
   rw[fS,iQ hx] at ho
   cases hc:decide (t.nm=n) with
   |true=>
    rw[hc,bE] at ho
    rw[<-ho] at hK
    simp(maxSteps:=9^6)-dsimp only[go_sem,hg,↓q2,aH,aD,cN,hc]
    refine ⟨by omega,by omega,.z ((by simpa[go_sem,aH] using hK))⟩
   |false=>
    rw[hc,a8] at ho
    simp(maxSteps:=9^6)-dsimp only[go_sem,hg,↓q2,aH,aD,cN,hc]
    refine ⟨by omega,by omega,aE (i+1) 2 ⟨by omega,ho⟩ (by omega) ?_ ?_⟩
    · simp[go_sem]
    · simp[go_sem,aD]
 · have hg:decide ((i:Int)<(s.ss.length:Int))=false:=by simp;omega
   obtain rfl:i=s.ss.length:=by omega
   rw[List.drop_length] at ho
   rw[<-ho] at hK
   simp -dsimp only[go_sem,hg,aD]
   exact .z ((by simpa[go_sem,fS,BH] using hK))
def N2:W.Spec:=fun av H K=>∃(s:Sc) (n:ByteArray),av=[.va (.gs (aD s)),tS n]/\H=[]/\s.fit/\K (.tu [.gs (aZ ((d8 s.es n).getD default)),bA (c8 s.es n)]) []
theorem m9 {s:Sc} {n:ByteArray} {K:S->Hp->Prop} (h:s.fit) (hK:K (.tu [.gs (aZ ((d8 s.es n).getD default)),bA (c8 s.es n)]) []):N2 [.va (.gs (aD s)),tS n] [] K:=⟨s,n,rfl,rfl,h,hK⟩
theorem M2:aZ default=[.vl (.string (mk [])),.fz [],.fz []]:=rfl
theorem ID:Meets Tryz.prog 127 N2:=by
 refine aF Tryz.func127 aOS 2 (by rw[Tryz.ntmps127];decide) (aB _) (fun av H K h=>by obtain ⟨_,_,rfl,_⟩:=h;rfl) ?_
 rintro av H K ⟨s,n,rfl,rfl,hs,hK⟩
 rw[<-v8] at hK
 have hl:=hs.ok.le
 simp -dsimp only[go_sem,aD,YM,ZV]
 refine aL (α:=Nat) (fun i=>[(1,tS n),(2,.va (.c1 (.pt 0 0))),(4,.va (.c1 (.pt 1 0))),(6,iS .i64 i)]) (fun _=>[.cells (aD s) 25,.cells [.vl (.string (mk [])),.vl (.slice none 0 0),.vl (.slice none 0 0)] 118])
  (fun i=>i<=s.es.length/\d8 (s.es.drop i) n=d8 s.es n) (fun i=>s.es.length-i) 0 2 ⟨Nat.zero_le _,rfl⟩ ?_ ?_ ?_
 · simp[go_sem]
 · simp[go_sem,aD]
 rintro i ⟨hi,ho⟩
 rcases bB i s.es.length with hlt|hge
 · have hg:decide ((i:Int)<(s.es.length:Int))=true:=by simp;omega
   obtain ⟨t,hx⟩:∃e,s.es[i]? = some e:=⟨_,aU hlt⟩
   have q2:=aT (row:=aZ) hx
   rw[d8,iQ hx] at ho
   cases hc:decide (t.nm=n) with
   |true=>
    rw[hc,bE] at ho
    rw[<-ho] at hK
    simp(maxSteps:=9^6)-dsimp only[go_sem,hg,↓q2,aZ,aD,cN,hc]
    refine ⟨by omega,by omega,.z ((by simpa[go_sem,aZ] using hK))⟩
   |false=>
    rw[hc,a8] at ho
    simp(maxSteps:=9^6)-dsimp only[go_sem,hg,↓q2,aZ,aD,cN,hc]
    refine ⟨by omega,by omega,aE (i+1) 2 ⟨by omega,ho⟩ (by omega) ?_ ?_⟩
    · simp[go_sem]
    · simp[go_sem,aD]
 · have hg:decide ((i:Int)<(s.es.length:Int))=false:=by simp;omega
   obtain rfl:i=s.es.length:=by omega
   rw[List.drop_length] at ho
   rw[<-ho] at hK
   simp -dsimp only[go_sem,hg,aD]
   exact .z ((by simpa[go_sem,d8,M2] using hK))
theorem RS:Meets Tryz.prog 18 sE:=by
 refine aF Tryz.func18 aVZ 2 (by rw[Tryz.ntmps18];decide) (aB _) (fun av H K h=>by obtain ⟨_,_,rfl,_⟩:=h;rfl) ?_
 rintro av H K ⟨s,n,rfl,rfl,hs,hsm,hK⟩
 have hl:=hs.len
 simp -dsimp only[go_sem,aH,aIV,aDT]
 refine aL (α:=Nat) (fun i=>[(1,iS .i64 n),(2,.va (.c1 (.pt 0 0))),(4,.va (.c1 (.pt 1 0))),(6,iS .i64 i)]) (fun _=>[.cells (aH s) 48,.cells [.vl (.int .i64 0),.vl (.string (mk [])),.vl (.int .i64 0),.vl (.int .i64 0),.vl (.string (mk [])),.vl (.slice none 0 0),.vl (.bool false)] 52])
  (fun i=>i<=s.fs.length/\fF (s.fs.drop i) n=fF s.fs n) (fun i=>s.fs.length-i) 0 2 ⟨Nat.zero_le _,rfl⟩ ?_ ?_ ?_
 · simp[go_sem]
 · simp[go_sem,aH]
 rintro i ⟨hi,ho⟩
 rcases bB i s.fs.length with hlt|hge
 · have hg:decide ((i:Int)<(s.fs.length:Int))=true:=by simp;omega
   obtain ⟨t,hx⟩:∃e,s.fs[i]? = some e:=⟨_,aU hlt⟩
   have q2:=aT (row:=aS) hx
   rw[fF,iQ hx] at ho
   have hq:(t.num==n)=decide (t.num=n):=rfl
   cases hc:decide (t.num=n) with
   |true=>
    rw[hc,bE] at ho
    rw[<-ho] at hK
    simp(maxSteps:=9^6)-dsimp only[go_sem,hg,↓q2,aS,aH,hq,hc]
    refine ⟨by omega,by omega,.z ((by simpa[go_sem,aS] using hK))⟩
   |false=>
    rw[hc,a8] at ho
    simp(maxSteps:=9^6)-dsimp only[go_sem,hg,↓q2,aS,aH,hq,hc]
    refine ⟨by omega,by omega,aE (i+1) 2 ⟨by omega,ho⟩ (by omega) ?_ ?_⟩
    · simp[go_sem]
    · simp[go_sem,aH]
 · have hg:decide ((i:Int)<(s.fs.length:Int))=false:=by simp;omega
   obtain rfl:i=s.fs.length:=by omega
   rw[List.drop_length] at ho
   rw[<-ho] at hK
   simp -dsimp only[go_sem,hg,aH]
   exact .z ((by simpa[go_sem,fF,pK] using hK))
end Go.Proofs.YthpbnmebjocbeaaGreat
namespace Go.Proofs
open Go.Shelf
def Tryz.lays16_ren:Go.Shelf.Ren:=⟨fun|16=>147|n=>n,fun|24=>116|n=>n,fun|n=>n⟩
theorem Tryz.lays16:Go.Proofs.Lays2.n16 Tryz.prog Tryz.lays16_ren:={
 mixed:=by kernel_rfl
 f16:=Tryz.func147.trans (congrArg some (by kernel_rfl))
 t4:=Tryz.underlying4
 a4:=Tryz.isAgg4
 z4:=Tryz.sizeOf4
 v4:=Tryz.zeroValue4
 t9:=Tryz.underlying9
 a9:=Tryz.isAgg9
 z9:=Tryz.sizeOf9
 v9:=Tryz.zeroValue9
 t24:=Tryz.underlying116
 a24:=Tryz.isAgg116
 z24:=Tryz.sizeOf116
 v24:=Tryz.zeroValue116
 i9:=by kernel_rfl }
def Tryz.lays15_ren:Go.Shelf.Ren:=⟨fun|15=>148|n=>n,fun|22=>64|n=>n,fun|n=>n⟩
theorem Tryz.lays15:Go.Proofs.Lays2.n15 Tryz.prog Tryz.lays15_ren:={
 mixed:=by kernel_rfl
 f15:=Tryz.func148.trans (congrArg some (by kernel_rfl))
 t3:=Tryz.underlying3
 a3:=Tryz.isAgg3
 z3:=Tryz.sizeOf3
 v3:=Tryz.zeroValue3
 t4:=Tryz.underlying4
 a4:=Tryz.isAgg4
 z4:=Tryz.sizeOf4
 v4:=Tryz.zeroValue4
 t22:=Tryz.underlying64
 a22:=Tryz.isAgg64
 z22:=Tryz.sizeOf64
 v22:=Tryz.zeroValue64
 i3:=by kernel_rfl }
end Go.Proofs
namespace Go.Proofs.YthpbnmebjocbeaaGreat
open Go.W Go.RowKit
theorem aA5 {X:Ctx} {E:Es} {ro:RO} {w w':World} (h:Rel X E ro w) {blk:B} {g:Gb} (hb:∀k,k<w.heap.size->w'.heap[k]? = w.heap[k]?) (hsz:w.heap.size<=w'.heap.size)
 (h1:w'.os=w.os) (h2:w'.tape=w.tape) (h3:w'.output=w.output) (hob:∀b,g.ob=some b->w.heap.size<=b) (hon:blk.On (gm (E++[(g,blk)])) ro w' g):Rel X (E++[(g,blk)]) ro w':=by
 have hext:GExt (gm E) (gm (E++[(g,blk)])):=cR _
 have hget:∀(n:Nat) (y:Gb×B),(E++[(g,blk)])[n]? = some y->(n=E.length/\y=(g,blk))\/(n<E.length/\E[n]? = some y):=by
  intro n y hy
  rw[List.getElem?_append] at hy
  split at hy
  · exact .inr ⟨by assumption,hy⟩
  · have:n-E.length=0:=by
     rcases Nat.eq_zero_or_pos (n-E.length) with h0|h0
     · exact h0
     · rw[List.getElem?_eq_none (by simp;omega)] at hy;cases hy
    rw[this] at hy
    exact .inl ⟨by omega,by simpa using hy.symm⟩
 have old:∀(n k:Nat) (gn:Gb) (bk:B),E[n]? = some (gn,bk)->gn.ob=some k->bk.live=true->k<w.heap.size:=fun n k gn bk hy hk hl=>(h.own n _ bk hy).lt hl hk
 refine ⟨fun n g' bk hy=>?_,fun n m gn gm bn bm k hy hz en em ln lm=>?_,fun k off c hc n gn bk hy en=>?_,fun k off c hc=>?_,h.ro0,h.rob,fun n k gn bk hy en ln=>?_,h.gx.trans hext,Nat.le_trans h.sz hsz,fun k hk hp=>?_,by rw[h1];exact h.os,by rw[h2];exact h.tape,by rw[h3];exact h.output⟩
 · rcases hget n _ hy with ⟨rfl,he⟩|⟨hlt,hy'⟩
   · simp only[Prod.mk.injEq] at he;obtain ⟨rfl,rfl⟩:=he;exact hon
   · by_cases hlv:bk.live=true
     · exact (h.own n g' bk hy').same hext (Ext.refl _) fun k hk=>hb k (old n k g' bk hy' hk hlv)
     · cases bk<;>simp[B.live] at hlv;trivial
 · rcases hget n _ hy with ⟨rfl,he⟩|⟨hlt,hy'⟩<;>rcases hget m _ hz with ⟨rfl,he2⟩|⟨hlt2,hz'⟩
   · rfl
   · simp only[Prod.mk.injEq] at he;obtain ⟨rfl,rfl⟩:=he;have:=old m k gm bm hz' em lm;have:=hob k en;omega
   · simp only[Prod.mk.injEq] at he2;obtain ⟨rfl,rfl⟩:=he2;have:=old n k gn bn hy' en ln;have:=hob k em;omega
   · exact h.inj n m gn gm bn bm k hy' hz' en em ln lm
 · rcases hget n _ hy with ⟨rfl,he⟩|⟨hlt,hy'⟩
   · simp only[Prod.mk.injEq] at he;obtain ⟨rfl,rfl⟩:=he;have:=h.cell_lt hc;have:=hob k en;omega
   · exact h.apart k off c hc n gn bk hy' en
 · have:=h.rd k off c hc
   rw[<-this]
   simp only[World.cell?,hb k (h.cell_lt hc)]
 · rcases hget n _ hy with ⟨rfl,he⟩|⟨hlt,hy'⟩
   · simp only[Prod.mk.injEq] at he;obtain ⟨rfl,rfl⟩:=he;have:=hob k en;have:=h.sz;exact .inl (by omega)
   · exact h.par n k gn bk hy' en ln
 · rw[hb k (by have:=h.sz;omega)]
   exact h.keep k hk hp
theorem L3 {X:Ctx} {ro:RO} {w w':World} (h:Rel X [] ro w) (hX:X.g0.length=0) {T:TypeId} {v:Value} {cs:List Value} (hne:cs≠[]) (_hone:∀u∈cs,u.oneCell'=true) (ho:w'.ownsRow w.heap.size T 1 v cs.length cs) (hb:Below w.heap.size w w') {K:S->Hp->Prop} (hK:K (.va (.c1 (.fz (cs.map fun u=>[C.vl u])))) []) :
 ∃r' E' ro',K r' (hp E')/\r'.rel (gm E') ro' v/\Rel X E' ro' w':=by
 have hlen:0<cs.length:=List.length_pos_iff.2 hne
 obtain ⟨h1,h2⟩:=ho
 rcases h2 with ⟨_,h0⟩|⟨b,cap,cur,rfl,hbb,hcell,hcap,hmax,hcs,htk⟩
 · omega
 have hfl:(cs.map fun u=>[C.vl u]).flatten=cs.map C.vl:=by
  clear h1 hlen hcap htk hK hne _hone
  induction cs with
  |nil=>rfl
  |cons x l ih=>rw[List.map_cons,List.flatten_cons,ih];rfl
 let g:Gb:=⟨some b,true,cs.length,cap,T,cs⟩
 have hR:Rel X ([]++[(g,.row (cs.map fun u=>[C.vl u]) T 1)]) ro w':=by
  refine aA5 h (fun k hk=>hb.block k hk) hb.size hb.os hb.tape hb.output (fun b' hb'=>by cases hb';exact hbb) ⟨rfl,by simp[g],fun x hx=>?_,fun c hc=>?_,⟨by simp[g],.inr ⟨b,cap,cur,?_,Nat.zero_le _,hcell,by simp;exact hcap,hmax,hcs,?_⟩⟩,?_,fun b' _=>(by show 0<cap;omega)⟩
  · obtain ⟨y,_,rfl⟩:=List.mem_map.1 hx;rfl
  · rw[hfl] at hc;obtain ⟨y,_,rfl⟩:=List.mem_map.1 hc;rfl
  · simp[bH,g]
  · rw[List.length_map];exact htk
  · rw[hfl]
    refine ⟨by simp[g],fun i x y hx hy=>?_⟩
    rw[List.getElem?_map] at hx
    have hy:cs[i]? = some y:=hy
    rw[hy] at hx
    cases hx;rfl
 refine EX (X:=X) (k0:=0) hX (r:=.va (.c1 (.sl 0 (cs.map fun u=>[C.vl u]).length))) (.pub 0 _ T 1 (by rfl) (.sel [] (by simp) (by simp[b5]) rfl (.done ?_))) rfl ?_ hR
 · simp -dsimp only[go_sem,b5];simpa using hK
 · refine ⟨g,rfl,rfl,by simp[g],⟨_,_,_,rfl⟩,fun _=>?_⟩
   simp[g,bH]
theorem oE {X:Ctx} {ro:RO} {w w':World} (h:Rel X [] ro w) {o:Option Addr} {c:Nat} (hb:Below w.heap.size w w') {K:S->Hp->Prop} (hK:K (.va (.c1 (.fz []))) []) :
 ∃r' E' ro',K r' (hp E')/\r'.rel (gm E') ro' (.slice o 0 c)/\Rel X E' ro' w':=
 ⟨.va (.c1 (.fz [])),[],ro,hK,FzR.mk (ro:=ro) [] 1 none o (fun h=>absurd rfl h) c (fun _=>undef) (by simp) (Nat.zero_le _) (by simp) (by simp) (by simp) (by simp) (by simp),h.aside (fun k hk=>hb.block k hk) hb.size hb.os hb.tape hb.output⟩
def WK:W.Spec:=fun av H K=>∃l:List ByteArray,av=[.va (.c1 (.fz (l.map bF)))]/\H=[]/\l.length<=1000000000/\K (.va (.c1 (.fz (l.map bF)))) []
theorem aDC {l:List ByteArray} {K:S->Hp->Prop} (h:l.length<=1000000000) (hK:K (.va (.c1 (.fz (l.map bF)))) []):WK [.va (.c1 (.fz (l.map bF)))] [] K:=⟨l,rfl,rfl,h,hK⟩
theorem SW (l:List ByteArray):(l.map bF).flatten=(l.map Value.string).map C.vl:=by
 induction l with
 |nil=>rfl
 |cons x l ih=>rw[List.map_cons,List.flatten_cons,ih];rfl
theorem SO (l:List ByteArray):(l.map Value.string).map (fun u=>[C.vl u])=l.map bF:=by rw[List.map_map];rfl
theorem aU3:Meets Tryz.prog 147 WK:=by
 refine ⟨by kernel_rfl,fun av vs E ro w K hlen hrel hR hs _=>?_⟩
 obtain ⟨l,rfl,hH,hl,hK⟩:=hs
 match E,hH with
 |[],_=>
  match vs,hlen with
  |[v0],_=>
   have r0:FzR ro (l.map bF) v0:=hrel 0 _ _ rfl rfl
   cases hl0:l with
   |nil=>
    subst hl0
    generalize hx:([]:List ByteArray).map bF=xs at r0
    cases r0 with
    |mk xs sz o oa hoa cap us hz hc ho h1 h2 h3 h4=>
     subst hx
     have hK:K (.va (.c1 (.fz []))) []:=hK
     cases oa with
     |none=>
      refine (Any.slices_Clone_string_nil Tryz.lays16 0 cap w).mono ?_
      rintro e w' ⟨rfl,rfl⟩
      obtain ⟨r',E',ro',a1,a2,a3⟩:=oE (o:=none) (c:=0) hR (Below.refl _ _) hK
      exact ⟨r',_,E',ro',rfl,a2,a1,a3⟩
     |some a=>
      refine (Any.slices_Clone_string_zero Tryz.lays16 a cap w).mono ?_
      rintro e w' ⟨v',rfl,hown,_,hb⟩
      obtain ⟨o',c',rfl⟩:∃o' c',v'=.slice o' 0 c':=by
       rcases hown.2 with ⟨rfl,_⟩|⟨b,c',cur,rfl,_⟩
       · exact ⟨none,0,rfl⟩
       · exact ⟨_,c',rfl⟩
      obtain ⟨r',E',ro',a1,a2,a3⟩:=oE (o:=o') (c:=c') hR hb hK
      exact ⟨r',_,E',ro',rfl,a2,a1,a3⟩
   |cons x0 lt=>
    have hne:l≠[]:=by rw[hl0];exact List.cons_ne_nil _ _
    clear hl0
    generalize hx:l.map bF=xs at r0
    cases r0 with
    |mk xs sz o oa hoa cap us hz hc ho h1 h2 h3 h4=>
     subst hx
     have hne2:l.map bF≠[]:=by simpa using hne
     obtain ⟨⟨b,off⟩,rfl⟩:=Option.isSome_iff_exists.1 (ho hne2)
     obtain rfl:=hoa hne2
     have hcell:∀j,j<l.length->w.cell? ⟨b,off+j,none⟩=some (Value.string (l.getD j ByteArray.empty)):=fun j hj=>by
      have hf:(l.map bF).flatten[j]? = some (.vl (Value.string (l.getD j ByteArray.empty))):=by
       rw[SW,List.getElem?_map,List.getElem?_map,aU hj]
       simp[hj]
      have e1:=h1 j _ hf
      have e2:=h2 j _ hf
      rw[e2] at e1
      exact hR.rd b (off+j) _ e1
     have key:=Any.slices_Clone_string Tryz.lays16 b off l.length cap l w (Nat.le_refl _) (by omega) hcell
     rw[List.take_length] at key
     rw[List.length_map]
     refine key.mono ?_
     rintro e w' ⟨v',rfl,hown,_,hb⟩
     rw[<-List.length_map (f:=Value.string)] at hown
     obtain ⟨r',E',ro',a1,a2,a3⟩:=L3 hR rfl (cs:=l.map Value.string) (by simpa using hne) (fun u hu=>by obtain ⟨y,_,rfl⟩:=List.mem_map.1 hu;rfl) hown hb (by rw[SO];exact hK)
     exact ⟨r',_,E',ro',rfl,a2,a1,a3⟩
def ZG:W.Spec:=fun av H K=>∃l:List Int,av=[.va (.c1 (.fz (l.map cK)))]/\H=[]/\l.length<=1000000000/\K (.va (.c1 (.fz (l.map cK)))) []
theorem aAZ {l:List Int} {K:S->Hp->Prop} (h:l.length<=1000000000) (hK:K (.va (.c1 (.fz (l.map cK)))) []):ZG [.va (.c1 (.fz (l.map cK)))] [] K:=⟨l,rfl,rfl,h,hK⟩
theorem VB (l:List Int):(l.map cK).flatten=(l.map (Value.int .i64)).map C.vl:=by
 induction l with
 |nil=>rfl
 |cons x l ih=>rw[List.map_cons,List.flatten_cons,ih];rfl
theorem U5 (l:List Int):(l.map (Value.int .i64)).map (fun u=>[C.vl u])=l.map cK:=by rw[List.map_map];rfl
theorem aU9:Meets Tryz.prog 148 ZG:=by
 refine ⟨by kernel_rfl,fun av vs E ro w K hlen hrel hR hs _=>?_⟩
 obtain ⟨l,rfl,hH,hl,hK⟩:=hs
 match E,hH with
 |[],_=>
  match vs,hlen with
  |[v0],_=>
   have r0:FzR ro (l.map cK) v0:=hrel 0 _ _ rfl rfl
   cases hl0:l with
   |nil=>
    subst hl0
    generalize hx:([]:List Int).map cK=xs at r0
    cases r0 with
    |mk xs sz o oa hoa cap us hz hc ho h1 h2 h3 h4=>
     subst hx
     have hK:K (.va (.c1 (.fz []))) []:=hK
     cases oa with
     |none=>
      refine (Any.slices_Clone_int_nil Tryz.lays15 0 cap w).mono ?_
      rintro e w' ⟨rfl,rfl⟩
      obtain ⟨r',E',ro',a1,a2,a3⟩:=oE (o:=none) (c:=0) hR (Below.refl _ _) hK
      exact ⟨r',_,E',ro',rfl,a2,a1,a3⟩
     |some a=>
      refine (Any.slices_Clone_int_zero Tryz.lays15 a cap w).mono ?_
      rintro e w' ⟨v',rfl,hown,_,hb⟩
      obtain ⟨o',c',rfl⟩:∃o' c',v'=.slice o' 0 c':=by
       rcases hown.2 with ⟨rfl,_⟩|⟨b,c',cur,rfl,_⟩
       · exact ⟨none,0,rfl⟩
       · exact ⟨_,c',rfl⟩
      obtain ⟨r',E',ro',a1,a2,a3⟩:=oE (o:=o') (c:=c') hR hb hK
      exact ⟨r',_,E',ro',rfl,a2,a1,a3⟩
   |cons x0 lt=>
    have hne:l≠[]:=by rw[hl0];exact List.cons_ne_nil _ _
    clear hl0
    generalize hx:l.map cK=xs at r0
    cases r0 with
    |mk xs sz o oa hoa cap us hz hc ho h1 h2 h3 h4=>
     subst hx
     have hne2:l.map cK≠[]:=by simpa using hne
     obtain ⟨⟨b,off⟩,rfl⟩:=Option.isSome_iff_exists.1 (ho hne2)
     obtain rfl:=hoa hne2
     have hcell:∀j,j<l.length->w.cell? ⟨b,off+j,none⟩=some (Value.int .i64 (l.getD j 0)):=fun j hj=>by
      have hf:(l.map cK).flatten[j]? = some (.vl (Value.int .i64 (l.getD j 0))):=by
       rw[VB,List.getElem?_map,List.getElem?_map,aU hj]
       simp[hj]
      have e1:=h1 j _ hf
      have e2:=h2 j _ hf
      rw[e2] at e1
      exact hR.rd b (off+j) _ e1
     have key:=Any.slices_Clone_int Tryz.lays15 b off l.length cap l w (Nat.le_refl _) (by omega) hcell
     rw[List.take_length] at key
     rw[List.length_map]
     refine key.mono ?_
     rintro e w' ⟨v',rfl,hown,_,hb⟩
     rw[<-List.length_map (f:=(Value.int .i64))] at hown
     obtain ⟨r',E',ro',a1,a2,a3⟩:=L3 hR rfl (cs:=l.map (Value.int .i64)) (by simpa using hne) (fun u hu=>by obtain ⟨y,_,rfl⟩:=List.mem_map.1 hu;rfl) hown hb (by rw[U5];exact hK)
     exact ⟨r',_,E',ro',rfl,a2,a1,a3⟩
end Go.Proofs.YthpbnmebjocbeaaGreat
namespace Go.Proofs.YthpbnmebjocbeaaGreat
open Go.W
theorem IZ:Meets Tryz.prog 113 N2:=by
 refine aF Tryz.func113 aMG 2 (by rw[Tryz.ntmps113];decide) (aC aU3 (aC aU9 (aB _))) (fun av H K h=>by obtain ⟨_,_,rfl,_⟩:=h;rfl) ?_
 rintro av H K ⟨s,n,rfl,rfl,hs,hK⟩
 rw[<-v8] at hK
 have hl:=hs.ok.le
 simp -dsimp only[go_sem,aD,ZN,ZK]
 refine aL (α:=Nat) (fun i=>[(1,tS n),(2,.va (.c1 (.pt 0 0))),(4,.va (.c1 (.pt 1 0))),(9,.va (.c1 (.fz (s.es.map aZ)))),(10,iS .i64 s.es.length),(11,iS .i64 i)]) (fun _=>[.cells (aD s) 25,.cells [.vl (.string (mk [])),.vl (.slice none 0 0),.vl (.slice none 0 0)] 118])
  (fun i=>i<=s.es.length/\d8 (s.es.drop i) n=d8 s.es n) (fun i=>s.es.length-i) 0 2 ⟨Nat.zero_le _,rfl⟩ ?_ ?_ ?_
 · simp[go_sem]
 · simp[go_sem,aD]
 rintro i ⟨hi,ho⟩
 rcases bB i s.es.length with hlt|hge
 · have hg:decide ((i:Int)<(s.es.length:Int))=true:=by simp;omega
   obtain ⟨t,hx⟩:∃e,s.es[i]? = some e:=⟨_,aU hlt⟩
   have q2:=aT (row:=aZ) hx
   have htm:=bY hx
   rw[d8,iQ hx] at ho
   cases hc:decide (t.nm=n) with
   |true=>
    rw[hc,bE] at ho
    rw[<-ho] at hK
    simp(maxSteps:=9^6)-dsimp only[go_sem,hg,↓q2,aZ,aD,cN,hc]
    refine ⟨by omega,aDC (hs.en t htm).1 ?_⟩
    simp(maxSteps:=9^6)-dsimp only[go_sem]
    refine aAZ (hs.en t htm).2 ?_
    simp(maxSteps:=9^6)-dsimp only[go_sem]
    exact .z ((by simpa[go_sem,aZ] using hK))
   |false=>
    rw[hc,a8] at ho
    simp(maxSteps:=9^6)-dsimp only[go_sem,hg,↓q2,aZ,aD,cN,hc]
    refine ⟨by omega,by omega,aE (i+1) 2 ⟨by omega,ho⟩ (by omega) ?_ ?_⟩
    · simp[go_sem]
    · simp[go_sem,aD]
 · have hg:decide ((i:Int)<(s.es.length:Int))=false:=by simp;omega
   obtain rfl:i=s.es.length:=by omega
   rw[List.drop_length] at ho
   rw[<-ho] at hK
   simp -dsimp only[go_sem,hg,aD]
   exact .z ((by simpa[go_sem,d8,M2] using hK))
noncomputable def eqB {α:Type} (a b:α):Bool:=@decide (a=b) (Classical.propDecidable _)
theorem aG6:Meets Tryz.prog 86 (pF tH C.sc fun s=>.bool (cG s)).sp:=by
 refine aF Tryz.func86 aVN 1 (by rw[Tryz.ntmps86];decide) (aB _) lG ?_
 rintro av H K ⟨⟨h,rfl⟩,hK⟩
 obtain ⟨_,rfl,s,rfl,hs⟩:=f7 h
 have hK:K (bS (cG s)) []:=by
  have:(pF tH C.sc fun s=>.bool (cG s)).val [.va (.gs (aD s))]=bA (cG s):=by simp -dsimp only[go_sem]
  rw[this] at hK;exact hK
 obtain ⟨hv,hle,hls,hes,hss⟩:=hs
 have big:cG s=true->∀R:Hp,W.Fin 0 K (bS true) R:=fun h R=>by
  rw[h] at hK
  exact .z ((by simpa[go_sem] using hK))
 cases d1:decide (16<(s.es.length:Int)) with
 |true=>
  simp(maxSteps:=9^6)-dsimp only[go_sem,aD,J1,J7,d1]
  exact big (by unfold cG;rw[show decide (16<s.es.length)=true by simp at d1 ⊢;omega];simp) _
 |false=>
 cases d2:decide (16<(s.ss.length:Int)) with
 |true=>
  simp(maxSteps:=9^6)-dsimp only[go_sem,aD,J1,J7,d1,d2]
  exact big (by unfold cG;rw[show decide (16<s.es.length+s.ss.length)=true by simp at d2 ⊢;omega];simp) _
 |false=>
 cases d3:decide (16<(s.es.length:Int)+(s.ss.length:Int)) with
 |true=>
  simp(maxSteps:=9^6)-dsimp only[go_sem,aD,J1,J7,d1,d2,d3]
  exact ⟨by simp at d1 d2;omega,big (by unfold cG;rw[show decide (16<s.es.length+s.ss.length)=true by simp at d3 ⊢;omega];simp) _⟩
 |false=>
 simp(maxSteps:=9^6)-dsimp only[go_sem,aD,J1,J7,d1,d2,d3]
 simp only[decide_eq_false_iff_not] at d1 d2 d3
 refine ⟨by omega,?_⟩
 have hL:cG s=(s.es.any (fun e=>decide (16<e.ns.length))||s.ss.any (fun t=>decide (16<t.fs.length))):=by
  unfold cG;rw[decide_eq_false (by omega),decide_eq_false (by omega)];rfl
 refine aL (α:=Nat) (fun i=>[(1,.va (.c1 (.pt 0 0))),(3,iS .i64 i)]) (fun _=>[.cells (aD s) 25])
  (fun i=>i<=s.es.length/\(s.es.drop i).any (fun e=>decide (16<e.ns.length))=s.es.any (fun e=>decide (16<e.ns.length))) (fun i=>s.es.length-i) 0 1 ⟨Nat.zero_le _,rfl⟩ ?_ ?_ ?_
 · simp[go_sem]
 · simp[go_sem,aD]
 rintro i ⟨hi,ho⟩
 rcases bB i s.es.length with hlt|hge
 · have hg:decide ((i:Int)<(s.es.length:Int))=true:=by simp;omega
   obtain ⟨e,hx⟩:∃e,s.es[i]? = some e:=⟨_,aU hlt⟩
   have q2:=aT (row:=aZ) hx
   rw[cL hx] at ho
   simp(maxSteps:=9^6)-dsimp only[go_sem,hg,↓q2,aZ,aD]
   and_intros
   all_goals first
    |omega
    |skip
   · intro hc
     have hc':decide (16<e.ns.length)=true:=by simp at hc;simp;omega
     have:cG s=true:=by simp only[hL,<-ho,hc',Bool.true_or]
     rw[this] at hK
     exact .z ((by simpa[go_sem] using hK))
   · intro hc
     refine ⟨by omega,aE (i+1) 1 ⟨by omega,?_⟩ (by omega) ?_ ?_⟩
     · have hc':decide (16<e.ns.length)=false:=by simp at hc;simp;omega
       rw[<-ho,hc',Bool.false_or]
     · simp[go_sem]
     · simp[go_sem,aD]
 · have hg:decide ((i:Int)<(s.es.length:Int))=false:=by simp;omega
   obtain rfl:i=s.es.length:=by omega
   rw[eH] at ho
   rw[<-ho,Bool.false_or] at hL
   simp(maxSteps:=9^6)-dsimp only[go_sem,hg,aD]
   refine aL (α:=Nat) (fun i=>[(1,.va (.c1 (.pt 0 0))),(4,iS .i64 i)]) (fun _=>[.cells (aD s) 25])
    (fun i=>i<=s.ss.length/\(s.ss.drop i).any (fun e=>decide (16<e.fs.length))=s.ss.any (fun e=>decide (16<e.fs.length))) (fun i=>s.ss.length-i) 0 1 ⟨Nat.zero_le _,rfl⟩ ?_ ?_ ?_
   · simp[go_sem]
   · simp[go_sem,aD]
   clear hi ho hge hg
   rintro i ⟨hi,ho⟩
   rcases bB i s.ss.length with hlt|hge
   · have hg:decide ((i:Int)<(s.ss.length:Int))=true:=by simp;omega
     obtain ⟨e,hx⟩:∃e,s.ss[i]? = some e:=⟨_,aU hlt⟩
     have q2:=aT (row:=aH) hx
     rw[cL hx] at ho
     simp(maxSteps:=9^6)-dsimp only[go_sem,hg,↓q2,aH,aD]
     and_intros
     all_goals first
      |omega
      |skip
     · intro hc
       have hc':decide (16<e.fs.length)=true:=by simp at hc;simp;omega
       have:cG s=true:=by simp only[hL,<-ho,hc',Bool.true_or]
       rw[this] at hK
       exact .z ((by simpa[go_sem] using hK))
     · intro hc
       refine ⟨by omega,aE (i+1) 1 ⟨by omega,?_⟩ (by omega) ?_ ?_⟩
       · have hc':decide (16<e.fs.length)=false:=by simp at hc;simp;omega
         rw[<-ho,hc',Bool.false_or]
       · simp[go_sem]
       · simp[go_sem,aD]
   · have hg:decide ((i:Int)<(s.ss.length:Int))=false:=by simp;omega
     obtain rfl:i=s.ss.length:=by omega
     rw[eH] at ho
     simp(maxSteps:=9^6)-dsimp only[go_sem,hg,aD]
     rw[hL,<-ho] at hK
     exact .z ((by simpa[go_sem] using hK))
def GC (len:Sc->Nat):List S->Prop:=fun av=>match av with
 |[.va (.gs r),.va (.c1 (.vl (.int .i64 i)))]=>gK r/\0<=i/\i<(len (C.sc r):Int)
 |_=>False
theorem mY {len:Sc->Nat} {av:List S} (h:GC len av):∃(s:Sc) (i:Nat),av=[.va (.gs (aD s)),iS .i64 i]/\s.fit/\i<len s:=by
 unfold GC at h
 split at h
 · obtain ⟨⟨a,rfl,ha⟩,h1,h2⟩:=h
   rw[dF] at h2
   rename_i i
   exact ⟨a,i.toNat,by rw[Int.toNat_of_nonneg h1],ha,by omega⟩
 · exact h.elim
noncomputable def V0 (f:Sc->Nat->Int):List S->A:=fun av=>match av with
 |[.va (.gs r),.va (.c1 (.vl (.int .i64 i)))]=>iA .i64 (f (C.sc r) i.toNat)
 |_=>.gs []
noncomputable def BS (len:Sc->Nat) (f:Sc->Nat->Int):Fun:=⟨GC len,V0 f,fun av h=>by obtain ⟨a,b,rfl,_⟩:=mY h;trivial⟩
theorem IH {len:Sc->Nat} {f:Sc->Nat->Int}:∀av H K,(BS len f).sp av H K->av.length=2:=fun av H K h=>by obtain ⟨a,b,rfl,_⟩:=mY h.1.1;rfl
attribute [go_sem] BS GC V0
theorem aBS:Meets Tryz.prog 87 (BS (fun s=>s.es.length) fO).sp:=by
 refine aF Tryz.func87 aR9 2 (by rw[Tryz.ntmps87];decide) (aG JA (aG yH (aG S5 (aB _)))) IH ?_
 rintro av H K ⟨⟨h,rfl⟩,hK⟩
 obtain ⟨s,i,rfl,hs,hi⟩:=mY (len:=fun s=>s.es.length) h
 have hK:K (iS .i64 (fO s i)) []:=by
  have:(BS (fun s=>s.es.length) fO).val [.va (.gs (aD s)),iS .i64 i]=iA .i64 (fO s i):=by simp -dsimp only[go_sem,Int.toNat_natCast]
  rw[this] at hK;exact hK
 clear h
 have hle:=hs.ok.le
 have fin:∀(x:Int) (R:Hp),fO s i=x->W.Fin 0 K (iS .i64 x) R:=fun x R h=>by
  rw[h] at hK
  exact .z ((by simpa[go_sem] using hK))
 obtain ⟨e,hx⟩:∃e,s.es[i]? = some e:=⟨_,aU hi⟩
 have q1:=aT (row:=aZ) hx
 obtain ⟨_,hln,hlv,_,_⟩:=hs.ok.es e (bY hx)
 have hA:fO s i=bif !(oL (bl e.nm)) then 5 else bif c8 (s.es.take i) e.nm then 7 else l9 e:=by unfold fO;rw[hx]
 simp(maxSteps:=9^6)-dsimp only[go_sem,aD,aEU,aEC,↓q1,aZ]
 refine ⟨by omega,fun h1=>fin 5 _ (by rw[hA,h1];rfl),fun h1=>?_⟩
 rw[h1] at hA
 simp only[a8] at hA
 refine aL (α:=Nat) (fun j=>[(1,iS .i64 i),(2,.va (.c1 (.pt 0 0))),(5,.va (.c1 (.pt 1 0))),(6,iS .i64 j)]) (fun _=>[.cells (aD s) 25,.cells (aZ e) 118])
  (fun j=>j<=i/\c8 ((s.es.take i).drop j) e.nm=c8 (s.es.take i) e.nm) (fun j=>i-j) 0 2 ⟨Nat.zero_le _,rfl⟩ ?_ ?_ ?_
 · simp[go_sem]
 · simp[go_sem,aD,aZ]
 have hti:(s.es.take i).length=i:=by rw[List.length_take];omega
 rintro j ⟨hj,ho⟩
 rcases bB j i with hlt|hge
 · have hg:decide ((j:Int)<(i:Int))=true:=by simp;omega
   obtain ⟨d,hd⟩:∃d,s.es[j]? = some d:=⟨_,aU (by omega)⟩
   have hd':(s.es.take i)[j]? = some d:=by rw[List.getElem?_take,if_pos hlt];exact hd
   have q2:=aT (row:=aZ) hd
   rw[c8,cL hd'] at ho
   simp(maxSteps:=9^6)-dsimp only[go_sem,hg,↓q2,aZ,aD,cN]
   refine ⟨by omega,fun hc=>?_,fun hc=>?_⟩
   · rw[hc,Bool.true_or] at ho
     exact fin 7 _ (by rw[hA,<-ho];rfl)
   · rw[hc,Bool.false_or] at ho
     refine ⟨by omega,aE (j+1) 2 ⟨by omega,ho⟩ (by omega) ?_ ?_⟩
     · simp[go_sem]
     · simp[go_sem,aD,aZ]
 · obtain rfl:j=i:=by omega
   have hg:decide ((j:Int)<(j:Int))=false:=by simp
   rw[List.drop_eq_nil_of_le (by omega)] at ho
   rw[<-ho] at hA
   replace hA:fO s j=l9 e:=hA
   clear ho hti
   simp(maxSteps:=9^6)-dsimp only[go_sem,hg,aZ,aD]
   refine ⟨fun h1=>?_,fun h1=>?_⟩
   · refine fin 2 _ ?_
     rw[hA]
     unfold l9
     have:(decide (e.ns.length=0)||decide (e.ns.length≠e.vs.length))=true:=by
      simp only[Bool.or_eq_true,beq_iff_eq,bne_iff_ne,decide_eq_true_eq] at h1 ⊢;omega
     rw[this];rfl
   simp only[Bool.or_eq_false_iff,beq_eq_false_iff_ne,bne_eq_false_iff_eq,ne_eq] at h1
   have hl:e.ns.length=e.vs.length:=by omega
   have hF:fO s j=fE (fI e) (e.ns.length-0) 0:=by
    rw[hA];unfold l9;rw[decide_eq_false (by omega),decide_eq_false (by omega)];rfl
   clear hA hg hge hj
   refine aL (α:=Nat) (fun k=>[(5,.va (.c1 (.pt 1 0))),(7,iS .i64 k)]) (fun _=>[.cells (aD s) 25,.cells (aZ e) 118])
    (fun k=>k<=e.ns.length/\fE (fI e) (e.ns.length-k) k=fE (fI e) (e.ns.length-0) 0) (fun k=>e.ns.length-k) 0 2 ⟨Nat.zero_le _,rfl⟩ ?_ ?_ ?_
   · simp[go_sem]
   · simp[go_sem,aD,aZ]
   rintro k ⟨hk,ho⟩
   rcases bB k e.ns.length with hlt|hge
   · have hg:decide ((k:Int)<(e.ns.length:Int))=true:=by simp;omega
     obtain ⟨nm,hx2⟩:∃nm,e.ns[k]? = some nm:=⟨_,aU hlt⟩
     obtain ⟨n,hy⟩:∃nm,e.vs[k]? = some nm:=⟨_,aU (by omega)⟩
     have q2:=aT (row:=bF) hx2
     have q3:=aT (row:=cK) hy
     have hbs:sB (e.ns.map bF):=m8 hln
     have hk0:(0<=(k:Int))=True:=by simp
     have hk1:((k:Int)<=9223372036854775807)=True:=by simp;omega
     have hA:fI e k=bif !(cO (bl nm)) then (5:Int) else bif bW (e.ns.take k) nm then 7 else bif decide (n<0)||decide (127<n) then 4 else
      bif (decide ((k:Int)=0)&&decide (n≠0))||(decide (0<(k:Int))&&match e.vs[k-1]? with|some m=>decide (n<=m)|none=>false) then 2 else 0:=by
      unfold fI;rw[hx2,hy];rfl
     have fin':∀(x:Int) (R:Hp),fI e k=x->x≠0->W.Fin 0 K (iS .i64 x) R:=fun x R h1 h2=>fin x R (by
      rw[hF,<-ho,kQ hlt (by rw[h1];exact h2),h1])
     have dM:fI e k=0->fE (fI e) (e.ns.length-(k+1)) (k+1)=fE (fI e) (e.ns.length-0) 0:=fun h1=>by rw[<-ho,mS hlt h1]
     cases hc1:cO (bl nm) with
     |false=>
      simp(maxSteps:=9^6)-dsimp only[go_sem,hg,↓q2,aZ,aD,hc1]
      exact ⟨by omega,fin' 5 _ (by rw[hA,hc1];rfl) (by decide)⟩
     |true=>
      cases hc2:bW (e.ns.take k) nm with
      |true=>
       simp(maxSteps:=9^6)-dsimp only[go_sem,hg,↓q2,aZ,aD,hc1,hc2,hbs,hk0,hk1,Int.toNat_natCast]
       exact ⟨by omega,by omega,fin' 7 _ (by rw[hA,hc1,hc2];rfl) (by decide)⟩
      |false=>
       cases hc3:decide (n<0) with
       |true=>
        simp(maxSteps:=9^6)-dsimp only[go_sem,hg,↓q2,↓q3,aZ,aD,hc1,hc2,hbs,hk0,hk1,Int.toNat_natCast,hc3]
        exact ⟨by omega,by omega,by omega,fin' 4 _ (by rw[hA,hc1,hc2,hc3];rfl) (by decide)⟩
       |false=>
       cases hc4:decide (127<n) with
       |true=>
        simp(maxSteps:=9^6)-dsimp only[go_sem,hg,↓q2,↓q3,aZ,aD,hc1,hc2,hbs,hk0,hk1,Int.toNat_natCast,hc3,hc4]
        exact ⟨by omega,by omega,by omega,by omega,fin' 4 _ (by rw[hA,hc1,hc2,hc3,hc4];rfl) (by decide)⟩
       |false=>
       have hA2:fI e k=bif (decide ((k:Int)=0)&&decide (n≠0))||(decide (0<(k:Int))&&match e.vs[k-1]? with|some m=>decide (n<=m)|none=>false) then 2 else 0:=by rw[hA,hc1,hc2,hc3,hc4];rfl
       clear hA
       rcases Nat.eq_zero_or_pos k with h0|h0
       · have g0:((k:Int)==0)=true:=by simp;omega
         have g1:decide (0<(k:Int))=false:=by simp;omega
         have g2:decide ((k:Int)=0)=true:=g0
         cases hn:(n != 0) with
         |true=>
          simp(maxSteps:=9^6)-dsimp only[go_sem,hg,↓q2,↓q3,aZ,aD,hc1,hc2,hbs,hk0,hk1,Int.toNat_natCast,hc3,hc4,g0,g1,hn,Bool.and_false]
          and_intros
          all_goals first
           |omega
           |exact fin' 2 _ (by rw[hA2,g1,g2];simp at hn;simp[hn]) (by decide)
         |false=>
          simp(maxSteps:=9^6)-dsimp only[go_sem,hg,↓q2,↓q3,aZ,aD,hc1,hc2,hbs,hk0,hk1,Int.toNat_natCast,hc3,hc4,g0,g1,hn,Bool.and_false]
          and_intros
          all_goals first
           |omega
           |exact aE (k+1) 2 ⟨by omega,dM (by rw[hA2,g1];simp at hn;simp[hn])⟩ (by omega) (by simp[go_sem]) (by simp[go_sem,aD,aZ])
       · have g0:((k:Int)==0)=false:=by simp;omega
         have g1:decide (0<(k:Int))=true:=by simp;omega
         have g2:decide ((k:Int)=0)=false:=g0
         obtain ⟨m,hm⟩:∃m,e.vs[k-1]? = some m:=⟨_,aU (by omega)⟩
         have q4:((k:Int)-1).toNat=k-1:=by omega
         have q5:=tB (row:=cK) hm
         cases hn:decide (n<=m) with
         |true=>
          simp(maxSteps:=9^6)-dsimp only[go_sem,hg,↓q2,↓q3,aZ,aD,hc1,hc2,hbs,hk0,hk1,Int.toNat_natCast,aI,forall_eq',hc3,hc4,g0,g1,q4,hm,hn,Bool.and_true]
          and_intros
          all_goals first
           |omega
           |exact fin' 2 _ (by rw[hA2,hm,g1];simp only[hn];simp) (by decide)
         |false=>
          simp(maxSteps:=9^6)-dsimp only[go_sem,hg,↓q2,↓q3,aZ,aD,hc1,hc2,hbs,hk0,hk1,Int.toNat_natCast,aI,forall_eq',hc3,hc4,g0,g1,q4,hm,hn,Bool.and_true]
          and_intros
          all_goals first
           |omega
           |exact aE (k+1) 2 ⟨by omega,dM (by rw[hA2,hm,g1,g2];simp only[hn];rfl)⟩ (by omega) (by simp[go_sem]) (by simp[go_sem,aD,aZ])
   · have hg:decide ((k:Int)<(e.ns.length:Int))=false:=by simp;omega
     obtain rfl:k=e.ns.length:=by omega
     rw[mC] at ho
     simp(maxSteps:=9^6)-dsimp only[go_sem,hg,aZ]
     exact fin 0 _ (by rw[hF,<-ho])
def GA (N:Nat):List S->Prop:=fun av=>match av with
 |[.va (.gs r),.va (.gs q)]=>gK r/\iO q/\(C.ty q).h<=N
 |_=>False
theorem i7 {N:Nat} {av:List S} (h:GA N av):∃s t,av=[.va (.gs (aD s)),.va (.gs (aQ t))]/\s.fit/\TyOk t/\t.h<=N:=by
 unfold GA at h
 split at h
 · obtain ⟨⟨a,rfl,ha⟩,⟨b,rfl,hb⟩,hh⟩:=h
   rw[g4] at hh
   exact ⟨a,b,rfl,ha,hb,hh⟩
 · exact h.elim
noncomputable def N3:List S->A:=fun av=>match av with
 |[.va (.gs r),.va (.gs q)]=>bA (valF (C.sc r).ss (C.sc r).es (C.ty q))
 |_=>.gs []
noncomputable def DO (N:Nat):Fun:=⟨GA N,N3,fun av h=>by obtain ⟨a,b,rfl,_⟩:=i7 h;trivial⟩
theorem GK {N:Nat}:∀av H K,(DO N).sp av H K->av.length=2:=fun av H K h=>by obtain ⟨a,b,rfl,_⟩:=i7 h.1.1;rfl
attribute [go_sem] DO GA N3
theorem aUP {ss:List St} {es:List En} {s:Int} {n:ByteArray} {e:List Ty}:valF ss es (.mk 6 s n e)=(cD ss n&&s==0&&(e.length:Int)==0):=by
 rw[valF];rfl
theorem aU4 {ss:List St} {es:List En} {s:Int} {n:ByteArray} {e:List Ty}:valF ss es (.mk 7 s n e)=(c8 es n&&s==0&&(e.length:Int)==0):=by
 rw[valF];rfl
theorem O8:∀N,Meets Tryz.prog 128 (DO N).sp
 |0=>⟨by kernel_rfl,by rintro xs vs E ro w K _ _ _ ⟨⟨h,_⟩,_⟩;obtain ⟨_,a,_,_,_,h⟩:=i7 h;have:=a.h_pos;omega⟩
 |N+1=>by
  refine aF Tryz.func128 aNN 2 (by rw[Tryz.ntmps128];decide) (aG (O8 N) (aG aDI (aC nG (aC ID (aB _))))) GK ?_
  rintro av H K ⟨⟨h,rfl⟩,hK⟩
  obtain ⟨sc,t,rfl,hs,ht,hh⟩:=i7 h
  have hK:K (bS (valF sc.ss sc.es t)) []:=by
   have:(DO (N+1)).val [.va (.gs (aD sc)),.va (.gs (aQ t))]=bA (valF sc.ss sc.es t):=by simp -dsimp only[go_sem]
   rw[this] at hK;exact hK
  clear h
  have fin:∀(b:Bool) (R:Hp),valF sc.ss sc.es t=b->W.Fin 0 K (bS b) R:=fun b R h=>by
   rw[h] at hK
   exact .z ((by simp -dsimp only[go_sem];simpa using hK))
  have hit:iO (aQ t):=fQ ht
  cases t with
  |mk k s n e=>
  have hcd:=g4 (.mk k s n e)
  rw[aQ,aY] at hcd hit
  have hcl:(Ty.mk k s n e).e.length=e.length:=rfl
  by_cases k1:(k==1)=true
  · have hF:=valF.eq_1 sc.ss sc.es k s n e
    rw[k1] at hF
    simp only[bE] at hF
    simp(maxSteps:=9^6)-dsimp only[go_sem,aD,aQ,aY,lT,lZ,k1,hit,hcd,hcl]
    exact fin _ _ hF
  rw[Bool.not_eq_true] at k1
  by_cases k2:(k==2)=true
  · have hF:=valF.eq_1 sc.ss sc.es k s n e
    rw[k1,k2] at hF
    simp only[bE,a8] at hF
    simp(maxSteps:=9^6)-dsimp only[go_sem,aD,aQ,aY,lT,lZ,k1,k2,hit,hcd,hcl]
    exact fin _ _ hF
  rw[Bool.not_eq_true] at k2
  by_cases k3:(k==3)=true
  · have hF:=valF.eq_1 sc.ss sc.es k s n e
    rw[k1,k2,k3] at hF
    simp only[bE,a8,Bool.and_false,Bool.or_false] at hF
    simp(maxSteps:=9^6)-dsimp only[go_sem,aD,aQ,aY,lT,lZ,k1,k2,k3,hit,hcd,hcl]
    exact fin _ _ hF
  rw[Bool.not_eq_true] at k3
  by_cases k4:(k==4)=true
  · have hF:=valF.eq_1 sc.ss sc.es k s n e
    rw[k1,k2,k3,k4] at hF
    simp only[bE,a8] at hF
    simp(maxSteps:=9^6)-dsimp only[go_sem,aD,aQ,aY,lT,lZ,k1,k2,k3,k4,hit,hcd,hcl]
    exact fin _ _ hF
  rw[Bool.not_eq_true] at k4
  by_cases k5:(k==5)=true
  · have hF:=valF.eq_1 sc.ss sc.es k s n e
    rw[k1,k2,k3,k4,k5] at hF
    simp only[bE,a8] at hF
    cases hc:(decide (1<=s)&&decide (s<=32)&&bl n==[]&&(e.length:Int)==1) with
    |false=>
     have hF':valF sc.ss sc.es (.mk k s n e)=false:=by
      rw[hF]
      cases h0:(decide (1<=s)&&decide (s<=32)&&bl n==[]) with
      |false=>rfl
      |true=>
       rw[h0,Bool.true_and] at hc
       match e,hc with
       |[],_=>rfl
       |[u],hc=>simp at hc
       |u::v::r,_=>simp[kL]
     simp(maxSteps:=9^6)-dsimp only[go_sem,aD,aQ,aY,lT,lZ,k1,k2,k3,k4,k5,hc]
     exact fin _ _ hF'
    |true=>
     obtain ⟨u,rfl⟩:∃u,e=[u]:=by
      simp only[Bool.and_eq_true,beq_iff_eq] at hc
      exact List.length_eq_one_iff.1 (by omega)
     have h0:(decide (1<=s)&&decide (s<=32)&&bl n==[])=true:=by
      simp only[Bool.and_eq_true] at hc ⊢;exact hc.1
     have hF':valF sc.ss sc.es (.mk k s n [u])=valF sc.ss sc.es u:=by rw[hF,h0];simp[kL]
     have hu2:u.h<=N:=by rw[Ty.h,Ty.hs,Ty.hs] at hh;omega
     have hu:iO (aQ u):=fQ (ht.e u (by simp[Ty.e]))
     have hsf:=fJ hs
     rw[aD] at hsf
     have hsd:=dF sc
     rw[aD] at hsd
     have hc':(decide (1<=s)&&decide (s<=32)&&bl n==[]&&((1:Nat):Int)==1)=true:=hc
     simp(maxSteps:=9^6)-dsimp only[go_sem,aD,aQ,aY,lT,lZ,k1,k2,k3,k4,k5,hc']
     refine ⟨⟨by omega,fun r hr=>by subst hr;exact dE u⟩,fun r hr=>?_⟩
     subst hr
     simp(maxSteps:=9^6)-dsimp only[go_sem,hsf,hsd,hu,dE]
     exact ⟨hu2,fin _ _ hF'⟩
  rw[Bool.not_eq_true] at k5
  by_cases k6:(k==6)=true
  · obtain rfl:k=6:=by simpa using k6
    have hF:=aUP (ss:=sc.ss) (es:=sc.es) (s:=s) (n:=n) (e:=e)
    simp(maxSteps:=9^6)-dsimp only[go_sem,aD,aQ,aY,lT,lZ,k1,k2,k3,k4,k5,k6]
    refine fU hs ?_
    cases hc:cD sc.ss n with
    |false=>
     rw[hc] at hF
     simp(maxSteps:=9^6)-dsimp only[go_sem,aH,hit,hcd,hcl]
     exact fin _ _ hF
    |true=>
     rw[hc] at hF
     simp(maxSteps:=9^6)-dsimp only[go_sem,aH,hit,hcd,hcl]
     exact fin _ _ hF
  rw[Bool.not_eq_true] at k6
  by_cases k7:(k==7)=true
  · obtain rfl:k=7:=by simpa using k7
    have hF:=aU4 (ss:=sc.ss) (es:=sc.es) (s:=s) (n:=n) (e:=e)
    simp(maxSteps:=9^6)-dsimp only[go_sem,aD,aQ,aY,lT,lZ,k1,k2,k3,k4,k5,k6,k7]
    refine m9 hs ?_
    cases hc:c8 sc.es n with
    |false=>
     rw[hc] at hF
     simp(maxSteps:=9^6)-dsimp only[go_sem,aZ,hit,hcd,hcl]
     exact fin _ _ hF
    |true=>
     rw[hc] at hF
     simp(maxSteps:=9^6)-dsimp only[go_sem,aZ,hit,hcd,hcl]
     exact fin _ _ hF
  rw[Bool.not_eq_true] at k7
  have hF:=valF.eq_1 sc.ss sc.es k s n e
  rw[k1,k2,k3,k4,k5,k6,k7] at hF
  simp only[a8] at hF
  simp(maxSteps:=9^6)-dsimp only[go_sem,aD,aQ,aY,lT,lZ,k1,k2,k3,k4,k5,k6,k7]
  exact fin _ _ hF
def F9:List S->Prop:=fun av=>match av with
 |[.va (.gs r),.va (.gs q)]=>gK r/\iO q
 |_=>False
theorem kN {av:List S} (h:F9 av):∃s t,av=[.va (.gs (aD s)),.va (.gs (aQ t))]/\s.fit/\TyOk t:=by
 unfold F9 at h
 split at h
 · obtain ⟨⟨a,rfl,ha⟩,⟨b,rfl,hb⟩⟩:=h
   exact ⟨a,b,rfl,ha,hb⟩
 · exact h.elim
noncomputable def r0Fn:Fun:=⟨F9,N3,fun av h=>by obtain ⟨a,b,rfl,_⟩:=kN h;trivial⟩
attribute [go_sem] r0Fn F9
theorem L4:Meets Tryz.prog 128 r0Fn.sp:=dW 0 O8 fun av H K ⟨⟨h,e⟩,hK⟩=>by
 obtain ⟨a,b,rfl,ha,hb⟩:=kN h
 exact ⟨b.h,⟨⟨⟨fJ ha,fQ hb,by rw[g4];exact Nat.le_refl _⟩,e⟩,hK⟩⟩
theorem QW:Meets Tryz.prog 88 (BS (fun s=>s.ss.length) gG).sp:=by
 refine aF Tryz.func88 aTR 2 (by rw[Tryz.ntmps88];decide) (aG JA (aC ID (aG yH (aG L4 (aB _))))) IH ?_
 rintro av H K ⟨⟨h,rfl⟩,hK⟩
 obtain ⟨s,i,rfl,hs,hi⟩:=mY (len:=fun s=>s.ss.length) h
 have hK:K (iS .i64 (gG s i)) []:=by
  have:(BS (fun s=>s.ss.length) gG).val [.va (.gs (aD s)),iS .i64 i]=iA .i64 (gG s i):=by simp -dsimp only[go_sem,Int.toNat_natCast]
  rw[this] at hK;exact hK
 clear h
 have hls:=hs.ok.ls
 have fin:∀(x:Int) (R:Hp),gG s i=x->W.Fin 0 K (iS .i64 x) R:=fun x R h=>by
  rw[h] at hK
  exact .z ((by simpa[go_sem] using hK))
 obtain ⟨t,hx⟩:∃e,s.ss[i]? = some e:=⟨_,aU hi⟩
 have q1:=aT (row:=aH) hx
 obtain ⟨_,hlf,hfs⟩:=hs.ok.ss t (bY hx)
 have hA:gG s i=bif gT s i t.nm != 0 then gT s i t.nm else n7 s.ss s.es t:=by unfold gG;rw[hx]
 have hsf:=fJ hs
 rw[aD] at hsf
 have hsd:=dF s
 rw[aD] at hsd
 simp(maxSteps:=9^6)-dsimp only[go_sem,aD,aJL,aDV,↓q1,aH]
 refine ⟨by omega,fun h1=>fin 5 _ (by rw[hA];unfold gT;rw[h1];rfl),fun h1=>?_⟩
 refine m9 hs ?_
 simp(maxSteps:=9^6)-dsimp only[go_sem,aZ]
 refine ⟨fun h2=>fin 7 _ (by rw[hA];unfold gT;rw[h1,h2];rfl),fun h2=>?_⟩
 have hC:gT s i t.nm=bif cD (s.ss.take i) t.nm then 7 else 0:=by unfold gT;rw[h1,h2];rfl
 generalize ((d8 s.es t.nm).getD default)=dflt
 refine aL (α:=Nat) (fun j=>[(1,iS .i64 i),(2,.va (.c1 (.pt 0 0))),(5,.va (.c1 (.pt 1 0))),(8,iS .i64 j)]) (fun _=>[.cells (aD s) 25,.cells (aH t) 48])
  (fun j=>j<=i/\cD ((s.ss.take i).drop j) t.nm=cD (s.ss.take i) t.nm) (fun j=>i-j) 0 2 ⟨Nat.zero_le _,rfl⟩ ?_ ?_ ?_
 · simp[go_sem]
 · simp[go_sem,aD,aH]
 have hti:(s.ss.take i).length=i:=by rw[List.length_take];omega
 rintro j ⟨hj,ho⟩
 rcases bB j i with hlt|hge
 · have hg:decide ((j:Int)<(i:Int))=true:=by simp;omega
   obtain ⟨d,hd⟩:∃d,s.ss[j]? = some d:=⟨_,aU (by omega)⟩
   have hd':(s.ss.take i)[j]? = some d:=by rw[List.getElem?_take,if_pos hlt];exact hd
   have q2:=aT (row:=aH) hd
   rw[cD,cL hd'] at ho
   simp(maxSteps:=9^6)-dsimp only[go_sem,hg,↓q2,aH,aD,cN]
   refine ⟨by omega,fun hc=>?_,fun hc=>?_⟩
   · rw[hc,Bool.true_or] at ho
     exact fin 7 _ (by rw[hA,hC,<-ho];rfl)
   · rw[hc,Bool.false_or] at ho
     refine ⟨by omega,aE (j+1) 2 ⟨by omega,ho⟩ (by omega) ?_ ?_⟩
     · simp[go_sem]
     · simp[go_sem,aD,aH]
 · obtain rfl:j=i:=by omega
   have hg:decide ((j:Int)<(j:Int))=false:=by simp
   rw[List.drop_eq_nil_of_le (by omega)] at ho
   have hF:gG s j=n7 s.ss s.es t:=by rw[hA,hC,<-ho];rfl
   clear ho hti hA hC q1 hj hge
   simp(maxSteps:=9^6)-dsimp only[go_sem,hg,aH,aD]
   clear hg
   refine aL (α:=Nat) (fun k=>[(2,.va (.c1 (.pt 0 0))),(5,.va (.c1 (.pt 1 0))),(9,iS .i64 k)]) (fun _=>[.cells (aD s) 25,.cells (aH t) 48])
    (fun k=>k<=t.fs.length/\fE (jN s.ss s.es t) (t.fs.length-k) k=n7 s.ss s.es t) (fun k=>t.fs.length-k) 0 2 ⟨Nat.zero_le _,rfl⟩ ?_ ?_ ?_
   · simp[go_sem]
   · simp[go_sem,aD,aH]
   rintro k ⟨hk,ho⟩
   rcases bB k t.fs.length with hlt|hge
   · have hg:decide ((k:Int)<(t.fs.length:Int))=true:=by simp;omega
     obtain ⟨f,hx2⟩:∃nm,t.fs[k]? = some nm:=⟨_,aU hlt⟩
     have q2:=aT (row:=aS) hx2
     have hf:f.ok:=hfs f (bY hx2)
     have hit:iO (aQ f.ty):=fQ hf.ty
     have hA:jN s.ss s.es t k=bif decide (f.num<1)||decide (127<f.num) then (4:Int) else bif decide (0<(k:Int))&&(match t.fs[k-1]? with|some g=>decide (f.num<=g.num)|none=>false) then 2 else
      bif !(cO (bl f.nm)) then 5 else bif (t.fs.take k).any (fun g=>decide (g.nm=f.nm)) then 7 else bif !(valF s.ss s.es f.ty) then 13 else 0:=by
      unfold jN;rw[hx2];rfl
     have fin':∀(x:Int) (R:Hp),jN s.ss s.es t k=x->x≠0->W.Fin 0 K (iS .i64 x) R:=fun x R h1 h2=>fin x R (by
      rw[hF,<-ho,kQ hlt (by rw[h1];exact h2),h1])
     have dM:jN s.ss s.es t k=0->fE (jN s.ss s.es t) (t.fs.length-(k+1)) (k+1)=n7 s.ss s.es t:=fun h1=>by rw[<-ho,mS hlt h1]
     cases c0:decide (f.num<1) with
     |true=>
      rw[c0] at hA
      simp(maxSteps:=9^6)-dsimp only[go_sem,hg,↓q2,aS,aH,aD,c0]
      exact ⟨by omega,fin' 4 _ hA (by decide)⟩
     |false=>
     cases c1:decide (127<f.num) with
     |true=>
      rw[c0,c1] at hA
      simp(maxSteps:=9^6)-dsimp only[go_sem,hg,↓q2,aS,aH,aD,c0,c1]
      exact ⟨by omega,fin' 4 _ hA (by decide)⟩
     |false=>
     rw[c0,c1] at hA
     simp only[Bool.or_self,a8] at hA
     rcases Nat.eq_zero_or_pos k with h0|h0
     · have g1:decide (0<(k:Int))=false:=by simp;omega
       rw[g1] at hA
       simp only[Bool.false_and,a8] at hA
       cases c3:cO (bl f.nm) with
       |false=>
        rw[c3] at hA
        simp(maxSteps:=9^6)-dsimp only[go_sem,hg,↓q2,aS,aH,aD,c0,c1,c3,g1]
        exact ⟨by omega,fin' 5 _ hA (by decide)⟩
       |true=>
        rw[c3] at hA
        simp only[Bool.not_true,a8] at hA
        simp(maxSteps:=9^6)-dsimp only[go_sem,hg,↓q2,aS,aH,aD,c0,c1,c3,g1]
        refine ⟨by omega,?_⟩
        refine aL (α:=Nat) (fun j=>[(2,.va (.c1 (.pt 0 0))),(5,.va (.c1 (.pt 1 0))),(9,iS .i64 k),(10,.va (.c1 (.pt 2 0))),(11,iS .i64 j)])
         (fun _=>[.cells (aD s) 25,.cells (aH t) 48,.cells (aS f) 52])
         (fun j=>j<=k/\((t.fs.take k).drop j).any (fun g=>decide (g.nm=f.nm))=(t.fs.take k).any (fun g=>decide (g.nm=f.nm))) (fun j=>k-j) 0 3 ⟨Nat.zero_le _,rfl⟩ ?_ ?_ ?_
        · simp[go_sem]
        · simp[go_sem,aD,aH,aS]
        have htk:(t.fs.take k).length=k:=by rw[List.length_take];omega
        rintro j ⟨hj,ho2⟩
        rcases bB j k with hjt|hjg
        · have hgj:decide ((j:Int)<(k:Int))=true:=by simp;omega
          obtain ⟨d,hd⟩:∃e,t.fs[j]? = some e:=⟨_,aU (by omega)⟩
          have hd':(t.fs.take k)[j]? = some d:=by rw[List.getElem?_take,if_pos hjt];exact hd
          have q5:=aT (row:=aS) hd
          rw[cL hd'] at ho2
          simp(maxSteps:=9^6)-dsimp only[go_sem,hgj,↓q5,aS,aH,aD,cN]
          refine ⟨by omega,fun hc=>?_,fun hc=>?_⟩
          · rw[hc,Bool.true_or] at ho2
            rw[<-ho2] at hA
            exact fin' 7 _ hA (by decide)
          · rw[hc,Bool.false_or] at ho2
            refine ⟨by omega,aE (j+1) 3 ⟨by omega,ho2⟩ (by omega) ?_ ?_⟩
            · simp[go_sem]
            · simp[go_sem,aD,aH,aS]
        · obtain rfl:j=k:=by omega
          have hgj:decide ((j:Int)<(j:Int))=false:=by simp
          rw[List.drop_eq_nil_of_le (by omega)] at ho2
          rw[<-ho2] at hA
          simp only[List.any_nil,a8] at hA
          simp(maxSteps:=9^6)-dsimp only[go_sem,hgj,aS,aH,aD,j1,hit,hsf,hsd]
          cases c5:valF s.ss s.es f.ty with
          |true=>
           rw[c5] at hA
           simp(maxSteps:=9^6)-dsimp only[go_sem]
           refine ⟨by omega,aE (j+1) 2 ⟨by omega,dM hA⟩ (by omega) ?_ ?_⟩
           · simp[go_sem]
           · simp[go_sem,aD,aH]
          |false=>
           rw[c5] at hA
           simp(maxSteps:=9^6)-dsimp only[go_sem]
           exact fin' 13 _ hA (by decide)
     · have g1:decide (0<(k:Int))=true:=by simp;omega
       obtain ⟨g,hy⟩:∃m,t.fs[k-1]? = some m:=⟨_,aU (by omega)⟩
       have q4:((k:Int)-1).toNat=k-1:=by omega
       have q6:=tB (row:=aS) hy
       rw[g1,hy,Bool.true_and] at hA
       simp only at hA
       cases c2:decide (f.num<=g.num) with
       |true=>
        rw[c2] at hA
        simp(maxSteps:=9^6)-dsimp only[go_sem,hg,↓q2,aS,aH,aD,c0,c1,g1,q4,c2,hy,aI,forall_eq']
        exact ⟨by omega,by omega,by omega,fin' 2 _ hA (by decide)⟩
       |false=>
        rw[c2] at hA
        simp only[a8] at hA
        cases c3:cO (bl f.nm) with
        |false=>
         rw[c3] at hA
         simp(maxSteps:=9^6)-dsimp only[go_sem,hg,↓q2,aS,aH,aD,c0,c1,c3,g1,q4,c2,hy,aI,forall_eq']
         exact ⟨by omega,by omega,by omega,fin' 5 _ hA (by decide)⟩
        |true=>
         rw[c3] at hA
         simp only[Bool.not_true,a8] at hA
         simp(maxSteps:=9^6)-dsimp only[go_sem,hg,↓q2,aS,aH,aD,c0,c1,c3,g1,q4,c2,hy,aI,forall_eq']
         refine ⟨by omega,by omega,by omega,?_⟩
         refine aL (α:=Nat) (fun j=>[(2,.va (.c1 (.pt 0 0))),(5,.va (.c1 (.pt 1 0))),(9,iS .i64 k),(10,.va (.c1 (.pt 2 0))),(11,iS .i64 j)])
          (fun _=>[.cells (aD s) 25,.cells (aH t) 48,.cells (aS f) 52])
          (fun j=>j<=k/\((t.fs.take k).drop j).any (fun g=>decide (g.nm=f.nm))=(t.fs.take k).any (fun g=>decide (g.nm=f.nm))) (fun j=>k-j) 0 3 ⟨Nat.zero_le _,rfl⟩ ?_ ?_ ?_
         · simp[go_sem]
         · simp[go_sem,aD,aH,aS]
         have htk:(t.fs.take k).length=k:=by rw[List.length_take];omega
         rintro j ⟨hj,ho2⟩
         rcases bB j k with hjt|hjg
         · have hgj:decide ((j:Int)<(k:Int))=true:=by simp;omega
           obtain ⟨d,hd⟩:∃e,t.fs[j]? = some e:=⟨_,aU (by omega)⟩
           have hd':(t.fs.take k)[j]? = some d:=by rw[List.getElem?_take,if_pos hjt];exact hd
           have q5:=aT (row:=aS) hd
           rw[cL hd'] at ho2
           simp(maxSteps:=9^6)-dsimp only[go_sem,hgj,↓q5,aS,aH,aD,cN]
           refine ⟨by omega,fun hc=>?_,fun hc=>?_⟩
           · rw[hc,Bool.true_or] at ho2
             rw[<-ho2] at hA
             exact fin' 7 _ hA (by decide)
           · rw[hc,Bool.false_or] at ho2
             refine ⟨by omega,aE (j+1) 3 ⟨by omega,ho2⟩ (by omega) ?_ ?_⟩
             · simp[go_sem]
             · simp[go_sem,aD,aH,aS]
         · obtain rfl:j=k:=by omega
           have hgj:decide ((j:Int)<(j:Int))=false:=by simp
           rw[List.drop_eq_nil_of_le (by omega)] at ho2
           rw[<-ho2] at hA
           simp only[List.any_nil,a8] at hA
           simp(maxSteps:=9^6)-dsimp only[go_sem,hgj,aS,aH,aD,j1,hit,hsf,hsd]
           cases c5:valF s.ss s.es f.ty with
           |true=>
            rw[c5] at hA
            simp(maxSteps:=9^6)-dsimp only[go_sem]
            refine ⟨by omega,aE (j+1) 2 ⟨by omega,dM hA⟩ (by omega) ?_ ?_⟩
            · simp[go_sem]
            · simp[go_sem,aD,aH]
           |false=>
            rw[c5] at hA
            simp(maxSteps:=9^6)-dsimp only[go_sem]
            exact fin' 13 _ hA (by decide)
   · have hg:decide ((k:Int)<(t.fs.length:Int))=false:=by simp;omega
     obtain rfl:k=t.fs.length:=by omega
     rw[mC] at ho
     simp(maxSteps:=9^6)-dsimp only[go_sem,hg,aH]
     exact fin 0 _ (by rw[hF,<-ho])
mutual
def dirF:Ty->List ByteArray
 |.mk k _ n e=>bif k==6||k==7 then [n] else eQ e
def eQ:List Ty->List ByteArray
 |[]=>[]
 |t::r=>dirF t++eQ r
end
theorem s6:∀(a b:List Ty),eQ (a++b)=eQ a++eQ b
 |[],b=>rfl
 |t::r,b=>by rw[List.cons_append,eQ,eQ,s6 r b,List.append_assoc]
theorem ES:∀{l:List Ty} {t:Ty},t∈l->(dirF t).length<=(eQ l).length
 |x::l,t,h=>by
  rw[eQ,List.length_append]
  rcases List.mem_cons.1 h with rfl|h
  · omega
  · have:=ES h;omega
def aE8 (N:Nat):W.Spec:=fun av H K=>∃t:Ty,av=[.va (.gs (aQ t))]/\H=[]/\TyOk t/\t.h<=N/\(dirF t).length<=1000000000/\K (.va (.c1 (.fz ((dirF t).map bF)))) []
theorem aF1 {N:Nat} {t:Ty} {K:S->Hp->Prop} (h1:TyOk t) (h2:t.h<=N) (h3:(dirF t).length<=1000000000) (hK:K (.va (.c1 (.fz ((dirF t).map bF)))) []):aE8 N [.va (.gs (aQ t))] [] K:=⟨t,rfl,rfl,h1,h2,h3,hK⟩
theorem aEI (l:List ByteArray):∀r∈l.map bF,∀c∈r,c.shut=true/\c.one:=fun r hr c hc=>by
 obtain ⟨x,_,rfl⟩:=List.mem_map.1 hr
 simp at hc;subst hc;simp[go_sem,C.shut]
theorem ML:∀N,Meets Tryz.prog 129 (aE8 N)
 |0=>⟨by kernel_rfl,by rintro xs vs E ro w K _ _ _ ⟨t,_,_,_,h,_⟩;have:=t.h_pos;omega⟩
 |N+1=>by
  refine aF Tryz.func129 aLI 1 (by rw[Tryz.ntmps129];decide) (aC (ML N) (aB _)) (fun av H K h=>by obtain ⟨_,rfl,_⟩:=h;rfl) ?_
  rintro av H K ⟨⟨k,s,n,e⟩,rfl,rfl,h1,h2,h3,hK⟩
  have hle:=h1.len
  have hoe:=h1.e
  simp only[Ty.e] at hle hoe
  have hD:=dirF.eq_1 k s n e
  simp(maxSteps:=9^6)-dsimp only[go_sem,aQ,aY,YH,VU]
  refine ⟨fun c1=>?_,fun c1=>?_⟩
  · rw[c1,bE] at hD
    rw[hD] at hK
    refine .pub 1 _ _ _ rfl (.sel [] (by simp) (by simp[b5]) rfl (.done ?_))
    simp -dsimp only[go_sem,b5]
    simpa using hK
  · rw[c1,a8] at hD
    rw[hD] at hK h3
    refine cM (α:=Nat) (fun i=>[(1,.va (.c1 (.pt 0 0))),(3,.va (.c1 (.sl 1 (eQ (e.take i)).length))),(4,iS .i64 i)]) (fun i=>[.cells (aQ (.mk k s n e)) 42,.row ((eQ (e.take i)).map bF) 9 1])
     (fun i=>i<=e.length) (fun i=>e.length-i) (.nil 3 9 1 rfl (jD 0 2 (Nat.zero_le _) ?_ ?_)) ?_
    · simp -dsimp only[go_sem]<;>simp[eQ]
    · simp -dsimp only[go_sem,aQ,aY]<;>simp[eQ]
    intro i hi
    rcases bB i e.length with hlt|hge
    · have hg:decide ((i:Int)<(e.length:Int))=true:=by simp;omega
      obtain ⟨u,hx⟩:∃t,e[i]? = some t:=⟨_,aU hlt⟩
      have q1:=aT (row:=aQ) hx
      have hu:=bY hx
      have htn:eQ (e.take (i+1))=eQ (e.take i)++dirF u:=by rw[dB hx,s6];simp[eQ]
      have hb:(eQ (e.take (i+1))).length<=1000000000:=by
       have:=s6 (e.take (i+1)) (e.drop (i+1))
       rw[List.take_append_drop] at this
       rw[this,List.length_append] at h3;omega
      rw[htn,List.length_append] at hb
      simp(maxSteps:=9^6)-dsimp only[go_sem,hg,↓q1,dE,aQ,aY]
      refine ⟨by omega,aF1 (hoe u hu) ?_ ?_ ?_⟩
      · have:=Ty.hs_mem hu;rw[Ty.h] at h2;omega
      · have:=ES hu;omega
      simp(maxSteps:=9^6)-dsimp only[go_sem,gE lJ]
      refine ⟨aEI _,by omega,by omega,aE (i+1) 2 (by omega) (by omega) ?_ ?_⟩
      · simp -dsimp only[go_sem,htn]<;>simp
      · simp -dsimp only[go_sem,aQ,aY,htn]<;>simp
    · have hg:decide ((i:Int)<(e.length:Int))=false:=by simp;omega
      obtain rfl:i=e.length:=by omega
      rw[List.take_length]
      simp(maxSteps:=9^6)-dsimp only[go_sem,hg,aQ,aY]
      rw[<-List.length_map (f:=bF)]
      refine .pub 1 _ _ _ rfl (.sel [] (by simp) (by simp[b5]) rfl (.done ?_))
      simp -dsimp only[go_sem,b5]
      simpa using hK
def XV:W.Spec:=fun av H K=>∃t:Ty,av=[.va (.gs (aQ t))]/\H=[]/\TyOk t/\(dirF t).length<=1000000000/\K (.va (.c1 (.fz ((dirF t).map bF)))) []
theorem aBM {t:Ty} {K:S->Hp->Prop} (h1:TyOk t) (h3:(dirF t).length<=1000000000) (hK:K (.va (.c1 (.fz ((dirF t).map bF)))) []):XV [.va (.gs (aQ t))] [] K:=⟨t,rfl,rfl,h1,h3,hK⟩
theorem U7:Meets Tryz.prog 129 XV:=dW 0 ML fun _av _H _K ⟨t,e1,e2,h1,h3,hK⟩=>⟨t.h,t,e1,e2,h1,Nat.le_refl _,h3,hK⟩
def eN (x:ByteArray):Bool->List ByteArray->List ByteArray
 |d,[]=>bif d then [] else [x]
 |d,y::r=>bif !d&&(Op.bytesLess (bl x) (bl y)||bl x==bl y) then (bif Op.bytesLess (bl x) (bl y) then x::y::eN x true r else y::eN x true r) else y::eN x d r
theorem IG (x:ByteArray):∀(d:Bool) (l:List ByteArray),(eN x d l).length<=l.length+1
 |d,[]=>by cases d<;>simp[eN]
 |d,y::r=>by
  have h1:=kD x r
  have h2:=IG x d r
  rw[eN]
  cases d<;>cases Op.bytesLess (bl x) (bl y)<;>cases bl x==bl y<;>simp[h1] at h2 ⊢<;>omega
where kD (x:ByteArray):∀l,eN x true l=l
 |[]=>rfl
 |y::r=>by rw[eN,kD x r];rfl
def aGQ:W.Spec:=fun av H K=>∃(l:List ByteArray) (x:ByteArray),av=[.va (.c1 (.fz (l.map bF))),tS x]/\H=[]/\l.length<=1000000/\K (.va (.c1 (.fz ((eN x false l).map bF)))) []
theorem aDU {l:List ByteArray} {x:ByteArray} {K:S->Hp->Prop} (h:l.length<=1000000) (hK:K (.va (.c1 (.fz ((eN x false l).map bF)))) []):aGQ [.va (.c1 (.fz (l.map bF))),tS x] [] K:=⟨l,x,rfl,rfl,h,hK⟩
theorem aTE:Meets Tryz.prog 130 aGQ:=by
 refine aF Tryz.func130 aNS 2 (by rw[Tryz.ntmps130];decide) (aB _) (fun av H K h=>by obtain ⟨_,_,rfl,_⟩:=h;rfl) ?_
 rintro av H K ⟨l,x,rfl,rfl,hl,hK⟩
 have hlen:=IG x false l
 simp(maxSteps:=9^6)-dsimp only[go_sem,VY,Y2]
 refine cM (α:=Nat×Bool×List ByteArray) (fun z=>[(0,.va (.c1 (.fz (l.map bF)))),(1,tS x),(5,.va (.c1 (.sl 0 z.2.2.length))),(6,bS z.2.1),(7,iS .i64 z.1)]) (fun z=>[.row (z.2.2.map bF) 9 1])
  (fun z=>z.1<=l.length/\z.2.2++eN x z.2.1 (l.drop z.1)=eN x false l) (fun z=>l.length-z.1) (.nil 5 9 1 rfl (jD (0,false,[]) 1 ⟨Nat.zero_le _,rfl⟩ ?_ ?_)) ?_
 · simp -dsimp only[go_sem]<;>simp
 · simp -dsimp only[go_sem]<;>simp
 rintro ⟨i,d,o⟩ ⟨hi,ho⟩
 simp only at hi ho ⊢
 have hol:o.length<=l.length+1:=by
  have:=congrArg List.length ho
  rw[List.length_append] at this;omega
 rcases bB i l.length with hlt|hge
 · have hg:decide ((i:Int)<(l.length:Int))=true:=by simp;omega
   obtain ⟨y,hx⟩:∃t,l[i]? = some t:=⟨_,aU hlt⟩
   have q1:=aT (row:=bF) hx
   have hdr:l.drop i=y::l.drop (i+1):=by
    obtain ⟨h,rfl⟩:=bJ.1 hx
    exact List.drop_eq_getElem_cons h
   rw[hdr,eN] at ho
   have hst:∀(u:ByteArray),[[C.vl (.string u)]]=[u].map bF:=fun _=>rfl
   cases d with
   |true=>
    simp only[Bool.not_true,Bool.false_and,a8] at ho
    simp(maxSteps:=9^6)-dsimp only[go_sem,hg,↓q1]
    and_intros
    all_goals first
     |omega
     |skip
    refine aE (i+1,true,o++[y]) 1 ⟨by simp only;omega,by simp only[List.append_assoc,List.singleton_append];exact ho⟩ (by simp only;omega) ?_ ?_
    · simp -dsimp only[go_sem]<;>simp
    · simp -dsimp only[go_sem]<;>simp
   |false=>
    simp only[Bool.not_false,Bool.true_and] at ho
    cases c2:Op.bytesLess (bl x) (bl y) with
    |true=>
     rw[c2] at ho
     simp only[Bool.true_or,bE] at ho
     simp(maxSteps:=9^6)-dsimp only[go_sem,hg,↓q1,c2,Bool.true_or]
     and_intros
     all_goals first
      |omega
      |skip
     refine aE (i+1,true,o++[x,y]) 1 ⟨by simp only;omega,by simp only[List.append_assoc,List.cons_append,List.nil_append];exact ho⟩ (by simp only;omega) ?_ ?_
     · simp -dsimp only[go_sem]<;>simp
     · simp -dsimp only[go_sem]<;>simp
    |false=>
     rw[c2] at ho
     simp only[Bool.false_or,a8] at ho
     cases c3:bl x==bl y with
     |true=>
      rw[c3] at ho
      simp only[bE] at ho
      simp(maxSteps:=9^6)-dsimp only[go_sem,hg,↓q1,c2,c3,Bool.false_or]
      and_intros
      all_goals first
       |omega
       |skip
      refine aE (i+1,true,o++[y]) 1 ⟨by simp only;omega,by simp only[List.append_assoc,List.singleton_append];exact ho⟩ (by simp only;omega) ?_ ?_
      · simp -dsimp only[go_sem]<;>simp
      · simp -dsimp only[go_sem]<;>simp
     |false=>
      rw[c3] at ho
      simp only[a8] at ho
      simp(maxSteps:=9^6)-dsimp only[go_sem,hg,↓q1,c2,c3,Bool.false_or]
      and_intros
      all_goals first
       |omega
       |skip
      refine aE (i+1,false,o++[y]) 1 ⟨by simp only;omega,by simp only[List.append_assoc,List.singleton_append];exact ho⟩ (by simp only;omega) ?_ ?_
      · simp -dsimp only[go_sem]<;>simp
      · simp -dsimp only[go_sem]<;>simp
 · have hg:decide ((i:Int)<(l.length:Int))=false:=by simp;omega
   obtain rfl:i=l.length:=by omega
   rw[List.drop_length] at ho
   simp only[eN] at ho
   cases d with
   |true=>
    simp only[bE,List.append_nil] at ho
    rw[<-ho] at hK
    simp(maxSteps:=9^6)-dsimp only[go_sem,hg]
    rw[<-List.length_map (f:=bF)]
    refine .pub 0 _ _ _ rfl (.sel [] (by simp) (by simp[b5]) rfl (.done ?_))
    simp -dsimp only[go_sem,b5]
    simpa using hK
   |false=>
    simp only[a8] at ho
    rw[<-ho] at hK
    simp(maxSteps:=9^6)-dsimp only[go_sem,hg]
    refine ⟨by omega,?_⟩
    have e1:o.length+1=((o++[x]).map bF).length:=by simp
    have e2:o.map bF++[[C.vl (.string x)]]=(o++[x]).map bF:=by simp
    rw[e1,e2]
    refine .pub 0 _ _ _ rfl (.sel [] (by simp) (by simp[b5]) rfl (.done ?_))
    simp -dsimp only[go_sem,b5]
    simpa using hK
abbrev E6 (a b:ByteArray):Prop:=bl a<bl b
theorem aD3 (x:List UInt8):∀y:List UInt8,Op.bytesLess x y=decide (x<y):=by
 induction x with
 |nil=>intro y;cases y<;>simp[Op.bytesLess]
 |cons a x ih=>
  intro y
  cases y with
  |nil=>simp[Op.bytesLess]
  |cons b y=>
   have:=ih y
   rw[Op.bytesLess,this,Bool.eq_iff_iff]
   simp[List.cons_lt_cons_iff]
theorem YY (a b:ByteArray):Op.bytesLess (bl a) (bl b)=decide (E6 a b):=aD3 _ _
theorem mW (a:ByteArray):¬ E6 a a:=List.lt_irrefl _
theorem EZ {a b c:ByteArray} (h:E6 a b) (h2:E6 b c):E6 a c:=List.lt_trans h h2
theorem PY {a b:ByteArray} (h:¬ E6 a b) (h2:a≠b):E6 b a:=by
 have h3:bl b<=bl a:=List.not_lt.1 h
 exact Std.lt_of_le_of_ne h3 (fun e=>h2 (kV e.symm))
def Asc (l:List ByteArray):Prop:=l.Pairwise E6
theorem K3:∀{a b:List ByteArray},Asc a->Asc b->(∀x,x∈a ↔ x∈b)->a=b
 |[],[],_,_,_=>rfl
 |[],y::b,_,_,h=>by have:=(h y).2 List.mem_cons_self;cases this
 |x::a,[],_,_,h=>by have:=(h x).1 List.mem_cons_self;cases this
 |x::a,y::b,h1,h2,h=>by
  obtain ⟨p1,p2⟩:=List.pairwise_cons.1 h1
  obtain ⟨p3,p4⟩:=List.pairwise_cons.1 h2
  have e:x=y:=by
   rcases List.mem_cons.1 ((h x).1 List.mem_cons_self) with e|e
   · exact e
   · rcases List.mem_cons.1 ((h y).2 List.mem_cons_self) with e2|e2
     · exact e2.symm
     · exact absurd (EZ (p1 y e2) (p3 x e)) (mW x)
  subst e
  rw[K3 p2 p4 fun z=>?_]
  constructor
  · intro hz
    rcases List.mem_cons.1 ((h z).1 (List.mem_cons_of_mem _ hz)) with e|e
    · exact absurd (p1 z hz) (by rw[e];exact mW x)
    · exact e
  · intro hz
    rcases List.mem_cons.1 ((h z).2 (List.mem_cons_of_mem _ hz)) with e|e
    · exact absurd (p3 z hz) (by rw[e];exact mW x)
    · exact e
theorem Asc.nodup {l:List ByteArray} (h:Asc l):l.Nodup:=by
 unfold List.Nodup
 refine List.Pairwise.imp ?_ h
 intro a b h e
 subst e
 exact mW a h
theorem kD (x:ByteArray):∀l,eN x true l=l
 |[]=>rfl
 |y::r=>by rw[eN,kD x r];rfl
theorem j3 {x z:ByteArray}:∀{l:List ByteArray},z∈eN x false l ↔ z=x\/z∈l
 |[]=>by simp[eN]
 |y::r=>by
  rw[eN,kD]
  cases c1:Op.bytesLess (bl x) (bl y) with
  |true=>simp
  |false=>
   cases c2:bl x==bl y with
   |true=>
    have:x=y:=kV (by simpa using c2)
    subst this
    simp
   |false=>
    have:=j3 (x:=x) (z:=z) (l:=r)
    simp[this]
    constructor
    · rintro (h|h|h)
      · exact .inr (.inl h)
      · exact .inl h
      · exact .inr (.inr h)
    · rintro (h|h|h)
      · exact .inr (.inl h)
      · exact .inl h
      · exact .inr (.inr h)
theorem IC {x:ByteArray}:∀{l:List ByteArray},Asc l->Asc (eN x false l)
 |[],_=>by simp[eN,Asc]
 |y::r,h=>by
  obtain ⟨p1,p2⟩:=List.pairwise_cons.1 h
  rw[eN,kD]
  cases c1:Op.bytesLess (bl x) (bl y) with
  |true=>
   rw[YY] at c1
   have c1:=of_decide_eq_true c1
   simp only[Bool.not_false,Bool.true_or,Bool.and_true,bE]
   refine List.pairwise_cons.2 ⟨fun z hz=>?_,h⟩
   rcases List.mem_cons.1 hz with rfl|hz
   · exact c1
   · exact EZ c1 (p1 z hz)
  |false=>
   cases c2:bl x==bl y with
   |true=>exact h
   |false=>
    rw[YY] at c1
    have c1:=of_decide_eq_false c1
    have c2:x≠y:=fun e=>by subst e;simp at c2
    simp only[Bool.not_false,Bool.true_and,Bool.or_self,a8]
    refine List.pairwise_cons.2 ⟨fun z hz=>?_,IC p2⟩
    rcases j3.1 hz with rfl|hz
    · exact PY c1 c2
    · exact p1 z hz
theorem UD {l:List ByteArray} (h:l.Nodup):Asc (eR l):=by
 have h1:((l.map bl).mergeSort fun x y=>decide (x<=y)).Pairwise fun a b=>decide (a<=b)=true:=
  List.pairwise_mergeSort (le:=fun (x y:List UInt8)=>decide (x<=y)) (fun (a b c:List UInt8) h1 h2=>decide_eq_true (List.le_trans (of_decide_eq_true h1) (of_decide_eq_true h2))) (fun (a b:List UInt8)=>by
   rcases List.le_total a b with h|h<;>simp[h]) _
 have h2:((l.map bl).mergeSort fun x y=>decide (x<=y)).Nodup:=by
  rw[(List.mergeSort_perm _ _).nodup_iff]
  exact List.Pairwise.map bl (fun a b (hab:a≠b) e=>hab (kV e)) h
 unfold eR Asc
 rw[List.pairwise_map]
 refine List.Pairwise.imp₂ (fun a b h1 h2=>?_) h1 h2
 exact Std.lt_of_le_of_ne (of_decide_eq_true h1) h2
theorem QK (ss:List St) (n:ByteArray):Asc (cP ss n):=UD (tF ss n)
theorem QQ {e:List Ty} (h:((e.length:Int)==0)=true):e=[]:=by simpa using h
theorem K7 (ss:List St) (es:List En):∀(N:Nat) (t:Ty),t.h<=N->valF ss es t=true->dirF t=bif bQ t then [bK t] else []
 |0,t,h,_=>absurd h (by have:=t.h_pos;omega)
 |N+1,.mk k s n e,h,hv=>by
  cases k5:k==5 with
  |true=>
   obtain rfl:k=5:=by simpa using k5
   obtain ⟨u,rfl,hu⟩:=yO hv
   have:=K7 ss es N u (by rw[Ty.h,Ty.hs,Ty.hs] at h;omega) hu
   unfold bQ bK
   rw[tN]
   rw[dirF,eQ,eQ,List.append_nil,this]
   rfl
  |false=>
   have h1:eG (.mk k s n e)=.mk k s n e:=qP (by rw[k5];rfl)
   unfold bQ bK
   rw[h1,dirF]
   simp only[Ty.k,Ty.n]
   cases k67:(k==6||k==7) with
   |true=>rfl
   |false=>
    have he:e=[]:=by
     rw[Bool.or_eq_false_iff] at k67
     rw[valF,k5,k67.1,k67.2] at hv
     cases k1:k==1<;>cases k2:k==2<;>cases k3:k==3<;>cases k4:k==4<;>rw[k1,k2,k3,k4] at hv<;>simp only[bE,a8,Bool.and_eq_true,reduceCtorEq] at hv<;>first|exact QQ hv.2|exact absurd hv (by decide)
    subst he;rfl
theorem H7 {ss:List St} {es:List En} {t:Ty} (hv:valF ss es t=true):dirF t=bif bQ t then [bK t] else []:=K7 ss es t.h t (Nat.le_refl _) hv
structure UI (ss:List St) (n:ByteArray) (i:Nat) (todo o:List ByteArray):Prop where
 hd:∃r,todo=n::r/\r.Nodup/\∀x,x∈o ↔ x∈r
 rc:∀x∈o,Reach ss n x
 dn:∀j a,j<i->todo[j]? = some a->∀y,dS ss a y->y∈o
 asc:Asc o
theorem UI.init (ss:List St) (n:ByteArray):UI ss n 0 [n] []:=⟨⟨[],rfl,.nil,fun _x=>Iff.rfl⟩,fun _x h=>(List.not_mem_nil h).elim,fun _j _a h=>absurd h (Nat.not_lt_zero _),List.Pairwise.nil⟩
theorem PI {ss:List St} {es:List En} (g:Gd ss es) {n:ByteArray} {l:List ByteArray} (h:l.Nodup) (hr:∀x∈l,Reach ss n x):l.length<=32:=Nat.le_trans (tK h fun x hx=>(jH ss n x).2 (hr x hx)) (g.vlen n)
theorem UI.len {ss:List St} {es:List En} (g:Gd ss es) {n:ByteArray} {i:Nat} {todo o:List ByteArray} (h:UI ss n i todo o):todo.length<=33/\o.length<=32:=by
 obtain ⟨r,rfl,h1,h2⟩:=h.hd
 have:=PI g h1 fun x hx=>h.rc x ((h2 x).2 hx)
 have:=PI g h.asc.nodup h.rc
 simp only[List.length_cons];omega
theorem UI.rch {ss:List St} {n:ByteArray} {i k:Nat} {todo o:List ByteArray} (h:UI ss n i todo o) {a y:ByteArray} (ha:todo[k]? = some a) (hy:dS ss a y):Reach ss n y:=by
 obtain ⟨r,rfl,h1,h2⟩:=h.hd
 cases k with
 |zero=>simp at ha;subst ha;exact .one hy
 |succ k=>
  simp at ha
  exact .more (h.rc a ((h2 a).2 (bY ha))) hy
theorem UI.add {ss:List St} {n:ByteArray} {i:Nat} {todo o:List ByteArray} (h:UI ss n i todo o) {y:ByteArray} (hr:Reach ss n y) (hy:y ∉ o) (hi:i<=todo.length):UI ss n i (todo++[y]) (eN y false o):=by
 obtain ⟨r,rfl,h1,h2⟩:=h.hd
 refine ⟨⟨r++[y],by simp,?_,fun x=>?_⟩,fun x hx=>?_,fun j a hj ha z hz=>?_,IC h.asc⟩
 · rw[List.nodup_append]
   exact ⟨h1,by simp,fun a ha b hb=>by simp at hb;subst hb;exact fun e=>hy ((h2 b).2 (e ▸ ha))⟩
 · rw[j3,h2];simp[or_comm]
 · rcases j3.1 hx with rfl|hx
   · exact hr
   · exact h.rc x hx
 · rw[List.getElem?_append_left (by omega)] at ha
   exact j3.2 (.inr (h.dn j a hj ha z hz))
theorem UI.next {ss:List St} {n:ByteArray} {i:Nat} {todo o:List ByteArray} (h:UI ss n i todo o) {a:ByteArray} (ha:todo[i]? = some a) (hy:∀y,dS ss a y->y∈o):UI ss n (i+1) todo o:=by
 refine ⟨h.hd,h.rc,fun j b hj hb y hyb=>?_,h.asc⟩
 rcases bB j i with h4|h4
 · exact h.dn j b h4 hb y hyb
 · obtain rfl:j=i:=by omega
   rw[ha] at hb;obtain rfl:=cI hb
   exact hy y hyb
theorem UI.fin {ss:List St} {n:ByteArray} {todo o:List ByteArray} (h:UI ss n todo.length todo o):o=cP ss n:=by
 refine K3 h.asc (QK ss n) fun x=>?_
 rw[D9]
 refine ⟨h.rc x,fun hx=>?_⟩
 obtain ⟨r,e,h1,h2⟩:=h.hd
 have hn:∀y,dS ss n y->y∈o:=h.dn 0 n (by rw[e];simp) (by rw[e];rfl)
 induction hx with
 |one h=>exact hn _ h
 |more _ h3 ih=>
  obtain ⟨j,hj⟩:=List.mem_iff_getElem?.1 ((h2 _).1 ih)
  rename_i b c _
  have hj2:todo[j+1]? = some b:=by rw[e];simpa using hj
  exact h.dn (j+1) _ (bJ.1 hj2).1 hj2 _ h3
def aGK:W.Spec:=fun av H K=>∃(s:Sc) (n:ByteArray),av=[.va (.gs (aD s)),tS n]/\H=[]/\s.fit/\Gd s.ss s.es/\K (.va (.c1 (.fz ((cP s.ss n).map bF)))) []
theorem aIQ {s:Sc} {n:ByteArray} {K:S->Hp->Prop} (h:s.fit) (g:Gd s.ss s.es) (hK:K (.va (.c1 (.fz ((cP s.ss n).map bF)))) []):aGK [.va (.gs (aD s)),tS n] [] K:=⟨s,n,rfl,rfl,h,g,hK⟩
theorem aDH {ss:List St} {es:List En} {t:Ty} (hv:valF ss es t=true):(dirF t).length<=1:=by
 rw[H7 hv];cases bQ t<;>simp
theorem M5 {ss:List St} {es:List En} {t:Ty} (hv:valF ss es t=true) {y:ByteArray}:y∈dirF t ↔ bQ t=true/\bK t=y:=by
 rw[H7 hv];cases bQ t<;>simp[eq_comm]
theorem aL7:Meets Tryz.prog 89 aGK:=by
 refine aF Tryz.func89 aSJ 2 (by rw[Tryz.ntmps89];decide) (aC nG (aC U7 (aG S5 (aC aTE (aB _))))) (fun av H K h=>by obtain ⟨_,_,rfl,_⟩:=h;rfl) ?_
 rintro av H K ⟨s,n,rfl,rfl,hs,g,hK⟩
 simp(maxSteps:=9^6)-dsimp only[go_sem,aD,aIW,aEM]
 refine cM (α:=Nat×List ByteArray×List ByteArray) (fun z=>[(2,.va (.c1 (.pt 0 0))),(5,.va (.c1 (.fz (z.2.2.map bF)))),(6,.va (.c1 (.sl 1 z.2.1.length))),(7,iS .i64 z.1)]) (fun z=>[.cells (aD s) 25,.row (z.2.1.map bF) 9 1])
  (fun z=>z.1<=z.2.1.length/\UI s.ss n z.1 z.2.1 z.2.2) (fun z=>34-z.1) (.nf 5 (jD (0,[n],[]) 2 ⟨Nat.zero_le _,UI.init _ _⟩ ?_ ?_)) ?_
 · simp -dsimp only[go_sem]<;>simp
 · simp -dsimp only[go_sem,aD]<;>simp
 rintro ⟨i,todo,o⟩ ⟨hi,hu⟩
 simp only at hi hu ⊢
 obtain ⟨htl,hol⟩:=hu.len g
 rcases bB i todo.length with hlt|hge
 · have hg:decide ((i:Int)<(todo.length:Int))=true:=by simp;omega
   obtain ⟨a,ha⟩:∃a,todo[i]? = some a:=⟨_,aU hlt⟩
   have q1:=aT (row:=bF) ha
   simp(maxSteps:=9^6)-dsimp only[go_sem,hg,aD,ha,aI,forall_eq']
   refine ⟨by omega,hlt,fU hs ?_⟩
   generalize hx:(fS s.ss a).getD default=x
   have hxf:∀f∈x.fs,f.ok/\valF s.ss s.es f.ty=true:=fun f hf=>by
    cases hc:fS s.ss a with
    |none=>rw[hc] at hx;subst hx;cases hf
    |some t=>
     rw[hc] at hx
     subst hx
     exact ⟨(hs.ok.ss _ (f5 hc).1).fs f hf,g.val _ (f5 hc).1 f hf⟩
   have hxl:x.fs.length<=9223372036854775807:=by
    cases hc:fS s.ss a with
    |none=>rw[hc] at hx;subst hx;exact Nat.zero_le _
    |some t=>rw[hc] at hx;subst hx;exact (hs.ok.ss _ (f5 hc).1).len
   have hxr:∀y,dS s.ss a y ↔ CM x y:=fun y=>by unfold dS;rw[hx]
   simp(maxSteps:=9^6)-dsimp only[go_sem,aH]
   refine aL (α:=Nat×List ByteArray×List ByteArray) (fun z=>[(2,.va (.c1 (.pt 0 0))),(5,.va (.c1 (.fz (z.2.2.map bF)))),(6,.va (.c1 (.sl 1 z.2.1.length))),(7,iS .i64 i),(8,.va (.c1 (.pt 2 0))),(10,iS .i64 z.1)]) (fun z=>[.cells (aD s) 25,.row (z.2.1.map bF) 9 1,.cells (aH x) 48])
    (fun z=>z.1<=x.fs.length/\z.2.1[i]? = some a/\UI s.ss n i z.2.1 z.2.2/\∀f∈x.fs.take z.1,bQ f.ty=true->bK f.ty∈z.2.2) (fun z=>x.fs.length-z.1) (0,todo,o) 3 ⟨Nat.zero_le _,ha,hu,fun f hf=>by cases hf⟩ ?_ ?_ ?_
   · simp -dsimp only[go_sem]<;>simp
   · simp -dsimp only[go_sem,aD,aH]<;>simp
   clear hu ha hlt hi htl hol hg q1
   rintro ⟨k,td,o⟩ ⟨hk,ha,hu,hr⟩
   simp only at hk ha hu hr ⊢
   obtain ⟨htl,hol⟩:=hu.len g
   have hil:=(bJ.1 ha).1
   rcases bB k x.fs.length with hlt|hge
   · have hg:decide ((k:Int)<(x.fs.length:Int))=true:=by simp;omega
     obtain ⟨f,hf⟩:∃a,x.fs[k]? = some a:=⟨_,aU hlt⟩
     have q1:=aT (row:=aS) hf
     obtain ⟨hfo,hfv⟩:=hxf f (bY hf)
     simp(maxSteps:=9^6)-dsimp only[go_sem,hg,↓q1,aD,aH,aS,j1]
     have hdl:=aDH hfv
     refine ⟨by omega,aBM hfo.ty (by omega) ?_⟩
     simp(maxSteps:=9^6)-dsimp only[go_sem]
     have hdm:∀y∈dirF f.ty,Reach s.ss n y:=fun y hy=>by
      obtain ⟨h1,h2⟩:=(M5 hfv).1 hy
      exact hu.rch ha ((hxr y).2 ⟨f,bY hf,h1,h2⟩)
     have hdf:(∀o':List ByteArray,(∀y∈dirF f.ty,y∈o')->(∀f∈x.fs.take k,bQ f.ty=true->bK f.ty∈o')->∀f∈x.fs.take (k+1),bQ f.ty=true->bK f.ty∈o'):=fun o' h1 h2 f' hf' hn=>by
      rw[dB hf] at hf'
      rcases List.mem_append.1 hf' with h|h
      · exact h2 f' h hn
      · obtain rfl:f'=f:=by simpa using h
        exact h1 _ ((M5 hfv).2 ⟨hn,rfl⟩)
     generalize dirF f.ty=l at *
     refine aL (α:=Nat×List ByteArray×List ByteArray) (fun z=>[(2,.va (.c1 (.pt 0 0))),(5,.va (.c1 (.fz (z.2.2.map bF)))),(6,.va (.c1 (.sl 1 z.2.1.length))),(7,iS .i64 i),(8,.va (.c1 (.pt 2 0))),(10,iS .i64 k),(11,.va (.c1 (.fz (l.map bF)))),(12,iS .i64 z.1)]) (fun z=>[.cells (aD s) 25,.row (z.2.1.map bF) 9 1,.cells (aH x) 48])
      (fun z=>z.1<=l.length/\z.2.1[i]? = some a/\UI s.ss n i z.2.1 z.2.2/\(∀f∈x.fs.take k,bQ f.ty=true->bK f.ty∈z.2.2)/\∀y∈l.take z.1,y∈z.2.2) (fun z=>l.length-z.1) (0,td,o) 3 ⟨Nat.zero_le _,ha,hu,hr,fun f hf=>by cases hf⟩ ?_ ?_ ?_
     · simp -dsimp only[go_sem]<;>simp
     · simp -dsimp only[go_sem,aD,aH]<;>simp
     clear hu ha hil htl hol hg q1 hr
     rintro ⟨j,td,o⟩ ⟨hj,ha,hu,hr,hjm⟩
     simp only at hj ha hu hr hjm ⊢
     obtain ⟨htl,hol⟩:=hu.len g
     have hil:=(bJ.1 ha).1
     rcases bB j l.length with hjt|hjg
     · have hg:decide ((j:Int)<(l.length:Int))=true:=by simp;omega
       obtain ⟨y,hy⟩:∃a,l[j]? = some a:=⟨_,aU hjt⟩
       have q1:=aT (row:=bF) hy
       have hbs:sB (o.map bF):=m8 (by omega)
       have e0:(0<=(o.length:Int))=True:=by simp
       have e1:((o.length:Int)<=9223372036854775807)=True:=by simp;omega
       have hto:o.take o.length=o:=List.take_length
       have hjm':∀o':List ByteArray,(∀z∈o,z∈o')->y∈o'->∀z∈l.take (j+1),z∈o':=fun o' h1 h2 z hz=>by
        rw[dB hy] at hz
        rcases List.mem_append.1 hz with h|h
        · exact h1 z (hjm z h)
        · obtain rfl:z=y:=by simpa using h
          exact h2
       cases hc:bW o y with
       |true=>
        simp(maxSteps:=9^6)-dsimp only[go_sem,hg,↓q1,aD,aH,hbs,e0,e1,Int.toNat_natCast,hto,hc]
        refine ⟨by omega,by omega,aE (j+1,td,o) 3 ⟨by simp only;omega,ha,hu,hr,hjm' o (fun z h=>h) ((pG _ _).1 hc)⟩ (by simp only;omega) ?_ ?_⟩
        · simp -dsimp only[go_sem]<;>simp
        · simp -dsimp only[go_sem,aD,aH]<;>simp
       |false=>
        have hyo:=u1.1 hc
        have hua:=hu.add (hdm y (bY hy)) hyo (by omega)
        have hmo:∀z∈o,z∈eN y false o:=fun z hz=>j3.2 (.inr hz)
        have ha':(td++[y])[i]? = some a:=by rw[List.getElem?_append_left hil];exact ha
        simp(maxSteps:=9^6)-dsimp only[go_sem,hg,↓q1,aD,aH,hbs,e0,e1,Int.toNat_natCast,hto,hc]
        refine ⟨by omega,by omega,aDU (by omega) ?_⟩
        simp(maxSteps:=9^6)-dsimp only[go_sem]
        and_intros
        all_goals first
         |omega
         |skip
        refine aE (j+1,td++[y],eN y false o) 3 ⟨by simp only;omega,ha',hua,fun f hf hn=>hmo _ (hr f hf hn),hjm' _ hmo (j3.2 (.inl rfl))⟩ (by simp only;omega) ?_ ?_
        · simp -dsimp only[go_sem]<;>simp
        · simp -dsimp only[go_sem,aD,aH]<;>simp
     · have hg:decide ((j:Int)<(l.length:Int))=false:=by simp;omega
       obtain rfl:j=l.length:=by omega
       rw[List.take_length] at hjm
       simp(maxSteps:=9^6)-dsimp only[go_sem,hg,aD,aH]
       refine ⟨by omega,aE (k+1,td,o) 3 ⟨by simp only;omega,ha,hu,hdf o hjm hr⟩ (by simp only;omega) ?_ ?_⟩
       · simp -dsimp only[go_sem]<;>simp
       · simp -dsimp only[go_sem,aD,aH]<;>simp
   · have hg:decide ((k:Int)<(x.fs.length:Int))=false:=by simp;omega
     obtain rfl:k=x.fs.length:=by omega
     rw[List.take_length] at hr
     simp(maxSteps:=9^6)-dsimp only[go_sem,hg,aD,aH]
     refine ⟨by omega,aE (i+1,td,o) 2 ⟨by simp only;omega,hu.next ha fun y hy=>?_⟩ (by simp only;omega) ?_ ?_⟩
     · obtain ⟨f,h1,h2,rfl⟩:=(hxr y).1 hy
       exact hr f h1 h2
     · simp -dsimp only[go_sem]<;>simp
     · simp -dsimp only[go_sem,aD]<;>simp
 · have hg:decide ((i:Int)<(todo.length:Int))=false:=by simp;omega
   obtain rfl:i=todo.length:=by omega
   obtain rfl:=hu.fin
   simp(maxSteps:=9^6)-dsimp only[go_sem,hg,aD]
   exact .z ((by simpa[go_sem] using hK))
def dZ:List St->List Int->ByteArray->Int
 |s::ss,d::ds,n=>bif decide (s.nm=n) then d else dZ ss ds n
 |_,_,_=>0
theorem TX {ss:List St} {ds:List Int} {i:Nat} {x:St} {d:Int} (hx:ss[i]? = some x) (hd:ds[i]? = some d) (n:ByteArray):dZ (ss.drop i) (ds.drop i) n=bif decide (x.nm=n) then d else dZ (ss.drop (i+1)) (ds.drop (i+1)) n:=by
 obtain ⟨h,rfl⟩:=bJ.1 hx
 obtain ⟨h2,rfl⟩:=bJ.1 hd
 rw[List.drop_eq_getElem_cons h,List.drop_eq_getElem_cons h2];rfl
theorem aB6 {ss:List St} {ds:List Int} (n:ByteArray):dZ (ss.drop ss.length) ds n=0:=by rw[List.drop_length];simp[dZ]
theorem xO {n:ByteArray}:∀{ss:List St} {ds:List Int},fS ss n=none->dZ ss ds n=0
 |[],_,_=>by simp[dZ]
 |s::ss,[],_=>by simp[dZ]
 |s::ss,d::ds,h=>by
  unfold fS at h
  rw[List.find?_cons] at h
  rw[dZ]
  cases hc:decide (s.nm=n) with
  |true=>rw[hc] at h;simp at h
  |false=>rw[hc] at h;exact xO (ss:=ss) h
theorem yU {n:ByteArray} {u:St}:∀{ss:List St} {ds:List Int},ss.length=ds.length->fS ss n=some u->∃j:Nat,ss[j]? = some u/\ds[j]? = some (dZ ss ds n)
 |[],_,_,h=>by cases h
 |s::ss,[],hl,_=>by simp at hl
 |s::ss,d::ds,hl,h=>by
  unfold fS at h
  rw[List.find?_cons] at h
  rw[dZ]
  cases hc:decide (s.nm=n) with
  |true=>
   rw[hc] at h
   obtain rfl:s=u:=by simpa using h
   exact ⟨0,rfl,rfl⟩
  |false=>
   rw[hc] at h
   obtain ⟨j,h1,h2⟩:=yU (ss:=ss) (ds:=ds) (by simpa using hl) h
   exact ⟨j+1,by simpa using h1,by simpa using h2⟩
def NW (rs:List (List C)):Prop:=∃l:List Int,rs=l.map cK
def FI (N:Nat):List S->Prop:=fun av=>match av with
 |[.va (.gs r),.va (.c1 (.fz ds)),.va (.gs q)]=>gK r/\(NW ds/\ds.length=(C.sc r).ss.length/\∀d∈ds.map C.it,0<=d/\d<=1000000000000)/\iO q/\(bN (C.ty q)).1<=1000000000/\(C.ty q).h<=N
 |_=>False
theorem mU {N:Nat} {av:List S} (h:FI N av):∃(s:Sc) (l:List Int) (t:Ty),av=[.va (.gs (aD s)),.va (.c1 (.fz (l.map cK))),.va (.gs (aQ t))]/\s.fit/\(l.length=s.ss.length/\∀d∈l,0<=d/\d<=1000000000000)/\TyOk t/\(bN t).1<=1000000000/\t.h<=N:=by
 unfold FI at h
 split at h
 · obtain ⟨⟨a,rfl,ha⟩,⟨⟨l,rfl⟩,h1,h2⟩,⟨b,rfl,hb⟩,h3,h4⟩:=h
   rw[g4] at h3 h4
   rw[dF] at h1
   rw[zN] at h2
   exact ⟨a,l,b,rfl,ha,⟨by simpa using h1,h2⟩,hb,h3,h4⟩
 · exact h.elim
noncomputable def N1:List S->A:=fun av=>match av with
 |[.va (.gs r),.va (.c1 (.fz ds)),.va (.gs q)]=>iA .i64 (bU (dZ (C.sc r).ss (ds.map C.it)) (C.ty q))
 |_=>.gs []
noncomputable def N4 (N:Nat):Fun:=⟨FI N,N1,fun av h=>by obtain ⟨a,l,b,rfl,_⟩:=mU h;trivial⟩
theorem VE {N:Nat}:∀av H K,(N4 N).sp av H K->av.length=3:=fun av H K h=>by obtain ⟨a,l,b,rfl,_⟩:=mU h.1.1;rfl
attribute [go_sem] N4 FI N1
theorem yQ {s:Int} {n:ByteArray} {u:Ty} {r:List Ty}:bN (.mk 5 s n (u::r))=((bN u).1+1,(bN u).2):=by simp[bN,EO]
theorem IT {k s:Int} {n:ByteArray} {e:List Ty} (h:(k==5&&decide (0<(e.length:Int)))=false):bN (.mk k s n e)=(0,.mk k s n e):=by
 rw[bN]
 cases hk:k==5 with
 |false=>rfl
 |true=>
  rw[hk,Bool.true_and] at h
  have:e=[]:=List.length_eq_zero_iff.1 (by simp at h;simp[h])
  subst this;rfl
theorem PA {dp:ByteArray->Int} {s:Int} {n:ByteArray} {u:Ty} {r:List Ty}:bU dp (.mk 5 s n (u::r))=1+bU dp u:=by unfold bU;rw[yQ];simp only;omega
theorem wN:∀N,Meets Tryz.prog 131 (N4 N).sp
 |0=>⟨by kernel_rfl,by rintro xs vs E ro w K _ _ _ ⟨⟨h,_⟩,_⟩;obtain ⟨_,_,a,_,_,_,_,_,h⟩:=mU h;have:=a.h_pos;omega⟩
 |N+1=>by
  refine aF Tryz.func131 aN4 3 (by rw[Tryz.ntmps131];decide) (aG (wN N) (aB _)) VE ?_
  rintro av H K ⟨⟨h,rfl⟩,hK⟩
  obtain ⟨sc,l,t,rfl,hs,⟨hl,hb⟩,ht,hlv,hh⟩:=mU h
  have hK:K (iS .i64 (bU (dZ sc.ss l) t)) []:=by
   have:(N4 (N+1)).val [.va (.gs (aD sc)),.va (.c1 (.fz (l.map cK))),.va (.gs (aQ t))]=iA .i64 (bU (dZ sc.ss l) t):=by simp -dsimp only[go_sem,zN]
   rw[this] at hK;exact hK
  clear h
  have hls:=hs.ok.ls
  have fin:∀(b:Int) (R:Hp),bU (dZ sc.ss l) t=b->W.Fin 0 K (iS .i64 b) R:=fun b R h=>by
   rw[h] at hK
   exact .z ((by simp -dsimp only[go_sem];simpa using hK))
  have hsf:=fJ hs
  rw[aD] at hsf
  have hsd:=dF sc
  rw[aD] at hsd
  obtain ⟨k,s,n,e⟩:=t
  have hte:=ht.e
  have hte2:=ht.len
  simp only[Ty.e] at hte hte2
  have hin:NW (l.map cK):=⟨l,rfl⟩
  have hr1:((l.map cK).length=sc.ss.length)=True:=by simp[hl]
  have hr2:(∀d:Int,d∈l->0<=d/\d<=1000000000000)=True:=eq_true hb
  simp(maxSteps:=9^6)-dsimp only[go_sem,aD,aQ,aY,WI,XB]
  cases c1:(k==5&&decide (0<(e.length:Int))) with
  |true=>
   simp only[Bool.and_eq_true,beq_iff_eq,decide_eq_true_eq] at c1
   obtain ⟨rfl,c1⟩:=c1
   obtain ⟨u,r,rfl⟩:∃u r,e=u::r:=by
    cases e with
    |nil=>simp at c1
    |cons u r=>exact ⟨u,r,rfl⟩
   rw[yQ] at hlv
   have hux:(u::r)[0]? = some u:=rfl
   have q1:=tB (row:=aQ) hux
   have hu:iO (aQ u):=fQ (hte u List.mem_cons_self)
   have huh:u.h<=N:=by rw[Ty.h,Ty.hs] at hh;omega
   refine ⟨fun _=>?_,fun h=>by simp at h⟩
   have hul:((bN u).1<=1000000000)=True:=eq_true (by simp only at hlv;omega)
   have huh':(u.h<=N)=True:=eq_true huh
   have hfb:bU (dZ sc.ss l) u<=1001000000000/\0<=bU (dZ sc.ss l) u:=by
    have hd:dZ sc.ss l (bN u).2.n<=1000000000000/\0<=dZ sc.ss l (bN u).2.n:=by
     cases hf:fS sc.ss (bN u).2.n with
     |none=>rw[xO hf];omega
     |some v=>
      obtain ⟨j,_,h2⟩:=yU hl.symm hf
      have:=hb _ (bY h2);omega
    simp only at hlv
    unfold bU
    cases (bN u).2.k==6<;>simp only[bE,a8]<;>omega
   simp(maxSteps:=9^6)-dsimp only[go_sem,dE]
   refine ⟨by omega,fun x hx=>?_⟩
   subst hx
   simp only[hsd]
   exact ⟨⟨hsf,⟨hin,hl,hb⟩,hu,by simp only at hlv;omega,huh⟩,by omega,fin _ _ PA⟩
  |false=>
   have hst:=IT (s:=s) (n:=n) c1
   have hfd:bU (dZ sc.ss l) (.mk k s n e)=bif k==6 then dZ sc.ss l n else 0:=by unfold bU;rw[hst];simp[Ty.k,Ty.n]
   refine ⟨fun h=>by simp at h,fun _=>?_⟩
   cases k6:k==6 with
   |false=>
    rw[k6,a8] at hfd
    refine aL (α:=Nat) (fun i=>[(1,.va (.c1 (.fz (l.map cK)))),(3,.va (.c1 (.pt 0 0))),(5,.va (.c1 (.pt 1 0))),(7,iS .i64 i)]) (fun _=>[.cells (aD sc) 25,.cells (aQ (.mk k s n e)) 42])
     (fun i=>i<=sc.ss.length) (fun i=>sc.ss.length-i) 0 2 (Nat.zero_le _) ?_ ?_ ?_
    · simp -dsimp only[go_sem]<;>simp
    · simp -dsimp only[go_sem,aD,aQ,aY]<;>simp
    intro i hi
    rcases bB i sc.ss.length with hlt|hge
    · have hg:decide ((i:Int)<(sc.ss.length:Int))=true:=by simp;omega
      simp(maxSteps:=9^6)-dsimp only[go_sem,hg,aD,aQ,aY,k6]
      and_intros
      all_goals first
       |omega
       |skip
      refine aE (i+1) 2 (by omega) (by omega) ?_ ?_
      · simp -dsimp only[go_sem]<;>simp
      · simp -dsimp only[go_sem,aD,aQ,aY]<;>simp
    · have hg:decide ((i:Int)<(sc.ss.length:Int))=false:=by simp;omega
      simp(maxSteps:=9^6)-dsimp only[go_sem,hg,aD,aQ,aY]
      exact fin 0 _ hfd
   |true=>
    rw[k6,bE] at hfd
    refine aL (α:=Nat) (fun i=>[(1,.va (.c1 (.fz (l.map cK)))),(3,.va (.c1 (.pt 0 0))),(5,.va (.c1 (.pt 1 0))),(7,iS .i64 i)]) (fun _=>[.cells (aD sc) 25,.cells (aQ (.mk k s n e)) 42])
     (fun i=>i<=sc.ss.length/\dZ (sc.ss.drop i) (l.drop i) n=dZ sc.ss l n) (fun i=>sc.ss.length-i) 0 2 ⟨Nat.zero_le _,rfl⟩ ?_ ?_ ?_
    · simp -dsimp only[go_sem]<;>simp
    · simp -dsimp only[go_sem,aD,aQ,aY]<;>simp
    rintro i ⟨hi,ho⟩
    rcases bB i sc.ss.length with hlt|hge
    · have hg:decide ((i:Int)<(sc.ss.length:Int))=true:=by simp;omega
      obtain ⟨t,hx⟩:∃e,sc.ss[i]? = some e:=⟨_,aU hlt⟩
      obtain ⟨d,hd⟩:∃e,l[i]? = some e:=⟨_,aU (by omega)⟩
      have q2:=aT (row:=aH) hx
      have q3:=aT (row:=cK) hd
      rw[TX hx hd] at ho
      cases hc:decide (t.nm=n) with
      |true=>
       rw[hc,bE] at ho
       simp(maxSteps:=9^6)-dsimp only[go_sem,hg,↓q2,↓q3,aH,aD,aQ,aY,cN,hc,k6]
       and_intros
       all_goals first
        |omega
        |exact fin _ _ (by rw[hfd,<-ho])
      |false=>
       rw[hc,a8] at ho
       simp(maxSteps:=9^6)-dsimp only[go_sem,hg,↓q2,aH,aD,aQ,aY,cN,hc,k6]
       and_intros
       all_goals first
        |omega
        |skip
       refine aE (i+1) 2 ⟨by omega,ho⟩ (by omega) ?_ ?_
       · simp -dsimp only[go_sem]<;>simp
       · simp -dsimp only[go_sem,aD,aQ,aY]<;>simp
    · have hg:decide ((i:Int)<(sc.ss.length:Int))=false:=by simp;omega
      obtain rfl:i=sc.ss.length:=by omega
      rw[aB6] at ho
      simp(maxSteps:=9^6)-dsimp only[go_sem,hg,aD,aQ,aY]
      exact fin 0 _ (by rw[hfd,<-ho])
def FG:List S->Prop:=fun av=>match av with
 |[.va (.gs r),.va (.c1 (.fz ds)),.va (.gs q)]=>gK r/\(NW ds/\ds.length=(C.sc r).ss.length/\∀d∈ds.map C.it,0<=d/\d<=1000000000000)/\iO q/\(bN (C.ty q)).1<=1000000000
 |_=>False
theorem AI {av:List S} (h:FG av):∃(s:Sc) (l:List Int) (t:Ty),av=[.va (.gs (aD s)),.va (.c1 (.fz (l.map cK))),.va (.gs (aQ t))]/\s.fit/\(l.length=s.ss.length/\∀d∈l,0<=d/\d<=1000000000000)/\TyOk t/\(bN t).1<=1000000000:=by
 unfold FG at h
 split at h
 · obtain ⟨⟨a,rfl,ha⟩,⟨⟨l,rfl⟩,h1,h2⟩,⟨b,rfl,hb⟩,h3⟩:=h
   rw[g4] at h3
   rw[dF] at h1
   rw[zN] at h2
   exact ⟨a,l,b,rfl,ha,⟨by simpa using h1,h2⟩,hb,h3⟩
 · exact h.elim
noncomputable def t0Fn:Fun:=⟨FG,N1,fun av h=>by obtain ⟨a,l,b,rfl,_⟩:=AI h;trivial⟩
attribute [go_sem] t0Fn FG
theorem OF:Meets Tryz.prog 131 t0Fn.sp:=dW 0 wN fun av H K ⟨⟨h,e⟩,hK⟩=>by
 obtain ⟨a,l,b,rfl,ha,⟨h1,h2⟩,hb,h3⟩:=AI h
 refine ⟨b.h,⟨⟨⟨fJ ha,⟨⟨l,rfl⟩,by rw[dF];simpa using h1,by rw[zN];exact h2⟩,fQ hb,by rw[g4];exact h3,by rw[g4];exact Nat.le_refl _⟩,e⟩,hK⟩⟩
theorem FB {dp dq:ByteArray->Int} {l:List Fl} (h:∀f∈l,bU dp f.ty<=bU dq f.ty):fB dp l<=fB dq l:=L8 (jT _ _) fun f hf=>Int.le_trans (h f hf) (MT hf)
structure DI (ss:List St) (r i:Nat) (d:List Int):Prop where
 len:d.length=ss.length
 lo:∀(j:Nat) (t:St) (v:Int),ss[j]? = some t->d[j]? = some v->0<=v/\v<=dD ss t.nm/\(rN ss t.nm<r->v=dD ss t.nm)/\(j<i->rN ss t.nm<r+1->v=dD ss t.nm)
theorem DI.ix {ss:List St} {es:List En} (_g:Gd ss es) {r i:Nat} {d:List Int} (h:DI ss r i d) (n:ByteArray):0<=dZ ss d n/\dZ ss d n<=dD ss n/\((fS ss n).isSome=true->rN ss n<r->dZ ss d n=dD ss n):=by
 cases hf:fS ss n with
 |none=>
  rw[xO hf]
  exact ⟨Int.le_refl _,GE ss n,fun h=>by simp at h⟩
 |some u=>
  obtain ⟨j,h1,h2⟩:=yU h.len.symm hf
  obtain ⟨a1,a2,a3,_⟩:=h.lo j u _ h1 h2
  obtain ⟨_,rfl⟩:=f5 hf
  exact ⟨a1,a2,fun _ h=>a3 h⟩
theorem DI.all {ss:List St} {es:List En} (g:Gd ss es) {r i:Nat} {d:List Int} (h:DI ss r i d):∀v∈d,0<=v/\v<=1000000000000:=fun v hv=>by
 obtain ⟨j,hj⟩:=List.mem_iff_getElem?.1 hv
 have hl:=(bJ.1 hj).1
 obtain ⟨t,ht⟩:∃t,ss[j]? = some t:=⟨_,aU (by have:=h.len;omega)⟩
 obtain ⟨h1,h2,_⟩:=h.lo j t v ht hj
 have:=ND g t.nm
 omega
theorem DI.fd {ss:List St} {es:List En} (g:Gd ss es) {r i:Nat} {d:List Int} (h:DI ss r i d) (t:Ty):bU (dZ ss d) t<=bU (dD ss) t:=by
 unfold bU
 have:=h.ix g (bN t).2.n
 cases (bN t).2.k==6<;>simp only[bE,a8]<;>omega
theorem DI.set {ss:List St} {es:List En} (g:Gd ss es) (ha:tM ss) {r i:Nat} {d:List Int} (h:DI ss r i d) {t:St} (ht:ss[i]? = some t):DI ss r (i+1) (d.set i (1+fB (dZ ss d) t.fs)):=by
 have htm:=bY ht
 have hD:=FZ g ha (g.nd t htm)
 have hle:fB (dZ ss d) t.fs<=fB (dD ss) t.fs:=FB fun f _=>h.fd g f.ty
 have heq:rN ss t.nm<r+1->fB (dZ ss d) t.fs=fB (dD ss) t.fs:=fun hr=>rE fun f hf=>by
  unfold bU
  cases hk:(bN f.ty).2.k==6 with
  |false=>rfl
  |true=>
   obtain ⟨h1,u,h2⟩:=CX g (g.nd t htm) hf hk
   have h3:=CN h1 h2 ha
   rw[(h.ix g _).2.2 (by rw[h2];rfl) (by omega)]
 have hn:=jT (dZ ss d) t.fs
 refine ⟨by rw[List.length_set];exact h.len,fun j u v hu hv=>?_⟩
 rw[List.getElem?_set] at hv
 by_cases e:i=j
 · subst e
   rw[ht] at hu;obtain rfl:=cI hu
   have hlt:i<d.length:=by have:=h.len;have:=(bJ.1 ht).1;omega
   simp[hlt] at hv
   subst hv
   exact ⟨by omega,by omega,fun hr=>by rw[heq (by omega)];omega,fun _ hr=>by rw[heq hr];omega⟩
 · rw[if_neg e] at hv
   obtain ⟨a1,a2,a3,a4⟩:=h.lo j u v hu hv
   exact ⟨a1,a2,a3,fun hj hr=>a4 (by omega) hr⟩
theorem DI.up {ss:List St} {r:Nat} {d:List Int} (h:DI ss r ss.length d):DI ss (r+1) 0 d:=⟨h.len,fun j t v ht hv=>by
 obtain ⟨a1,a2,_,a4⟩:=h.lo j t v ht hv
 exact ⟨a1,a2,fun hr=>a4 (bJ.1 ht).1 hr,fun h=>absurd h (Nat.not_lt_zero _)⟩⟩
theorem DI.fin {ss:List St} {d:List Int} (h:DI ss (ss.length+1) 0 d):d=ss.map fun t=>dD ss t.nm:=by
 refine List.ext_getElem? fun j=>?_
 rw[List.getElem?_map]
 cases ht:ss[j]? with
 |none=>
  rw[List.getElem?_eq_none_iff] at ht
  rw[List.getElem?_eq_none (by rw[h.len];exact ht)];rfl
 |some t=>
  obtain ⟨v,hv⟩:∃v,d[j]? = some v:=⟨_,aU (by rw[h.len];exact (bJ.1 ht).1)⟩
  obtain ⟨_,_,a3,_⟩:=h.lo j t v ht hv
  rw[hv,a3 (Nat.lt_succ_of_le (M9 _ _))];rfl
theorem DI.init (ss:List St):DI ss 0 0 (List.replicate ss.length 0):=⟨by simp,fun j t v ht hv=>by
 have:v=0:=by
  have:=bY hv
  exact (List.mem_replicate.1 this).2
 subst this
 exact ⟨Int.le_refl _,GE _ _,fun h=>absurd h (Nat.not_lt_zero _),fun h=>absurd h (Nat.not_lt_zero _)⟩⟩
def aKY:W.Spec:=fun av H K=>∃s:Sc,av=[.va (.gs (aD s))]/\H=[]/\s.fit/\Gd s.ss s.es/\tM s.ss/\K (.va (.c1 (.fz ((s.ss.map fun t=>dD s.ss t.nm).map cK)))) []
theorem aKS {s:Sc} {K:S->Hp->Prop} (h:s.fit) (g:Gd s.ss s.es) (ha:tM s.ss) (hK:K (.va (.c1 (.fz ((s.ss.map fun t=>dD s.ss t.nm).map cK)))) []):aKY [.va (.gs (aD s))] [] K:=⟨s,rfl,rfl,h,g,ha,hK⟩
theorem aBO {D:ByteArray->Int} {l:List Fl} {i:Nat} {f:Fl} (hx:l[i]? = some f):(l.take (i+1)).foldl (gF D) 0=max ((l.take i).foldl (gF D) 0) (bU D f.ty):=by
 rw[dB hx,List.foldl_append];rfl
theorem aBB:Meets Tryz.prog 91 aKY:=by
 refine aF Tryz.func91 aTP 1 (by rw[Tryz.ntmps91];decide) (aG OF (aB _)) (fun av H K h=>by obtain ⟨_,rfl,_⟩:=h;rfl) ?_
 rintro av H K ⟨s,rfl,rfl,hs,g,ha,hK⟩
 have hls:=g.n
 simp(maxSteps:=9^6)-dsimp only[go_sem,aD,aE1,aIX]
 refine ⟨⟨by omega,by omega,by omega⟩,fun h0=>?_,fun h0=>?_⟩
 · have hnil:s.ss=[]:=List.length_eq_zero_iff.1 (by omega)
   have hlen:s.ss.length=0:=by omega
   rw[hnil] at hK
   refine aL (α:=Nat) (fun i=>[(1,.va (.c1 (.pt 0 0))),(3,.va (.c1 (.fz []))),(4,iS .i64 i)]) (fun _=>[.cells (aD s) 25])
    (fun i=>i<=1) (fun i=>1-i) 0 1 (Nat.zero_le _) ?_ ?_ ?_
   · simp -dsimp only[go_sem]<;>simp
   · simp -dsimp only[go_sem,aD]<;>simp
   intro i hi
   rcases Nat.eq_zero_or_pos i with h1|h1
   · have hg:decide ((i:Int)<=(s.ss.length:Int))=true:=by simp;omega
     simp(maxSteps:=9^6)-dsimp only[go_sem,hg,aD]
     refine aL (α:=Unit) (fun _=>[(1,.va (.c1 (.pt 0 0))),(3,.va (.c1 (.fz []))),(4,iS .i64 i),(5,iS .i64 0)]) (fun _=>[.cells (aD s) 25])
      (fun _=>True) (fun _=>0) () 1 trivial ?_ ?_ ?_
     · simp -dsimp only[go_sem]<;>simp
     · simp -dsimp only[go_sem,aD]<;>simp
     intro _ _
     have hg:decide ((0:Int)<(s.ss.length:Int))=false:=by simp;omega
     simp(maxSteps:=9^6)-dsimp only[go_sem,hg,aD]
     refine ⟨by omega,aE (i+1) 1 (by omega) (by omega) ?_ ?_⟩
     · simp -dsimp only[go_sem]<;>simp
     · simp -dsimp only[go_sem,aD]<;>simp
   · have hg:decide ((i:Int)<=(s.ss.length:Int))=false:=by simp;omega
     simp(maxSteps:=9^6)-dsimp only[go_sem,hg,aD]
     exact .z ((by simpa[go_sem] using hK))
 · have hsf:=fJ hs
   rw[aD] at hsf
   have hsd:=dF s
   rw[aD] at hsd
   refine aL (α:=Nat×List Int) (fun z=>[(1,.va (.c1 (.pt 0 0))),(3,.va (.c1 (.sl 1 s.ss.length))),(4,iS .i64 z.1)]) (fun z=>[.cells (aD s) 25,.row (z.2.map cK) 3 1])
    (fun z=>z.1<=s.ss.length+1/\DI s.ss z.1 0 z.2) (fun z=>s.ss.length+1-z.1) (0,List.replicate s.ss.length 0) 2 ⟨Nat.zero_le _,DI.init _⟩ ?_ ?_ ?_
   · simp -dsimp only[go_sem]<;>simp
   · simp -dsimp only[go_sem,aD]<;>simp
   rintro ⟨r,d⟩ ⟨hr,hd⟩
   simp only at hr hd ⊢
   rcases bB r (s.ss.length+1) with hlt|hge
   · have hg:decide ((r:Int)<=(s.ss.length:Int))=true:=by simp;omega
     simp(maxSteps:=9^6)-dsimp only[go_sem,hg,aD]
     refine aL (α:=Nat×List Int) (fun z=>[(1,.va (.c1 (.pt 0 0))),(3,.va (.c1 (.sl 1 s.ss.length))),(4,iS .i64 r),(5,iS .i64 z.1)]) (fun z=>[.cells (aD s) 25,.row (z.2.map cK) 3 1])
      (fun z=>z.1<=s.ss.length/\DI s.ss r z.1 z.2) (fun z=>s.ss.length-z.1) (0,d) 2 ⟨Nat.zero_le _,hd⟩ ?_ ?_ ?_
     · simp -dsimp only[go_sem]<;>simp
     · simp -dsimp only[go_sem,aD]<;>simp
     clear hd hg
     rintro ⟨i,d⟩ ⟨hi,hd⟩
     simp only at hi hd ⊢
     rcases bB i s.ss.length with hit|hig
     · have hg:decide ((i:Int)<(s.ss.length:Int))=true:=by simp;omega
       obtain ⟨t,hx⟩:∃e,s.ss[i]? = some e:=⟨_,aU hit⟩
       have htm:=bY hx
       obtain ⟨_,htl,hfs⟩:=hs.ok.ss t htm
       have q1:=aT (row:=aH) hx
       have hset:=hd.set g ha hx
       have hmx:fB (dZ s.ss d) t.fs<=1000000000000:=by
        have h1:=FB (l:=t.fs) fun f _=>hd.fd g f.ty
        have h2:=FZ g ha (g.nd t htm)
        have h3:=ND g t.nm
        omega
       simp(maxSteps:=9^6)-dsimp only[go_sem,hg,aD]
       refine aL (α:=Nat) (fun k=>[(1,.va (.c1 (.pt 0 0))),(3,.va (.c1 (.sl 1 s.ss.length))),(4,iS .i64 r),(5,iS .i64 i),(6,iS .i64 ((t.fs.take k).foldl (gF (dZ s.ss d)) 0)),(7,iS .i64 k)]) (fun _=>[.cells (aD s) 25,.row (d.map cK) 3 1])
        (fun k=>k<=t.fs.length) (fun k=>t.fs.length-k) 0 2 (Nat.zero_le _) ?_ ?_ ?_
       · simp -dsimp only[go_sem]<;>simp
       · simp -dsimp only[go_sem,aD]<;>simp
       intro k hk
       rcases bB k t.fs.length with hkt|hkg
       · have hg:decide ((k:Int)<(t.fs.length:Int))=true:=by simp;omega
         obtain ⟨f,hf⟩:∃e,t.fs[k]? = some e:=⟨_,aU hkt⟩
         have hfm:=bY hf
         have q2:=aT (row:=aS) hf
         have hity:iO (aQ f.ty):=fQ (hfs f hfm).ty
         have hlv:((bN f.ty).1<=1000000000)=True:=eq_true (g.lv t htm f hfm)
         have hin:NW (d.map cK):=⟨d,rfl⟩
         have hdl:d.length=s.ss.length:=hd.len
         have hall:(∀v:Int,v∈d->0<=v/\v<=1000000000000)=True:=eq_true (hd.all g)
         simp(maxSteps:=9^6)-dsimp only[go_sem,hg,↓q1,aH,aD]
         simp(maxSteps:=9^6)-dsimp only[go_sem,aS,j1,hsf,hsd,hity,hlv,hin,hall,hdl,hf,aI,forall_eq']
         refine ⟨by omega,by omega,by omega,by omega,aE (k+1) 2 (by omega) (by omega) ?_ ?_⟩
         · simp -dsimp only[go_sem,aBO hf]<;>simp
         · simp -dsimp only[go_sem,aD]<;>simp
       · have hg:decide ((k:Int)<(t.fs.length:Int))=false:=by simp;omega
         obtain rfl:k=t.fs.length:=by omega
         have hmx2:t.fs.foldl (gF (dZ s.ss d)) 0=fB (dZ s.ss d) t.fs:=rfl
         rw[List.take_length,hmx2]
         have hn0:=jT (dZ s.ss d) t.fs
         have hdl:d.length=s.ss.length:=hd.len
         obtain ⟨v0,hv0⟩:∃e,d[i]? = some e:=⟨_,aU (by omega)⟩
         simp(maxSteps:=9^6)-dsimp only[go_sem,hg,↓q1,aH,aD]
         simp(maxSteps:=9^6)-dsimp only[go_sem,hv0,aI,forall_eq']
         refine ⟨by omega,by omega,⟨by omega,hdl⟩,⟨hdl,by omega⟩,by omega,aE (i+1,d.set i (1+fB (dZ s.ss d) t.fs)) 2 ⟨by simp only;omega,hset⟩ (by simp only;omega) ?_ ?_⟩
         · simp -dsimp only[go_sem]<;>simp
         · simp -dsimp only[go_sem,aD]<;>simp[List.map_set]
     · have hg:decide ((i:Int)<(s.ss.length:Int))=false:=by simp;omega
       obtain rfl:i=s.ss.length:=by omega
       simp(maxSteps:=9^6)-dsimp only[go_sem,hg,aD]
       refine ⟨by omega,aE (r+1,d) 2 ⟨by simp only;omega,hd.up⟩ (by simp only;omega) ?_ ?_⟩
       · simp -dsimp only[go_sem]<;>simp
       · simp -dsimp only[go_sem,aD]<;>simp
   · have hg:decide ((r:Int)<=(s.ss.length:Int))=false:=by simp;omega
     obtain rfl:r=s.ss.length+1:=by omega
     have hfin:=hd.fin
     rw[<-hfin] at hK
     simp(maxSteps:=9^6)-dsimp only[go_sem,hg,aD]
     have e1:s.ss.length=(d.map cK).length:=by rw[List.length_map];exact hd.len.symm
     rw[e1]
     refine .pub 1 _ _ _ rfl (.sel [] (by simp) (by simp[b5]) rfl (.done ?_))
     simp -dsimp only[go_sem,b5]
     simpa using hK
theorem aDJ:Meets Tryz.prog 49 ckFn.sp:=by
 refine aF Tryz.func49 aSK 1 (by rw[Tryz.ntmps49];decide) (aG aG6 (aG aBS (aG QW (aC aL7 (aG S5 (aC aBB (aB _))))))) lG ?_
 rintro av H K ⟨⟨h,rfl⟩,hK⟩
 obtain ⟨_,rfl,s,rfl,hs⟩:=f7 h
 have hK:K (iS .i64 (bI s)) []:=by
  have:ckFn.val [.va (.gs (aD s))]=iA .i64 (bI s):=by simp -dsimp only[go_sem]
  rw[this] at hK;exact hK
 clear h
 have hfit:=hs
 have hsc:tH (aD s):=LX hs.ok
 have hsf:gK (aD s):=fJ hs
 obtain ⟨⟨hv,hle,hls,hes,hss⟩,hlv,_,_⟩:=hs
 have fin:∀(x:Int) (R:Hp),bI s=x->W.Fin 0 K (iS .i64 x) R:=fun x R h1=>by
  rw[h1] at hK
  exact .z ((by simpa[go_sem] using hK))
 have hsc':=hsc
 have hsf':=hsf
 simp only[aD] at hsc' hsf'
 have hdec:C.sc [.vl (.int .i64 s.ver),.fz (s.es.map aZ),.fz (s.ss.map aH)]=s:=dF s
 simp(maxSteps:=9^6)-dsimp only[go_sem,aD,aF8,aI1,hsc',hdec]
 refine ⟨fun h1=>fin 4 _ (by unfold bI;rw[h1];rfl),fun c1=>⟨fun h1=>fin 3 _ (by unfold bI;rw[c1,h1];rfl),fun c2=>?_⟩⟩
 have hF:bI s=bif t8 s != 0 then t8 s else bif s4 s != 0 then s4 s else iZ s.ss:=by unfold bI;rw[c1,c2];rfl
 refine aL (α:=Nat) (fun i=>[(1,.va (.c1 (.pt 0 0))),(3,iS .i64 i)]) (fun _=>[.cells (aD s) 25])
  (fun i=>i<=s.es.length/\fE (fO s) (s.es.length-i) i=t8 s) (fun i=>s.es.length-i) 0 1 ⟨Nat.zero_le _,rfl⟩ ?_ ?_ ?_
 · simp -dsimp only[go_sem]<;>simp
 · simp -dsimp only[go_sem,aD]<;>simp
 rintro i ⟨hi,ho⟩
 rcases bB i s.es.length with hlt|hge
 · have hg:decide ((i:Int)<(s.es.length:Int))=true:=by simp;omega
   have fin':∀(x:Int) (R:Hp),fO s i=x->x≠0->W.Fin 0 K (iS .i64 x) R:=fun x R h1 h2=>fin x R (by
    rw[hF,<-ho,kQ hlt (by rw[h1];exact h2),h1];exact n3 h2)
   have dM:fO s i=0->fE (fO s) (s.es.length-(i+1)) (i+1)=t8 s:=fun h1=>by rw[<-ho,mS hlt h1]
   simp(maxSteps:=9^6)-dsimp only[go_sem,hg,aD,hsf',hdec,Int.toNat_natCast]
   refine ⟨⟨by omega,by omega⟩,fun h1=>fin' _ _ rfl (by simpa using h1),fun h1=>?_⟩
   refine ⟨by omega,aE (i+1) 1 ⟨by omega,dM (by simpa using h1)⟩ (by omega) ?_ ?_⟩
   · simp -dsimp only[go_sem]<;>simp
   · simp -dsimp only[go_sem,aD]<;>simp
 · have hg:decide ((i:Int)<(s.es.length:Int))=false:=by simp;omega
   obtain rfl:i=s.es.length:=by omega
   rw[mC] at ho
   rw[qD ho.symm] at hF
   simp(maxSteps:=9^6)-dsimp only[go_sem,hg,aD]
   clear hi hge hg ho
   refine aL (α:=Nat) (fun i=>[(1,.va (.c1 (.pt 0 0))),(5,iS .i64 i)]) (fun _=>[.cells (aD s) 25])
    (fun i=>i<=s.ss.length/\fE (gG s) (s.ss.length-i) i=s4 s) (fun i=>s.ss.length-i) 0 1 ⟨Nat.zero_le _,rfl⟩ ?_ ?_ ?_
   · simp -dsimp only[go_sem]<;>simp
   · simp -dsimp only[go_sem,aD]<;>simp
   rintro i ⟨hi,ho⟩
   rcases bB i s.ss.length with hlt|hge
   · have hg:decide ((i:Int)<(s.ss.length:Int))=true:=by simp;omega
     have fin':∀(x:Int) (R:Hp),gG s i=x->x≠0->W.Fin 0 K (iS .i64 x) R:=fun x R h1 h2=>fin x R (by
      rw[hF,<-ho,kQ hlt (by rw[h1];exact h2),h1];exact n3 h2)
     have dM:gG s i=0->fE (gG s) (s.ss.length-(i+1)) (i+1)=s4 s:=fun h1=>by rw[<-ho,mS hlt h1]
     simp(maxSteps:=9^6)-dsimp only[go_sem,hg,aD,hsf',hdec,Int.toNat_natCast]
     refine ⟨⟨by omega,by omega⟩,fun h1=>fin' _ _ rfl (by simpa using h1),fun h1=>?_⟩
     refine ⟨by omega,aE (i+1) 1 ⟨by omega,dM (by simpa using h1)⟩ (by omega) ?_ ?_⟩
     · simp -dsimp only[go_sem]<;>simp
     · simp -dsimp only[go_sem,aD]<;>simp
   · have hg:decide ((i:Int)<(s.ss.length:Int))=false:=by simp;omega
     obtain rfl:i=s.ss.length:=by omega
     rw[mC] at ho
     rw[qD ho.symm] at hF
     have g:=CG hfit c2 ho.symm
     simp(maxSteps:=9^6)-dsimp only[go_sem,hg,aD]
     clear hi hge hg ho
     refine aL (α:=Nat) (fun i=>[(1,.va (.c1 (.pt 0 0))),(7,iS .i64 i)]) (fun _=>[.cells (aD s) 25])
      (fun i=>i<=s.ss.length/\(s.ss.drop i).any (fun t=>bW (cP s.ss t.nm) t.nm)=s.ss.any (fun t=>bW (cP s.ss t.nm) t.nm)) (fun i=>s.ss.length-i) 0 1 ⟨Nat.zero_le _,rfl⟩ ?_ ?_ ?_
     · simp -dsimp only[go_sem]<;>simp
     · simp -dsimp only[go_sem,aD]<;>simp
     rintro i ⟨hi,ho⟩
     rcases bB i s.ss.length with hlt|hge
     · have hg:decide ((i:Int)<(s.ss.length:Int))=true:=by simp;omega
       obtain ⟨t,hx⟩:∃t,s.ss[i]? = some t:=⟨_,aU hlt⟩
       have q1:=aT (row:=aH) hx
       rw[cL hx] at ho
       have hv:=g.vlen t.nm
       have hul:=tV s.ss t.nm
       have hbs:sB ((cP s.ss t.nm).map bF):=m8 (by rw[tV];omega)
       have e0:(0<=((cP s.ss t.nm).length:Int))=True:=by simp
       have e1:(((cP s.ss t.nm).length:Int)<=9223372036854775807)=True:=by rw[hul];exact eq_true (by omega)
       have hto:(cP s.ss t.nm).take (cP s.ss t.nm).length=cP s.ss t.nm:=List.take_length
       simp(maxSteps:=9^6)-dsimp only[go_sem,hg,↓q1,aH,aD]
       refine ⟨by omega,aIQ hfit g ?_⟩
       simp(maxSteps:=9^6)-dsimp only[go_sem,hbs,e0,e1,Int.toNat_natCast,hto]
       refine ⟨by omega,fun hc=>?_,fun hc=>?_⟩
       · rw[hc,Bool.true_or] at ho
         exact fin 19 _ (by rw[hF];unfold iZ;rw[<-ho];rfl)
       · rw[hc,Bool.false_or] at ho
         refine ⟨by omega,aE (i+1) 1 ⟨by omega,ho⟩ (by omega) ?_ ?_⟩
         · simp -dsimp only[go_sem]<;>simp
         · simp -dsimp only[go_sem,aD]<;>simp
     · have hg:decide ((i:Int)<(s.ss.length:Int))=false:=by simp;omega
       obtain rfl:i=s.ss.length:=by omega
       rw[eH] at ho
       have ha:tM s.ss:=fun t ht=>iX ho.symm t ht
       have hF2:bI s=bif s.ss.any (fun t=>decide (6<dD s.ss t.nm)) then 9 else 0:=by rw[hF];unfold iZ;rw[<-ho];rfl
       simp(maxSteps:=9^6)-dsimp only[go_sem,hg,aD]
       refine aKS hfit g ha ?_
       simp(maxSteps:=9^6)-dsimp only[go_sem]
       clear hi hge hg ho
       refine aL (α:=Nat) (fun i=>[(9,.va (.c1 (.fz ((s.ss.map fun t=>dD s.ss t.nm).map cK)))),(10,iS .i64 i)]) (fun _=>[.cells (aD s) 25])
        (fun i=>i<=s.ss.length/\(s.ss.drop i).any (fun t=>decide (6<dD s.ss t.nm))=s.ss.any (fun t=>decide (6<dD s.ss t.nm))) (fun i=>s.ss.length-i) 0 1 ⟨Nat.zero_le _,rfl⟩ ?_ ?_ ?_
       · simp -dsimp only[go_sem]<;>simp
       · simp -dsimp only[go_sem,aD]<;>simp
       rintro i ⟨hi,ho⟩
       rcases bB i s.ss.length with hlt|hge
       · have hg:decide ((i:Int)<(s.ss.length:Int))=true:=by simp;omega
         obtain ⟨t,hx⟩:∃t,s.ss[i]? = some t:=⟨_,aU hlt⟩
         have hd:(s.ss.map fun t=>dD s.ss t.nm)[i]? = some (dD s.ss t.nm):=by rw[List.getElem?_map,hx];rfl
         have q1:=aT (row:=cK) hd
         have hml:(s.ss.map fun t=>dD s.ss t.nm).length=s.ss.length:=by simp
         rw[cL hx] at ho
         generalize (s.ss.map fun t=>dD s.ss t.nm)=ds at *
         simp(maxSteps:=9^6)-dsimp only[go_sem,hml,hg,↓q1,aD]
         refine ⟨by omega,fun hc=>?_,fun hc=>?_⟩
         · rw[hc,Bool.true_or] at ho
           exact fin 9 _ (by rw[hF2,<-ho];rfl)
         · rw[hc,Bool.false_or] at ho
           refine ⟨by omega,aE (i+1) 1 ⟨by omega,ho⟩ (by omega) ?_ ?_⟩
           · simp -dsimp only[go_sem]<;>simp
           · simp -dsimp only[go_sem,aD]<;>simp
       · have hg:decide ((i:Int)<(s.ss.length:Int))=false:=by simp;omega
         obtain rfl:i=s.ss.length:=by omega
         rw[eH] at ho
         have hml:(s.ss.map fun t=>dD s.ss t.nm).length=s.ss.length:=by simp
         generalize (s.ss.map fun t=>dD s.ss t.nm)=ds at *
         simp(maxSteps:=9^6)-dsimp only[go_sem,hml,hg,aD]
         exact fin 0 _ (by rw[hF2,<-ho];rfl)
def kI:Nat->Ty->Nat
 |0,_=>0
 |N+1,t=>t.e.foldl (fun m u=>max m (1+kI N u)) 0
abbrev lF (N:Nat):Nat->Ty->Nat:=fun m u=>max m (1+kI N u)
theorem VI (N:Nat):∀(l:List Ty) (m:Nat),m<=l.foldl (lF N) m
 |[],_=>Nat.le_refl _
 |u::l,m=>Nat.le_trans (Nat.le_max_left _ _) (VI N l (max m (1+kI N u)))
theorem aHF {N:Nat} {l:List Ty} {u:Ty} (h:u∈l):∀m,1+kI N u<=l.foldl (lF N) m:=by
 induction l with
 |nil=>cases h
 |cons v l ih=>
  intro m
  rcases List.mem_cons.1 h with rfl|h
  · exact Nat.le_trans (Nat.le_max_right m _) (VI N l _)
  · exact ih h _
theorem ZA:∀(N:Nat) (t:Ty),kI N t<N->t.h<=kI N t+1
 |0,_,h=>absurd h (Nat.not_lt_zero _)
 |N+1,.mk k s n e,h=>by
  have hu:∀u∈e,u.h<=kI (N+1) (.mk k s n e):=fun u hu=>by
   have h1:1+kI N u<=kI (N+1) (.mk k s n e):=aHF (N:=N) (l:=e) hu 0
   have:=ZA N u (by omega)
   omega
  rw[Ty.h]
  have:∀(l:List Ty),(∀u∈l,u.h<=kI (N+1) (.mk k s n e))->Ty.hs l<=kI (N+1) (.mk k s n e):=by
   intro l
   induction l with
   |nil=>exact fun _=>Nat.zero_le _
   |cons v l ih=>
    intro h
    rw[Ty.hs]
    exact Nat.max_le.2 ⟨h v List.mem_cons_self,ih fun u hu=>h u (List.mem_cons_of_mem _ hu)⟩
  have:=this e hu
  omega
mutual
def sK:Ty->Bool
 |.mk k s n e=>bif decide (40<(bl n).length)||decide (3<e.length)||decide (8<kI 20 (.mk k s n e)) then false else FW e
def FW:List Ty->Bool
 |[]=>true
 |t::r=>sK t&&FW r
end
theorem D7:∀l:List Ty,FW l=l.all sK
 |[]=>rfl
 |t::r=>by rw[FW,D7 r];rfl
theorem V6 {k s:Int} {n:ByteArray} {e:List Ty} (h:sK (.mk k s n e)=true):((bl n).length<=40/\e.length<=3/\kI 20 (.mk k s n e)<=8)/\∀u∈e,sK u=true:=by
 rw[sK] at h
 cases c:decide (40<(bl n).length)||decide (3<e.length)||decide (8<kI 20 (.mk k s n e)) with
 |true=>rw[c] at h;cases h
 |false=>
  rw[c] at h
  simp only[Bool.or_eq_false_iff,decide_eq_false_iff_not] at c
  refine ⟨by omega,fun u hu=>?_⟩
  simp only[a8,D7,List.all_eq_true] at h
  exact h u hu
theorem aPO {t:Ty} (h:sK t=true):t.h<=9:=by
 obtain ⟨k,s,n,e⟩:=t
 have h1:=(V6 h).1.2.2
 have:=ZA 20 (.mk k s n e) (by omega)
 omega
theorem P4:∀(N:Nat) (t:Ty),t.h<=N->sK t=true->TySm t
 |0,t,h,_=>absurd h (by have:=t.h_pos;omega)
 |N+1,.mk k s n e,h,hf=>by
  obtain ⟨⟨_,h2,_⟩,h3⟩:=V6 hf
  refine .mk (by omega) fun u hu=>P4 N u ?_ (h3 u hu)
  have:=Ty.hs_mem hu;rw[Ty.h] at h;omega
theorem aIU:∀(N:Nat) (t:Ty),t.h<=N->(bN t).1<=t.h
 |0,t,h=>absurd h (by have:=t.h_pos;omega)
 |N+1,.mk k s n e,h=>by
  cases c:(k==5&&decide (0<(e.length:Int))) with
  |false=>rw[IT c];exact Nat.zero_le _
  |true=>
   simp only[Bool.and_eq_true,beq_iff_eq,decide_eq_true_eq] at c
   obtain ⟨rfl,c⟩:=c
   cases e with
   |nil=>simp at c
   |cons u r=>
    rw[yQ]
    have h2:=aIU N u (by rw[Ty.h,Ty.hs] at h;omega)
    rw[Ty.h,Ty.hs];simp only;omega
def aJ0 (e:En):Bool:=!(decide (40<(bl e.nm).length)||decide (18<e.ns.length)||decide (18<e.vs.length))&&e.ns.all fun n=>!(decide (40<(bl n).length))
def VT (f:Fl):Bool:=!(decide (40<(bl f.nm).length)||!(sK f.ty))
def XG (t:St):Bool:=!(decide (40<(bl t.nm).length)||decide (18<t.fs.length))&&t.fs.all VT
def UA (s:Sc):Bool:=!(decide (18<s.es.length)||decide (18<s.ss.length))&&(s.es.all aJ0&&s.ss.all XG)
theorem aB2 {s:Sc} (h:s.ok) (hf:UA s=true):s.fit:=by
 unfold UA at hf
 simp only[Bool.and_eq_true,List.all_eq_true,Bool.not_eq_true',Bool.or_eq_false_iff,decide_eq_false_iff_not] at hf
 obtain ⟨_,he,hs⟩:=hf
 have hfl:∀t∈s.ss,t.fs.length<=18/\∀f∈t.fs,sK f.ty=true:=fun t ht=>by
  have:=hs t ht
  unfold XG at this
  simp only[Bool.and_eq_true,List.all_eq_true,Bool.not_eq_true',Bool.or_eq_false_iff,decide_eq_false_iff_not] at this
  refine ⟨by omega,fun f hf=>?_⟩
  have:=this.2 f hf
  unfold VT at this
  simp only[Bool.not_eq_true',Bool.or_eq_false_iff,Bool.not_eq_false'] at this
  exact this.2
 refine ⟨h,fun t ht f hf=>?_,fun t ht=>⟨by have:=(hfl t ht).1;omega,fun f hf=>P4 _ _ (Nat.le_refl _) ((hfl t ht).2 f hf)⟩,fun e hm=>?_⟩
 · have h1:=aPO ((hfl t ht).2 f hf)
   have h2:=aIU _ f.ty (Nat.le_refl _)
   omega
 · have:=he e hm
   unfold aJ0 at this
   simp only[Bool.and_eq_true,List.all_eq_true,Bool.not_eq_true',Bool.or_eq_false_iff,decide_eq_false_iff_not] at this
   omega
theorem TR {α:Type} {l:List α} {i:Nat} {x:α} (hx:l[i]? = some x) (p:α->Bool):(l.drop i).all p=(p x&&(l.drop (i+1)).all p):=by
 obtain ⟨h,rfl⟩:=bJ.1 hx
 rw[List.drop_eq_getElem_cons h,List.all_cons]
theorem aA0 {α:Type} {l:List α} (p:α->Bool):(l.drop l.length).all p=true:=by rw[List.drop_length];rfl
def U1:PC:=.seq (.reg [.e 3 (.bx 25 (.t 0)),.e 4 (.bx 42 (.t 1)),.e 5 (.bx 29 (.t 2)),.q 6 (.mv (.i 0))]) (.seq (.seq (.reg [.l 7 (.ldn 5 (.t 5)),.a 8 (.cq 41 [(.t 7),(.i 6)]),.q 9 (.bin .gtr true (.t 8) (.i 6))]) (.cond (.t 9) (.seq (.reg [.q 6 (.mv (.i 9))]) .ret) .skip)) (.seq (.reg [.l 10 (.ldn 3 (.t 3)),.q 11 (.bd [(.int .i64 0),(.slice none 0 0),(.slice none 0 0)] [(0,3,(.t 10))]),.l 12 (.ldn 4 (.t 4)),.l 13 (.ldn 5 (.t 5)),.a 14 (.cq 42 [(.t 11),(.t 12),(.t 13)]),.v 6 14]) .ret))
def UP:List RV:=[.mv (.t 6)]
theorem aS8:aO Tryz.prog true ⟨fun r k=>if r=1/\k=1 then .q else if r=3/\k=4 then .q else .own [],fun _=>false⟩ Tryz.f24=some (U1,UP):=by kernel_rfl
def TF:PC:=.seq (.reg [.e 2 (.bx 29 (.t 0)),.q 4 (.mv (.i 0))]) (.seq (.seq (.reg [.q 10 (.fa 0 (.t 2)),.l 11 (.ld1 (.t 10)),.q 12 (.bin .neq true (.t 11) (.i 5)),.v 13 12,⟨some 14,(some (13,true)),.q (.fa 0 (.t 2))⟩,⟨some 15,(some (13,true)),.l (.ld1 (.t 14))⟩,⟨some 16,(some (13,true)),.q (.bin .neq true (.t 15) (.i 6))⟩,.a 17 (.pick (.t 13) (.t 16) (.k (.bool false))),.v 18 17,⟨some 19,(some (18,true)),.q (.fa 3 (.t 2))⟩,⟨some 20,(some (18,true)),.l (.ld1 (.t 19))⟩,⟨some 21,(some (18,true)),.q (.lnL (.t 20))⟩,⟨some 22,(some (18,true)),.q (.bin .eql true (.t 21) (.i 0))⟩,.a 23 (.pick (.t 18) (.t 22) (.k (.bool false))),.v 24 23,⟨some 25,(some (24,true)),.q (.fa 4 (.t 2))⟩,⟨some 26,(some (24,true)),.l (.ld1 (.t 25))⟩,⟨some 27,(some (24,true)),.q (.lnL (.t 26))⟩,⟨some 28,(some (24,true)),.q (.bin .eql true (.t 27) (.i 0))⟩,.a 29 (.pick (.t 24) (.t 28) (.k (.bool false)))]) (.cond (.t 29) (.seq (.reg [.q 4 (.mv (.i 0))]) .ret) .skip)) (.seq (.reg [.q 5 (.mv (.i 0))]) (.seq (.seq (.reg [.q 30 (.fa 3 (.t 2)),.l 31 (.ld1 (.t 30)),.q 32 (.lnL (.t 31)),.q 33 (.mv (.i 0))]) (.block 0 (.loop (.seq (.reg [.q 34 (.bin .lss true (.t 33) (.t 32))]) (.seq (.cond (.t 34) .skip (.exit 0)) (.seq (.block 1 (.seq (.reg [.l 35 (.ia 5 (.t 31) (.t 33)),.l 36 (.ldn 5 (.t 35)),.e 7 (.al (.agg cS) 29),.s (.st 5 (.t 7) (.t 36))]) (.seq (.reg [.v 37 5,.v 38 1,.q 39 (.bin .leq true (.t 37) (.t 38))]) (.cond (.t 39) (.reg [.v 40 5,.l 41 (.ldn 5 (.t 7)),.v 42 1,.q 43 (.bin .sub true (.t 42) (.i 1)),.a 44 (.cq 41 [(.t 41),(.t 43)]),.q 45 (.mx true (.t 40) (.t 44)),.v 5 45]) .skip)))) (.reg [.q 46 (.bin .add true (.t 33) (.i 1)),.v 33 46]))))))) (.seq (.seq (.reg [.q 47 (.fa 4 (.t 2)),.l 48 (.ld1 (.t 47)),.q 49 (.lnL (.t 48)),.q 50 (.mv (.i 0))]) (.block 2 (.loop (.seq (.reg [.q 51 (.bin .lss true (.t 50) (.t 49))]) (.seq (.cond (.t 51) .skip (.exit 2)) (.seq (.block 3 (.seq (.reg [.l 52 (.ia 6 (.t 48) (.t 50)),.l 53 (.ldn 6 (.t 52)),.e 9 (.al (.agg #[(.int .i64 0),(.int .i64 0),(.int .i64 0),(.string (mk [])),(.slice none 0 0),(.slice none 0 0)]) 76),.s (.st 6 (.t 9) (.t 53))]) (.seq (.reg [.v 54 5,.v 55 1,.q 56 (.bin .leq true (.t 54) (.t 55))]) (.cond (.t 56) (.reg [.v 57 5,.q 58 (.fa 1 (.t 9)),.l 59 (.ldn 5 (.t 58)),.v 60 1,.q 61 (.bin .sub true (.t 60) (.i 1)),.a 62 (.cq 41 [(.t 59),(.t 61)]),.q 63 (.mx true (.t 57) (.t 62)),.v 5 63]) .skip)))) (.reg [.q 64 (.bin .add true (.t 50) (.i 1)),.v 50 64]))))))) (.seq (.reg [.v 65 5,.q 66 (.bin .add true (.i 1) (.t 65)),.v 4 66]) .ret)))))
def UG:List RV:=[.mv (.t 4)]
theorem aSU:aO Tryz.prog true ⟨fun r k=>if r=8/\k=4 then .q else if r=14/\k=5 then .q else .own [],fun _=>false⟩ Tryz.f41=some (TF,UG):=by kernel_rfl
def yY:PC:=.seq (.reg [.e 3 (.bx 93 (.t 0)),.e 4 (.bx 42 (.t 1)),.e 5 (.bx 29 (.t 2)),.q 6 (.mv (.i 0))]) (.seq (.seq (.reg [.l 8 (.ldn 3 (.t 3)),.l 9 (.ldn 4 (.t 4)),.a 10 (.cq 75 [(.t 8),(.t 9)]),.q 11 (.not (.t 10)),.v 12 11,⟨some 13,(some (12,false)),.q (.fa 0 (.t 5))⟩,⟨some 14,(some (12,false)),.l (.ld1 (.t 13))⟩,⟨some 15,(some (12,false)),.q (.fa 0 (.t 4))⟩,⟨some 16,(some (12,false)),.l (.ld1 (.t 15))⟩,⟨some 17,(some (12,false)),.q (.bin .neq true (.t 14) (.t 16))⟩,.a 18 (.pick (.t 12) (.k (.bool true)) (.t 17))]) (.cond (.t 18) (.seq (.reg [.q 6 (.mv (.i 13))]) .ret) .skip)) (.seq (.reg [.l 19 (.ldn 3 (.t 3)),.q 20 (.mh 76 [(.t 19)]),.v 7 20]) (.seq (.seq (.reg [.q 21 (.fa 0 (.t 4)),.l 22 (.ld1 (.t 21))]) (.block 0 (.seq (.reg [.q 24 (.bin .eql true (.t 22) (.i 4)),.v 23 24]) (.cond (.t 23) (.reg [.l 25 (.ldn 3 (.t 3)),.q 26 (.mh 77 [(.t 25)]),.v 7 26]) (.seq (.reg [.q 28 (.bin .eql true (.t 22) (.i 5)),.v 27 28]) (.cond (.t 27) (.reg [.l 29 (.ldn 3 (.t 3)),.q 30 (.mh 78 [(.t 29)]),.v 7 30]) (.seq (.reg [.q 32 (.bin .eql true (.t 22) (.i 6)),.v 31 32]) (.cond (.t 31) (.reg [.l 33 (.ldn 3 (.t 3)),.q 34 (.mh 79 [(.t 33)]),.v 7 34]) .skip)))))))) (.seq (.reg [.v 35 7,.l 36 (.ldn 4 (.t 4)),.l 37 (.ldn 5 (.t 5)),.a 38 (.ca (.t 35) [(.t 36),(.t 37)] []),.v 6 38]) .ret))))
def w9:List RV:=[.mv (.t 6)]
theorem aVG:aO Tryz.prog true ⟨fun r k=>if r=1/\k=2 then .q else .own [],fun _=>false⟩ Tryz.f42=some (yY,w9):=by kernel_rfl
def aI3:PC:=.seq (.reg [.e 2 (.bx 25 (.t 0)),.e 3 (.bx 42 (.t 1)),.e 4 (.al (.agg cS) 29)]) (.seq (.reg [.l 5 (.ldn 3 (.t 2)),.q 6 (.bd [(.int .i64 0),(.slice none 0 0),(.slice none 0 0)] [(0,3,(.t 5))]),.l 7 (.ldn 4 (.t 3)),.a 8 (.cl 83 [(.t 6),(.t 7),(.i 22)] []),.s (.st 5 (.t 4) (.t 8))]) .ret)
def aGX:List RV:=[.ld (.ldn 5 (.t 4))]
theorem aR7:aO Tryz.prog true ⟨fun _ _=>.own [],fun _=>false⟩ Tryz.f45=some (aI3,aGX):=by kernel_rfl
def nK:PC:=.seq (.gh (.reg [.v 31 5,.v 32 31,⟨some 33,(some (32,true)),.q (.fa 1 (.t 3))⟩,⟨some 34,(some (32,true)),.l (.ld1 (.t 33))⟩,⟨some 35,(some (32,true)),.q (.bin .eql true (.t 34) (.i 8))⟩,⟨some 36,(some (32,true)),.q (.mv (.t 35))⟩,⟨some 37,(some (36,false)),.q (.fa 1 (.t 3))⟩,⟨some 38,(some (36,false)),.l (.ld1 (.t 37))⟩,⟨some 39,(some (36,false)),.q (.bin .eql true (.t 38) (.i 16))⟩,⟨some 40,(some (32,true)),.pick (.t 36) (.k (.bool true)) (.t 39)⟩,⟨some 41,(some (32,true)),.q (.mv (.t 40))⟩,⟨some 42,(some (41,false)),.q (.fa 1 (.t 3))⟩,⟨some 43,(some (41,false)),.l (.ld1 (.t 42))⟩,⟨some 44,(some (41,false)),.q (.bin .eql true (.t 43) (.i 32))⟩,⟨some 45,(some (32,true)),.pick (.t 41) (.k (.bool true)) (.t 44)⟩,⟨some 46,(some (32,true)),.q (.mv (.t 45))⟩,⟨some 47,(some (46,false)),.q (.fa 1 (.t 3))⟩,⟨some 48,(some (46,false)),.l (.ld1 (.t 47))⟩,⟨some 49,(some (46,false)),.q (.bin .eql true (.t 48) (.i 64))⟩,⟨some 50,(some (32,true)),.pick (.t 46) (.k (.bool true)) (.t 49)⟩,.a 51 (.pick (.t 32) (.t 50) (.k (.bool false))),.v 4 51])) .ret
@[go_sem ↓] theorem aVB:aM nK:=aN _
def pV:PC:=.seq (.gh (.reg [.v 54 5,.v 55 54,⟨some 56,(some (55,true)),.q (.fa 1 (.t 3))⟩,⟨some 57,(some (55,true)),.l (.ld1 (.t 56))⟩,⟨some 58,(some (55,true)),.q (.bin .eql true (.t 57) (.i 8))⟩,⟨some 59,(some (55,true)),.q (.mv (.t 58))⟩,⟨some 60,(some (59,false)),.q (.fa 1 (.t 3))⟩,⟨some 61,(some (59,false)),.l (.ld1 (.t 60))⟩,⟨some 62,(some (59,false)),.q (.bin .eql true (.t 61) (.i 16))⟩,⟨some 63,(some (55,true)),.pick (.t 59) (.k (.bool true)) (.t 62)⟩,⟨some 64,(some (55,true)),.q (.mv (.t 63))⟩,⟨some 65,(some (64,false)),.q (.fa 1 (.t 3))⟩,⟨some 66,(some (64,false)),.l (.ld1 (.t 65))⟩,⟨some 67,(some (64,false)),.q (.bin .eql true (.t 66) (.i 32))⟩,⟨some 68,(some (55,true)),.pick (.t 64) (.k (.bool true)) (.t 67)⟩,.a 69 (.pick (.t 55) (.t 68) (.k (.bool false))),.v 4 69])) .ret
@[go_sem ↓] theorem aWR:aM pV:=aN _
def lD:PC:=.seq (.gh (.reg [.q 85 (.fa 2 (.t 3)),.l 86 (.ld1 (.t 85)),.q 87 (.bin .eql true (.t 86) (.k (.string (mk [])))),.v 88 87,⟨some 89,(some (88,true)),.q (.fa 1 (.t 3))⟩,⟨some 90,(some (88,true)),.l (.ld1 (.t 89))⟩,⟨some 91,(some (88,true)),.q (.bin .geq true (.t 90) (.i 1))⟩,.a 92 (.pick (.t 88) (.t 91) (.k (.bool false))),.v 93 92,⟨some 94,(some (93,true)),.q (.fa 1 (.t 3))⟩,⟨some 95,(some (93,true)),.l (.ld1 (.t 94))⟩,⟨some 96,(some (93,true)),.q (.bin .leq true (.t 95) (.i 32))⟩,.a 97 (.pick (.t 93) (.t 96) (.k (.bool false))),.v 98 97,⟨some 99,(some (98,true)),.q (.fa 3 (.t 3))⟩,⟨some 100,(some (98,true)),.l (.ld1 (.t 99))⟩,⟨some 101,(some (98,true)),.q (.lnL (.t 100))⟩,⟨some 102,(some (98,true)),.q (.bin .eql true (.t 101) (.i 1))⟩,.a 103 (.pick (.t 98) (.t 102) (.k (.bool false))),.v 104 103,⟨some 105,(some (104,true)),.l (.ldn 3 (.t 2))⟩,⟨some 106,(some (104,true)),.q (.fa 3 (.t 3))⟩,⟨some 107,(some (104,true)),.l (.ld1 (.t 106))⟩,⟨some 108,(some (104,true)),.l (.ia 4 (.t 107) (.i 0))⟩,⟨some 109,(some (104,true)),.l (.ldn 4 (.t 108))⟩,⟨some 110,(some (104,true)),.cq 75 [(.t 105),(.t 109)]⟩,.a 111 (.pick (.t 104) (.t 110) (.k (.bool false))),.v 4 111])) .ret
@[go_sem ↓] theorem aQV:aM lD:=aN _
def DG:PC:=.seq (.gh (.reg [.v 122 7,.v 123 122,⟨some 124,(some (123,true)),.q (.fa 1 (.t 3))⟩,⟨some 125,(some (123,true)),.l (.ld1 (.t 124))⟩,⟨some 126,(some (123,true)),.q (.bin .eql true (.t 125) (.i 0))⟩,.a 127 (.pick (.t 123) (.t 126) (.k (.bool false))),.v 128 127,⟨some 129,(some (128,true)),.q (.fa 3 (.t 3))⟩,⟨some 130,(some (128,true)),.l (.ld1 (.t 129))⟩,⟨some 131,(some (128,true)),.q (.lnL (.t 130))⟩,⟨some 132,(some (128,true)),.q (.bin .eql true (.t 131) (.i 0))⟩,.a 133 (.pick (.t 128) (.t 132) (.k (.bool false))),.v 4 133])) .ret
@[go_sem ↓] theorem aR1:aM DG:=aN _
def DD:PC:=.seq (.gh (.reg [.q 115 (.fa 0 (.t 2)),.l 116 (.ldn 3 (.t 115)),.q 117 (.fa 2 (.t 3)),.l 118 (.ld1 (.t 117)),.a 119 (.cl 40 [(.t 116),(.t 118)] []),.v 114 119,.q 120 (.ex (.t 114) 0),.q 121 (.ex (.t 114) 1),.e 6 (.al (.agg #[(.string (mk [])),(.slice none 0 0)]) 48),.s (.st 2 (.t 6) (.t 120)),.v 7 121])) (DG)
@[go_sem ↓] theorem aRS:aM DD:=aN _
def BE:PC:=.seq (.gh (.reg [.v 144 9,.v 145 144,⟨some 146,(some (145,true)),.q (.fa 1 (.t 3))⟩,⟨some 147,(some (145,true)),.l (.ld1 (.t 146))⟩,⟨some 148,(some (145,true)),.q (.bin .eql true (.t 147) (.i 0))⟩,.a 149 (.pick (.t 145) (.t 148) (.k (.bool false))),.v 150 149,⟨some 151,(some (150,true)),.q (.fa 3 (.t 3))⟩,⟨some 152,(some (150,true)),.l (.ld1 (.t 151))⟩,⟨some 153,(some (150,true)),.q (.lnL (.t 152))⟩,⟨some 154,(some (150,true)),.q (.bin .eql true (.t 153) (.i 0))⟩,.a 155 (.pick (.t 150) (.t 154) (.k (.bool false))),.v 4 155])) .ret
@[go_sem ↓] theorem aRH:aM BE:=aN _
def DX:PC:=.seq (.gh (.reg [.q 137 (.fa 0 (.t 2)),.l 138 (.ldn 3 (.t 137)),.q 139 (.fa 2 (.t 3)),.l 140 (.ld1 (.t 139)),.a 141 (.cl 113 [(.t 138),(.t 140)] []),.v 136 141,.q 142 (.ex (.t 136) 0),.q 143 (.ex (.t 136) 1),.e 8 (.al (.agg #[(.string (mk [])),(.slice none 0 0),(.slice none 0 0)]) 118),.s (.st 3 (.t 8) (.t 142)),.v 9 143])) (BE)
@[go_sem ↓] theorem aRB:aM DX:=aN _
def CF:PC:=.seq (.gh (.reg [.q 135 (.bin .eql true (.t 20) (.i 7)),.v 134 135])) (.cond (.t 134) (DX) .skip)
@[go_sem ↓] theorem aP8:aM CF:=aN _
def BO:PC:=.seq (.gh (.reg [.q 113 (.bin .eql true (.t 20) (.i 6)),.v 112 113])) (.cond (.t 112) (DD) (CF))
@[go_sem ↓] theorem aQZ:aM BO:=aN _
def C1:PC:=.seq (.gh (.reg [.q 84 (.bin .eql true (.t 20) (.i 5)),.v 83 84])) (.cond (.t 83) (lD) (BO))
@[go_sem ↓] theorem aPY:aM C1:=aN _
def IB:PC:=.seq (.gh (.reg [.q 71 (.bin .eql true (.t 20) (.i 4)),.v 70 71])) (.cond (.t 70) (.seq (.reg [.v 72 5,.v 73 72,⟨some 74,(some (73,true)),.q (.fa 1 (.t 3))⟩,⟨some 75,(some (73,true)),.l (.ld1 (.t 74))⟩,⟨some 76,(some (73,true)),.q (.bin .geq true (.t 75) (.i 1))⟩,.a 77 (.pick (.t 73) (.t 76) (.k (.bool false))),.v 78 77,⟨some 79,(some (78,true)),.q (.fa 1 (.t 3))⟩,⟨some 80,(some (78,true)),.l (.ld1 (.t 79))⟩,⟨some 81,(some (78,true)),.q (.bin .leq true (.t 80) (.i 2000))⟩,.a 82 (.pick (.t 78) (.t 81) (.k (.bool false))),.v 4 82]) .ret) (C1))
@[go_sem ↓] theorem aSH:aM IB:=aN _
def GJ:PC:=.seq (.gh (.reg [.q 53 (.bin .eql true (.t 20) (.i 3)),.v 52 53])) (.cond (.t 52) (pV) (IB))
@[go_sem ↓] theorem aS9:aM GJ:=aN _
def I1:PC:=.seq (.gh (.reg [.q 30 (.bin .eql true (.t 20) (.i 2)),.v 29 30])) (.cond (.t 29) (nK) (GJ))
@[go_sem ↓] theorem aT5:aM I1:=aN _
def aHB:PC:=.seq (.reg [.e 2 (.bx 93 (.t 0)),.e 3 (.bx 42 (.t 1)),.q 4 (.mv (.k (.bool false)))]) (.seq (.reg [.q 10 (.fa 2 (.t 3)),.l 11 (.ld1 (.t 10)),.q 12 (.bin .eql true (.t 11) (.k (.string (mk [])))),.v 13 12,⟨some 14,(some (13,true)),.q (.fa 3 (.t 3))⟩,⟨some 15,(some (13,true)),.l (.ld1 (.t 14))⟩,⟨some 16,(some (13,true)),.q (.lnL (.t 15))⟩,⟨some 17,(some (13,true)),.q (.bin .eql true (.t 16) (.i 0))⟩,.a 18 (.pick (.t 13) (.t 17) (.k (.bool false))),.v 5 18]) (.seq (.seq (.reg [.q 19 (.fa 0 (.t 3)),.l 20 (.ld1 (.t 19))]) (.block 0 (.seq (.reg [.q 22 (.bin .eql true (.t 20) (.i 1)),.v 21 22]) (.cond (.t 21) (.seq (.reg [.v 23 5,.v 24 23,⟨some 25,(some (24,true)),.q (.fa 1 (.t 3))⟩,⟨some 26,(some (24,true)),.l (.ld1 (.t 25))⟩,⟨some 27,(some (24,true)),.q (.bin .eql true (.t 26) (.i 0))⟩,.a 28 (.pick (.t 24) (.t 27) (.k (.bool false))),.v 4 28]) .ret) (I1))))) (.seq (.reg [.q 4 (.mv (.k (.bool false)))]) .ret)))
def aGY:List RV:=[.mv (.t 4)]
theorem aUT:aO Tryz.prog true ⟨fun r k=>if r=12/\k=25 then .q else .own [],fun r=>[5,6,7,8,9,11,12,13,14,15,16,17,18].contains r⟩ Tryz.f75=some (aHB,aGY):=by kernel_rfl
def JS:PC:=.gh (.reg [.q 29 (.fa 1 (.t 5)),.l 30 (.ld1 (.t 29)),.q 31 (.bin .eql true (.t 30) (.i 0)),.v 32 31,⟨some 33,(some (32,false)),.q (.fa 1 (.t 5))⟩,⟨some 34,(some (32,false)),.l (.ld1 (.t 33))⟩,⟨some 35,(some (32,false)),.q (.bin .eql true (.t 34) (.i 1))⟩,.a 36 (.pick (.t 32) (.k (.bool true)) (.t 35)),.v 7 36])
@[go_sem ↓] theorem aUR:aM JS:=aN _
def AE:PC:=.gh (.reg [.q 39 (.fa 1 (.t 4)),.l 40 (.ld1 (.t 39)),.q 41 (.bin .eql true (.t 40) (.i 64)),.v 42 41,⟨some 43,(some (42,false)),.q (.fa 1 (.t 5))⟩,⟨some 44,(some (42,false)),.l (.ld1 (.t 43))⟩,⟨some 45,(some (42,false)),.q (.fa 1 (.t 4))⟩,⟨some 46,(some (42,false)),.l (.ld1 (.t 45))⟩,⟨some 47,(some (42,false)),.q (.bin .sub true (.t 46) (.i 1))⟩,⟨some 48,(some (42,false)),.q (.bin .shl true (.i (-1)) (.t 47))⟩,⟨some 49,(some (42,false)),.q (.bin .geq true (.t 44) (.t 48))⟩,⟨some 50,(some (42,false)),.q (.mv (.t 49))⟩,⟨some 51,(some (50,true)),.q (.fa 1 (.t 5))⟩,⟨some 52,(some (50,true)),.l (.ld1 (.t 51))⟩,⟨some 53,(some (50,true)),.q (.fa 1 (.t 4))⟩,⟨some 54,(some (50,true)),.l (.ld1 (.t 53))⟩,⟨some 55,(some (50,true)),.q (.bin .sub true (.t 54) (.i 1))⟩,⟨some 56,(some (50,true)),.q (.bin .shl true (.i 1) (.t 55))⟩,⟨some 57,(some (50,true)),.q (.bin .lss true (.t 52) (.t 56))⟩,⟨some 58,(some (42,false)),.pick (.t 50) (.t 57) (.k (.bool false))⟩,.a 59 (.pick (.t 42) (.k (.bool true)) (.t 58)),.v 7 59])
@[go_sem ↓] theorem aVT:aM AE:=aN _
def BJ:PC:=.gh (.reg [.q 62 (.fa 1 (.t 5)),.l 63 (.ld1 (.t 62)),.q 64 (.bin .geq true (.t 63) (.i 0)),.v 65 64,⟨some 66,(some (65,true)),.q (.fa 1 (.t 5))⟩,⟨some 67,(some (65,true)),.l (.ld1 (.t 66))⟩,⟨some 68,(some (65,true)),.q (.fa 1 (.t 4))⟩,⟨some 69,(some (65,true)),.l (.ld1 (.t 68))⟩,⟨some 70,(some (65,true)),.q (.bin .shl true (.i 1) (.t 69))⟩,⟨some 71,(some (65,true)),.q (.bin .lss true (.t 67) (.t 70))⟩,.a 72 (.pick (.t 65) (.t 71) (.k (.bool false))),.v 7 72])
@[go_sem ↓] theorem aRQ:aM BJ:=aN _
def DP:PC:=.gh (.reg [.q 83 (.fa 2 (.t 8)),.l 84 (.ld1 (.t 83)),.q 85 (.mf 115 [(.t 5)]),.a 86 (.cl 114 [(.t 84),(.t 85)] [2]),.v 7 86])
@[go_sem ↓] theorem aQN:aM DP:=aN _
def DJ:PC:=.seq (.gh (.reg [.q 76 (.fa 0 (.t 3)),.l 77 (.ldn 3 (.t 76)),.q 78 (.fa 2 (.t 4)),.l 79 (.ld1 (.t 78)),.a 80 (.cl 113 [(.t 77),(.t 79)] []),.v 75 80,.q 81 (.ex (.t 75) 0),.q 82 (.ex (.t 75) 1),.e 8 (.al (.agg #[(.string (mk [])),(.slice none 0 0),(.slice none 0 0)]) 118),.s (.st 3 (.t 8) (.t 81)),.v 9 82])) (DP)
@[go_sem ↓] theorem aP0:aM DJ:=aN _
def C4:PC:=.seq (.gh (.reg [.q 74 (.bin .eql true (.t 26) (.i 7)),.v 73 74])) (.cond (.t 73) (DJ) .skip)
@[go_sem ↓] theorem aRM:aM C4:=aN _
def I2:PC:=.seq (.gh (.reg [.q 61 (.bin .eql true (.t 26) (.i 3)),.v 60 61])) (.cond (.t 60) (BJ) (C4))
@[go_sem ↓] theorem aTQ:aM I2:=aN _
def G2:PC:=.seq (.gh (.reg [.q 38 (.bin .eql true (.t 26) (.i 2)),.v 37 38])) (.cond (.t 37) (AE) (I2))
@[go_sem ↓] theorem aSR:aM G2:=aN _
def kC:PC:=.seq (.seq (.gh (.reg [.v 87 7,.q 88 (.not (.t 87))])) (.cond (.t 88) (.seq (.reg [.q 6 (.mv (.i 4))]) .ret) .skip)) (.seq (.reg [.q 6 (.mv (.i 0))]) .ret)
@[go_sem ↓] theorem aQJ:aM kC:=aN _
def IS:PC:=.seq (.reg [.e 3 (.bx 93 (.t 0)),.e 4 (.bx 42 (.t 1)),.e 5 (.bx 29 (.t 2)),.q 6 (.mv (.i 0))]) (.seq (.seq (.reg [.q 10 (.fa 2 (.t 5)),.l 11 (.ld1 (.t 10)),.q 12 (.bin .neq true (.t 11) (.k (.string (mk [])))),.v 13 12,⟨some 14,(some (13,false)),.q (.fa 3 (.t 5))⟩,⟨some 15,(some (13,false)),.l (.ld1 (.t 14))⟩,⟨some 16,(some (13,false)),.q (.lnL (.t 15))⟩,⟨some 17,(some (13,false)),.q (.bin .gtr true (.t 16) (.i 0))⟩,.a 18 (.pick (.t 13) (.k (.bool true)) (.t 17)),.v 19 18,⟨some 20,(some (19,false)),.q (.fa 4 (.t 5))⟩,⟨some 21,(some (19,false)),.l (.ld1 (.t 20))⟩,⟨some 22,(some (19,false)),.q (.lnL (.t 21))⟩,⟨some 23,(some (19,false)),.q (.bin .gtr true (.t 22) (.i 0))⟩,.a 24 (.pick (.t 19) (.k (.bool true)) (.t 23))]) (.cond (.t 24) (.seq (.reg [.q 6 (.mv (.i 13))]) .ret) .skip)) (.seq (.reg [.q 7 (.mv (.k (.bool false)))]) (.seq (.seq (.reg [.q 25 (.fa 0 (.t 4)),.l 26 (.ld1 (.t 25))]) (.block 0 (.seq (.reg [.q 28 (.bin .eql true (.t 26) (.i 1)),.v 27 28]) (.cond (.t 27) (JS) (G2))))) (kC))))
def IR:List RV:=[.mv (.t 6)]
theorem aUN:aO Tryz.prog true ⟨fun r k=>if r=13/\k=3 then .own [2] else .own [],fun r=>[7,9,11,12,14,6,8,10,13].contains r⟩ Tryz.f76=some (IS,IR):=by kernel_rfl
def aGV:PC:=.seq (.reg [.e 3 (.bx 93 (.t 0)),.e 4 (.bx 42 (.t 1)),.e 5 (.bx 29 (.t 2)),.q 6 (.mv (.i 0))]) (.seq (.block 0 (.seq (.reg [.q 8 (.fa 1 (.t 5)),.l 9 (.ld1 (.t 8)),.q 10 (.bin .neq true (.t 9) (.i 0)),.v 11 10,⟨some 12,(some (11,false)),.q (.fa 3 (.t 5))⟩,⟨some 13,(some (11,false)),.l (.ld1 (.t 12))⟩,⟨some 14,(some (11,false)),.q (.lnL (.t 13))⟩,⟨some 15,(some (11,false)),.q (.bin .gtr true (.t 14) (.i 0))⟩,.a 16 (.pick (.t 11) (.k (.bool true)) (.t 15)),.v 17 16,⟨some 18,(some (17,false)),.q (.fa 4 (.t 5))⟩,⟨some 19,(some (17,false)),.l (.ld1 (.t 18))⟩,⟨some 20,(some (17,false)),.q (.lnL (.t 19))⟩,⟨some 21,(some (17,false)),.q (.bin .gtr true (.t 20) (.i 0))⟩,.a 22 (.pick (.t 17) (.k (.bool true)) (.t 21)),.v 7 22]) (.cond (.t 7) (.seq (.reg [.q 6 (.mv (.i 13))]) .ret) (.seq (.reg [.q 24 (.fa 2 (.t 5)),.l 25 (.ld1 (.t 24)),.q 26 (.lnS (.t 25)),.q 27 (.fa 1 (.t 4)),.l 28 (.ld1 (.t 27)),.q 29 (.bin .gtr true (.t 26) (.t 28)),.v 23 29]) (.cond (.t 23) (.seq (.reg [.q 6 (.mv (.i 3))]) .ret) .skip))))) (.seq (.reg [.q 6 (.mv (.i 0))]) .ret))
def aFR:List RV:=[.mv (.t 6)]
theorem aSO:aO Tryz.prog true ⟨fun _ _=>.own [],fun _=>false⟩ Tryz.f77=some (aGV,aFR):=by kernel_rfl
def OS:PC:=.seq (.reg [.e 3 (.bx 93 (.t 0)),.e 4 (.bx 42 (.t 1)),.e 5 (.bx 29 (.t 2)),.q 6 (.mv (.i 0))]) (.seq (.block 0 (.seq (.reg [.q 11 (.fa 1 (.t 5)),.l 12 (.ld1 (.t 11)),.q 13 (.bin .neq true (.t 12) (.i 0)),.v 14 13,⟨some 15,(some (14,false)),.q (.fa 2 (.t 5))⟩,⟨some 16,(some (14,false)),.l (.ld1 (.t 15))⟩,⟨some 17,(some (14,false)),.q (.bin .neq true (.t 16) (.k (.string (mk []))))⟩,.a 18 (.pick (.t 14) (.k (.bool true)) (.t 17)),.v 19 18,⟨some 20,(some (19,false)),.q (.fa 4 (.t 5))⟩,⟨some 21,(some (19,false)),.l (.ld1 (.t 20))⟩,⟨some 22,(some (19,false)),.q (.lnL (.t 21))⟩,⟨some 23,(some (19,false)),.q (.bin .gtr true (.t 22) (.i 0))⟩,.a 24 (.pick (.t 19) (.k (.bool true)) (.t 23)),.v 10 24]) (.cond (.t 10) (.seq (.reg [.q 6 (.mv (.i 13))]) .ret) (.seq (.reg [.q 26 (.fa 3 (.t 5)),.l 27 (.ld1 (.t 26)),.q 28 (.lnL (.t 27)),.q 29 (.fa 1 (.t 4)),.l 30 (.ld1 (.t 29)),.q 31 (.bin .gtr true (.t 28) (.t 30)),.v 25 31]) (.cond (.t 25) (.seq (.reg [.q 6 (.mv (.i 3))]) .ret) .skip))))) (.seq (.seq (.reg [.q 32 (.fa 3 (.t 5)),.l 33 (.ld1 (.t 32)),.q 34 (.lnL (.t 33)),.q 35 (.mv (.i 0))]) (.block 1 (.loop (.seq (.reg [.q 36 (.bin .lss true (.t 35) (.t 34))]) (.seq (.cond (.t 36) .skip (.exit 1)) (.seq (.block 2 (.seq (.reg [.l 37 (.ia 5 (.t 33) (.t 35)),.l 38 (.ldn 5 (.t 37)),.e 8 (.al (.agg cS) 29),.s (.st 5 (.t 8) (.t 38))]) (.seq (.reg [.l 39 (.ldn 3 (.t 3)),.q 40 (.fa 3 (.t 4)),.l 41 (.ld1 (.t 40)),.l 42 (.ia 4 (.t 41) (.i 0)),.l 43 (.ldn 4 (.t 42)),.l 44 (.ldn 5 (.t 8)),.a 45 (.cq 42 [(.t 39),(.t 43),(.t 44)]),.v 9 45]) (.seq (.reg [.v 46 9,.q 47 (.bin .neq true (.t 46) (.i 0))]) (.cond (.t 47) (.seq (.reg [.v 48 9,.v 6 48]) .ret) .skip))))) (.reg [.q 49 (.bin .add true (.t 35) (.i 1)),.v 35 49]))))))) (.seq (.reg [.q 6 (.mv (.i 0))]) .ret)))
def NK:List RV:=[.mv (.t 6)]
theorem aTB:aO Tryz.prog true ⟨fun r k=>if r=8/\k=6 then .q else .own [],fun _=>false⟩ Tryz.f78=some (OS,NK):=by kernel_rfl
def A8:PC:=.seq (.gh (.reg [.v 63 13,.q 64 (.bin .neq true (.t 63) (.i 0))])) (.cond (.t 64) (.seq (.reg [.v 65 13,.v 6 65]) .ret) .skip)
@[go_sem ↓] theorem aTT:aM A8:=aN _
def GZ:PC:=.seq (.gh (.reg [.l 57 (.ldn 3 (.t 3)),.q 58 (.fa 2 (.t 11)),.l 59 (.ldn 4 (.t 58)),.q 60 (.fa 1 (.t 10)),.l 61 (.ldn 5 (.t 60)),.a 62 (.cq 42 [(.t 57),(.t 59),(.t 61)]),.v 13 62])) (A8)
@[go_sem ↓] theorem aUZ:aM GZ:=aN _
def JB:PC:=.seq (.gh (.reg [.l 51 (.ldn 2 (.t 7)),.q 52 (.fa 0 (.t 10)),.l 53 (.ld1 (.t 52)),.a 54 (.cl 54 [(.t 51),(.t 53)] []),.v 50 54,.q 55 (.ex (.t 50) 0),.q 56 (.ex (.t 50) 1),.e 11 (.al (.agg #[(.int .i64 0),(.string (mk [])),(.int .i64 0),(.int .i64 0),(.string (mk [])),(.slice none 0 0),(.bool false)]) 52),.s (.st 7 (.t 11) (.t 55)),.v 12 56])) (GZ)
@[go_sem ↓] theorem aSF:aM JB:=aN _
def A5:PC:=.seq (.seq (.gh (.reg [.q 22 (.fa 1 (.t 5)),.l 23 (.ld1 (.t 22)),.q 24 (.bin .neq true (.t 23) (.i 0)),.v 25 24,⟨some 26,(some (25,false)),.q (.fa 2 (.t 5))⟩,⟨some 27,(some (25,false)),.l (.ld1 (.t 26))⟩,⟨some 28,(some (25,false)),.q (.bin .neq true (.t 27) (.k (.string (mk []))))⟩,.a 29 (.pick (.t 25) (.k (.bool true)) (.t 28)),.v 30 29,⟨some 31,(some (30,false)),.q (.fa 3 (.t 5))⟩,⟨some 32,(some (30,false)),.l (.ld1 (.t 31))⟩,⟨some 33,(some (30,false)),.q (.lnL (.t 32))⟩,⟨some 34,(some (30,false)),.q (.bin .gtr true (.t 33) (.i 0))⟩,.a 35 (.pick (.t 30) (.k (.bool true)) (.t 34)),.v 36 35,⟨some 37,(some (36,false)),.l (.ldn 2 (.t 7))⟩,⟨some 38,(some (36,false)),.q (.fa 4 (.t 5))⟩,⟨some 39,(some (36,false)),.l (.ld1 (.t 38))⟩,⟨some 40,(some (36,false)),.cq 116 [(.t 37),(.t 39)]⟩,⟨some 41,(some (36,false)),.q (.not (.t 40))⟩,.a 42 (.pick (.t 36) (.k (.bool true)) (.t 41))])) (.cond (.t 42) (.seq (.reg [.q 6 (.mv (.i 13))]) .ret) .skip)) (.seq (.seq (.reg [.q 43 (.fa 4 (.t 5)),.l 44 (.ld1 (.t 43)),.q 45 (.lnL (.t 44)),.q 46 (.mv (.i 0))]) (.block 0 (.loop (.seq (.reg [.q 47 (.bin .lss true (.t 46) (.t 45))]) (.seq (.cond (.t 47) .skip (.exit 0)) (.seq (.block 1 (.seq (.reg [.l 48 (.ia 6 (.t 44) (.t 46)),.l 49 (.ldn 6 (.t 48)),.e 10 (.al (.agg #[(.int .i64 0),(.int .i64 0),(.int .i64 0),(.string (mk [])),(.slice none 0 0),(.slice none 0 0)]) 76),.s (.st 6 (.t 10) (.t 49))]) (JB))) (.reg [.q 66 (.bin .add true (.t 46) (.i 1)),.v 46 66]))))))) (.seq (.reg [.q 6 (.mv (.i 0))]) .ret))
@[go_sem ↓] theorem aTD:aM A5:=aN _
def aGJ:PC:=.seq (.reg [.e 3 (.bx 93 (.t 0)),.e 4 (.bx 42 (.t 1)),.e 5 (.bx 29 (.t 2)),.q 6 (.mv (.i 0))]) (.seq (.reg [.q 15 (.fa 0 (.t 3)),.l 16 (.ldn 3 (.t 15)),.q 17 (.fa 2 (.t 4)),.l 18 (.ld1 (.t 17)),.a 19 (.cl 40 [(.t 16),(.t 18)] []),.v 14 19,.q 20 (.ex (.t 14) 0),.q 21 (.ex (.t 14) 1),.e 7 (.al (.agg #[(.string (mk [])),(.slice none 0 0)]) 48),.s (.st 2 (.t 7) (.t 20)),.v 8 21]) (A5))
def aH2:List RV:=[.mv (.t 6)]
theorem aUE:aO Tryz.prog true ⟨fun r k=>if r=2/\k=18 then .q else if r=8/\k=5 then .q else .own [],fun r=>[2,7,8,9].contains r⟩ Tryz.f79=some (aGJ,aH2):=by kernel_rfl
def HC:PC:=.seq (.reg [.e 3 (.bx 93 (.t 0)),.e 4 (.bx 42 (.t 1)),.e 6 (.al (.agg cS) 29)]) (.seq (.seq (.reg [.v 12 2,.q 13 (.bin .lss true (.t 12) (.i 0)),.v 14 13,⟨some 15,(some (14,false)),.l (.ldn 3 (.t 3))⟩,⟨some 16,(some (14,false)),.l (.ldn 4 (.t 4))⟩,⟨some 17,(some (14,false)),.cq 75 [(.t 15),(.t 16)]⟩,⟨some 18,(some (14,false)),.q (.not (.t 17))⟩,.a 19 (.pick (.t 14) (.k (.bool true)) (.t 18))]) (.cond (.t 19) (.seq (.reg [.q 20 (.bd [(.int .i64 0),(.int .i64 0),(.string (mk [])),(.slice none 0 0),(.slice none 0 0)] []),.s (.st 5 (.t 6) (.t 20))]) .ret) .skip)) (.seq (.reg [.q 21 (.fa 0 (.t 4)),.l 22 (.ld1 (.t 21)),.q 23 (.bd [(.int .i64 0),(.int .i64 0),(.string (mk [])),(.slice none 0 0),(.slice none 0 0)] [(0,1,(.t 22))]),.e 7 (.al (.agg cS) 29),.s (.st 5 (.t 7) (.t 23))]) (.seq (.seq (.reg [.q 24 (.fa 0 (.t 4)),.l 25 (.ld1 (.t 24)),.q 26 (.bin .neq true (.t 25) (.i 6))]) (.cond (.t 26) (.seq (.reg [.l 27 (.ldn 5 (.t 7)),.s (.st 5 (.t 6) (.t 27))]) .ret) .skip)) (.seq (.reg [.q 29 (.fa 0 (.t 3)),.l 30 (.ldn 3 (.t 29)),.q 31 (.fa 2 (.t 4)),.l 32 (.ld1 (.t 31)),.a 33 (.cl 40 [(.t 30),(.t 32)] []),.v 28 33,.q 34 (.ex (.t 28) 0),.q 35 (.ex (.t 28) 1),.e 8 (.al (.agg #[(.string (mk [])),(.slice none 0 0)]) 48),.s (.st 2 (.t 8) (.t 34)),.v 9 35]) (.seq (.seq (.reg [.q 36 (.fa 1 (.t 8)),.l 37 (.ld1 (.t 36)),.q 38 (.lnL (.t 37)),.q 39 (.mv (.i 0))]) (.block 0 (.loop (.seq (.reg [.q 40 (.bin .lss true (.t 39) (.t 38))]) (.seq (.cond (.t 40) .skip (.exit 0)) (.seq (.block 1 (.seq (.reg [.l 41 (.ia 7 (.t 37) (.t 39)),.l 42 (.ldn 7 (.t 41)),.e 11 (.al (.agg #[(.int .i64 0),(.string (mk [])),(.int .i64 0),(.int .i64 0),(.string (mk [])),(.slice none 0 0),(.bool false)]) 52),.s (.st 7 (.t 11) (.t 42))]) (.seq (.reg [.q 43 (.fa 6 (.t 11)),.l 44 (.ld1 (.t 43)),.q 45 (.not (.t 44))]) (.cond (.t 45) (.ord  [.q (.q 46 (.fa 4 (.t 7))),.q (.l 47 (.ld1 (.t 46))),.q (.q 48 (.fa 0 (.t 11))),.q (.l 49 (.ld1 (.t 48))),.q (.l 50 (.ldn 3 (.t 3))),.q (.q 51 (.fa 2 (.t 11))),.q (.l 52 (.ldn 4 (.t 51))),.q (.v 53 2),.q (.q 54 (.bin .sub true (.t 53) (.i 1))),.m (.a 55 (.cl 83 [(.t 50),(.t 52),(.t 54)] [])),.rc (.q 46 (.fa 4 (.t 7))),.rc (.l 47 (.ld1 (.t 46))),.rc (.q 48 (.fa 0 (.t 11))),.rc (.l 49 (.ld1 (.t 48))),.q (.q 56 (.bd [(.int .i64 0),(.int .i64 0),(.int .i64 0),(.string (mk [])),(.slice none 0 0),(.slice none 0 0)] [(0,1,(.t 49)),(1,5,(.t 55))])),.m (.e 57 (.bsl 76 6 [(.t 56)])),.rc (.q 46 (.fa 4 (.t 7))),.rc (.l 47 (.ld1 (.t 46))),.m (.e 58 (.ap 76 6 88 (.t 47) (.t 57))),.q (.q 59 (.fa 4 (.t 7))),.m (.s (.st 1 (.t 59) (.t 58)))]) .skip)))) (.reg [.q 60 (.bin .add true (.t 39) (.i 1)),.v 39 60]))))))) (.seq (.reg [.l 61 (.ldn 5 (.t 7)),.s (.st 5 (.t 6) (.t 61))]) .ret))))))
def J3:List RV:=[.ld (.ldn 5 (.t 6))]
theorem aV2:aO Tryz.prog true ⟨fun r k=>if r=1/\k=5 then .q else .own [],fun _=>false⟩ Tryz.f83=some (HC,J3):=by kernel_rfl
def X4:PC:=.seq (.reg [.q 3 (.mv (.k (.bool false)))]) (.seq (.reg [.v 4 0,.q 5 (.fa 1 (.t 1)),.l 6 (.ld1 (.t 5)),.q 7 (.bin .eql true (.t 4) (.t 6)),.v 3 7]) .ret)
def ZY:List RV:=[.mv (.t 3)]
theorem aME:aO Tryz.prog true ⟨fun _ _=>.own [],fun _=>false⟩ Tryz.f115=some (X4,ZY):=by kernel_rfl
def nC:PC:=.seq (.gh (.reg [.v 25 8,.q 26 (.not (.t 25)),.v 27 26,⟨some 28,(some (27,false)),.q (.mv (.t 5))⟩,⟨some 29,(some (27,false)),.q (.bin .gtr true (.t 28) (.i 0))⟩,⟨some 30,(some (27,false)),.q (.mv (.t 29))⟩,⟨some 31,(some (30,true)),.q (.mv (.t 1))⟩,⟨some 32,(some (30,true)),.q (.mv (.t 5))⟩,⟨some 33,(some (30,true)),.q (.bin .sub true (.t 32) (.i 1))⟩,⟨some 34,(some (30,true)),.l (.ia 6 (.t 31) (.t 33))⟩,⟨some 35,(some (30,true)),.q (.fa 0 (.t 34))⟩,⟨some 36,(some (30,true)),.l (.ld1 (.t 35))⟩,⟨some 37,(some (30,true)),.q (.fa 0 (.t 6))⟩,⟨some 38,(some (30,true)),.l (.ld1 (.t 37))⟩,⟨some 39,(some (30,true)),.q (.bin .geq true (.t 36) (.t 38))⟩,⟨some 40,(some (27,false)),.pick (.t 30) (.t 39) (.k (.bool false))⟩,.a 41 (.pick (.t 27) (.k (.bool true)) (.t 40))])) (.cond (.t 41) (.seq (.reg [.q 4 (.mv (.k (.bool false)))]) .ret) .skip)
@[go_sem ↓] theorem aQW:aM nC:=aN _
def BL:PC:=.seq (.gh (.reg [.l 19 (.ldn 2 (.t 2)),.q 20 (.fa 0 (.t 6)),.l 21 (.ld1 (.t 20)),.a 22 (.cl 54 [(.t 19),(.t 21)] []),.v 18 22,.q 23 (.ex (.t 18) 0),.q 24 (.ex (.t 18) 1),.e 7 (.al (.agg #[(.int .i64 0),(.string (mk [])),(.int .i64 0),(.int .i64 0),(.string (mk [])),(.slice none 0 0),(.bool false)]) 52),.s (.st 7 (.t 7) (.t 23)),.v 8 24])) (nC)
@[go_sem ↓] theorem aQD:aM BL:=aN _
def rQ:PC:=.seq (.gh (.reg [.q 50 (.fa 6 (.t 10)),.l 51 (.ld1 (.t 50)),.q 52 (.not (.t 51)),.v 53 52,⟨some 54,(some (53,true)),.q (.mv (.t 1))⟩,⟨some 55,(some (53,true)),.q (.mf 151 [(.t 10)])⟩,⟨some 56,(some (53,true)),.cl 150 [(.t 54),(.t 55)] [1]⟩,⟨some 57,(some (53,true)),.q (.not (.t 56))⟩,.a 58 (.pick (.t 53) (.t 57) (.k (.bool false)))])) (.cond (.t 58) (.seq (.reg [.q 4 (.mv (.k (.bool false)))]) .ret) .skip)
@[go_sem ↓] theorem aLM:aM rQ:=aN _
def C5:PC:=.seq (.seq (.gh (.reg [.q 43 (.fa 1 (.t 2)),.l 44 (.ld1 (.t 43)),.q 45 (.lnL (.t 44)),.q 46 (.mv (.i 0))])) (.block 2 (.loop (.seq (.reg [.q 47 (.bin .lss true (.t 46) (.t 45))]) (.seq (.cond (.t 47) .skip (.exit 2)) (.seq (.block 3 (.seq (.reg [.l 48 (.ia 7 (.t 44) (.t 46)),.l 49 (.ldn 7 (.t 48)),.e 10 (.al (.agg #[(.int .i64 0),(.string (mk [])),(.int .i64 0),(.int .i64 0),(.string (mk [])),(.slice none 0 0),(.bool false)]) 52),.s (.st 7 (.t 10) (.t 49))]) (rQ))) (.reg [.q 59 (.bin .add true (.t 46) (.i 1)),.v 46 59]))))))) (.seq (.reg [.q 4 (.mv (.k (.bool true)))]) .ret)
@[go_sem ↓] theorem aP4:aM C5:=aN _
def XA:PC:=.seq (.reg [.e 2 (.bx 48 (.t 0)),.q 4 (.mv (.k (.bool false)))]) (.seq (.seq (.reg [.v 11 1,.q 12 (.lnL (.t 11)),.q 13 (.mv (.i 0))]) (.block 0 (.loop (.seq (.reg [.q 14 (.bin .lss true (.t 13) (.t 12))]) (.seq (.cond (.t 14) .skip (.exit 0)) (.seq (.block 1 (.seq (.reg [.v 15 13,.l 16 (.ia 6 (.t 11) (.t 13)),.l 17 (.ldn 6 (.t 16)),.e 6 (.al (.agg #[(.int .i64 0),(.int .i64 0),(.int .i64 0),(.string (mk [])),(.slice none 0 0),(.slice none 0 0)]) 76),.v 5 15,.s (.st 6 (.t 6) (.t 17))]) (BL))) (.reg [.q 42 (.bin .add true (.t 13) (.i 1)),.v 13 42]))))))) (C5))
def YN:List RV:=[.mv (.t 4)]
theorem aLY:aO Tryz.prog true ⟨fun r k=>if r=11/\k=6 then .own [1] else .own [],fun r=>[4,5,8,11].contains r⟩ Tryz.f116=some (XA,YN):=by kernel_rfl
def Y6:PC:=.seq (.reg [.e 2 (.bx 76 (.t 0)),.q 3 (.mv (.k (.bool false)))]) (.seq (.reg [.q 4 (.fa 0 (.t 2)),.l 5 (.ld1 (.t 4)),.q 6 (.fa 0 (.t 1)),.l 7 (.ld1 (.t 6)),.q 8 (.bin .eql true (.t 5) (.t 7)),.v 3 8]) .ret)
def X5:List RV:=[.mv (.t 3)]
theorem aLG:aO Tryz.prog true ⟨fun _ _=>.own [],fun _=>false⟩ Tryz.f151=some (Y6,X5):=by kernel_rfl
def mM (v:Vl):Bool:=(v.k != 5)&&(v.k != 6)&&((v.l.length:Int)==0)&&((v.f.length:Int)==0)
def mI (g:Vl->Int) (most:Int) (d:Int) (x:Vl):Int:=bif decide (d<=most) then max d (g x) else d
def pO (g:Vl->Int) (most:Int) (d:Int) (x:Int×Vl):Int:=bif decide (d<=most) then max d (g x.2) else d
def JN (g:Vl->Int) (most:Int) (v:Vl):Int:=bif mM v then 0 else 1+v.f.foldl (pO g most) (v.l.foldl (mI g most) 0)
def s5:Nat->Vl->Int
 |0=>JN (fun _=>0) (-1)
 |n+1=>JN (s5 n) n
def iP:Nat->Vl->Int
 |0=>fun _=>0
 |n+1=>s5 n
theorem AL (n:Nat):s5 n=JN (iP n) ((n:Int)-1):=by
 cases n with
 |zero=>rfl
 |succ n=>rw[s5,iP];congr 1;omega
theorem IF {g:Vl->Int} {most B:Int} (hg:∀x,0<=g x/\g x<=B) {d:Int} (h:0<=d/\d<=B) (x:Vl):0<=mI g most d x/\mI g most d x<=B:=by
 unfold mI
 cases decide (d<=most)
 · exact h
 · have:=hg x;show 0<=max d (g x)/\max d (g x)<=B;omega
theorem Q6 {g:Vl->Int} {most B:Int} (hg:∀x,0<=g x/\g x<=B) {d:Int} (h:0<=d/\d<=B) (x:Int×Vl):0<=pO g most d x/\pO g most d x<=B:=IF hg h x.2
theorem pW {α:Type} {f:Int->α->Int} {B:Int} (h:∀d x,0<=d/\d<=B->0<=f d x/\f d x<=B):∀(l:List α) (d:Int),0<=d/\d<=B->0<=l.foldl f d/\l.foldl f d<=B
 |[],_,hd=>hd
 |x::l,d,hd=>pW h l (f d x) (h d x hd)
theorem p5:∀(n:Nat) (x:Vl),0<=iP n x/\iP n x<=n
 |0,_=>⟨Int.le_refl _,Int.le_refl _⟩
 |n+1,x=>by
  rw[iP,AL]
  unfold JN
  have h1:=pW (f:=mI (iP n) ((n:Int)-1)) (fun d x h=>IF (p5 n) h x) x.l 0 ⟨Int.le_refl _,by omega⟩
  have h2:=pW (f:=pO (iP n) ((n:Int)-1)) (fun d x h=>Q6 (p5 n) h x) x.f _ h1
  cases mM x
  · show 0<=1+_/\1+_<=_;omega
  · show (0:Int)<=0/\(0:Int)<=_;omega
theorem EV {α β:Type} {f:β->α->β} {l:List α} {i:Nat} {x:α} (h:l[i]? = some x) (d:β):(l.take (i+1)).foldl f d=f ((l.take i).foldl f d) x:=by rw[dB h,List.foldl_append];rfl
def AK (n:Nat):List S->Prop:=fun av=>match av with
 |[.va (.gs r),.va (.c1 (.vl (.int .i64 k)))]=>0<n/\o9 r/\k=(n:Int)-2/\n<=100
 |_=>False
theorem lY {n:Nat} {av:List S} (h:AK n av):∃m v,n=m+1/\av=[.va (.gs (aP v)),iS .i64 ((m:Int)-1)]/\VlOk v/\m<=99:=by
 unfold AK at h
 split at h
 · obtain ⟨h0,⟨v,rfl,hv⟩,rfl,hn⟩:=h
   refine ⟨n-1,v,by omega,?_,hv,by omega⟩
   rw[show (n:Int)-2=((n-1:Nat):Int)-1 by omega]
 · exact h.elim
noncomputable def P0 (n:Nat):List S->A:=fun av=>match av with
 |[.va (.gs r),.va (.c1 (.vl (.int .i64 _)))]=>iA .i64 (iP n (C.vv r))
 |_=>.gs []
noncomputable def F6 (n:Nat):Fun:=⟨AK n,P0 n,fun av h=>by obtain ⟨m,v,_,rfl,_⟩:=lY h;trivial⟩
theorem QY {n:Nat}:∀av H K,(F6 n).sp av H K->av.length=2:=fun av H K h=>by obtain ⟨m,v,_,rfl,_⟩:=lY h.1.1;rfl
attribute [go_sem] F6 AK P0
theorem MW:∀n,Meets Tryz.prog 41 (F6 n).sp
 |0=>⟨by kernel_rfl,by rintro xs vs E ro w K _ _ _ ⟨⟨h,_⟩,_⟩;obtain ⟨m,_,h,_⟩:=lY h;omega⟩
 |n+1=>by
  refine aF Tryz.func41 aSU 2 (by rw[Tryz.ntmps41];decide) (aG (MW n) (aB _)) QY ?_
  rintro av H K ⟨⟨h,rfl⟩,hK⟩
  obtain ⟨m,v,hm,rfl,hv,hm99⟩:=lY h
  obtain rfl:m=n:=by omega
  have hK:K (iS .i64 (s5 m v)) []:=by
   have:(F6 (m+1)).val [.va (.gs (aP v)),iS .i64 ((m:Int)-1)]=iA .i64 (s5 m v):=by simp -dsimp only[go_sem,iP]
   rw[this] at hK;exact hK
  clear h hm
  rw[AL] at hK
  unfold JN at hK
  have hll:=hv.ll
  have hlf:=hv.lf
  have bd1:=fun i=>pW (f:=mI (iP m) ((m:Int)-1)) (fun d x h=>IF (p5 m) h x) (v.l.take i) 0 ⟨Int.le_refl _,by omega⟩
  have fin:∀(z:Int) (R:Hp),(bif mM v then 0 else 1+v.f.foldl (pO (iP m) ((m:Int)-1)) (v.l.foldl (mI (iP m) ((m:Int)-1)) 0))=z->W.Fin 0 K (iS .i64 z) R:=fun z R h=>by
   rw[h] at hK;exact .z ((by simpa[go_sem] using hK))
  clear hK
  cases hsc:mM v with
  |true=>
   have hs':=hsc
   unfold mM at hs'
   simp(maxSteps:=9^6)-dsimp only[go_sem,aJ v,TF,UG,hs']
   exact fin _ _ (by rw[hsc];rfl)
  |false=>
   have hs':=hsc
   unfold mM at hs'
   rw[hsc] at fin
   simp(maxSteps:=9^6)-dsimp only[go_sem,aJ v,TF,UG,hs']
   refine aL (α:=Nat) (fun i=>[(1,iS .i64 ((m:Int)-1)),(2,.va (.c1 (.pt 0 0))),(5,iS .i64 ((v.l.take i).foldl (mI (iP m) ((m:Int)-1)) 0)),(31,.va (.c1 (.fz (v.l.map aP)))),(32,iS .i64 v.l.length),(33,iS .i64 i)]) (fun _=>[.cells (bP v) 29])
    (fun i=>i<=v.l.length) (fun i=>v.l.length-i) 0 1 (Nat.zero_le _) ?_ ?_ ?_
   · simp -dsimp only[go_sem]<;>simp
   · simp -dsimp only[go_sem,bP]<;>simp
   intro i hi
   rcases bB i v.l.length with hlt|hge
   · have hg:decide ((i:Int)<(v.l.length:Int))=true:=by simp;omega
     obtain ⟨x,hx⟩:∃t,v.l[i]? = some t:=⟨_,aU hlt⟩
     have q1:=m0 hx
     have hxm:=bY hx
     have k1:=cY (hv.l x hxm)
     have k2:=gD x
     have ft:=EV (f:=mI (iP m) ((m:Int)-1)) hx 0
     have hbd:=bd1 i
     generalize hd:(v.l.take i).foldl (mI (iP m) ((m:Int)-1)) 0=d at *
     have hgb:=p5 m x
     cases hc:decide (d<=(m:Int)-1) with
     |true=>
      have hm0:0<m:=by have:=of_decide_eq_true hc;omega
      have he:(m:Int)-1-1=(m:Int)-2:=by omega
      have hn:m<=100:=by omega
      simp(maxSteps:=9^6)-dsimp only[go_sem,hg,↓q1,bP,k1,k2,hc,he,hm0,hn]
      refine ⟨by omega,by omega,by omega,aE (i+1) 1 (by omega) (by omega) ?_ ?_⟩
      · simp -dsimp only[go_sem,ft,mI,hc]<;>simp
      · simp -dsimp only[go_sem,bP]<;>simp[bP]
     |false=>
      simp(maxSteps:=9^6)-dsimp only[go_sem,hg,↓q1,bP,hc]
      refine ⟨by omega,by omega,aE (i+1) 1 (by omega) (by omega) ?_ ?_⟩
      · simp -dsimp only[go_sem,ft,mI,hc]<;>simp
      · simp -dsimp only[go_sem,bP]<;>simp[bP]
   · have hg:decide ((i:Int)<(v.l.length:Int))=false:=by simp;omega
     obtain rfl:i=v.l.length:=by omega
     have hbd:=bd1 v.l.length
     rw[List.take_length] at hbd ⊢
     simp(maxSteps:=9^6)-dsimp only[go_sem,hg,bP]
     generalize v.l.foldl (mI (iP m) ((m:Int)-1)) 0=D at *
     have bd2:=fun i=>pW (f:=pO (iP m) ((m:Int)-1)) (fun d x h=>Q6 (p5 m) h x) (v.f.take i) D hbd
     clear hi hge hg bd1
     refine aL (α:=Nat) (fun i=>[(1,iS .i64 ((m:Int)-1)),(2,.va (.c1 (.pt 0 0))),(5,iS .i64 ((v.f.take i).foldl (pO (iP m) ((m:Int)-1)) D)),(48,.va (.c1 (.fz (v.f.map bD)))),(49,iS .i64 v.f.length),(50,iS .i64 i)]) (fun _=>[.cells (bP v) 29])
      (fun i=>i<=v.f.length) (fun i=>v.f.length-i) 0 1 (Nat.zero_le _) ?_ ?_ ?_
     · simp -dsimp only[go_sem]<;>simp
     · simp -dsimp only[go_sem,bP]<;>simp
     intro i hi
     rcases bB i v.f.length with hlt|hge
     · have hg:decide ((i:Int)<(v.f.length:Int))=true:=by simp;omega
       obtain ⟨x,hx⟩:∃t,v.f[i]? = some t:=⟨_,aU hlt⟩
       have q1:=kO hx
       have hxm:=bY hx
       have k1:=cY (hv.f x hxm)
       have k2:=gD x.2
       have ft:=EV (f:=pO (iP m) ((m:Int)-1)) hx D
       have hbd2:=bd2 i
       generalize hd:(v.f.take i).foldl (pO (iP m) ((m:Int)-1)) D=d at *
       have hgb:=p5 m x.2
       cases hc:decide (d<=(m:Int)-1) with
       |true=>
        have hm0:0<m:=by have:=of_decide_eq_true hc;omega
        have he:(m:Int)-1-1=(m:Int)-2:=by omega
        have hn:m<=100:=by omega
        simp(maxSteps:=9^6)-dsimp only[go_sem,hg,↓q1,bP,k1,k2,hc,he,hm0,hn]
        refine ⟨by omega,by omega,by omega,aE (i+1) 1 (by omega) (by omega) ?_ ?_⟩
        · simp -dsimp only[go_sem,ft,pO,hc]<;>simp
        · simp -dsimp only[go_sem,bP]<;>simp[bP]
       |false=>
        simp(maxSteps:=9^6)-dsimp only[go_sem,hg,↓q1,bP,hc]
        refine ⟨by omega,by omega,aE (i+1) 1 (by omega) (by omega) ?_ ?_⟩
        · simp -dsimp only[go_sem,ft,pO,hc]<;>simp
        · simp -dsimp only[go_sem,bP]<;>simp[bP]
     · have hg:decide ((i:Int)<(v.f.length:Int))=false:=by simp;omega
       obtain rfl:i=v.f.length:=by omega
       have hbd2:=bd2 v.f.length
       rw[List.take_length] at hbd2 ⊢
       simp(maxSteps:=9^6)-dsimp only[go_sem,hg,bP]
       exact ⟨by omega,fin _ _ rfl⟩
theorem zD:∀N,Meets Tryz.prog 75 (DO N).sp
 |0=>⟨by kernel_rfl,by rintro xs vs E ro w K _ _ _ ⟨⟨h,_⟩,_⟩;obtain ⟨_,a,_,_,_,h⟩:=i7 h;have:=a.h_pos;omega⟩
 |N+1=>by
  refine aF Tryz.func75 aUT 2 (by rw[Tryz.ntmps75];decide) (aG (zD N) (aC lL (aC IZ (aB _)))) GK ?_
  rintro av H K ⟨⟨h,rfl⟩,hK⟩
  obtain ⟨sc,t,rfl,hs,ht,hh⟩:=i7 h
  have hK:K (bS (valF sc.ss sc.es t)) []:=by
   have:(DO (N+1)).val [.va (.gs (aD sc)),.va (.gs (aQ t))]=bA (valF sc.ss sc.es t):=by simp -dsimp only[go_sem]
   rw[this] at hK;exact hK
  clear h
  have fin:∀(b:Bool) (R:Hp),valF sc.ss sc.es t=b->W.Fin 0 K (bS b) R:=fun b R h=>by
   rw[h] at hK
   exact .z ((by simp -dsimp only[go_sem];simpa using hK))
  clear hK
  cases t with
  |mk k s n e=>
  have hF:=valF.eq_1 sc.ss sc.es k s n e
  simp(maxSteps:=9^6)-dsimp only[go_sem,aD,aQ,aY,aHB,aGY]
  refine ⟨fun k1=>fin _ _ (by rw[hF,k1];simp only[bE];ac_rfl),fun k1=>aA rfl (.done ?_)⟩
  rw[k1,a8] at hF
  simp(maxSteps:=9^6)-dsimp only[go_sem,I1]
  refine ⟨fun k2=>aA rfl (.done ?_),fun k2=>aA rfl (.done ?_)⟩
  · rw[k2,bE] at hF
    have hF':valF sc.ss sc.es (.mk k s n e)=((bl n==[]&&(e.length:Int)==0)&&(s==8||s==16||s==32||s==64)):=by rw[hF];ac_rfl
    clear hF
    cases hp:(bl n==[]&&(e.length:Int)==0) with
    |false=>
     simp(maxSteps:=9^6)-dsimp only[go_sem,nK]
     exact fin _ _ (by rw[hF',hp];rfl)
    |true=>
     rw[hp,Bool.true_and] at hF'
     cases h8:s==8 with
     |true=>
      simp(maxSteps:=9^6)-dsimp only[go_sem,nK,h8]
      exact fin _ _ (by rw[hF',h8];rfl)
     |false=>
     cases h16:s==16 with
     |true=>
      simp(maxSteps:=9^6)-dsimp only[go_sem,nK,h8,h16]
      exact fin _ _ (by rw[hF',h8,h16];rfl)
     |false=>
     cases h32:s==32 with
     |true=>
      simp(maxSteps:=9^6)-dsimp only[go_sem,nK,h8,h16,h32]
      exact fin _ _ (by rw[hF',h8,h16,h32];rfl)
     |false=>
      simp(maxSteps:=9^6)-dsimp only[go_sem,nK,h8,h16,h32]
      exact fin _ _ (by rw[hF',h8,h16,h32];rfl)
  rw[k2,a8] at hF
  simp(maxSteps:=9^6)-dsimp only[go_sem,GJ]
  refine ⟨fun k3=>aA rfl (.done ?_),fun k3=>aA rfl (.done ?_)⟩
  · rw[k3] at hF
    simp only[bE,Bool.and_false,Bool.or_false] at hF
    have hF':valF sc.ss sc.es (.mk k s n e)=((bl n==[]&&(e.length:Int)==0)&&(s==8||s==16||s==32)):=by rw[hF];ac_rfl
    clear hF
    cases hp:(bl n==[]&&(e.length:Int)==0) with
    |false=>
     simp(maxSteps:=9^6)-dsimp only[go_sem,pV]
     exact fin _ _ (by rw[hF',hp];rfl)
    |true=>
     rw[hp,Bool.true_and] at hF'
     cases h8:s==8 with
     |true=>
      simp(maxSteps:=9^6)-dsimp only[go_sem,pV,h8]
      exact fin _ _ (by rw[hF',h8];rfl)
     |false=>
     cases h16:s==16 with
     |true=>
      simp(maxSteps:=9^6)-dsimp only[go_sem,pV,h8,h16]
      exact fin _ _ (by rw[hF',h8,h16];rfl)
     |false=>
      simp(maxSteps:=9^6)-dsimp only[go_sem,pV,h8,h16]
      exact fin _ _ (by rw[hF',h8,h16];rfl)
  rw[k3,a8] at hF
  simp(maxSteps:=9^6)-dsimp only[go_sem,IB]
  refine ⟨fun k4=>fin _ _ (by rw[hF,k4];simp only[bE];ac_rfl),fun k4=>aA rfl (.done ?_)⟩
  rw[k4,a8] at hF
  simp(maxSteps:=9^6)-dsimp only[go_sem,C1]
  refine ⟨fun k5=>aA rfl (.done ?_),fun k5=>aA rfl (.done ?_)⟩
  · rw[k5,bE] at hF
    have no:∀{R:Hp},(bl n==[])=false\/decide (1<=s)=false\/decide (s<=32)=false\/((e.length:Int)==1)=false->W.Fin 0 K (bS false) R:=fun h=>fin _ _ (by
     rw[hF]
     rcases h with h|h|h|h
     · rw[h,Bool.and_false,Bool.false_and]
     · rw[h,Bool.false_and,Bool.false_and,Bool.false_and]
     · rw[h,Bool.and_false,Bool.false_and,Bool.false_and]
     · match e,h with
       |[],_=>simp[kL]
       |[u],h=>simp at h
       |u::v::r,_=>simp[kL])
    cases h1:bl n==[] with
    |false=>
     simp(maxSteps:=9^6)-dsimp only[go_sem,lD,h1]
     exact no (.inl h1)
    |true=>
    cases h2:decide (1<=s) with
    |false=>
     simp(maxSteps:=9^6)-dsimp only[go_sem,lD,h1,h2]
     exact no (.inr (.inl h2))
    |true=>
    cases h3:decide (s<=32) with
    |false=>
     simp(maxSteps:=9^6)-dsimp only[go_sem,lD,h1,h2,h3]
     exact no (.inr (.inr (.inl h3)))
    |true=>
    cases h4:(e.length:Int)==1 with
    |false=>
     simp(maxSteps:=9^6)-dsimp only[go_sem,lD,h1,h2,h3,h4]
     exact no (.inr (.inr (.inr h4)))
    |true=>
     have hl1:(e.length:Int)=1:=by simpa using h4
     obtain ⟨u,rfl⟩:∃u,e=[u]:=List.length_eq_one_iff.1 (by omega)
     have hF':valF sc.ss sc.es (.mk k s n [u])=valF sc.ss sc.es u:=by rw[hF,h1,h2,h3];simp[kL]
     have hu2:u.h<=N:=by rw[Ty.h,Ty.hs,Ty.hs] at hh;omega
     have hu:iO (aQ u):=fQ (ht.e u (by simp[Ty.e]))
     have hsf:=fJ hs
     rw[aD] at hsf
     have hsd:=dF sc
     rw[aD] at hsd
     have h4':(((1:Nat):Int)==1)=true:=rfl
     simp(maxSteps:=9^6)-dsimp only[go_sem,lD,h1,h2,h3,h4']
     refine ⟨⟨by omega,fun r hr=>by subst hr;exact dE u⟩,fun r hr=>?_⟩
     subst hr
     simp(maxSteps:=9^6)-dsimp only[go_sem,hsf,hsd,hu,dE]
     exact ⟨hu2,fin _ _ hF'⟩
  rw[k5,a8] at hF
  simp(maxSteps:=9^6)-dsimp only[go_sem,BO]
  refine ⟨fun k6=>aA rfl (.done ?_),fun k6=>aA rfl (.done ?_)⟩
  · rw[k6,bE] at hF
    simp(maxSteps:=9^6)-dsimp only[go_sem,DD]
    refine fU hs ?_
    simp(maxSteps:=9^6)-dsimp only[go_sem,aH]
    refine aA rfl (.done ?_)
    cases h1:cD sc.ss n<;>cases h2:s==0 <;>
    · simp(maxSteps:=9^6)-dsimp only[go_sem,DG,h2]
      exact fin _ _ (by rw[hF,h1,h2];rfl)
  rw[k6,a8] at hF
  simp(maxSteps:=9^6)-dsimp only[go_sem,CF]
  refine ⟨fun k7=>aA rfl (.done ?_),fun k7=>fin _ _ (by rw[hF,k7];rfl)⟩
  rw[k7,bE] at hF
  simp(maxSteps:=9^6)-dsimp only[go_sem,DX]
  refine m9 hs ?_
  simp(maxSteps:=9^6)-dsimp only[go_sem,aZ]
  refine aA rfl (.done ?_)
  cases h1:c8 sc.es n<;>cases h2:s==0 <;>
  · simp(maxSteps:=9^6)-dsimp only[go_sem,BE,h2]
    exact fin _ _ (by rw[hF,h1,h2];rfl)
theorem w6:Meets Tryz.prog 75 r0Fn.sp:=dW 0 zD fun av H K ⟨⟨h,e⟩,hK⟩=>by
 obtain ⟨a,b,rfl,ha,hb⟩:=kN h
 exact ⟨b.h,⟨⟨⟨fJ ha,fQ hb,by rw[g4];exact Nat.le_refl _⟩,e⟩,hK⟩⟩
def eX (s:Sc) (t:Ty) (n:Int):Bool:=
 bif t.k==1 then n==0||n==1
 else bif t.k==2 then t.s==64||(decide (-(2 ^ (t.s.toNat-1):Int)<=n)&&decide (n<(2 ^ (t.s.toNat-1):Int)))
 else bif t.k==3 then decide (0<=n)&&decide (n<(2 ^ t.s.toNat:Int))
 else bif t.k==7 then ((d8 s.es t.n).getD default).vs.any fun x=>x==n else false
def kW (s:Sc) (t:Ty) (n:Int) (str:ByteArray) (ll lf:Int):Int:=bif !(bl str==[])||decide (0<ll)||decide (0<lf) then 13 else bif eX s t n then 0 else 4
def jX (t:Ty) (n:Int) (str:ByteArray) (ll lf:Int):Int:=bif n != 0||decide (0<ll)||decide (0<lf) then 13 else bif decide (t.s<((bl str).length:Int)) then 3 else 0
def ltO:Option Int->Int->Bool
 |none,_=>true
 |some q,n=>decide (q<n)
def ftA (fs:List Fl):Option Int->List (Int×Vl)->Bool
 |_,[]=>true
 |p,x::r=>(fF fs x.1).isSome&&ltO p x.1&&ftA fs (some x.1) r
theorem qV (fs:List Fl) (p:Option Int) (x:Int×Vl) (r:List (Int×Vl)):ftA fs p (x::r)=((fF fs x.1).isSome&&ltO p x.1&&ftA fs (some x.1) r):=by rw[ftA.eq_def]
theorem LB (fs:List Fl) (p:Option Int):ftA fs p []=true:=by rw[ftA.eq_def]
def nF (l:List (Int×Vl)) (n:Int):Bool:=l.any fun y=>y.1==n
def dG (fs:List Fl) (l:List (Int×Vl)):Bool:=ftA fs none l&&fs.all fun f=>f.opt||nF l f.num
mutual
def cT (s:Sc) (t:Ty):Vl->Int
 |.mk k n str l f=>
  bif !(valF s.ss s.es t)||k != t.k then 13
  else bif t.k==4 then jX t n str l.length f.length
  else bif t.k==5 then (bif n != 0||!(bl str==[])||decide (0<(f.length:Int)) then 13 else bif decide (t.s<(l.length:Int)) then 3 else g8 s (t.e.headD default) l)
  else bif t.k==6 then (bif n != 0||!(bl str==[])||decide (0<(l.length:Int))||!(dG ((fS s.ss t.n).getD default).fs f) then 13 else jL s ((fS s.ss t.n).getD default).fs f)
  else kW s t n str l.length f.length
def g8 (s:Sc) (t:Ty):List Vl->Int
 |[]=>0
 |v::r=>bif cT s t v != 0 then cT s t v else g8 s t r
def jL (s:Sc) (fs:List Fl):List (Int×Vl)->Int
 |[]=>0
 | (i,v)::r=>bif cT s ((fF fs i).getD default).ty v != 0 then cT s ((fF fs i).getD default).ty v else jL s fs r
end
theorem l0 (s:Sc) (t:Ty) (v:Vl):cT s t v=bif !(valF s.ss s.es t)||v.k != t.k then 13
 else bif t.k==4 then jX t v.n v.s v.l.length v.f.length
 else bif t.k==5 then (bif v.n != 0||!(bl v.s==[])||decide (0<(v.f.length:Int)) then 13 else bif decide (t.s<(v.l.length:Int)) then 3 else g8 s (t.e.headD default) v.l)
 else bif t.k==6 then (bif v.n != 0||!(bl v.s==[])||decide (0<(v.l.length:Int))||!(dG ((fS s.ss t.n).getD default).fs v.f) then 13 else jL s ((fS s.ss t.n).getD default).fs v.f)
 else kW s t v.n v.s v.l.length v.f.length:=by cases v;rw[cT];rfl
theorem xB (s:Sc) (fs:List Fl) (x:Int×Vl) (r:List (Int×Vl)):jL s fs (x::r)=bif cT s ((fF fs x.1).getD default).ty x.2 != 0 then cT s ((fF fs x.1).getD default).ty x.2 else jL s fs r:=by cases x;rw[jL]
abbrev QE:S:=.va (.c1 (.fn 115 [(false,[.pt 0 0])]))
def aG9:W.Spec:=fun av H K=>∃(x:Int) (v:Vl),av=[iS .i64 x,.va (.c1 (.pt 0 0))]/\H=[.cells (bP v) 29]/\K (bS (x==v.n)) [.cells (bP v) 29]
theorem aGH {x:Int} {v:Vl} {K:S->Hp->Prop} (hK:K (bS (x==v.n)) [.cells (bP v) 29]):aG9 [iS .i64 x,.va (.c1 (.pt 0 0))] [.cells (bP v) 29] K:=⟨x,v,rfl,rfl,hK⟩
theorem UN:Meets Tryz.prog 115 aG9:=by
 refine aF Tryz.func115 aME 2 (by rw[Tryz.ntmps115];decide) (aB _) (fun av H K h=>by obtain ⟨_,_,rfl,_⟩:=h;rfl) ?_
 rintro av H K ⟨x,v,rfl,rfl,hK⟩
 simp -dsimp only[go_sem,bP,X4,ZY]
 exact .sel [0] (by simp) (by simp) rfl (.done (by simpa[go_sem,bP] using hK))
def zV (p:Int->Bool):List Int->Nat->Int
 |[],_=>-1
 |x::l,i=>bif p x then (i:Int) else zV p l (i+1)
theorem LJ (p:Int->Bool):∀(l:List Int) (i:Nat),decide (0<=zV p l i)=l.any p
 |[],_=>rfl
 |x::l,i=>by
  rw[List.any_cons,zV]
  cases h:p x
  · rw[a8,LJ p l (i+1),Bool.false_or]
  · simp
def aFT:W.Spec:=fun av H K=>∃(l:List Int) (v:Vl),av=[.va (.c1 (.fz (l.map cK))),QE]/\H=[.cells (bP v) 29]/\l.length<=9223372036854775807/\K (iS .i64 (zV (fun x=>x==v.n) l 0)) [.cells (bP v) 29]
theorem aGD {l:List Int} {v:Vl} {K:S->Hp->Prop} (h:l.length<=9223372036854775807) (hK:K (iS .i64 (zV (fun x=>x==v.n) l 0)) [.cells (bP v) 29]):aFT [.va (.c1 (.fz (l.map cK))),QE] [.cells (bP v) 29] K:=⟨l,v,rfl,rfl,h,hK⟩
theorem aCQ:Meets Tryz.prog 149 aFT:=by
 refine aF Tryz.func149 aL2 2 (by rw[Tryz.ntmps149];decide) (aC UN (aB _)) (fun av H K h=>by obtain ⟨_,_,rfl,_⟩:=h;rfl) ?_
 rintro av H K ⟨l,v,rfl,rfl,hl,hK⟩
 simp -dsimp only[go_sem,XH,YZ]
 refine aL (α:=Nat) (fun i=>[(0,.va (.c1 (.fz (l.map cK)))),(1,QE),(7,iS .i64 l.length),(8,iS .i64 i)]) (fun _=>[.cells (bP v) 29])
  (fun i=>i<=l.length/\zV (fun x=>x==v.n) (l.drop i) i=zV (fun x=>x==v.n) l 0) (fun i=>l.length-i) 0 1 ⟨Nat.zero_le _,rfl⟩ ?_ ?_ ?_
 · simp -dsimp only[go_sem]<;>simp
 · simp -dsimp only[go_sem,bP]<;>simp
 rintro i ⟨hi,ho⟩
 rcases bB i l.length with hlt|hge
 · have hg:decide ((i:Int)<(l.length:Int))=true:=by simp;omega
   have hx:l[i]? = some l[i]:=aU hlt
   have q2:=aT (row:=cK) hx
   rw[List.drop_eq_getElem_cons hlt,zV] at ho
   generalize l[i]=y at *
   simp -dsimp only[go_sem,hg,↓q2]
   refine ⟨by omega,aGH ?_⟩
   cases hc:y==v.n with
   |true=>
    rw[hc,bE] at ho
    simp -dsimp only[go_sem]
    exact .sel [0] (by simp) (by simp) rfl (.done (by simpa[go_sem,bP,ho] using hK))
   |false=>
    rw[hc,a8] at ho
    simp -dsimp only[go_sem]
    refine ⟨by omega,aE (i+1) 1 ⟨by omega,ho⟩ (by omega) ?_ ?_⟩
    · simp -dsimp only[go_sem]<;>simp
    · simp -dsimp only[go_sem,bP]<;>simp[bP]
 · have hg:decide ((i:Int)<(l.length:Int))=false:=by simp;omega
   have:l.drop i=[]:=List.drop_eq_nil_iff.2 (by omega)
   rw[this] at ho
   simp -dsimp only[go_sem,hg]
   exact .sel [0] (by simp) (by simp) rfl (.done (by rw[show zV (fun x=>x==v.n) l 0=-1 from ho.symm] at hK;simpa[go_sem,bP] using hK))
def aFL:W.Spec:=fun av H K=>∃(l:List Int) (v:Vl),av=[.va (.c1 (.fz (l.map cK))),QE]/\H=[.cells (bP v) 29]/\l.length<=9223372036854775807/\K (bS (l.any fun x=>x==v.n)) [.cells (bP v) 29]
theorem aF6 {l:List Int} {v:Vl} {K:S->Hp->Prop} (h:l.length<=9223372036854775807) (hK:K (bS (l.any fun x=>x==v.n)) [.cells (bP v) 29]):aFL [.va (.c1 (.fz (l.map cK))),QE] [.cells (bP v) 29] K:=⟨l,v,rfl,rfl,h,hK⟩
theorem OR:Meets Tryz.prog 114 aFL:=by
 refine aF Tryz.func114 aOT 2 (by rw[Tryz.ntmps114];decide) (aC aCQ (aB _)) (fun av H K h=>by obtain ⟨_,_,rfl,_⟩:=h;rfl) ?_
 rintro av H K ⟨l,v,rfl,rfl,hl,hK⟩
 simp -dsimp only[go_sem,bP,WN,XE]
 refine aGD hl ?_
 simp -dsimp only[go_sem,bP,LJ]
 exact .sel [0] (by simp) (by simp) rfl (.done (by simpa[go_sem,bP] using hK))
abbrev PL:S:=.va (.c1 (.fn 151 [(false,[.pt 0 0])]))
def MX (x:Int×Vl):List C:=[.vl (.int .i64 x.1),.vl (.int .i64 x.2.k),.vl (.int .i64 x.2.n),.vl (.string x.2.s),.fz (x.2.l.map aP),.fz (x.2.f.map bD)]
def Y4:W.Spec:=fun av H K=>∃(x:Int×Vl) (f:Fl),av=[.va (.gs (MX x)),.va (.c1 (.pt 0 0))]/\H=[.cells (aS f) 52]/\K (bS (x.1==f.num)) [.cells (aS f) 52]
theorem aCI {x:Int×Vl} {f:Fl} {K:S->Hp->Prop} (hK:K (bS (x.1==f.num)) [.cells (aS f) 52]):Y4 [.va (.gs (MX x)),.va (.c1 (.pt 0 0))] [.cells (aS f) 52] K:=⟨x,f,rfl,rfl,hK⟩
theorem aJV:Meets Tryz.prog 151 Y4:=by
 refine aF Tryz.func151 aLG 2 (by rw[Tryz.ntmps151];decide) (aB _) (fun av H K h=>by obtain ⟨_,_,rfl,_⟩:=h;rfl) ?_
 rintro av H K ⟨x,f,rfl,rfl,hK⟩
 simp -dsimp only[go_sem,MX,aS,Y6,X5]
 exact .sel [0] (by simp) (by simp) rfl (.done (by simpa[go_sem,aS] using hK))
def kG (n:Int):List (Int×Vl)->Nat->Int
 |[],_=>-1
 |x::l,i=>bif x.1==n then (i:Int) else kG n l (i+1)
theorem KT (n:Int):∀(l:List (Int×Vl)) (i:Nat),decide (0<=kG n l i)=nF l n
 |[],_=>rfl
 |x::l,i=>by
  rw[nF,List.any_cons,kG]
  cases h:x.1==n
  · rw[a8,KT n l (i+1),Bool.false_or];rfl
  · simp
def aJE:W.Spec:=fun av H K=>∃(l:List (Int×Vl)) (f:Fl),av=[.va (.c1 (.fz (l.map bD))),PL]/\H=[.cells (aS f) 52]/\l.length<=9223372036854775807/\K (iS .i64 (kG f.num l 0)) [.cells (aS f) 52]
theorem aEW {l:List (Int×Vl)} {f:Fl} {K:S->Hp->Prop} (h:l.length<=9223372036854775807) (hK:K (iS .i64 (kG f.num l 0)) [.cells (aS f) 52]):aJE [.va (.c1 (.fz (l.map bD))),PL] [.cells (aS f) 52] K:=⟨l,f,rfl,rfl,h,hK⟩
theorem aC3:Meets Tryz.prog 117 aJE:=by
 refine aF Tryz.func117 X3 2 (by rw[Tryz.ntmps117];decide) (aC aJV (aB _)) (fun av H K h=>by obtain ⟨_,_,rfl,_⟩:=h;rfl) ?_
 rintro av H K ⟨l,f,rfl,rfl,hl,hK⟩
 simp -dsimp only[go_sem,N9,NO]
 refine aL (α:=Nat) (fun i=>[(0,.va (.c1 (.fz (l.map bD)))),(1,PL),(7,iS .i64 l.length),(8,iS .i64 i)]) (fun _=>[.cells (aS f) 52])
  (fun i=>i<=l.length/\kG f.num (l.drop i) i=kG f.num l 0) (fun i=>l.length-i) 0 1 ⟨Nat.zero_le _,rfl⟩ ?_ ?_ ?_
 · simp -dsimp only[go_sem]<;>simp
 · simp -dsimp only[go_sem,aS]<;>simp
 rintro i ⟨hi,ho⟩
 rcases bB i l.length with hlt|hge
 · have hg:decide ((i:Int)<(l.length:Int))=true:=by simp;omega
   have hx:l[i]? = some l[i]:=aU hlt
   have q2:=kO hx
   rw[List.drop_eq_getElem_cons hlt,kG] at ho
   generalize l[i]=y at *
   simp -dsimp only[go_sem,hg,↓q2]
   refine ⟨by omega,aCI ?_⟩
   cases hc:y.1==f.num with
   |true=>
    rw[hc,bE] at ho
    simp -dsimp only[go_sem]
    exact .sel [0] (by simp) (by simp) rfl (.done (by simpa[go_sem,aS,ho] using hK))
   |false=>
    rw[hc,a8] at ho
    simp -dsimp only[go_sem]
    refine ⟨by omega,aE (i+1) 1 ⟨by omega,ho⟩ (by omega) ?_ ?_⟩
    · simp -dsimp only[go_sem]<;>simp
    · simp -dsimp only[go_sem,aS]<;>simp[aS]
 · have hg:decide ((i:Int)<(l.length:Int))=false:=by simp;omega
   have:l.drop i=[]:=List.drop_eq_nil_iff.2 (by omega)
   rw[this] at ho
   simp -dsimp only[go_sem,hg]
   exact .sel [0] (by simp) (by simp) rfl (.done (by rw[show kG f.num l 0=-1 from ho.symm] at hK;simpa[go_sem,aS] using hK))
def aFF:W.Spec:=fun av H K=>∃(l:List (Int×Vl)) (f:Fl),av=[.va (.c1 (.fz (l.map bD))),PL]/\H=[.cells (aS f) 52]/\l.length<=9223372036854775807/\K (bS (nF l f.num)) [.cells (aS f) 52]
theorem aH0 {l:List (Int×Vl)} {f:Fl} {K:S->Hp->Prop} (h:l.length<=9223372036854775807) (hK:K (bS (nF l f.num)) [.cells (aS f) 52]):aFF [.va (.c1 (.fz (l.map bD))),PL] [.cells (aS f) 52] K:=⟨l,f,rfl,rfl,h,hK⟩
theorem OW:Meets Tryz.prog 150 aFF:=by
 refine aF Tryz.func150 aPF 2 (by rw[Tryz.ntmps150];decide) (aC aC3 (aB _)) (fun av H K h=>by obtain ⟨_,_,rfl,_⟩:=h;rfl) ?_
 rintro av H K ⟨l,f,rfl,rfl,hl,hK⟩
 simp -dsimp only[go_sem,aS,aAN,aAJ]
 refine aEW hl ?_
 simp -dsimp only[go_sem,aS,KT]
 exact .sel [0] (by simp) (by simp) rfl (.done (by simpa[go_sem,aS] using hK))
def FT (P:Sc->Ty->Vl->Prop):List S->Prop:=fun av=>match av with
 |[.va (.gs r),.va (.gs q),.va (.gs p)]=>gK r/\iO q/\o9 p/\P (C.sc r) (C.ty q) (C.vv p)
 |_=>False
theorem sN {P:Sc->Ty->Vl->Prop} {av:List S} (h:FT P av):∃s t v,av=[.va (.gs (aD s)),.va (.gs (aQ t)),.va (.gs (aP v))]/\s.fit/\TyOk t/\VlOk v/\P s t v:=by
 unfold FT at h
 split at h
 · obtain ⟨⟨s,rfl,hs⟩,⟨t,rfl,ht⟩,⟨v,rfl,hv⟩,h⟩:=h
   rw[dF,g4,iR] at h
   exact ⟨s,t,v,rfl,hs,ht,hv,h⟩
 · exact h.elim
noncomputable def YF (f:Sc->Ty->Vl->Value):List S->A:=fun av=>match av with
 |[.va (.gs r),.va (.gs q),.va (.gs p)]=>.c1 (.vl (f (C.sc r) (C.ty q) (C.vv p)))
 |_=>.gs []
noncomputable def kM (P:Sc->Ty->Vl->Prop) (f:Sc->Ty->Vl->Value):Fun:=⟨FT P,YF f,fun av h=>by obtain ⟨_,_,_,rfl,_⟩:=sN h;trivial⟩
theorem iV {P:Sc->Ty->Vl->Prop} {f:Sc->Ty->Vl->Value}:∀av H K,(kM P f).sp av H K->av.length=3:=fun av H K h=>by obtain ⟨_,_,_,rfl,_⟩:=sN h.1.1;rfl
attribute [go_sem] kM FT YF
theorem fV {P:Sc->Ty->Vl->Prop} {f:Sc->Ty->Vl->Value} {av:List S} {H:Hp} {K:S->Hp->Prop} (h:(kM P f).sp av H K) :
 ∃s t v,av=[.va (.gs (aD s)),.va (.gs (aQ t)),.va (.gs (aP v))]/\H=[]/\s.fit/\TyOk t/\VlOk v/\P s t v/\K (.va (.c1 (.vl (f s t v)))) []:=by
 obtain ⟨⟨h,rfl⟩,hK⟩:=h
 obtain ⟨s,t,v,rfl,hs,ht,hv,hp⟩:=sN h
 have:(kM P f).val [.va (.gs (aD s)),.va (.gs (aQ t)),.va (.gs (aP v))]=.c1 (.vl (f s t v)):=by simp -dsimp only[go_sem]
 rw[this] at hK
 exact ⟨s,t,v,rfl,rfl,hs,ht,hv,hp,hK⟩
theorem aJ7:Meets Tryz.prog 77 (kM (fun _ _ _=>True) fun _ t v=>.int .i64 (jX t v.n v.s v.l.length v.f.length)).sp:=by
 refine aF Tryz.func77 aSO 3 (by rw[Tryz.ntmps77];decide) (aB _) iV ?_
 intro av H K h
 obtain ⟨s,t,v,rfl,rfl,hs,ht,hv,_,hK⟩:=fV h
 clear h
 have fin:∀(z:Int) (R:Hp),jX t v.n v.s v.l.length v.f.length=z->W.Fin 0 K (iS .i64 z) R:=fun z R h=>by
  rw[h] at hK;exact .z ((by simpa[go_sem] using hK))
 clear hK
 unfold jX at fin
 cases h1:v.n != 0<;>cases h2:decide (0<(v.l.length:Int))<;>cases h3:decide (0<(v.f.length:Int))<;>cases h4:decide (t.s<((bl v.s).length:Int)) <;>
 · rw[h1,h2,h3,h4] at fin
   simp(maxSteps:=9^6)-dsimp only[go_sem,aD,aR t,aJ v,aGV,aFR,h1,h2,h3,h4]
   exact fin _ _ rfl
theorem aG8 {ss:List St} {es:List En} {t:Ty} (h:valF ss es t=true) (k:(t.k==2)=true):t.s=8\/t.s=16\/t.s=32\/t.s=64:=by
 cases t with
 |mk k0 s n e=>
  obtain rfl:k0=2:=by have k:(k0==2)=true:=k;simpa using k
  rw[valF] at h
  have:(s==8||s==16||s==32||s==64)=true:=by
   simp only[show ((2:Int)==1)=false from rfl,show ((2:Int)==2)=true from rfl,bE,a8,Bool.and_eq_true] at h
   exact h.1.1
  show s=8\/s=16\/s=32\/s=64
  simp only[Bool.or_eq_true,beq_iff_eq] at this
  omega
theorem S3 {ss:List St} {es:List En} {t:Ty} (h:valF ss es t=true) (k:(t.k==3)=true):t.s=8\/t.s=16\/t.s=32:=by
 cases t with
 |mk k0 s n e=>
  obtain rfl:k0=3:=by have k:(k0==3)=true:=k;simpa using k
  rw[valF] at h
  have:(s==8||s==16||s==32)=true:=by
   simp only[show ((3:Int)==1)=false from rfl,show ((3:Int)==2)=false from rfl,show ((3:Int)==3)=true from rfl,bE,a8,Bool.and_eq_true,Bool.and_false,Bool.or_false] at h
   exact h.1.1
  show s=8\/s=16\/s=32
  simp only[Bool.or_eq_true,beq_iff_eq] at this
  omega
theorem UH:Meets Tryz.prog 76 (kM (fun s t _=>valF s.ss s.es t=true) fun s t v=>.int .i64 (kW s t v.n v.s v.l.length v.f.length)).sp:=by
 refine aF Tryz.func76 aUN 3 (by rw[Tryz.ntmps76];decide) (aC IZ (aC OR (aB _))) iV ?_
 intro av H K h
 obtain ⟨s,t,v,rfl,rfl,hs,ht,hv,hp,hK⟩:=fV h
 clear h
 have fin:∀(z:Int) (R:Hp),kW s t v.n v.s v.l.length v.f.length=z->W.Fin 0 K (iS .i64 z) R:=fun z R h=>by
  rw[h] at hK;exact .z ((by simpa[go_sem] using hK))
 clear hK
 unfold kW at fin
 cases h1:bl v.s==[] with
 |false=>
  rw[h1] at fin
  simp(maxSteps:=9^6)-dsimp only[go_sem,aD,aR t,aJ v,IS,IR,h1]
  exact fin _ _ rfl
 |true=>
 cases h2:decide (0<(v.l.length:Int)) with
 |true=>
  rw[h1,h2] at fin
  simp(maxSteps:=9^6)-dsimp only[go_sem,aD,aR t,aJ v,IS,IR,h1,h2]
  exact fin _ _ rfl
 |false=>
 cases h3:decide (0<(v.f.length:Int)) with
 |true=>
  rw[h1,h2,h3] at fin
  simp(maxSteps:=9^6)-dsimp only[go_sem,aD,aR t,aJ v,IS,IR,h1,h2,h3]
  exact fin _ _ rfl
 |false=>
 rw[h1,h2,h3] at fin
 simp only[Bool.not_true,Bool.or_self,a8] at fin
 unfold eX at fin
 simp(maxSteps:=9^6)-dsimp only[go_sem,aD,aR t,aJ v,IS,IR,h1,h2,h3]
 refine ⟨fun k1=>aA rfl (.done ?_),fun k1=>aA rfl (.done ?_)⟩
 · rw[k1,bE] at fin
   simp(maxSteps:=9^6)-dsimp only[go_sem,JS]
   refine aA rfl (.done ?_)
   cases h4:(v.n==0||v.n==1) <;>
   · rw[h4] at fin
     simp(maxSteps:=9^6)-dsimp only[go_sem,kC]
     exact fin _ _ rfl
 rw[k1,a8] at fin
 simp(maxSteps:=9^6)-dsimp only[go_sem,G2]
 refine ⟨fun k2=>aA rfl (.done ?_),fun k2=>aA rfl (.done ?_)⟩
 · rw[k2,bE] at fin
   cases h64:t.s==64 with
   |true=>
    rw[h64] at fin
    simp(maxSteps:=9^6)-dsimp only[go_sem,AE,h64,Bool.false_and]
    refine aA rfl (.done ?_)
    simp(maxSteps:=9^6)-dsimp only[go_sem,kC]
    exact fin _ _ rfl
   |false=>
    rw[h64,Bool.false_or] at fin
    obtain ⟨b1,b2,e1,e2⟩:8<=t.s/\t.s<=32/\IntKind.i64.wrap (-1*2 ^ min (t.s-1).toNat 64)=-(2 ^ (t.s.toNat-1):Int)/\IntKind.i64.wrap (1*2 ^ min (t.s-1).toNat 64)=(2 ^ (t.s.toNat-1):Int):=by
     rcases aG8 hp k2 with hz|hz|hz|hz
     · rw[hz];decide
     · rw[hz];decide
     · rw[hz];decide
     · rw[hz] at h64;simp at h64
    have f1:(0<=t.s-1)=True:=eq_true (by omega)
    have f2:(-9223372036854775808<=t.s-1)=True:=eq_true (by omega)
    have f3:(t.s-1<=9223372036854775807)=True:=eq_true (by omega)
    generalize (2 ^ (t.s.toNat-1):Int)=hi at *
    cases h4:decide (-hi<=v.n)<;>cases h5:decide (v.n<hi) <;>
    · rw[h4,h5] at fin
      simp(maxSteps:=9^6)-dsimp only[go_sem,AE,h64,e1,e2,h4,h5,f1,f2,f3]
      refine aA rfl (.done ?_)
      simp(maxSteps:=9^6)-dsimp only[go_sem,kC]
      exact fin _ _ rfl
 rw[k2,a8] at fin
 simp(maxSteps:=9^6)-dsimp only[go_sem,I2]
 refine ⟨fun k3=>aA rfl (.done ?_),fun k3=>aA rfl (.done ?_)⟩
 · rw[k3,bE] at fin
   obtain ⟨b1,e1⟩:0<=t.s/\IntKind.i64.wrap (1*2 ^ min t.s.toNat 64)=(2 ^ t.s.toNat:Int):=by
    rcases S3 hp k3 with hz|hz|hz
    · rw[hz];decide
    · rw[hz];decide
    · rw[hz];decide
   generalize (2 ^ t.s.toNat:Int)=hi at *
   cases h4:decide (0<=v.n)<;>cases h5:decide (v.n<hi) <;>
   · rw[h4,h5] at fin
     simp(maxSteps:=9^6)-dsimp only[go_sem,BJ,e1,h4,h5,b1]
     refine aA rfl (.done ?_)
     simp(maxSteps:=9^6)-dsimp only[go_sem,kC]
     exact fin _ _ rfl
 rw[k3,a8] at fin
 simp(maxSteps:=9^6)-dsimp only[go_sem,C4]
 refine ⟨fun k7=>aA rfl (.done ?_),fun k7=>aA rfl (.done ?_)⟩
 · rw[k7,bE] at fin
   simp(maxSteps:=9^6)-dsimp only[go_sem,DJ]
   refine m9 (s:=s) hs ?_
   generalize hu:(d8 s.es t.n).getD default=u at *
   have hul:u.vs.length<=9223372036854775807:=by
    rw[<-hu]
    cases hf:d8 s.es t.n with
    |none=>exact Nat.zero_le _
    |some w=>exact (hs.ok.es w (DW hf).1).lv
   simp(maxSteps:=9^6)-dsimp only[go_sem,aZ]
   refine aA rfl (.done ?_)
   simp(maxSteps:=9^6)-dsimp only[go_sem,DP]
   refine aF6 hul ?_
   simp(maxSteps:=9^6)-dsimp only[go_sem,bP]
   refine aA rfl (.done ?_)
   cases h4:u.vs.any fun x=>x==v.n <;>
   · rw[h4] at fin
     simp(maxSteps:=9^6)-dsimp only[go_sem,kC]
     exact fin _ _ rfl
 rw[k7] at fin
 simp(maxSteps:=9^6)-dsimp only[go_sem,kC]
 exact fin _ _ rfl
theorem K0 {a b:Int×Vl} (h:bD a=bD b):a=b:=by
 obtain ⟨i,x⟩:=a
 obtain ⟨j,y⟩:=b
 obtain ⟨h1,h2⟩:=List.cons.inj h
 have e:i=j:=by simpa using h1
 have e2:x=y:=uW h2
 rw[e,e2]
instance:Inhabited (Int×Vl):=⟨(0,default)⟩
noncomputable def C.ve:=sS bD
@[go_sem] theorem aZ6 (v:Int×Vl):C.ve (bD v)=v:=jV K0 v
@[go_sem] theorem aHS (l:List (Int×Vl)):(l.map bD).map C.ve=l:=lQ K0 l
def ZX (r:List C):Prop:=∃u:St,r=aH u/\u.ok/\∀f∈u.fs,TySm f.ty
def aEO (rs:List (List C)):Prop:=∃l:List (Int×Vl),rs=l.map bD/\l.length*88<=140737488355328/\∀x∈l,bT x.1/\VlOk x.2
theorem aBC {v:Vl} (h:VlOk v):aEO (v.f.map bD):=⟨v.f,rfl,h.lf,fun x hx=>⟨h.fn x hx,h.f x hx⟩⟩
theorem TS {s:Sc} (hs:s.fit) (n:ByteArray):ZX (aH ((fS s.ss n).getD default)):=by
 refine ⟨_,rfl,?_⟩
 cases hf:fS s.ss n with
 |none=>exact ⟨St.ok_default,fun f hf=>(List.not_mem_nil hf).elim⟩
 |some w=>exact ⟨hs.ok.ss w (f5 hf).1,(hs.sm w (f5 hf).1).2⟩
def zL:List S->Prop:=fun av=>match av with
 |[.va (.gs r),.va (.c1 (.fz rs))]=>ZX r/\aEO rs
 |_=>False
theorem pB {av:List S} (h:zL av):∃(u:St) (l:List (Int×Vl)),av=[.va (.gs (aH u)),.va (.c1 (.fz (l.map bD)))]/\u.ok/\(∀f∈u.fs,TySm f.ty)/\l.length*88<=140737488355328/\∀x∈l,bT x.1/\VlOk x.2:=by
 unfold zL at h
 split at h
 · obtain ⟨⟨u,rfl,h1,h2⟩,⟨l,rfl,h3,h4⟩⟩:=h;exact ⟨u,l,rfl,h1,h2,h3,h4⟩
 · exact h.elim
noncomputable def R6:List S->A:=fun av=>match av with
 |[.va (.gs r),.va (.c1 (.fz rs))]=>bA (dG (C.st r).fs (rs.map C.ve))
 |_=>.gs []
noncomputable def ftFn1:Fun:=⟨zL,R6,fun av h=>by obtain ⟨_,_,rfl,_⟩:=pB h;trivial⟩
theorem O4:∀av H K,ftFn1.sp av H K->av.length=2:=fun av H K h=>by obtain ⟨_,_,rfl,_⟩:=pB h.1.1;rfl
attribute [go_sem] ftFn1 zL R6
def Q3 (l:List (Int×Vl)):Nat->Option Int
 |0=>none
 |j+1=>(l[j]?).map (·.1)
theorem aIJ {l:List (Int×Vl)} {n:Int} {x:Int×Vl} (h:l[n.toNat]? = some x) (p:List C->Prop):(∀r,(l.map bD)[n.toNat]? = some r->p r)=p [.vl (.int .i64 x.1),.vl (.int .i64 x.2.k),.vl (.int .i64 x.2.n),.vl (.string x.2.s),.fz (x.2.l.map aP),.fz (x.2.f.map bD)]:=by
 rw[<-cH];exact tB (row:=bD) h p
theorem aGL:Meets Tryz.prog 116 ftFn1.sp:=by
 refine aF Tryz.func116 aLY 2 (by rw[Tryz.ntmps116];decide) (aC s8 (aC OW (aB _))) O4 ?_
 rintro av H K ⟨⟨h,rfl⟩,hK⟩
 obtain ⟨u,l,rfl,hu,hus,hl,hlo⟩:=pB h
 replace hK:K (bS (dG u.fs l)) []:=by
  have:ftFn1.val [.va (.gs (aH u)),.va (.c1 (.fz (l.map bD)))]=bA (dG u.fs l):=by simp -dsimp only[go_sem]
  rw[this] at hK;exact hK
 clear h
 have fin:∀(b:Bool) (R:Hp),dG u.fs l=b->W.Fin 0 K (bS b) R:=fun b R h=>by
  rw[h] at hK;exact .z ((by simpa[go_sem] using hK))
 clear hK
 have hfl:=hu.len
 generalize hR:u.fs.all (fun f=>f.opt||nF l f.num)=R2
 have hF:dG u.fs l=(ftA u.fs none l&&R2):=by rw[<-hR];rfl
 rw[hF] at fin
 generalize hR0:(ftA u.fs none l&&R2)=R0 at fin
 clear hF
 simp(maxSteps:=9^6)-dsimp only[go_sem,aH,XA,YN]
 refine aL (α:=Nat) (fun i=>[(1,.va (.c1 (.fz (l.map bD)))),(2,.va (.c1 (.pt 0 0))),(11,.va (.c1 (.fz (l.map bD)))),(12,iS .i64 l.length),(13,iS .i64 i)]) (fun _=>[.cells (aH u) 48])
  (fun i=>i<=l.length/\(ftA u.fs (Q3 l i) (l.drop i)&&R2)=R0) (fun i=>l.length-i) 0 1 ⟨Nat.zero_le _,hR0⟩ ?_ ?_ ?_
 · simp -dsimp only[go_sem]<;>simp
 · simp -dsimp only[go_sem,aH]<;>simp
 rintro i ⟨hi,ho⟩
 rcases bB i l.length with hlt|hge
 · have hg:decide ((i:Int)<(l.length:Int))=true:=by simp;omega
   obtain ⟨x,hx⟩:∃t,l[i]? = some t:=⟨_,aU hlt⟩
   have q1:=kO hx
   have hdr:l.drop i=x::l.drop (i+1):=by
    obtain ⟨h,rfl⟩:=bJ.1 hx
    exact List.drop_eq_getElem_cons h
   have hpv:Q3 l (i+1)=some x.1:=by rw[Q3,hx];rfl
   rw[hdr,qV,<-hpv] at ho
   simp(maxSteps:=9^6)-dsimp only[go_sem,hg,↓q1,aH]
   refine ⟨by omega,aA rfl (.done ?_)⟩
   simp(maxSteps:=9^6)-dsimp only[go_sem,BL]
   refine u4 (t:=u) hu hus ?_
   cases hf:fF u.fs x.1 with
   |none=>
    rw[hf] at ho
    simp(maxSteps:=9^6)-dsimp only[go_sem,pK,Option.getD_none,Option.isSome_none]
    refine aA rfl (.done ?_)
    simp(maxSteps:=9^6)-dsimp only[go_sem,nC,Bool.false_and]
    exact fin _ _ ho.symm
   |some g=>
    rw[hf,Option.isSome_some,Bool.true_and] at ho
    simp(maxSteps:=9^6)-dsimp only[go_sem,aS,Option.getD_some,Option.isSome_some]
    refine aA rfl (.done ?_)
    cases hz:decide ((0:Int)<(i:Int)) with
    |false=>
     obtain rfl:i=0:=by have:=of_decide_eq_false hz;omega
     simp(maxSteps:=9^6)-dsimp only[go_sem,nC,hz]
     refine ⟨by omega,aE (0+1) 1 ⟨by omega,ho⟩ (by omega) ?_ ?_⟩
     · simp -dsimp only[go_sem]<;>simp
     · simp -dsimp only[go_sem,aH]<;>simp[aH]
    |true=>
     have hz':=of_decide_eq_true hz
     obtain ⟨y,hy⟩:∃t,l[i-1]? = some t:=⟨_,aU (by omega)⟩
     have hti:((i:Int)-1).toNat=i-1:=by omega
     have q2:=fun p=>aIJ (n:=(i:Int)-1) (x:=y) (by rw[hti];exact hy) p
     have hpi:Q3 l i=some y.1:=by
      match i,hz',hy with
      |j+1,_,hy=>rw[Q3];rw[show j+1-1=j by omega] at hy;rw[hy];rfl
     rw[hpi,ltO] at ho
     have f1:(0<=(i:Int)-1)=True:=eq_true (by omega)
     have f2:((i:Int)-1<(l.length:Int))=True:=eq_true (by omega)
     cases hc:decide (x.1<=y.1) with
     |true=>
      have:decide (y.1<x.1)=false:=by have:=of_decide_eq_true hc;simp;omega
      rw[this] at ho
      simp(maxSteps:=9^6)-dsimp only[go_sem,nC,hz,↓q2,hc,f1,f2]
      exact ⟨by omega,fin _ _ ho.symm⟩
     |false=>
      have:decide (y.1<x.1)=true:=by have:=of_decide_eq_false hc;simp;omega
      rw[this,Bool.true_and] at ho
      simp(maxSteps:=9^6)-dsimp only[go_sem,nC,hz,↓q2,hc,f1,f2]
      refine ⟨by omega,by omega,aE (i+1) 1 ⟨by omega,ho⟩ (by omega) ?_ ?_⟩
      · simp -dsimp only[go_sem]<;>simp
      · simp -dsimp only[go_sem,aH]<;>simp[aH]
 · have hg:decide ((i:Int)<(l.length:Int))=false:=by simp;omega
   obtain rfl:i=l.length:=by omega
   rw[List.drop_length,LB,Bool.true_and] at ho
   simp(maxSteps:=9^6)-dsimp only[go_sem,hg,aH]
   refine aA rfl (.done ?_)
   simp(maxSteps:=9^6)-dsimp only[go_sem,C5]
   clear hi hge hg hR0
   rw[<-hR] at ho
   clear hR
   refine aL (α:=Nat) (fun i=>[(1,.va (.c1 (.fz (l.map bD)))),(2,.va (.c1 (.pt 0 0))),(44,.va (.c1 (.fz (u.fs.map aS)))),(45,iS .i64 u.fs.length),(46,iS .i64 i)]) (fun _=>[.cells (aH u) 48])
    (fun i=>i<=u.fs.length/\(u.fs.drop i).all (fun f=>f.opt||nF l f.num)=R0) (fun i=>u.fs.length-i) 0 1 ⟨Nat.zero_le _,ho⟩ ?_ ?_ ?_
   · simp -dsimp only[go_sem]<;>simp
   · simp -dsimp only[go_sem,aH]<;>simp
   clear ho
   rintro i ⟨hi,ho⟩
   rcases bB i u.fs.length with hlt|hge
   · have hg:decide ((i:Int)<(u.fs.length:Int))=true:=by simp;omega
     obtain ⟨f,hx⟩:∃t,u.fs[i]? = some t:=⟨_,aU hlt⟩
     have q1:=aT (row:=aS) hx
     rw[TR hx] at ho
     simp(maxSteps:=9^6)-dsimp only[go_sem,hg,↓q1,aH,aS]
     refine ⟨by omega,aA rfl (.done ?_)⟩
     cases hop:f.opt with
     |true=>
      rw[hop,Bool.true_or,Bool.true_and] at ho
      simp(maxSteps:=9^6)-dsimp only[go_sem,rQ]
      refine ⟨by omega,aE (i+1) 1 ⟨by omega,ho⟩ (by omega) ?_ ?_⟩
      · simp -dsimp only[go_sem]<;>simp
      · simp -dsimp only[go_sem,aH]<;>simp[aH]
     |false=>
      rw[hop,Bool.false_or] at ho
      have cu:=fun K h=>aH0 (l:=l) (f:=f) (K:=K) (by omega) h
      rw[aS,hop] at cu
      simp(maxSteps:=9^6)-dsimp only[go_sem,rQ]
      refine cu _ ?_
      cases hc:nF l f.num with
      |false=>
       rw[hc,Bool.false_and] at ho
       simp(maxSteps:=9^6)-dsimp only[go_sem]
       exact fin _ _ ho.symm
      |true=>
       rw[hc,Bool.true_and] at ho
       simp(maxSteps:=9^6)-dsimp only[go_sem]
       refine ⟨by omega,aE (i+1) 1 ⟨by omega,ho⟩ (by omega) ?_ ?_⟩
       · simp -dsimp only[go_sem]<;>simp
       · simp -dsimp only[go_sem,aH]<;>simp[aH]
   · have hg:decide ((i:Int)<(u.fs.length:Int))=false:=by simp;omega
     obtain rfl:i=u.fs.length:=by omega
     rw[aA0] at ho
     simp(maxSteps:=9^6)-dsimp only[go_sem,hg,aH]
     exact fin _ _ ho.symm
end Go.Proofs.YthpbnmebjocbeaaGreat
