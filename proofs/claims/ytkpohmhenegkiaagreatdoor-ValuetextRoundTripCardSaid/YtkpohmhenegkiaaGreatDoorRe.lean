/- Lemmas and walks for the proof. -/
import Derived.Test.YtkpohmhenegkiaaGreatDoorRd
import Derived.Test.YtkpohmhenegkiaaGreatDoorProg
import Derived.Shelf.Strconv.Itoa4
set_option maxRecDepth 100000
set_option maxHeartbeats 8000000
namespace Go.Proofs.YtkpohmhenegkiaaGreatDoor
open Go.W
structure Ends (ts:List Tk):Prop where
 pos:0 < ts.length
 le:ts.length<=4001
 last:∀ (i:Nat) (t:Tk),ts[i]? = some t->(t.k=0 ↔ i + 1=ts.length)
abbrev hU (T:TypeId) (ts:List Tk) (n:Nat):B:=.cells [.fz (ts.map dB),.vl (.int .i64 n)] T
theorem R9 (T:TypeId) (ts:List Tk) (n:Nat):hU T ts (n + 1)=.cells [.fz (ts.map dB),.vl (.int .i64 ((n:Int) + 1))] T:=rfl
def eQ (T:TypeId) (post:List Tk->Nat->(S->Hp->Prop)->Prop):W.Spec:=fun xs H K=>
 match xs,H with
 | [.va (.c1 (.pt 0 0))],[.cells [.fz r,.vl (.int .i64 a)] T']=>T'=T/\∃ (ts:List Tk) (n:Nat),r=ts.map dB/\a=n/\Ends ts/\n < ts.length/\post ts n K
 | _,_=>False
theorem sL {T:TypeId} {post:List Tk->Nat->(S->Hp->Prop)->Prop} {xs:List S} {H:Hp} {K:S->Hp->Prop} (h:eQ T post xs H K) :
 ∃ ts n,xs=[.va (.c1 (.pt 0 0))]/\H=[hU T ts n]/\Ends ts/\n < ts.length/\post ts n K:=by
 unfold eQ at h
 split at h
 · obtain ⟨rfl,ts,n,rfl,rfl,h1,h2,h3⟩:=h; exact ⟨ts,n,rfl,rfl,h1,h2,h3⟩
 · exact h.elim
theorem GI {T:TypeId} {post:List Tk->Nat->(S->Hp->Prop)->Prop}:∀ xs H K,eQ T post xs H K->xs.length=1:=fun xs H K h=>by obtain ⟨ts,n,rfl,_⟩:=sL h; rfl
attribute [go_sem ↓] eQ
def cB (ts:List Tk) (n:Nat):Nat:=if n + 1 < ts.length then n + 1 else n
def cC (T:TypeId):W.Spec:=eQ T fun ts n K=>∀ t,ts[n]? = some t->K (.va (.gs (dB t))) [hU T ts n]
def cJ (T:TypeId):W.Spec:=eQ T fun ts n K=>∀ t,ts[n]? = some t->K (.va (.gs (dB t))) [hU T ts (cB ts n)]
attribute [go_sem ↓] cC cJ
theorem rA:Meets Tryz.prog 30 (cC 114):=by
 refine aF Tryz.func30 aKM 1 (by rw [Tryz.ntmps30]; decide) (aA _) GI ?_
 intro xs H K h
 obtain ⟨ts,n,rfl,rfl,hE,hn,hK⟩:=sL h
 simp -dsimp only [go_sem,aED,aBQ]
 refine ⟨fun h=>?_,fun _=>⟨by omega,fun t ht=>.sel [0] (by simp) (by simp) rfl (.done (hK t ht))⟩⟩
 have:=hE.pos; simp at h; simp [h] at this
theorem EM:Meets Tryz.prog 100 (cJ 114):=by
 refine aF Tryz.func100 aGW 1 (by rw [Tryz.ntmps100]; decide) (aB rA (aA _)) GI ?_
 intro xs H K h
 obtain ⟨ts,n,rfl,rfl,hE,hn,hK⟩:=sL h
 simp -dsimp only [go_sem,YZ,V6]
 refine ⟨ts,n,rfl,rfl,hE,hn,fun t ht=>?_⟩
 have hK:=hK t ht
 have hle:=hE.le
 refine ⟨by omega,fun h=>⟨by omega,?_⟩,fun h=>?_⟩
 · have e:cB ts n=n + 1:=if_pos (by simp at h; omega)
   rw [e,R9] at hK
   exact .sel [0] (by simp) (by simp) rfl (.done hK)
 · have e:cB ts n=n:=if_neg (by simp at h; omega)
   rw [e] at hK
   exact .sel [0] (by simp) (by simp) rfl (.done hK)
def c9 (k:Int) (w:List UInt8) (t:Tk):Bool:=t.k == k && t.x == w
def rQ (k:Int) (w:List UInt8) (ts:List Tk) (n:Nat) (t:Tk):Nat:=bif c9 k w t then cB ts n else n
def cD (k:Int) (T:TypeId):W.Spec:=fun xs H K=>
 match xs,H with
 | [.va (.c1 (.pt 0 0)),.va (.c1 (.vl (.string w)))],[.cells [.fz r,.vl (.int .i64 a)] T']=>T'=T/\∃ (ts:List Tk) (n:Nat),r=ts.map dB/\a=n/\Ends ts/\n < ts.length/\
  ∀ t,ts[n]? = some t->K (bS (c9 k (bl w) t)) [hU T ts (rQ k (bl w) ts n t)]
 | _,_=>False
theorem oM {k:Int} {T:TypeId} {xs:List S} {H:Hp} {K:S->Hp->Prop} (h:cD k T xs H K) :
 ∃ w ts n,xs=[.va (.c1 (.pt 0 0)),tS w]/\H=[hU T ts n]/\Ends ts/\n < ts.length/\∀ t,ts[n]? = some t->K (bS (c9 k (bl w) t)) [hU T ts (rQ k (bl w) ts n t)]:=by
 unfold cD at h
 split at h
 · obtain ⟨rfl,ts,n,rfl,rfl,h1,h2,h3⟩:=h; exact ⟨_,ts,n,rfl,rfl,h1,h2,h3⟩
 · exact h.elim
theorem x7 {k:Int} {T:TypeId}:∀ xs H K,cD k T xs H K->xs.length=2:=fun xs H K h=>by obtain ⟨w,ts,n,rfl,_⟩:=oM h; rfl
def cN (T:TypeId):W.Spec:=fun xs H K=>
 match xs,H with
 | [.va (.c1 (.pt 0 0)),.va (.c1 (.vl (.int .i64 k))),.va (.c1 (.vl (.string w)))],[.cells [.fz r,.vl (.int .i64 a)] T']=>T'=T/\∃ (ts:List Tk) (n:Nat),r=ts.map dB/\a=n/\Ends ts/\n < ts.length/\
  ∀ t,ts[n]? = some t->K (bS (c9 k (bl w) t)) [hU T ts (rQ k (bl w) ts n t)]
 | _,_=>False
theorem vF {T:TypeId} {xs:List S} {H:Hp} {K:S->Hp->Prop} (h:cN T xs H K) :
 ∃ k w ts n,xs=[.va (.c1 (.pt 0 0)),iS .i64 k,tS w]/\H=[hU T ts n]/\Ends ts/\n < ts.length/\∀ t,ts[n]? = some t->K (bS (c9 k (bl w) t)) [hU T ts (rQ k (bl w) ts n t)]:=by
 unfold cN at h
 split at h
 · obtain ⟨rfl,ts,n,rfl,rfl,h1,h2,h3⟩:=h; exact ⟨_,_,ts,n,rfl,rfl,h1,h2,h3⟩
 · exact h.elim
theorem M2 {T:TypeId}:∀ xs H K,cN T xs H K->xs.length=3:=fun xs H K h=>by obtain ⟨k,w,ts,n,rfl,_⟩:=vF h; rfl
attribute [go_sem ↓] cD cN
theorem YT:Meets Tryz.prog 120 (cN 114):=by
 refine aF Tryz.func120 aIU 3 (by rw [Tryz.ntmps120]; decide) (aB rA (aB EM (aA _))) M2 ?_
 intro xs H K h
 obtain ⟨k,w,ts,n,rfl,rfl,hE,hn,hK⟩:=vF h
 simp -dsimp only [go_sem,YX,WF]
 refine ⟨ts,n,rfl,rfl,hE,hn,fun t ht=>?_⟩
 have hK:=hK t ht
 have hg:(t.k != k || !t.x == bl w)=!(c9 k (bl w) t):=by simp [c9,bne,Bool.not_and]
 rw [hg]
 refine ⟨fun h=>?_,fun h=>⟨ts,n,rfl,rfl,hE,hn,fun u hu=>?_⟩⟩
 · have h:c9 k (bl w) t=false:=by simpa using h
   simp only [rQ,h,aG] at hK
   exact .sel [0] (by simp) (by simp) rfl (.done hK)
 · have h:c9 k (bl w) t=true:=by simpa using h
   simp only [rQ,h,aI] at hK
   exact .sel [0] (by simp) (by simp) rfl (.done hK)
theorem aBO:Meets Tryz.prog 148 (cD 4 114):=by
 refine aF Tryz.func148 aH6 2 (by rw [Tryz.ntmps148]; decide) (aB YT (aA _)) x7 ?_
 intro xs H K h
 obtain ⟨w,ts,n,rfl,rfl,hE,hn,hK⟩:=oM h
 simp -dsimp only [go_sem,YG,VV]
 refine ⟨ts,n,rfl,rfl,hE,hn,fun t ht=>.done ?_⟩
 exact hK t ht
theorem aF1:Meets Tryz.prog 95 (cD 1 114):=by
 refine aF Tryz.func95 aKV 2 (by rw [Tryz.ntmps95]; decide) (aB YT (aA _)) x7 ?_
 intro xs H K h
 obtain ⟨w,ts,n,rfl,rfl,hE,hn,hK⟩:=oM h
 simp -dsimp only [go_sem,aBI,aE3]
 refine ⟨ts,n,rfl,rfl,hE,hn,fun t ht=>.done ?_⟩
 exact hK t ht
def gN:W.Spec:=fun xs H K=>
 match xs,H with
 | [.va (.c1 (.vl (.string s)))],[]=>((a7 (bl s)).err=0->K (.tu [.c1 (.pt 0 0),iA .i64 0,iA .i64 0]) [hU 114 (a7 (bl s)).toks 0])/\
  ((a7 (bl s)).err ≠ 0->K (.tu [.c1 (.vl (.pointer none)),iA .i64 (a7 (bl s)).err,iA .i64 (a7 (bl s)).off]) [])
 | _,_=>False
theorem yD {xs:List S} {H:Hp} {K:S->Hp->Prop} (h:gN xs H K):∃ s,xs=[tS s]/\H=[]/\((a7 (bl s)).err=0->K (.tu [.c1 (.pt 0 0),iA .i64 0,iA .i64 0]) [hU 114 (a7 (bl s)).toks 0])/\
 ((a7 (bl s)).err ≠ 0->K (.tu [.c1 (.vl (.pointer none)),iA .i64 (a7 (bl s)).err,iA .i64 (a7 (bl s)).off]) []):=by
 unfold gN at h
 split at h
 · exact ⟨_,rfl,rfl,h.1,h.2⟩
 · exact h.elim
attribute [go_sem ↓] gN
theorem aLJ:Meets Tryz.prog 29 gN:=by
 refine aF Tryz.func29 aMD 1 (by rw [Tryz.ntmps29]; decide) (aB aIV (aA _)) (fun xs H K h=>by obtain ⟨s,rfl,_⟩:=yD h; rfl) ?_
 intro xs H K h
 obtain ⟨s,rfl,rfl,hK1,hK2⟩:=yD h
 simp -dsimp only [go_sem,aFP,aD4]
 refine ⟨fun h=>.done (hK2 (by simpa using h)),fun h=>?_⟩
 have hK:=hK1 (by simpa using h)
 exact .sel [0] (by simp) (by simp) rfl (.done hK)
end Go.Proofs.YtkpohmhenegkiaaGreatDoor
namespace Go.Proofs.YtkpohmhenegkiaaGreatDoor.Pr
open Go.W
def pc96:PC:=.seq (.reg [.q 2 (.mv (.k (.string (mk []))))]) (.seq (.reg [.e 3 (.al (.agg #[(.pointer none),(.slice none 0 0)]) 146)]) (.seq (.seq (.reg [.v 8 0,.q 9 (.lnL (.t 8)),.q 10 (.mv (.i 0))]) (.block 0 (.loop (.seq (.reg [.q 11 (.bin .lss true (.t 10) (.t 9))]) (.seq (.cond (.t 11) .skip (.exit 0)) (.seq (.block 1 (.seq (.reg [.l 12 (.ia 4 (.t 8) (.t 10)),.l 13 (.ldn 4 (.t 12)),.e 5 (.al (.agg #[(.int .i64 0),(.string (mk [])),(.int .i64 0),(.int .i64 0)]) 71),.s (.st 4 (.t 5) (.t 13))]) (.seq (.reg [.l 15 (.ldn 4 (.t 5)),.a 16 (.cl 121 [(.t 15)] []),.v 14 16,.q 17 (.ex (.t 14) 0),.q 18 (.ex (.t 14) 1),.v 6 17,.v 7 18]) (.seq (.seq (.reg [.v 19 7,.q 20 (.not (.t 19))]) (.cond (.t 20) (.exit 1) .skip)) (.seq (.seq (.reg [.a 21 (.cl 122 [(.t 3)] [0,1]),.q 22 (.bin .gtr true (.t 21) (.i 0))]) (.cond (.t 22) (.reg [.a 23 (.cl 123 [(.t 3),(.k (.int .u8 32))] [0,1])]) .skip)) (.reg [.v 24 6,.a 25 (.cl 124 [(.t 3),(.t 24)] [0,1])])))))) (.reg [.q 26 (.bin .add true (.t 10) (.i 1)),.v 10 26]))))))) (.seq (.reg [.a 27 (.cl 125 [(.t 3)] [0,1]),.v 2 27]) .ret)))
def rs96:List RV:=[.mv (.t 2)]
theorem ok96:aO Tryz.prog true ⟨fun r k=>if r=7/\k=0 then .own [0,1] else if r=8/\k=0 then .own [0,1] else if r=9/\k=1 then .own [0,1] else if r=11/\k=0 then .own [0,1] else .own [],fun _=>false⟩ Tryz.f96=some (pc96,rs96):=by kernel_rfl
def pc124:PC:=.seq (.reg [.q 4 (.mv (.i 0)),.q 5 (.mv (.k .nilIface))]) (.seq (.reg [.v 6 0,.a 7 (.cl 147 [(.t 6)] [0,1])]) (.seq (.reg [.v 8 0,.v 9 0,.q 10 (.nc (.t 9)),.q 11 (.fa 1 (.t 10)),.l 12 (.ld1 (.t 11)),.v 13 1,.e 14 (.aps 5 (.t 12) (.t 13)),.q 15 (.nc (.t 8)),.q 16 (.fa 1 (.t 15)),.s (.st 1 (.t 16) (.t 14))]) (.seq (.reg [.v 17 1,.q 18 (.lnS (.t 17)),.v 4 18,.q 5 (.mv (.k .nilIface))]) .ret)))
def rs124:List RV:=[.mv (.t 4),.mv (.t 5)]
theorem ok124:aO Tryz.prog true ⟨fun r k=>if r=1/\k=1 then .own [0,1] else .own [],fun _=>false⟩ Tryz.f124=some (pc124,rs124):=by kernel_rfl
def pc144_4:PC:=.seq (.gh (.reg [.q 4 (.mv (.k (.string (mk []))))])) (.seq (.seq (.reg [.q 5 (.mv (.k (.bool true)))]) (.block 0 (.loop (.seq (.seq (.reg [.v 12 5,.v 13 12,⟨some 14,(some (13,false)),.q (.mv (.t 3))⟩,⟨some 15,(some (13,false)),.q (.bin .gtr true (.t 14) (.k (.int .u64 0)))⟩,.a 16 (.pick (.t 13) (.k (.bool true)) (.t 15))]) (.cond (.t 16) .skip (.exit 0))) (.seq (.block 1 (.seq (.reg [.v 17 3,.q 18 (.bin .rem true (.t 17) (.k (.int .u64 10))),.q 19 (.bin .add true (.k (.int .u64 48)) (.t 18)),.q 20 (.cvt .u8 (.t 19)),.e 21 (.bsl 5 1 [(.t 20)]),.q 22 (.b2s (.t 21)),.v 23 4,.q 24 (.bin .add true (.t 22) (.t 23)),.v 4 24]) (.reg [.v 25 3,.q 26 (.bin .quo true (.t 25) (.k (.int .u64 10))),.v 3 26]))) (.reg [.q 5 (.mv (.k (.bool false)))])))))) (.seq (.seq (.reg [.v 27 0,.q 28 (.bin .lss true (.t 27) (.i 0))]) (.cond (.t 28) (.seq (.reg [.v 29 4,.q 30 (.bin .add true (.k (.string (mk [45]))) (.t 29)),.v 2 30]) .ret) .skip)) (.seq (.reg [.v 31 4,.v 2 31]) .ret)))
@[go_sem ↓] theorem Q7:aY pc144_4:=aZ _
def pc144:PC:=.seq (.reg [.q 2 (.mv (.k (.string (mk []))))]) (.seq (.reg [.v 6 0,.q 7 (.cvt .u64 (.t 6)),.v 3 7]) (.seq (.seq (.reg [.v 8 0,.q 9 (.bin .lss true (.t 8) (.i 0))]) (.cond (.t 9) (.reg [.v 10 3,.q 11 (.neg false (.t 10)),.v 3 11]) .skip)) (pc144_4)))
def rs144:List RV:=[.mv (.t 2)]
theorem ok144:aO Tryz.prog true ⟨fun _ _=>.own [],fun r=>[4].contains r⟩ Tryz.f144=some (pc144,rs144):=by kernel_rfl
end Go.Proofs.YtkpohmhenegkiaaGreatDoor.Pr
namespace Go.Proofs.YtkpohmhenegkiaaGreatDoor
open Go.W
def digs (n:Nat):List UInt8:=(if h:n < 10 then [] else digs (n / 10)) ++ [(48 + n % 10).toUInt8]
 termination_by n
 decreasing_by omega
theorem kR {n:Nat} (h:n < 10):digs n=[(48 + n).toUInt8]:=by
 rw [digs.eq_1,dif_pos h,Nat.mod_eq_of_lt h]; rfl
theorem pG {n:Nat} (h:10<=n):digs n=digs (n / 10) ++ [(48 + n % 10).toUInt8]:=by
 rw [digs.eq_1,dif_neg (by omega)]
theorem xC:∀ (k n:Nat),n < 10 ^ (k + 1)->(digs n).length<=k + 1
 | 0,n,h=>by rw [kR (by omega)]; simp
 | k + 1,n,h=>by
  rcases bC n 10 with h1 | h1
  · rw [kR h1]; simp
  · rw [pG h1,List.length_append]
    have:=xC k (n / 10) (by rw [Nat.pow_succ] at h; omega)
    simp; omega
def f6 (n:Int):List UInt8:=bif decide (n < 0) then 45 :: digs n.natAbs else digs n.natAbs
def qP (f:Bool) (u:Nat):List UInt8:=bif f || decide (0 < u) then digs u else []
theorem OF {f:Bool} {u:Nat} (h:(f || decide (0 < u))=true):qP f u=qP false (u / 10) ++ [(48 + u % 10).toUInt8]:=by
 unfold qP
 rw [h,aI,Bool.false_or]
 rcases bC u 10 with h1 | h1
 · rw [kR h1,Nat.mod_eq_of_lt h1,show decide (0 < u / 10)=false by simp; omega]; rfl
 · rw [pG h1,show decide (0 < u / 10)=true by simp; omega]; rfl
def yA:List S->Prop:=fun xs=>match xs with
 | [.va (.c1 (.vl (.int .i64 n)))]=>-9223372036854775808<=n/\n<=9223372036854775807
 | _=>False
theorem oY {xs:List S} (h:yA xs):∃ n:Int,xs=[iS .i64 n]/\-9223372036854775808<=n/\n<=9223372036854775807:=by
 unfold yA at h
 split at h
 · exact ⟨_,rfl,h⟩
 · exact h.elim
def RA:List S->A:=fun xs=>match xs with
 | [.va (.c1 (.vl (.int .i64 n)))]=>tA (mk (f6 n))
 | _=>.gs []
def decFn:Fun:=⟨yA,RA,fun xs h=>by obtain ⟨n,rfl,_⟩:=oY h; trivial⟩
theorem RL:∀ xs H K,decFn.sp xs H K->xs.length=1:=fun xs H K h=>by obtain ⟨n,rfl,_⟩:=oY h.1.1; rfl
attribute [go_sem ↓] yA RA decFn
theorem SK:Meets Tryz.prog 144 decFn.sp:=by
 refine aF Tryz.func144 Pr.ok144 1 (by rw [Tryz.ntmps144]; decide) (aA _) RL ?_
 intro xs H K h
 obtain ⟨⟨hp,rfl⟩,hK⟩:=h
 obtain ⟨n,rfl,hn1,hn2⟩:=oY hp
 have hK':K (tS (mk (f6 n))) []:=hK
 have rest:vc [] 0 Pr.pc144_4.ungh (gA [(0,iS .i64 n),(3,iS .u64 n.natAbs)]) [] (qB 0 Pr.rs144 K):=by
  simp -dsimp only [go_sem,Pr.pc144_4,Pr.rs144]
  refine aN (α:=Bool × Nat × List UInt8) (fun z=>[(0,iS .i64 n),(3,iS .u64 z.2.1),(4,tS (mk z.2.2)),(5,bS z.1)]) (fun _=>[]) (fun z=>z.2.1<=9223372036854775808/\qP z.1 z.2.1 ++ z.2.2=digs n.natAbs) (fun z=>2 * z.2.1 + (bif z.1 then 1 else 0)) (true,n.natAbs,[]) 0 ⟨by simp only; omega,by simp [qP]⟩ ?_ rfl ?_
  · simp [go_sem]
  rintro ⟨f,u,acc⟩ ⟨hu,hr⟩
  simp only at hu hr
  have hl:=xC 19 n.natAbs (by omega)
  rw [<-hr,List.length_append] at hl
  simp -dsimp only [go_sem]
  have hu0:decide (0 < (u:Int))=decide (0 < u):=by rw [decide_eq_decide]; omega
  have ht:(u:Int).tmod 10=(u % 10:Nat):=by rw [Int.tmod_eq_emod_of_nonneg (by omega)]; omega
  have hd:(u:Int).tdiv 10=(u / 10:Nat):=by rw [Int.tdiv_eq_ediv_of_nonneg (by omega)]; omega
  have hm:=Nat.mod_lt u (show 0 < 10 by decide)
  have hw:IntKind.u8.wrap (48 + ((u % 10:Nat):Int))=48 + ((u % 10:Nat):Int):=nH (by simp [inr,IntKind.min,IntKind.max,IntKind.signed,IntKind.bits]; omega)
  rw [hu0,ht,hd,hw]
  have hb:kF [[C.vl (Value.int IntKind.u8 (48 + ((u % 10:Nat):Int)))]]=[(48 + u % 10).toUInt8]:=by
   show [UInt8.ofNat (48 + ((u % 10:Nat):Int)).toNat]=_
   rw [show (48 + ((u % 10:Nat):Int)).toNat=48 + u % 10 by omega]
  rw [hb]
  refine ⟨fun hf=>⟨by decide,by omega,rfl,by simp; omega,⟨by decide,by omega⟩,?_⟩,fun hf=>⟨fun h0=>⟨by omega,?_⟩,fun h0=>?_⟩⟩
  · rw [OF hf,List.append_assoc] at hr
    refine aE (false,u / 10,[(48 + u % 10).toUInt8] ++ acc) 0 ⟨by simp only; omega,hr⟩ ?_ ?_ rfl
    · cases f with
      | true=>simp only [aI,aG]; omega
      | false=>simp at hf; simp only [aG]; omega
    · simp [go_sem]
  · have:acc=digs n.natAbs:=by rw [<-hr]; simp [qP,hf]
    refine .done ?_
    rw [this]
    simpa [f6,h0] using hK'
  · have:acc=digs n.natAbs:=by rw [<-hr]; simp [qP,hf]
    refine .done ?_
    rw [this]
    simpa [f6,h0] using hK'
 simp -dsimp only [go_sem,Pr.pc144,Pr.rs144]
 have w:∀ m:Int,IntKind.u64.wrap m=m % 18446744073709551616:=fun m=>by simp [IntKind.wrap,IntKind.signed,IntKind.bits]
 refine ⟨fun h0=>j0 0 rest ?_ rfl,fun h0=>j0 0 rest ?_ rfl⟩
 · simp at h0
   simp [go_sem,w]
   omega
 · simp at h0
   simp [go_sem,w]
   omega
def kC (c:UInt8):List UInt8:=bif c == 34 || c == 92 then [92,c] else [c]
def iH (l:List UInt8) (i:Nat):List UInt8:=34 :: (l.take i).flatMap kC
def jO (l:List UInt8):List UInt8:=34 :: l.flatMap kC ++ [34]
theorem RM {l:List UInt8} {i:Nat} {c:UInt8} (h:l[i]? = some c):iH l (i + 1)=iH l i ++ kC c:=by
 unfold iH
 rw [List.take_add_one,h]
 simp
theorem SF (c:UInt8):(kC c).length<=2:=by unfold kC; cases c == 34 || c == 92<;>simp
theorem CT (l:List UInt8):(l.flatMap kC).length<=2 * l.length:=by
 induction l with
 | nil=>simp
 | cons c l ih=>have:=SF c; simp only [List.flatMap_cons,List.length_append,List.length_cons]; omega
theorem UY (l:List UInt8) (i:Nat):(iH l i).length<=1 + 2 * l.length:=by
 have:=CT (l.take i)
 simp only [iH,List.length_cons]
 simp only [List.length_take] at this
 omega
theorem S3 (l:List UInt8):iH l l.length ++ [34]=jO l:=by unfold iH jO; rw [List.take_length]
def zI:List S->Prop:=fun xs=>match xs with
 | [.va (.c1 (.vl (.string s)))]=>(bl s).length<=10000000
 | _=>False
theorem oI {xs:List S} (h:zI xs):∃ s,xs=[tS s]/\(bl s).length<=10000000:=by
 unfold zI at h
 split at h
 · exact ⟨_,rfl,h⟩
 · exact h.elim
def Q5:List S->A:=fun xs=>match xs with
 | [.va (.c1 (.vl (.string s)))]=>tA (mk (jO (bl s)))
 | _=>.gs []
def quoFn:Fun:=⟨zI,Q5,fun xs h=>by obtain ⟨s,rfl,_⟩:=oI h; trivial⟩
theorem PO:∀ xs H K,quoFn.sp xs H K->xs.length=1:=fun xs H K h=>by obtain ⟨s,rfl,_⟩:=oI h.1.1; rfl
attribute [go_sem ↓] zI Q5 quoFn
theorem HG (l:List UInt8):kF (l.map gV)=l:=by
 simp only [kF,List.map_map]
 conv=>rhs; rw [<-List.map_id l]
 apply List.map_congr_left
 intro c _
 simp [C.gi,gV]
theorem aAB:Meets Tryz.prog 145 quoFn.sp:=by
 refine aF Tryz.func145 aIO 1 (by rw [Tryz.ntmps145]; decide) (aA _) PO ?_
 intro xs H K h
 obtain ⟨⟨hp,rfl⟩,hK⟩:=h
 obtain ⟨s,rfl,hs⟩:=oI hp
 have hK':K (tS (mk (jO (bl s)))) []:=hK
 have h34:∀ c:UInt8,((c.toNat:Int) == 34)=(c == 34):=fun c=>sY 34
 have h92:∀ c:UInt8,((c.toNat:Int) == 92)=(c == 92):=fun c=>sY 92
 simp -dsimp only [go_sem,WA,WN]
 refine aN (α:=Nat) (fun i=>[(0,tS s),(3,.va (.c1 (.sl 0 (iH (bl s) i).length))),(7,iS .i64 (bl s).length),(8,iS .i64 i)]) (fun i=>[.row ((iH (bl s) i).map gV) 5 1]) (fun i=>i<=(bl s).length) (fun i=>(bl s).length - i) 0 1 (by omega) ?_ (by simp [go_sem,iH]) ?_
 · simp [go_sem,iH]
 intro i hi
 have hl:=UY (bl s) i
 simp -dsimp only [go_sem,h34,h92]
 have hap:∀ (l:List UInt8) (c:UInt8),l.map gV ++ [[C.vl (.int .u8 c.toNat)]]=(l ++ [c]).map gV:=fun l c=>by rw [List.map_append]; rfl
 have hap34:(iH (bl s) i).map gV ++ [[C.vl (.int .u8 34)]]=(iH (bl s) i ++ [34]).map gV:=hap _ 34
 have hap92:(iH (bl s) i).map gV ++ [[C.vl (.int .u8 92)]]=(iH (bl s) i ++ [92]).map gV:=hap _ 92
 refine ⟨fun h1=>?_,fun h1=>?_⟩
 · simp at h1
   refine ⟨by omega,fun c hc=>⟨fun _=>by omega,fun d hd=>?_⟩⟩
   have hE:(c == 34 || d == 92)=(c == 34 || c == 92):=by
    cases h7:c == 34 with
    | true=>rfl
    | false=>
     have:=hd h7
     rw [hc] at this
     obtain rfl:=bR this
     rfl
   have hst:=RM hc
   rw [hE]
   unfold kC at hst
   refine ⟨fun h2=>⟨by omega,by omega,fun e he=>?_⟩,fun h2=>⟨by omega,fun e he=>?_⟩⟩
   · rw [hc] at he
     obtain rfl:=bR he
     rw [h2,aI] at hst
     have hst':iH (bl s) (i + 1)=iH (bl s) i ++ [92] ++ [c]:=by rw [hst,List.append_assoc]; rfl
     refine ⟨by omega,by omega,?_⟩
     refine aE (i + 1) 1 (by omega) (by omega) ?_ ?_
     · simp -dsimp only [go_sem,hst']
       simp
     · simp -dsimp only [go_sem,hst',List.map_cons,List.map_nil]
       rfl
   · rw [hc] at he
     obtain rfl:=bR he
     rw [h2,aG] at hst
     refine ⟨by omega,by omega,?_⟩
     refine aE (i + 1) 1 (by omega) (by omega) ?_ ?_
     · simp -dsimp only [go_sem,hst]
       simp
     · simp -dsimp only [go_sem,hst,List.map_cons,List.map_nil]
 · simp at h1
   obtain rfl:i=(bl s).length:=by omega
   rw [hap34,HG,S3]
   refine ⟨by omega,fun r hr=>?_,.sel [] (by simp) (by simp) rfl (.done hK')⟩
   obtain ⟨c,_,rfl⟩:=List.mem_map.1 hr
   rfl
def N7:W.Spec:=fun av H K=>
 match av,H with
 | [.va (.c1 (.pt 0 0)),.va (.c1 (.vl (.string s)))],[.cells [p,.sl 1 n] 146,.row xs 5 1]=>(jM p n xs/\(bl s).length<=1000000000)/\
  K (.tu [iA .i64 (bl s).length,.c1 (.vl .nilIface)]) [.cells [.pt 0 0,.sl 1 (n + (bl s).length)] 146,.row (xs ++ (bl s).map gV) 5 1]
 | _,_=>False
theorem DH {av:List S} {H:Hp} {K:S->Hp->Prop} (h:N7 av H K):∃ p n xs s,av=[.va (.c1 (.pt 0 0)),tS s]/\H=[.cells [p,.sl 1 n] 146,.row xs 5 1]/\jM p n xs/\(bl s).length<=1000000000/\
 K (.tu [iA .i64 (bl s).length,.c1 (.vl .nilIface)]) [.cells [.pt 0 0,.sl 1 (n + (bl s).length)] 146,.row (xs ++ (bl s).map gV) 5 1]:=by
 unfold N7 at h
 split at h
 · exact ⟨_,_,_,_,rfl,rfl,h.1.1,h.1.2,h.2⟩
 · exact h.elim
attribute [go_sem ↓] N7
theorem IM:Meets Tryz.prog 124 N7:=by
 refine aF Tryz.func124 Pr.ok124 2 (by rw [Tryz.ntmps124]; decide) (aB xU (aA _)) (fun av H K h=>by obtain ⟨_,_,_,_,rfl,_⟩:=DH h; rfl) ?_
 intro av H K h
 obtain ⟨p,n,xs,s,rfl,rfl,hp,hs,hK⟩:=DH h
 obtain ⟨hp1,rfl,hp2,hp3⟩:=hp
 rcases hp1 with rfl | rfl
 all_goals
  simp -dsimp only [go_sem,Pr.pc124,Pr.rs124] at hK ⊢
  exact ⟨⟨by simp,rfl,hp2,hp3⟩,by omega,.done hK⟩
def gT (c:UInt8):Bool:=decide (32<=c) && decide (c<=126)
def fM (k:Int) (x:List UInt8) (n:Int):List UInt8:=bif k == 1 then x else bif k == 2 then f6 n else bif k == 3 then jO x else bif k == 4 then x else []
def kM (k:Int) (x:List UInt8) (n:Int):Bool:=
 bif k == 1 then n == 0 && cF x else bif k == 2 then x == [] else bif k == 3 then n == 0 && (decide (x.length<=200) && x.all gT) else bif k == 4 then n == 0 && (match x with | [c]=>eF c.toNat | _=>false) else false
def zZ:W.Spec:=fun xs H K=>
 match xs with
 | [.va (.gs [.vl (.int .i64 k),.vl (.string x),.vl (.int .i64 n),.vl (.int .i64 _)])]=>(H=[]/\(-9223372036854775808<=n/\n<=9223372036854775807)/\(bl x).length<=10000000)/\K (.tu [tA (mk (fM k (bl x) n)),bA (kM k (bl x) n)]) []
 | _=>False
theorem AH {xs:List S} {H:Hp} {K:S->Hp->Prop} (h:zZ xs H K):∃ k x n a,xs=[.va (.gs (nP k x n a))]/\H=[]/\(-9223372036854775808<=n/\n<=9223372036854775807)/\(bl x).length<=10000000/\K (.tu [tA (mk (fM k (bl x) n)),bA (kM k (bl x) n)]) []:=by
 unfold zZ at h
 split at h
 · exact ⟨_,_,_,_,rfl,h.1.1,h.1.2.1,h.1.2.2,h.2⟩
 · exact h.elim
theorem Q0:∀ xs H K,zZ xs H K->xs.length=1:=fun xs H K h=>by obtain ⟨_,_,_,_,rfl,_⟩:=AH h; rfl
attribute [go_sem ↓] zZ
theorem SN:Meets Tryz.prog 121 zZ:=by
 refine aF Tryz.func121 aHD 1 (by rw [Tryz.ntmps121]; decide) (aJ ZP (aJ SK (aJ aAB (aJ IJ (aA _))))) Q0 ?_
 intro xs H K h
 obtain ⟨k,x,n,a,rfl,rfl,hn,hx,hK⟩:=AH h
 simp -dsimp only [go_sem,XI,V3]
 have fin:∀ (H':Hp) (y:ByteArray) (b:Bool),y=mk (fM k (bl x) n)->b=kM k (bl x) n->W.Fin 0 K (.tu [tA y,bA b]) H':=fun H' y b h1 h2=>by
  subst h1; subst h2
  exact .sel [] (by simp) (by simp) rfl (.done hK)
 refine ⟨fun h1=>fin _ _ _ (by simp [fM,h1]) (by simp [kM,h1]),fun h1=>⟨fun h2=>⟨hn,fin _ _ _ (by simp [fM,h1,h2]) (by simp [kM,h1,h2])⟩,fun h2=>⟨fun h3=>?_,fun h3=>⟨fun h4=>?_,fun h4=>fin _ _ _ (by simp [fM,h1,h2,h3,h4]) (by simp [kM,h1,h2,h3,h4])⟩⟩⟩⟩
 · refine aN (α:=Nat) (fun i=>[(1,.va (.c1 (.pt 0 0))),(4,bS (n == 0 && (decide ((bl x).length<=200) && ((bl x).take i).all gT))),(41,iS .i64 (bl x).length),(42,iS .i64 i)]) (fun _=>[.cells (nP k x n a) 71]) (fun i=>i<=(bl x).length) (fun i=>(bl x).length - i) 0 1 (by omega) ?_ (by simp [go_sem]) ?_
   · simp [go_sem]
     congr 1
     rw [decide_eq_decide]; omega
   intro i hi
   simp -dsimp only [go_sem]
   refine ⟨fun h5=>⟨fun _=>by simp at h5; omega,fun c hc=>⟨fun _=>by simp at h5; omega,fun d hd=>⟨by omega,aE (i + 1) 1 (by simp at h5; omega) (by simp at h5; omega) ?_ (by simp [go_sem])⟩⟩⟩,fun h5=>?_⟩
   · have hE:(n == 0 && (decide ((bl x).length<=200) && (List.take i (bl x)).all gT) && decide (32<=(c.toNat:Int)) && decide ((d.toNat:Int)<=126))=(n == 0 && (decide ((bl x).length<=200) && (List.take (i + 1) (bl x)).all gT)):=by
      have hlt:i < (bl x).length:=by simp at h5; omega
      have hg:=aU hlt
      rw [List.take_add_one,hg,List.all_append]
      generalize (bl x)[i]=e at hg
      simp only [Option.toList_some,List.all_cons,List.all_nil,Bool.and_true]
      have hb:∀ p q r s:Bool,(p && (q && (r && s)))=(p && (q && r) && s):=by decide
      rw [hb]
      generalize (n == 0 && (decide ((bl x).length<=200) && (List.take i (bl x)).all gT))=g at hc hd ⊢
      cases g with
      | false=>rfl
      | true=>
       obtain rfl:e=c:=by have:=hc rfl; rw [hg] at this; exact bR this
       have e32:decide (32<=(e.toNat:Int))=decide (32<=e):=by rw [decide_eq_decide,UInt8.le_iff_toNat_le]; show _ ↔ 32<=e.toNat; omega
       have e126:∀ d:UInt8,decide ((d.toNat:Int)<=126)=decide (d<=126):=fun d=>by rw [decide_eq_decide,UInt8.le_iff_toNat_le]; show _ ↔ d.toNat<=126; omega
       rw [e32] at hd ⊢
       rw [e126]
       unfold gT
       cases h6:decide (32<=e) with
       | false=>rfl
       | true=>
        rw [h6] at hd
        obtain rfl:e=d:=by have:=hd rfl; rw [hg] at this; exact bR this
        rfl
     rw [<-hE]
     simp [go_sem]
   · obtain rfl:i=(bl x).length:=by simp at h5; omega
     rw [List.take_length]
     exact ⟨hx,fin _ _ _ (by simp [fM,h1,h2,h3]) (by simp [kM,h1,h2,h3])⟩
 · refine ⟨fun h5=>by simp at h5; omega,fun c hc=>⟨fun _=>by have:=c.toNat_lt; omega,fin _ _ _ (by simp [fM,h1,h2,h3,h4]) ?_⟩⟩
   rw [aCL]
   simp only [kM,h1,h2,h3,h4,aI,aG]
   cases h6:n == 0 with
   | false=>rfl
   | true=>
    rw [h6] at hc
    cases hb:bl x with
    | nil=>rfl
    | cons d r=>
     rw [hb] at hc
     cases r with
     | nil=>
      obtain rfl:d=c:=by simpa using hc
      rfl
     | cons e r=>
      have:((((d :: e :: r).length:Nat):Int) == 1)=false:=by simp; omega
      rw [this]; rfl
structure Tx where
 k:Int
 x:List UInt8
 n:Int
 a:Int
abbrev CP (t:Tx):List C:=nP t.k (mk t.x) t.n t.a
structure TkFit (t:Tx):Prop where
 lo:-9223372036854775808<=t.n
 hi:t.n<=9223372036854775807
 len:t.x.length<=100000
def r8 (acc:List UInt8) (t:Tx):List UInt8:=bif kM t.k t.x t.n then acc ++ (bif (acc == []) then [] else [32]) ++ fM t.k t.x t.n else acc
def lO (ts:List Tx):List UInt8:=ts.foldl r8 []
def d8 (ts:List Tx) (i:Nat):List UInt8:=(ts.take i).foldl r8 []
theorem u2 {ts:List Tx} {i:Nat} {t:Tx} (h:ts[i]? = some t):d8 ts (i + 1)=r8 (d8 ts i) t:=by
 unfold d8
 rw [List.take_add_one,h,List.foldl_append]; rfl
theorem yJ (ts:List Tx):d8 ts ts.length=lO ts:=by unfold d8 lO; rw [List.take_length]
theorem IZ {n:Int} (h1:-9223372036854775808<=n) (h2:n<=9223372036854775807):(f6 n).length<=21:=by
 have:=xC 19 n.natAbs (by omega)
 unfold f6
 cases decide (n < 0)<;>simp<;>omega
theorem GN {t:Tx} (h:TkFit t):(fM t.k t.x t.n).length<=200002:=by
 have h1:=IZ h.lo h.hi
 have h2:=CT t.x
 have h3:=h.len
 unfold fM jO
 cases t.k == 1<;>cases t.k == 2<;>cases t.k == 3<;>cases t.k == 4<;>simp -dsimp only [aI,aG,List.length_append,List.length_cons,List.length_nil]<;>omega
theorem U5 {acc:List UInt8} {t:Tx} (h:TkFit t):(r8 acc t).length<=acc.length + 200003:=by
 have:=GN h
 unfold r8
 cases kM t.k t.x t.n<;>cases (acc == [])<;>simp<;>omega
theorem y7 {ts:List Tx} (h:∀ t ∈ ts,TkFit t):∀ i,i<=ts.length->(d8 ts i).length<=i * 200003
 | 0,_=>by simp [d8]
 | i + 1,hi=>by
  have h1:=y7 h i (by omega)
  have hg:ts[i]? = some ts[i]:=aU (by omega)
  rw [u2 hg]
  have:=U5 (acc:=d8 ts i) (h _ (bM hg))
  omega
def H8:List S->Prop:=fun xs=>match xs with
 | [.va (.c1 (.fz rs))]=>∃ ts:List Tx,rs=ts.map CP/\ts.length<=4001/\∀ t ∈ ts,TkFit t
 | _=>False
theorem oQ {xs:List S} (h:H8 xs):∃ ts:List Tx,xs=[.va (.c1 (.fz (ts.map CP)))]/\ts.length<=4001/\∀ t ∈ ts,TkFit t:=by
 unfold H8 at h
 split at h
 · obtain ⟨ts,rfl,h1,h2⟩:=h
   exact ⟨_,rfl,h1,h2⟩
 · exact h.elim
def C.tk (r:List C):Tx:=match r with
 | [.vl (.int .i64 k),.vl (.string x),.vl (.int .i64 n),.vl (.int .i64 a)]=>⟨k,bl x,n,a⟩
 | _=>⟨0,[],0,0⟩
theorem aCW (t:Tx):C.tk (CP t)=t:=rfl
def G6:List S->A:=fun xs=>match xs with
 | [.va (.c1 (.fz rs))]=>tA (mk (lO (rs.map C.tk)))
 | _=>.gs []
theorem sA (ts:List Tx):G6 [.va (.c1 (.fz (ts.map CP)))]=tA (mk (lO ts)):=by
 show tA (mk (lO ((ts.map CP).map C.tk)))=_
 rw [List.map_map,show (C.tk ∘ CP)=id from funext aCW,List.map_id]
def prtFn:Fun:=⟨H8,G6,fun xs h=>by obtain ⟨ts,rfl,_⟩:=oQ h; rw [sA]; trivial⟩
theorem PR:∀ xs H K,prtFn.sp xs H K->xs.length=1:=fun xs H K h=>by obtain ⟨ts,rfl,_⟩:=oQ h.1.1; rfl
theorem aCG:Meets Tryz.prog 96 prtFn.sp:=by
 refine aF Tryz.func96 Pr.ok96 1 (by rw [Tryz.ntmps96]; decide) (aB SN (aB aBL (aB xK (aB IM (aB LB (aA _)))))) PR ?_
 intro xs H K h
 obtain ⟨⟨hp,rfl⟩,hK⟩:=h
 obtain ⟨ts,rfl,h60,hf⟩:=oQ hp
 have hK':K (tS (mk (lO ts))) []:=by have:=hK; rw [show prtFn.val=G6 from rfl,sA] at this; exact this
 simp -dsimp only [go_sem,Pr.pc96,Pr.rs96]
 refine eE (α:=C × Nat) (fun z=>[(3,.va (.c1 (.pt 0 0))),(8,.va (.c1 (.fz (ts.map CP)))),(9,iS .i64 ts.length),(10,iS .i64 z.2)])
  (fun z=>[.cells [z.1,.sl 1 (d8 ts z.2).length] 146,.row ((d8 ts z.2).map gV) 5 1])
  (fun z=>(z.1=.vl (.pointer none)\/z.1=.pt 0 0)/\z.2<=ts.length) (fun z=>ts.length - z.2)
  (.nilc 0 1 5 1 _ _ rfl rfl (mK (.vl (.pointer none),0) 2 ⟨.inl rfl,by simp only; omega⟩ ?_ ?_)) ?_
 · simp [go_sem]
 · simp -dsimp only [go_sem]; simp [d8]
 rintro ⟨p,i⟩ ⟨hp,hi⟩
 simp only at hp hi
 have hl:=y7 hf i hi
 have hby:∀ (l:List UInt8),∀ r ∈ l.map gV,∃ c:UInt8,r=gV c:=fun l r hr=>by obtain ⟨c,_,rfl⟩:=List.mem_map.1 hr; exact ⟨c,rfl⟩
 have hI:∀ (p:C) (l:List UInt8),(p=.vl (.pointer none)\/p=.pt 0 0)->l.length<=1000000000->jM p l.length (l.map gV):=fun p l h1 h2=>⟨h1,by simp,hby l,by simpa using h2⟩
 have hap:∀ (l:List UInt8),l.map gV ++ [[C.vl (.int .u8 32)]]=(l ++ [32]).map gV:=fun l=>by rw [List.map_append]; rfl
 rcases hp with rfl | rfl
 all_goals
  simp -dsimp only [go_sem,aAR]
  refine ⟨fun h1=>⟨by simp at h1; omega,fun t ht=>?_⟩,fun h1=>?_⟩
  · have hft:=hf t (bM ht)
    have hlx:=hft.len
    have hxl:=GN hft
    have hst:=u2 ht
    have hlt:i < ts.length:=by simp at h1; omega
    refine ⟨⟨⟨hft.lo,hft.hi⟩,by omega⟩,fun h2=>⟨by omega,?_⟩,fun h2=>?_⟩
    · simp only [r8,h2,aG] at hst
      first
       | (refine aE (C.vl (.pointer none),i + 1) 2 ⟨.inl rfl,hlt⟩ (by simp only; omega) (by simp [go_sem]) ?_; simp -dsimp only [go_sem,hst]; done)
       | (refine aE (C.pt 0 0,i + 1) 2 ⟨.inr rfl,hlt⟩ (by simp only; omega) (by simp [go_sem]) ?_; simp -dsimp only [go_sem,hst]; done)
    · have h2':kM t.k t.x t.n=true:=by simpa using h2
      simp only [r8,h2',aI] at hst
      refine ⟨hI _ _ (by simp) (by omega),fun h3=>?_,fun h3=>?_⟩
      · have hne:(d8 ts i == [])=false:=by
         cases hq:d8 ts i with
         | nil=>rw [hq] at h3; simp at h3
         | cons c l=>rfl
        rw [hne,aG] at hst
        have hB:jM (C.pt 0 0) ((d8 ts i).length + 1) ((d8 ts i).map gV ++ [[C.vl (.int .u8 32)]]):=by
         rw [hap]
         have:=hI (.pt 0 0) (d8 ts i ++ [32]) (.inr rfl) (by simp; omega)
         simpa only [List.length_append,List.length_cons,List.length_nil] using this
        refine ⟨⟨hI _ _ (by simp) (by omega),by omega⟩,⟨hB,by omega⟩,by omega,aE (C.pt 0 0,i + 1) 2 ⟨.inr rfl,hlt⟩ (by simp only; omega) (by simp [go_sem]) ?_⟩
        simp -dsimp only [go_sem,hst,List.map_cons,List.map_nil]
        rfl
      · have hne:(d8 ts i == [])=true:=by
         cases hq:d8 ts i with
         | nil=>rfl
         | cons c l=>rw [hq] at h3; simp at h3
        rw [hne,aI,List.append_nil] at hst
        refine ⟨⟨hI _ _ (by simp) (by omega),by omega⟩,by omega,aE (C.pt 0 0,i + 1) 2 ⟨.inr rfl,hlt⟩ (by simp only; omega) (by simp [go_sem]) ?_⟩
        simp -dsimp only [go_sem,hst]
  · obtain rfl:i=ts.length:=by simp at h1; omega
    rw [HG,yJ]
    exact ⟨hI _ _ (by simp) (by rw [yJ] at hl; omega),.sel [] (by simp) (by simp) rfl (.done hK')⟩
theorem HO {l x rest:List UInt8} {a:Nat} (h:l.drop a=x ++ rest):(l.take (a + x.length)).drop a=x:=by
 rw [List.drop_take,h,Nat.add_sub_cancel_left,List.take_left]
theorem FX {l x rest:List UInt8} {a:Nat} (h:l.drop a=x ++ rest) (j:Nat):l[a + x.length + j]? = rest[j]?:=by
 have:(l.drop a)[x.length + j]? = rest[j]?:=by rw [h,List.getElem?_append_right (by omega)]; congr 1; omega
 rw [<-this,List.getElem?_drop]; congr 1; omega
theorem sZ {l x:List UInt8} {a:Nat} {c:UInt8} (h:l.drop a=c :: x):l[a]? = some c:=by
 have:(l.drop a)[0]? = some c:=by rw [h]; rfl
 rwa [List.getElem?_drop,Nat.add_zero] at this
theorem LC {l x:List UInt8} {a:Nat} {c:UInt8} (h:l.drop a=c :: x):l.drop (a + 1)=x:=by
 rw [<-List.drop_drop,h]; rfl
theorem DO {l rest:List UInt8} {a:Nat} {c:UInt8} (h:l.drop a=c :: rest) (hx:eF c.toNat=true):eH l a=.ok 4 [c] 0 (a + 1)/\∃ c,l[a]? = some c/\(c == 32 || c == 9 || c == 10)=false/\(c == 35)=false:=by
 have hc:=sZ h
 have hsk:=cE (p:=fun c=>!(eF c.toNat) || ((!(c == 32 || c == 9 || c == 10) && !(c == 35)) && (!(bD c.toNat) && !(bH c || c == 45) && !(c == 34)))) (by decide +kernel) c
 simp only [hx,Bool.not_true,Bool.false_or,Bool.and_eq_true,Bool.not_eq_true'] at hsk
 obtain ⟨h1,⟨h2,h3⟩,h4⟩:=hsk
 exact ⟨by simp only [eH,hc,h2,h3,h4,hx,aI,aG],c,hc,h1⟩
theorem KE:∀ (x rest out:List UInt8) (i:Nat),x.all gT=true->quoL i (x.flatMap kC ++ 34 :: rest) out=(i + (x.flatMap kC).length + 1,some (out ++ x))
 | [],rest,out,i,_=>by
  rw [List.flatMap_nil,List.nil_append,gJ]
  simp
 | c :: x,rest,out,i,h=>by
  rw [List.all_cons,Bool.and_eq_true] at h
  obtain ⟨h1,h2⟩:=h
  have ih:=fun i out=>KE x rest out i h2
  rw [List.flatMap_cons,List.append_assoc]
  unfold gT at h1
  have hlo:(decide (c < 32) || decide (126 < c))=false:=by
   simp only [Bool.and_eq_true,decide_eq_true_eq,UInt8.le_iff_toNat_le] at h1
   simp only [Bool.or_eq_false_iff,decide_eq_false_iff_not,UInt8.lt_iff_toNat_lt]
   exact ⟨by omega,by omega⟩
  rw [show kC c=bif c == 34 || c == 92 then [92,c] else [c] from rfl]
  cases hq:(c == 34 || c == 92) with
  | true=>
   rw [aI,List.cons_append,gJ]
   have e1:(decide ((92:UInt8) < 32) || decide ((126:UInt8) < 92))=false:=by decide
   have e2:((92:UInt8) == 34)=false:=by decide
   have e3:((92:UInt8) == 92)=true:=by decide
   rw [e1,e2,e3]
   simp only [aI,aG,List.cons_append,List.nil_append,hq]
   rw [ih]
   simp; omega
  | false=>
   simp only [Bool.or_eq_false_iff] at hq
   rw [aG,List.cons_append,List.nil_append,gJ,hlo,hq.1,hq.2]
   simp only [aG]
   rw [ih]
   simp; omega
theorem CQ {l x rest:List UInt8} {a:Nat} (h:l.drop a=jO x ++ rest) (hl:x.length<=200) (hx:x.all gT=true):eH l a=.ok 3 x 0 (a + (jO x).length)/\∃ c,l[a]? = some c/\(c == 32 || c == 9 || c == 10)=false/\(c == 35)=false:=by
 have h':l.drop a=34 :: (x.flatMap kC ++ 34 :: rest):=by rw [h]; simp [jO]
 have hc:=sZ h'
 refine ⟨?_,34,hc,by decide,by decide⟩
 have e1:bD ((34:UInt8).toNat:Int)=false:=by decide
 have e2:(bH 34 || (34:UInt8) == 45)=false:=by decide
 have h200:decide (200 < x.length)=false:=by simp; omega
 simp only [eH,hc,e1,e2,aG,i6,LC h',KE x rest [] (a + 1) hx,List.nil_append,h200]
 simp [jO]
 omega
theorem vY:∀ (k m:Nat),m < 10 ^ (k + 1)->∀ c ∈ digs m,bH c=true
 | 0,m,h=>fun c hc=>by
  rw [kR (by omega)] at hc
  simp only [List.mem_cons,List.not_mem_nil,or_false] at hc
  subst hc
  rw [kY,UInt8.toNat_ofNat']
  omega
 | k + 1,m,h=>fun c hc=>by
  rcases bC m 10 with h1 | h1
  · exact vY 0 m (by omega) c hc
  · rw [pG h1,List.mem_append] at hc
    rcases hc with hc | hc
    · exact vY k (m / 10) (by rw [Nat.pow_succ] at h; omega) c hc
    · simp only [List.mem_cons,List.not_mem_nil,or_false] at hc
      subst hc
      rw [kY,UInt8.toNat_ofNat']
      omega
theorem B1 (m:Nat):digs m ≠ []:=by rw [digs.eq_1]; simp
theorem s9:∀ (k m:Nat),m < 10 ^ (k + 1)->0 < m->(digs m)[0]? ≠ some 48
 | 0,m,h,h0=>by
  rw [kR (by omega)]
  simp only [List.getElem?_cons_zero,ne_eq,aH]
  intro e
  have:=congrArg UInt8.toNat e
  rw [UInt8.toNat_ofNat'] at this
  have:(48 + m) % 256=48:=this
  omega
 | k + 1,m,h,h0=>by
  rcases bC m 10 with h1 | h1
  · exact s9 0 m (by omega) h0
  · rw [pG h1,List.getElem?_append_left (List.length_pos_iff.2 (B1 _))]
    exact s9 k (m / 10) (by rw [Nat.pow_succ] at h; omega) (by omega)
theorem IF (c:UInt8):∀ (l:List UInt8) (n:Nat),decV n (l ++ [c])=10 * decV n l + (c.toNat - 48)
 | [],n=>by rw [List.nil_append,jY,nE,nE]
 | d :: l,n=>by rw [List.cons_append,jY,jY,IF c l]
theorem rX:∀ (k m:Nat),m < 10 ^ (k + 1)->decV 0 (digs m)=m
 | 0,m,h=>by
  rw [kR (by omega),jY,nE,UInt8.toNat_ofNat']
  omega
 | k + 1,m,h=>by
  rcases bC m 10 with h1 | h1
  · exact rX 0 m (by omega)
  · rw [pG h1,IF,rX k (m / 10) (by rw [Nat.pow_succ] at h; omega),UInt8.toNat_ofNat']
    omega
abbrev okT (t:Tx):Bool:=kM t.k t.x t.n
abbrev sI (t:Tx):List UInt8:=fM t.k t.x t.n
abbrev FV (t:Tx):Int × List UInt8 × Int:=(t.k,t.x,t.n)
abbrev iO (t:Tk):Int × List UInt8 × Int:=(t.k,t.x,t.n)
def sU:PC:=.seq (.seq (.gh (.reg [.v 25 7,.q 26 (.nc (.t 25)),.q 27 (.fa 4 (.t 26)),.l 28 (.ld1 (.t 27)),.v 29 28,⟨some 30,(some (29,false)),.q (.mv (.t 8))⟩,⟨some 31,(some (29,false)),.q (.lnS (.t 30))⟩,⟨some 32,(some (29,false)),.q (.bin .gtr true (.t 31) (.i 4000))⟩,.a 33 (.pick (.t 29) (.k (.bool true)) (.t 32))])) (.cond (.t 33) (.seq (.reg [.q 6 (.mv (.k (.string (mk []))))]) .ret) .skip)) (.seq (.reg [.v 34 8,.v 6 34]) .ret)
@[go_sem ↓] theorem aOO:aY sU:=aZ _
def IX:PC:=.seq (.gh (.ord  [.q (.q 17 (.fa 0 (.t 4))),.q (.l 18 (.ld1 (.t 17))),.q (.v 21 7),.q (.l 22 (.ldn 4 (.t 4))),.q (.l 23 (.ldn 5 (.t 5))),.m (.a 19 (.cl 24 [(.t 18)] [])),.rc (.v 21 7),.rc (.l 22 (.ldn 4 (.t 4))),.rc (.l 23 (.ldn 5 (.t 5))),.q (.q 20 (.fld1 0 (.t 19))),.m (.a 24 (.ca (.t 20) [(.t 21),(.t 22),(.t 23)] [3])),.m (.v 8 24)])) (sU)
@[go_sem ↓] theorem aME:aY IX:=aZ _
def TR:PC:=.seq (.reg [.e 3 (.bx 25 (.t 0)),.e 4 (.bx 28 (.t 1)),.e 5 (.bx 32 (.t 2)),.q 6 (.mv (.k (.string (mk []))))]) (.seq (.seq (.reg [.l 9 (.ldn 3 (.t 3)),.l 10 (.ldn 4 (.t 4)),.l 11 (.ldn 5 (.t 5)),.a 12 (.cq 23 [(.t 9),(.t 10),(.t 11)]),.q 13 (.bin .neq true (.t 12) (.i 0))]) (.cond (.t 13) (.seq (.reg [.q 6 (.mv (.k (.string (mk []))))]) .ret) .skip)) (.seq (.reg [.l 14 (.ldn 3 (.t 3)),.q 15 (.bd [(.int .i64 0),(.slice none 0 0),(.slice none 0 0),(.pointer none),(.bool false),(.int .i64 0)] [(0,3,(.t 14))]),.e 16 (.bx 62 (.t 15)),.v 7 16]) (IX)))
def R7:List RV:=[.mv (.t 6)]
theorem aNO:aO Tryz.prog true ⟨fun r k=>if r=1/\k=3 then .q else if r=4/\k=7 then .own [3] else .own [],fun r=>[4,5].contains r⟩ Tryz.f11=some (TR,R7):=by kernel_rfl
def ID:PC:=.gh (.reg [.v 46 12,.a 47 (.cl 31 [(.t 46)] [4,3])])
@[go_sem ↓] theorem aLA:aY ID:=aZ _
def m6:PC:=.seq (.gh (.reg [.v 61 14,.q 62 (.bin .neq true (.t 61) (.i 0))])) (.cond (.t 62) (.seq (.reg [.q 63 (.bd [(.int .i64 0),(.int .i64 0),(.string (mk [])),(.slice none 0 0),(.slice none 0 0)] []),.v 64 14,.s (.st 5 (.t 6) (.t 63)),.v 7 64,.q 8 (.mv (.i 0))]) .ret) .skip)
@[go_sem ↓] theorem aJY:aY m6:=aZ _
def uJ:PC:=.seq (.seq (.gh (.reg [.l 57 (.ldn 3 (.t 3)),.l 58 (.ldn 4 (.t 4)),.l 59 (.ldn 5 (.t 13)),.a 60 (.cq 23 [(.t 57),(.t 58),(.t 59)]),.v 14 60])) (m6)) (.seq (.reg [.l 65 (.ldn 5 (.t 13)),.s (.st 5 (.t 6) (.t 65)),.q 7 (.mv (.i 0)),.q 8 (.mv (.i 0))]) .ret)
@[go_sem ↓] theorem aJS:aY uJ:=aZ _
def m8:PC:=.seq (.seq (.gh (.reg [.v 48 12,.q 49 (.nc (.t 48)),.q 50 (.fa 4 (.t 49)),.l 51 (.ld1 (.t 50))])) (.cond (.t 51) (.seq (.ord  [.q (.q 52 (.bd [(.int .i64 0),(.int .i64 0),(.string (mk [])),(.slice none 0 0),(.slice none 0 0)] [])),.q (.v 53 12),.q (.q 54 (.nc (.t 53))),.q (.q 55 (.fa 5 (.t 54))),.q (.l 56 (.ld1 (.t 55))),.m (.s (.st 5 (.t 6) (.t 52))),.rc (.v 53 12),.rc (.q 54 (.nc (.t 53))),.rc (.q 55 (.fa 5 (.t 54))),.rc (.l 56 (.ld1 (.t 55))),.m (.q 7 (.mv (.i 2))),.rc (.v 53 12),.rc (.q 54 (.nc (.t 53))),.rc (.q 55 (.fa 5 (.t 54))),.rc (.l 56 (.ld1 (.t 55))),.m (.v 8 56)]) .ret) .skip)) (uJ)
@[go_sem ↓] theorem aJR:aY m8:=aZ _
def JD:PC:=.seq (.seq (.gh (.reg [.v 42 9,.a 43 (.cl 30 [(.t 42)] [3]),.q 44 (.fld1 0 (.t 43)),.q 45 (.bin .neq true (.t 44) (.i 0))])) (.cond (.t 45) (ID) .skip)) (m8)
@[go_sem ↓] theorem aKY:aY JD:=aZ _
def JA:PC:=.seq (.gh (.ord  [.q (.q 35 (.fa 0 (.t 4))),.q (.l 36 (.ld1 (.t 35))),.q (.v 39 12),.q (.l 40 (.ldn 4 (.t 4))),.m (.a 37 (.cl 24 [(.t 36)] [])),.rc (.v 39 12),.rc (.l 40 (.ldn 4 (.t 4))),.q (.q 38 (.fld1 1 (.t 37))),.m (.a 41 (.ca (.t 38) [(.t 39),(.t 40)] [4,3])),.m (.e 13 (.al (.agg #[(.int .i64 0),(.int .i64 0),(.string (mk [])),(.slice none 0 0),(.slice none 0 0)]) 32)),.m (.s (.st 5 (.t 13) (.t 41)))])) (JD)
@[go_sem ↓] theorem aMI:aY JA:=aZ _
def IG:PC:=.seq (.gh (.reg [.l 31 (.ldn 3 (.t 3)),.v 32 9,.q 33 (.bd [(.int .i64 0),(.slice none 0 0),(.slice none 0 0),(.pointer none),(.bool false),(.int .i64 0)] [(0,3,(.t 31)),(3,1,(.t 32))]),.e 34 (.bx 62 (.t 33)),.v 12 34])) (JA)
@[go_sem ↓] theorem aM3:aY IG:=aZ _
def x5:PC:=.seq (.seq (.gh (.reg [.v 26 10,.q 27 (.bin .neq true (.t 26) (.i 0))])) (.cond (.t 27) (.seq (.reg [.q 28 (.bd [(.int .i64 0),(.int .i64 0),(.string (mk [])),(.slice none 0 0),(.slice none 0 0)] []),.v 29 10,.v 30 11,.s (.st 5 (.t 6) (.t 28)),.v 7 29,.v 8 30]) .ret) .skip)) (IG)
@[go_sem ↓] theorem aM0:aY x5:=aZ _
def G8:PC:=.seq (.gh (.reg [.v 21 2,.a 22 (.cl 29 [(.t 21)] []),.v 20 22,.q 23 (.ex (.t 20) 0),.q 24 (.ex (.t 20) 1),.q 25 (.ex (.t 20) 2),.v 9 23,.v 10 24,.v 11 25])) (x5)
@[go_sem ↓] theorem aL9:aY G8:=aZ _
def SL:PC:=.seq (.reg [.e 3 (.bx 25 (.t 0)),.e 4 (.bx 28 (.t 1)),.e 6 (.al (.agg #[(.int .i64 0),(.int .i64 0),(.string (mk [])),(.slice none 0 0),(.slice none 0 0)]) 32),.q 7 (.mv (.i 0)),.q 8 (.mv (.i 0))]) (.seq (.seq (.reg [.l 15 (.ldn 3 (.t 3)),.l 16 (.ldn 4 (.t 4)),.a 17 (.cq 28 [(.t 15),(.t 16)]),.q 18 (.not (.t 17))]) (.cond (.t 18) (.seq (.reg [.q 19 (.bd [(.int .i64 0),(.int .i64 0),(.string (mk [])),(.slice none 0 0),(.slice none 0 0)] []),.s (.st 5 (.t 6) (.t 19)),.q 7 (.mv (.i 13)),.q 8 (.mv (.i 0))]) .ret) .skip)) (G8))
def R8:List RV:=[.ld (.ldn 5 (.t 6)),.mv (.t 7),.mv (.t 8)]
theorem aL7:aO Tryz.prog true ⟨fun r k=>if r=1/\k=2 then .q else if r=7/\k=6 then .own [4,3] else if r=8/\k=1 then .own [3] else if r=9/\k=1 then .own [4,3] else if r=12/\k=3 then .q else .own [],fun r=>[3,4,6,7,8,10,12,13,9].contains r⟩ Tryz.f13=some (SL,R8):=by kernel_rfl
def w4:PC:=.seq (.reg [.e 2 (.al (.agg #[.nilFunc,.nilFunc]) 66)]) (.seq (.seq (.reg [.v 3 0]) (.block 0 (.seq (.reg [.q 5 (.bin .eql true (.t 3) (.i 1)),.v 4 5]) (.cond (.t 4) (.seq (.reg [.q 6 (.bd [.nilFunc,.nilFunc] [(0,1,(.f 54)),(1,1,(.f 55))]),.s (.st 2 (.t 2) (.t 6))]) .ret) (.seq (.reg [.q 8 (.bin .eql true (.t 3) (.i 4)),.v 7 8]) (.cond (.t 7) (.seq (.reg [.q 9 (.bd [.nilFunc,.nilFunc] [(0,1,(.f 56)),(1,1,(.f 57))]),.s (.st 2 (.t 2) (.t 9))]) .ret) (.seq (.reg [.q 11 (.bin .eql true (.t 3) (.i 7)),.v 10 11]) (.cond (.t 10) (.seq (.reg [.q 12 (.bd [.nilFunc,.nilFunc] [(0,1,(.f 58)),(1,1,(.f 59))]),.s (.st 2 (.t 2) (.t 12))]) .ret) (.seq (.reg [.q 14 (.bin .eql true (.t 3) (.i 5)),.v 13 14]) (.cond (.t 13) (.seq (.reg [.q 15 (.bd [.nilFunc,.nilFunc] [(0,1,(.f 60)),(1,1,(.f 61))]),.s (.st 2 (.t 2) (.t 15))]) .ret) (.seq (.reg [.q 17 (.bin .eql true (.t 3) (.i 6)),.v 16 17]) (.cond (.t 16) (.seq (.reg [.q 18 (.bd [.nilFunc,.nilFunc] [(0,1,(.f 62)),(1,1,(.f 63))]),.s (.st 2 (.t 2) (.t 18))]) .ret) .skip)))))))))))) (.seq (.reg [.q 19 (.bd [.nilFunc,.nilFunc] [(0,1,(.f 64)),(1,1,(.f 65))]),.s (.st 2 (.t 2) (.t 19))]) .ret))
def wN:List RV:=[.ld (.ldn 2 (.t 2))]
theorem aLD:aO Tryz.prog true ⟨fun _ _=>.own [],fun _=>false⟩ Tryz.f24=some (w4,wN):=by kernel_rfl
def aC7:PC:=.seq (.reg [.e 2 (.bx 25 (.t 0)),.e 3 (.bx 28 (.t 1)),.q 4 (.mv (.k (.bool false)))]) (.seq (.ord  [.q (.l 5 (.ldn 3 (.t 2))),.q (.l 6 (.ldn 4 (.t 3))),.q (.l 7 (.ldn 3 (.t 2))),.q (.l 8 (.ldn 4 (.t 3))),.m (.a 9 (.cl 71 [(.t 7),(.t 8)] [])),.rc (.l 5 (.ldn 3 (.t 2))),.rc (.l 6 (.ldn 4 (.t 3))),.m (.a 10 (.cq 23 [(.t 5),(.t 6),(.t 9)])),.q (.q 11 (.bin .eql true (.t 10) (.i 0))),.m (.v 4 11)]) .ret)
def aDD:List RV:=[.mv (.t 4)]
theorem aLI:aO Tryz.prog true ⟨fun r k=>if r=1/\k=5 then .q else .own [],fun _=>false⟩ Tryz.f28=some (aC7,aDD):=by kernel_rfl
def SD:PC:=.seq (.reg [.v 2 0,.q 3 (.nc (.t 2)),.q 4 (.fa 4 (.t 3)),.l 5 (.ld1 (.t 4)),.q 6 (.not (.t 5))]) (.cond (.t 6) (.reg [.v 7 0,.v 8 0,.v 9 0,.q 10 (.nc (.t 9)),.q 11 (.fa 3 (.t 10)),.l 12 (.ld1 (.t 11)),.a 13 (.cl 30 [(.t 12)] [1]),.q 14 (.fld1 3 (.t 13)),.q 15 (.nc (.t 7)),.q 16 (.fa 4 (.t 15)),.s (.st 1 (.t 16) (.k (.bool true))),.q 17 (.nc (.t 8)),.q 18 (.fa 5 (.t 17)),.s (.st 1 (.t 18) (.t 14))]) .skip)
def SO:List RV:=[]
theorem aKN:aO Tryz.prog true ⟨fun r k=>if r=1/\k=6 then .own [1] else .own [],fun _=>false⟩ Tryz.f31=some (SD,SO):=by kernel_rfl
def aF9:PC:=.seq (.reg [.e 4 (.bx 28 (.t 1)),.e 5 (.bx 32 (.t 2)),.q 6 (.mv (.k (.string (mk []))))]) (.seq (.seq (.reg [.q 7 (.fa 1 (.t 5)),.l 8 (.ld1 (.t 7)),.q 9 (.bin .eql true (.t 8) (.i 1))]) (.cond (.t 9) (.seq (.reg [.q 6 (.mv (.k (.string (mk [116,114,117,101]))))]) .ret) .skip)) (.seq (.reg [.q 6 (.mv (.k (.string (mk [102,97,108,115,101]))))]) .ret))
def aC1:List RV:=[.mv (.t 6)]
theorem aL4:aO Tryz.prog true ⟨fun _ _=>.own [],fun _=>false⟩ Tryz.f54=some (aF9,aC1):=by kernel_rfl
def G7:PC:=.gh (.reg [.q 20 (.fa 1 (.t 5)),.s (.st 1 (.t 20) (.i 1))])
@[go_sem ↓] theorem aL1:aY G7:=aZ _
def AS:PC:=.gh (.reg [.v 34 0,.a 35 (.cl 31 [(.t 34)] [0,1])])
@[go_sem ↓] theorem aKU:aY AS:=aZ _
def xY:PC:=.seq (.gh (.reg [.v 22 0,.q 23 (.nc (.t 22)),.q 24 (.fa 4 (.t 23)),.l 25 (.ld1 (.t 24)),.v 26 25,⟨some 27,(some (26,false)),.q (.mv (.t 0))⟩,⟨some 28,(some (26,false)),.q (.nc (.t 27))⟩,⟨some 29,(some (26,false)),.q (.fa 3 (.t 28))⟩,⟨some 30,(some (26,false)),.l (.ld1 (.t 29))⟩,⟨some 31,(some (26,false)),.cl 95 [(.t 30),(.k (.string (mk [102,97,108,115,101])))] [1]⟩,⟨some 32,(some (26,false)),.q (.not (.t 31))⟩,.a 33 (.pick (.t 26) (.k (.bool true)) (.t 32)),.v 21 33])) (.cond (.t 21) (AS) .skip)
@[go_sem ↓] theorem aN3:aY xY:=aZ _
def o6:PC:=.seq (.gh (.reg [.l 36 (.ldn 5 (.t 5)),.s (.st 5 (.t 4) (.t 36))])) .ret
@[go_sem ↓] theorem aMM:aY o6:=aZ _
def UV:PC:=.seq (.reg [.e 3 (.bx 28 (.t 1)),.e 4 (.al (.agg #[(.int .i64 0),(.int .i64 0),(.string (mk [])),(.slice none 0 0),(.slice none 0 0)]) 32)]) (.seq (.reg [.q 6 (.bd [(.int .i64 0),(.int .i64 0),(.string (mk [])),(.slice none 0 0),(.slice none 0 0)] [(0,1,(.i 1))]),.e 5 (.al (.agg #[(.int .i64 0),(.int .i64 0),(.string (mk [])),(.slice none 0 0),(.slice none 0 0)]) 32),.s (.st 5 (.t 5) (.t 6))]) (.seq (.block 0 (.seq (.reg [.v 8 0,.q 9 (.nc (.t 8)),.q 10 (.fa 4 (.t 9)),.l 11 (.ld1 (.t 10)),.q 12 (.not (.t 11)),.v 13 12,⟨some 14,(some (13,true)),.q (.mv (.t 0))⟩,⟨some 15,(some (13,true)),.q (.nc (.t 14))⟩,⟨some 16,(some (13,true)),.q (.fa 3 (.t 15))⟩,⟨some 17,(some (13,true)),.l (.ld1 (.t 16))⟩,⟨some 18,(some (13,true)),.cl 95 [(.t 17),(.k (.string (mk [116,114,117,101])))] [1]⟩,.a 19 (.pick (.t 13) (.t 18) (.k (.bool false))),.v 7 19]) (.cond (.t 7) (G7) (xY)))) (o6)))
def SH:List RV:=[.ld (.ldn 5 (.t 4))]
theorem aNX:aO Tryz.prog true ⟨fun r k=>if r=2/\k=10 then .own [1] else if r=4/\k=9 then .own [1] else if r=5/\k=1 then .own [0,1] else .own [],fun r=>[4,6,3,5].contains r⟩ Tryz.f55=some (UV,SH):=by kernel_rfl
def aEL:PC:=.seq (.reg [.e 4 (.bx 28 (.t 1)),.e 5 (.bx 32 (.t 2)),.q 6 (.mv (.k (.string (mk []))))]) (.seq (.reg [.q 8 (.fa 2 (.t 5)),.l 9 (.ld1 (.t 8)),.q 10 (.bd [(.int .i64 0),(.string (mk [])),(.int .i64 0),(.int .i64 0)] [(0,1,(.i 3)),(1,1,(.t 9))]),.e 11 (.bsl 71 4 [(.t 10)]),.a 12 (.cq 96 [(.t 11)]),.v 7 12]) (.seq (.reg [.v 13 0,.v 14 0,.q 15 (.nc (.t 14)),.q 16 (.fa 4 (.t 15)),.l 17 (.ld1 (.t 16)),.v 18 17,⟨some 19,(some (18,false)),.q (.mv (.t 7))⟩,⟨some 20,(some (18,false)),.q (.bin .eql true (.t 19) (.k (.string (mk []))))⟩,.a 21 (.pick (.t 18) (.k (.bool true)) (.t 20)),.q 22 (.nc (.t 13)),.q 23 (.fa 4 (.t 22)),.s (.st 1 (.t 23) (.t 21))]) (.seq (.reg [.v 24 7,.v 6 24]) .ret)))
def aCB:List RV:=[.mv (.t 6)]
theorem aNN:aO Tryz.prog true ⟨fun r k=>if r=1/\k=4 then .q else .own [],fun _=>false⟩ Tryz.f56=some (aEL,aCB):=by kernel_rfl
def aFR:PC:=.seq (.reg [.e 3 (.bx 28 (.t 1)),.e 4 (.al (.agg #[(.int .i64 0),(.int .i64 0),(.string (mk [])),(.slice none 0 0),(.slice none 0 0)]) 32)]) (.seq (.reg [.v 5 0,.a 6 (.cl 97 [(.t 5),(.i 3)] [0,1]),.q 7 (.fld1 1 (.t 6)),.q 8 (.bd [(.int .i64 0),(.int .i64 0),(.string (mk [])),(.slice none 0 0),(.slice none 0 0)] [(0,1,(.i 4)),(2,1,(.t 7))]),.s (.st 5 (.t 4) (.t 8))]) .ret)
def aDC:List RV:=[.ld (.ldn 5 (.t 4))]
theorem aOF:aO Tryz.prog true ⟨fun r k=>if r=1/\k=1 then .own [0,1] else .own [],fun _=>false⟩ Tryz.f57=some (aFR,aDC):=by kernel_rfl
def sQ:PC:=.seq (.gh (.reg [.v 29 10,.q 30 (.fa 1 (.t 5)),.l 31 (.ld1 (.t 30)),.q 32 (.bin .eql true (.t 29) (.t 31)),.v 33 32,⟨some 34,(some (33,true)),.q (.mv (.t 9))⟩,⟨some 35,(some (33,true)),.q (.fa 1 (.t 7))⟩,⟨some 36,(some (33,true)),.l (.ld1 (.t 35))⟩,⟨some 37,(some (33,true)),.q (.lnL (.t 36))⟩,⟨some 38,(some (33,true)),.q (.bin .lss true (.t 34) (.t 37))⟩,.a 39 (.pick (.t 33) (.t 38) (.k (.bool false)))])) (.cond (.t 39) (.seq (.reg [.q 40 (.fa 1 (.t 7)),.l 41 (.ld1 (.t 40)),.v 42 9,.l 43 (.ia 1 (.t 41) (.t 42)),.l 44 (.ld1 (.t 43)),.v 6 44]) .ret) .skip)
@[go_sem ↓] theorem aLF:aY sQ:=aZ _
def JB:PC:=.seq (.seq (.gh (.reg [.q 21 (.fa 2 (.t 7)),.l 22 (.ld1 (.t 21)),.q 23 (.lnL (.t 22)),.q 24 (.mv (.i 0))])) (.block 0 (.loop (.seq (.reg [.q 25 (.bin .lss true (.t 24) (.t 23))]) (.seq (.cond (.t 25) .skip (.exit 0)) (.seq (.block 1 (.seq (.reg [.v 26 24,.l 27 (.ia 1 (.t 22) (.t 24)),.l 28 (.ld1 (.t 27)),.v 9 26,.v 10 28]) (sQ))) (.reg [.q 45 (.bin .add true (.t 24) (.i 1)),.v 24 45]))))))) (.seq (.reg [.q 6 (.mv (.k (.string (mk []))))]) .ret)
@[go_sem ↓] theorem aMQ:aY JB:=aZ _
def aC8:PC:=.seq (.reg [.e 4 (.bx 28 (.t 1)),.e 5 (.bx 32 (.t 2)),.q 6 (.mv (.k (.string (mk []))))]) (.seq (.ord  [.q (.v 12 0),.q (.q 13 (.nc (.t 12))),.q (.q 14 (.fa 0 (.t 13))),.q (.l 15 (.ldn 3 (.t 14))),.q (.q 16 (.fa 2 (.t 4))),.q (.l 17 (.ld1 (.t 16))),.m (.a 18 (.cl 98 [(.t 15),(.t 17)] [])),.q (.v 11 18),.q (.q 19 (.ex (.t 11) 0)),.q (.q 20 (.ex (.t 11) 1)),.m (.e 7 (.al (.agg #[(.string (mk [])),(.slice none 0 0),(.slice none 0 0)]) 92)),.rc (.v 11 18),.rc (.q 19 (.ex (.t 11) 0)),.rc (.q 20 (.ex (.t 11) 1)),.m (.s (.st 3 (.t 7) (.t 19))),.rc (.q 20 (.ex (.t 11) 1)),.m (.v 8 20)]) (JB))
def aCP:List RV:=[.mv (.t 6)]
theorem aOC:aO Tryz.prog true ⟨fun _ _=>.own [],fun r=>[2,5].contains r⟩ Tryz.f58=some (aC8,aCP):=by kernel_rfl
def GZ:PC:=.gh (.ord  [.q (.q 34 (.fa 1 (.t 6))),.q (.l 35 (.ld1 (.t 34))),.q (.v 36 0),.q (.q 37 (.nc (.t 36))),.q (.q 38 (.fa 3 (.t 37))),.q (.l 39 (.ld1 (.t 38))),.m (.a 40 (.cl 30 [(.t 39)] [1])),.rc (.q 34 (.fa 1 (.t 6))),.rc (.l 35 (.ld1 (.t 34))),.q (.q 41 (.fld1 1 (.t 40))),.m (.a 42 (.cq 99 [(.t 35),(.t 41)])),.m (.v 8 42)])
@[go_sem ↓] theorem aLO:aY GZ:=aZ _
def o9:PC:=.seq (.gh (.reg [.l 54 (.ldn 5 (.t 5)),.s (.st 5 (.t 4) (.t 54))])) .ret
@[go_sem ↓] theorem aLX:aY o9:=aZ _
def pI:PC:=.seq (.gh (.reg [.v 52 0,.a 53 (.cl 31 [(.t 52)] [0,1])])) (o9)
@[go_sem ↓] theorem aNQ:aY pI:=aZ _
def CJ:PC:=.seq (.gh (.reg [.l 66 (.ldn 5 (.t 5)),.s (.st 5 (.t 4) (.t 66))])) .ret
@[go_sem ↓] theorem aKD:aY CJ:=aZ _
def BT:PC:=.seq (.gh (.reg [.q 60 (.fa 2 (.t 6)),.l 61 (.ld1 (.t 60)),.v 62 8,.l 63 (.ia 1 (.t 61) (.t 62)),.l 64 (.ld1 (.t 63)),.q 65 (.fa 1 (.t 5)),.s (.st 1 (.t 65) (.t 64))])) (CJ)
@[go_sem ↓] theorem aJW:aY BT:=aZ _
def IB:PC:=.seq (.gh (.reg [.v 55 0,.q 56 (.nc (.t 55)),.q 57 (.fa 3 (.t 56)),.l 58 (.ld1 (.t 57)),.a 59 (.cl 100 [(.t 58)] [1])])) (BT)
@[go_sem ↓] theorem aOE:aY IB:=aZ _
def nY:PC:=.seq (.seq (.gh (.reg [.v 43 8,.q 44 (.bin .lss true (.t 43) (.i 0)),.v 45 44,⟨some 46,(some (45,false)),.q (.mv (.t 8))⟩,⟨some 47,(some (45,false)),.q (.fa 2 (.t 6))⟩,⟨some 48,(some (45,false)),.l (.ld1 (.t 47))⟩,⟨some 49,(some (45,false)),.q (.lnL (.t 48))⟩,⟨some 50,(some (45,false)),.q (.bin .geq true (.t 46) (.t 49))⟩,.a 51 (.pick (.t 45) (.k (.bool true)) (.t 50))])) (.cond (.t 51) (pI) .skip)) (IB)
@[go_sem ↓] theorem aKZ:aY nY:=aZ _
def yL:PC:=.seq (.gh (.reg [.q 8 (.mv (.i (-1)))])) (.seq (.seq (.reg [.v 20 0,.q 21 (.nc (.t 20)),.q 22 (.fa 4 (.t 21)),.l 23 (.ld1 (.t 22)),.q 24 (.not (.t 23)),.v 25 24,⟨some 26,(some (25,true)),.q (.mv (.t 0))⟩,⟨some 27,(some (25,true)),.q (.nc (.t 26))⟩,⟨some 28,(some (25,true)),.q (.fa 3 (.t 27))⟩,⟨some 29,(some (25,true)),.l (.ld1 (.t 28))⟩,⟨some 30,(some (25,true)),.cl 30 [(.t 29)] [1]⟩,⟨some 31,(some (25,true)),.q (.fld1 0 (.t 30))⟩,⟨some 32,(some (25,true)),.q (.bin .eql true (.t 31) (.i 1))⟩,.a 33 (.pick (.t 25) (.t 32) (.k (.bool false)))]) (.cond (.t 33) (GZ) .skip)) (nY))
@[go_sem ↓] theorem aKX:aY yL:=aZ _
def aCC:PC:=.seq (.reg [.e 3 (.bx 28 (.t 1)),.e 4 (.al (.agg #[(.int .i64 0),(.int .i64 0),(.string (mk [])),(.slice none 0 0),(.slice none 0 0)]) 32)]) (.seq (.reg [.q 9 (.bd [(.int .i64 0),(.int .i64 0),(.string (mk [])),(.slice none 0 0),(.slice none 0 0)] [(0,1,(.i 7))]),.e 5 (.al (.agg #[(.int .i64 0),(.int .i64 0),(.string (mk [])),(.slice none 0 0),(.slice none 0 0)]) 32),.s (.st 5 (.t 5) (.t 9))]) (.seq (.ord  [.q (.v 11 0),.q (.q 12 (.nc (.t 11))),.q (.q 13 (.fa 0 (.t 12))),.q (.l 14 (.ldn 3 (.t 13))),.q (.q 15 (.fa 2 (.t 3))),.q (.l 16 (.ld1 (.t 15))),.m (.a 17 (.cl 98 [(.t 14),(.t 16)] [])),.q (.v 10 17),.q (.q 18 (.ex (.t 10) 0)),.q (.q 19 (.ex (.t 10) 1)),.m (.e 6 (.al (.agg #[(.string (mk [])),(.slice none 0 0),(.slice none 0 0)]) 92)),.rc (.v 10 17),.rc (.q 18 (.ex (.t 10) 0)),.rc (.q 19 (.ex (.t 10) 1)),.m (.s (.st 3 (.t 6) (.t 18))),.rc (.q 19 (.ex (.t 10) 1)),.m (.v 7 19)]) (yL)))
def aB5:List RV:=[.ld (.ldn 5 (.t 4))]
theorem aNH:aO Tryz.prog true ⟨fun r k=>if r=4/\k=10 then .own [1] else if r=5/\k=6 then .own [1] else if r=5/\k=8 then .q else if r=7/\k=1 then .own [0,1] else if r=9/\k=4 then .own [1] else .own [],fun r=>[3,6,7,8,9,10,11,5].contains r⟩ Tryz.f59=some (aCC,aB5):=by kernel_rfl
def xZ:PC:=.gh (.ord  [.q (.v 22 7),.q (.q 23 (.fa 3 (.t 4))),.q (.l 24 (.ld1 (.t 23))),.q (.l 25 (.ia 4 (.t 24) (.i 0))),.q (.q 26 (.fa 0 (.t 25))),.q (.l 27 (.ld1 (.t 26))),.q (.v 30 0),.q (.q 31 (.fa 3 (.t 4))),.q (.l 32 (.ld1 (.t 31))),.q (.l 33 (.ia 4 (.t 32) (.i 0))),.q (.l 34 (.ldn 4 (.t 33))),.q (.l 35 (.ldn 5 (.t 9))),.m (.a 28 (.cl 24 [(.t 27)] [])),.rc (.v 22 7),.rc (.v 30 0),.rc (.q 31 (.fa 3 (.t 4))),.rc (.l 32 (.ld1 (.t 31))),.rc (.l 33 (.ia 4 (.t 32) (.i 0))),.rc (.l 34 (.ldn 4 (.t 33))),.rc (.l 35 (.ldn 5 (.t 9))),.q (.q 29 (.fld1 0 (.t 28))),.m (.a 36 (.ca (.t 29) [(.t 30),(.t 34),(.t 35)] [0])),.rc (.v 22 7),.q (.q 37 (.bin .add true (.t 22) (.t 36))),.m (.v 7 37)])
@[go_sem ↓] theorem aN4:aY xZ:=aZ _
def aEI:PC:=.seq (.reg [.e 4 (.bx 28 (.t 1)),.e 5 (.bx 32 (.t 2)),.q 6 (.mv (.k (.string (mk []))))]) (.seq (.reg [.q 7 (.mv (.k (.string (mk [91]))))]) (.seq (.seq (.reg [.q 10 (.fa 3 (.t 5)),.l 11 (.ld1 (.t 10)),.q 12 (.lnL (.t 11)),.q 13 (.mv (.i 0))]) (.block 0 (.loop (.seq (.reg [.q 14 (.bin .lss true (.t 13) (.t 12))]) (.seq (.cond (.t 14) .skip (.exit 0)) (.seq (.block 1 (.seq (.reg [.v 15 13,.l 16 (.ia 5 (.t 11) (.t 13)),.l 17 (.ldn 5 (.t 16)),.e 9 (.al (.agg #[(.int .i64 0),(.int .i64 0),(.string (mk [])),(.slice none 0 0),(.slice none 0 0)]) 32),.v 8 15,.s (.st 5 (.t 9) (.t 17))]) (.seq (.seq (.reg [.v 18 8,.q 19 (.bin .gtr true (.t 18) (.i 0))]) (.cond (.t 19) (.reg [.v 20 7,.q 21 (.bin .add true (.t 20) (.k (.string (mk [44,32])))),.v 7 21]) .skip)) (xZ)))) (.reg [.q 38 (.bin .add true (.t 13) (.i 1)),.v 13 38]))))))) (.seq (.reg [.v 39 7,.q 40 (.bin .add true (.t 39) (.k (.string (mk [93])))),.v 6 40]) .ret)))
def aD9:List RV:=[.mv (.t 6)]
theorem aLR:aO Tryz.prog true ⟨fun r k=>if r=7/\k=14 then .own [0] else .own [],fun r=>[7].contains r⟩ Tryz.f60=some (aEI,aD9):=by kernel_rfl
def I1:PC:=.seq (.gh (.reg [.l 10 (.ldn 5 (.t 5)),.s (.st 5 (.t 4) (.t 10))])) .ret
@[go_sem ↓] theorem aMX:aY I1:=aZ _
def H7:PC:=.seq (.gh (.reg [.l 7 (.ld1 (.t 2)),.q 8 (.mf 102 [(.t 5),(.t 3),(.t 2)]),.a 9 (.cl 101 [(.t 7),(.k (.string (mk [91]))),(.k (.string (mk [93]))),(.t 8)] [0,1,2,3,5,6])])) (I1)
@[go_sem ↓] theorem aNT:aY H7:=aZ _
def aFG:PC:=.seq (.reg [.e 2 (.bx 59 (.t 0)),.e 3 (.bx 28 (.t 1)),.e 4 (.al (.agg #[(.int .i64 0),(.int .i64 0),(.string (mk [])),(.slice none 0 0),(.slice none 0 0)]) 32)]) (.seq (.reg [.q 6 (.bd [(.int .i64 0),(.int .i64 0),(.string (mk [])),(.slice none 0 0),(.slice none 0 0)] [(0,1,(.i 5))]),.e 5 (.al (.agg #[(.int .i64 0),(.int .i64 0),(.string (mk [])),(.slice none 0 0),(.slice none 0 0)]) 32),.s (.st 5 (.t 5) (.t 6))]) (H7))
def aA7:List RV:=[.ld (.ldn 5 (.t 4))]
theorem aNI:aO Tryz.prog true ⟨fun r k=>if r=2/\k=2 then .own [0,1,2,3,5,6] else .own [],fun r=>[2,3].contains r⟩ Tryz.f61=some (aFG,aA7):=by kernel_rfl
def yC:PC:=.gh (.ord  [.q (.v 43 9),.q (.q 44 (.fa 1 (.t 12))),.q (.l 45 (.ld1 (.t 44))),.q (.q 46 (.bin .add true (.t 45) (.k (.string (mk [32,61,32]))))),.q (.q 47 (.fa 2 (.t 12))),.q (.q 48 (.fa 0 (.t 47))),.q (.l 49 (.ld1 (.t 48))),.q (.v 52 0),.q (.q 53 (.fa 2 (.t 12))),.q (.l 54 (.ldn 4 (.t 53))),.q (.q 55 (.fa 1 (.t 11))),.q (.l 56 (.ldn 5 (.t 55))),.m (.a 50 (.cl 24 [(.t 49)] [])),.rc (.v 43 9),.rc (.q 44 (.fa 1 (.t 12))),.rc (.l 45 (.ld1 (.t 44))),.rc (.q 46 (.bin .add true (.t 45) (.k (.string (mk [32,61,32]))))),.rc (.v 52 0),.rc (.q 53 (.fa 2 (.t 12))),.rc (.l 54 (.ldn 4 (.t 53))),.rc (.q 55 (.fa 1 (.t 11))),.rc (.l 56 (.ldn 5 (.t 55))),.q (.q 51 (.fld1 0 (.t 50))),.m (.a 57 (.ca (.t 51) [(.t 52),(.t 54),(.t 56)] [0])),.rc (.v 43 9),.rc (.q 44 (.fa 1 (.t 12))),.rc (.l 45 (.ld1 (.t 44))),.rc (.q 46 (.bin .add true (.t 45) (.k (.string (mk [32,61,32]))))),.q (.q 58 (.bin .add true (.t 46) (.t 57))),.q (.q 59 (.bin .add true (.t 43) (.t 58))),.m (.v 9 59)])
@[go_sem ↓] theorem aNR:aY yC:=aZ _
def zU:PC:=.seq (.gh (.reg [.l 37 (.ldn 2 (.t 7)),.q 38 (.fa 0 (.t 11)),.l 39 (.ld1 (.t 38)),.a 40 (.cl 104 [(.t 37),(.t 39)] []),.v 36 40,.q 41 (.ex (.t 36) 0),.q 42 (.ex (.t 36) 1),.e 12 (.al (.agg #[(.int .i64 0),(.string (mk [])),(.int .i64 0),(.int .i64 0),(.string (mk [])),(.slice none 0 0),(.bool false)]) 97),.s (.st 7 (.t 12) (.t 41)),.v 13 42])) (yC)
@[go_sem ↓] theorem aNU:aY zU:=aZ _
def z8:PC:=.seq (.seq (.gh (.reg [.v 32 10,.q 33 (.bin .gtr true (.t 32) (.i 0))])) (.cond (.t 33) (.reg [.v 34 9,.q 35 (.bin .add true (.t 34) (.k (.string (mk [44,32])))),.v 9 35]) .skip)) (zU)
@[go_sem ↓] theorem aMK:aY z8:=aZ _
def I4:PC:=.seq (.gh (.reg [.q 9 (.mv (.k (.string (mk [123]))))])) (.seq (.seq (.reg [.q 24 (.fa 4 (.t 5)),.l 25 (.ld1 (.t 24)),.q 26 (.lnL (.t 25)),.q 27 (.mv (.i 0))]) (.block 0 (.loop (.seq (.reg [.q 28 (.bin .lss true (.t 27) (.t 26))]) (.seq (.cond (.t 28) .skip (.exit 0)) (.seq (.block 1 (.seq (.reg [.v 29 27,.l 30 (.ia 6 (.t 25) (.t 27)),.l 31 (.ldn 6 (.t 30)),.e 11 (.al (.agg #[(.int .i64 0),(.int .i64 0),(.int .i64 0),(.string (mk [])),(.slice none 0 0),(.slice none 0 0)]) 57),.v 10 29,.s (.st 6 (.t 11) (.t 31))]) (z8))) (.reg [.q 60 (.bin .add true (.t 27) (.i 1)),.v 27 60]))))))) (.seq (.reg [.v 61 9,.q 62 (.bin .add true (.t 61) (.k (.string (mk [125])))),.v 6 62]) .ret))
@[go_sem ↓] theorem aL5:aY I4:=aZ _
def aF7:PC:=.seq (.reg [.e 4 (.bx 28 (.t 1)),.e 5 (.bx 32 (.t 2)),.q 6 (.mv (.k (.string (mk []))))]) (.seq (.ord  [.q (.v 15 0),.q (.q 16 (.nc (.t 15))),.q (.q 17 (.fa 0 (.t 16))),.q (.l 18 (.ldn 3 (.t 17))),.q (.q 19 (.fa 2 (.t 4))),.q (.l 20 (.ld1 (.t 19))),.m (.a 21 (.cl 103 [(.t 18),(.t 20)] [])),.q (.v 14 21),.q (.q 22 (.ex (.t 14) 0)),.q (.q 23 (.ex (.t 14) 1)),.m (.e 7 (.al (.agg #[(.string (mk [])),(.slice none 0 0)]) 95)),.rc (.v 14 21),.rc (.q 22 (.ex (.t 14) 0)),.rc (.q 23 (.ex (.t 14) 1)),.m (.s (.st 2 (.t 7) (.t 22))),.rc (.q 23 (.ex (.t 14) 1)),.m (.v 8 23)]) (I4))
def aDM:List RV:=[.mv (.t 6)]
theorem aOT:aO Tryz.prog true ⟨fun r k=>if r=9/\k=14 then .own [0] else .own [],fun r=>[2,6,8,9].contains r⟩ Tryz.f62=some (aF7,aDM):=by kernel_rfl
def GQ:PC:=.seq (.gh (.reg [.l 23 (.ldn 5 (.t 5)),.s (.st 5 (.t 4) (.t 23))])) .ret
@[go_sem ↓] theorem aMY:aY GQ:=aZ _
def FQ:PC:=.seq (.gh (.reg [.l 20 (.ld1 (.t 2)),.q 21 (.mf 105 [(.t 2),(.t 6),(.t 8),(.t 5)]),.a 22 (.cl 101 [(.t 20),(.k (.string (mk [123]))),(.k (.string (mk [125]))),(.t 21)] [0,1,2,5,6,7,8])])) (GQ)
@[go_sem ↓] theorem aLH:aY FQ:=aZ _
def IK:PC:=.seq (.gh (.reg [.e 8 (.al (.int .i64 0) 3),.s (.st 1 (.t 8) (.i 0))])) (FQ)
@[go_sem ↓] theorem aNC:aY IK:=aZ _
def aDT:PC:=.seq (.reg [.e 2 (.bx 59 (.t 0)),.e 3 (.bx 28 (.t 1)),.e 4 (.al (.agg #[(.int .i64 0),(.int .i64 0),(.string (mk [])),(.slice none 0 0),(.slice none 0 0)]) 32)]) (.seq (.reg [.q 9 (.bd [(.int .i64 0),(.int .i64 0),(.string (mk [])),(.slice none 0 0),(.slice none 0 0)] [(0,1,(.i 6))]),.e 5 (.al (.agg #[(.int .i64 0),(.int .i64 0),(.string (mk [])),(.slice none 0 0),(.slice none 0 0)]) 32),.s (.st 5 (.t 5) (.t 9))]) (.seq (.ord  [.q (.l 11 (.ld1 (.t 2))),.q (.q 12 (.nc (.t 11))),.q (.q 13 (.fa 0 (.t 12))),.q (.l 14 (.ldn 3 (.t 13))),.q (.q 15 (.fa 2 (.t 3))),.q (.l 16 (.ld1 (.t 15))),.m (.a 17 (.cl 103 [(.t 14),(.t 16)] [])),.q (.v 10 17),.q (.q 18 (.ex (.t 10) 0)),.q (.q 19 (.ex (.t 10) 1)),.m (.e 6 (.al (.agg #[(.string (mk [])),(.slice none 0 0)]) 95)),.rc (.v 10 17),.rc (.q 18 (.ex (.t 10) 0)),.rc (.q 19 (.ex (.t 10) 1)),.m (.s (.st 2 (.t 6) (.t 18))),.rc (.q 19 (.ex (.t 10) 1)),.m (.v 7 19)]) (IK)))
def aEV:List RV:=[.ld (.ldn 5 (.t 4))]
theorem aMR:aO Tryz.prog true ⟨fun r k=>if r=4/\k=2 then .own [0,1,2,5,6,7,8] else .own [],fun r=>[3,4,5].contains r⟩ Tryz.f63=some (aDT,aEV):=by kernel_rfl
def aDS:PC:=.seq (.reg [.e 4 (.bx 28 (.t 1)),.e 5 (.bx 32 (.t 2)),.q 6 (.mv (.k (.string (mk []))))]) (.seq (.reg [.q 7 (.fa 1 (.t 5)),.l 8 (.ld1 (.t 7)),.a 9 (.cq 109 [(.t 8),(.i 10)]),.v 6 9]) .ret)
def aDW:List RV:=[.mv (.t 6)]
theorem aK2:aO Tryz.prog true ⟨fun r k=>if r=1/\k=2 then .q else .own [],fun _=>false⟩ Tryz.f64=some (aDS,aDW):=by kernel_rfl
def aB4:PC:=.seq (.reg [.e 3 (.bx 28 (.t 1)),.e 4 (.al (.agg #[(.int .i64 0),(.int .i64 0),(.string (mk [])),(.slice none 0 0),(.slice none 0 0)]) 32)]) (.seq (.ord  [.q (.q 5 (.fa 0 (.t 3))),.q (.l 6 (.ld1 (.t 5))),.q (.v 7 0),.m (.a 8 (.cl 97 [(.t 7),(.i 2)] [0,1])),.rc (.q 5 (.fa 0 (.t 3))),.rc (.l 6 (.ld1 (.t 5))),.q (.q 9 (.fld1 2 (.t 8))),.q (.q 10 (.bd [(.int .i64 0),(.int .i64 0),(.string (mk [])),(.slice none 0 0),(.slice none 0 0)] [(0,1,(.t 6)),(1,1,(.t 9))])),.m (.s (.st 5 (.t 4) (.t 10)))]) .ret)
def aBS:List RV:=[.ld (.ldn 5 (.t 4))]
theorem aL8:aO Tryz.prog true ⟨fun r k=>if r=1/\k=3 then .own [0,1] else .own [],fun _=>false⟩ Tryz.f65=some (aB4,aBS):=by kernel_rfl
def zK:PC:=.seq (.gh (.reg [.v 19 0,.a 20 (.cl 31 [(.t 19)] [0,1])])) (.seq (.reg [.q 21 (.bd [(.int .i64 0),(.string (mk [])),(.int .i64 0),(.int .i64 0)] []),.s (.st 4 (.t 4) (.t 21))]) .ret)
@[go_sem ↓] theorem aKO:aY zK:=aZ _
def JJ:PC:=.seq (.gh (.reg [.v 22 0,.q 23 (.nc (.t 22)),.q 24 (.fa 3 (.t 23)),.l 25 (.ld1 (.t 24)),.a 26 (.cl 100 [(.t 25)] [1]),.s (.st 4 (.t 4) (.t 26))])) .ret
@[go_sem ↓] theorem aLQ:aY JJ:=aZ _
def UN:PC:=.seq (.reg [.e 4 (.al (.agg #[(.int .i64 0),(.string (mk [])),(.int .i64 0),(.int .i64 0)]) 71)]) (.seq (.seq (.reg [.v 5 0,.q 6 (.nc (.t 5)),.q 7 (.fa 4 (.t 6)),.l 8 (.ld1 (.t 7)),.v 9 8,⟨some 10,(some (9,false)),.q (.mv (.t 0))⟩,⟨some 11,(some (9,false)),.q (.nc (.t 10))⟩,⟨some 12,(some (9,false)),.q (.fa 3 (.t 11))⟩,⟨some 13,(some (9,false)),.l (.ld1 (.t 12))⟩,⟨some 14,(some (9,false)),.cl 30 [(.t 13)] [1]⟩,⟨some 15,(some (9,false)),.q (.fld1 0 (.t 14))⟩,⟨some 16,(some (9,false)),.q (.mv (.t 1))⟩,⟨some 17,(some (9,false)),.q (.bin .neq true (.t 15) (.t 16))⟩,.a 18 (.pick (.t 9) (.k (.bool true)) (.t 17))]) (.cond (.t 18) (zK) .skip)) (JJ))
def ST:List RV:=[.ld (.ldn 4 (.t 4))]
theorem aM5:aO Tryz.prog true ⟨fun r k=>if r=1/\k=9 then .own [1] else if r=2/\k=1 then .own [0,1] else if r=4/\k=4 then .own [1] else .own [],fun r=>[2,4].contains r⟩ Tryz.f97=some (UN,ST):=by kernel_rfl
def AX:PC:=.gh (.reg [.v 23 0,.a 24 (.cl 128 [(.t 23),(.k (.string (mk [44])))] [0,1]),.v 8 24])
@[go_sem ↓] theorem aJG:aY AX:=aZ _
def uK:PC:=.gh (.reg [.v 27 0,.v 28 2,.a 29 (.cl 108 [(.t 27),(.t 28)] [0,1])])
@[go_sem ↓] theorem aJI:aY uK:=aZ _
def BK:PC:=.seq (.seq (.gh (.reg [.q 8 (.mv (.k (.bool true)))])) (.block 0 (.loop (.seq (.seq (.reg [.v 15 8,.v 16 15,⟨some 17,(some (16,true)),.q (.mv (.t 0))⟩,⟨some 18,(some (16,true)),.q (.nc (.t 17))⟩,⟨some 19,(some (16,true)),.q (.fa 4 (.t 18))⟩,⟨some 20,(some (16,true)),.l (.ld1 (.t 19))⟩,⟨some 21,(some (16,true)),.q (.not (.t 20))⟩,.a 22 (.pick (.t 16) (.t 21) (.k (.bool false)))]) (.cond (.t 22) .skip (.exit 0))) (.seq (.block 1 (.reg [.v 25 3,.a 26 (.ca (.t 25) [] [0,1,2,3,4,5])])) (AX)))))) (uK)
@[go_sem ↓] theorem aKA:aY BK:=aZ _
def CA:PC:=.seq (.seq (.gh (.reg [.v 12 0,.v 13 2,.a 14 (.cl 128 [(.t 12),(.t 13)] [0,1])])) (.cond (.t 14) .ret .skip)) (BK)
@[go_sem ↓] theorem aJ2:aY CA:=aZ _
def WV:PC:=.seq (.reg [.v 9 0,.v 10 1,.a 11 (.cl 108 [(.t 9),(.t 10)] [0,1])]) (CA)
def VF:List RV:=[]
theorem aGT:aO Tryz.prog true ⟨fun r k=>if r=0/\k=2 then .own [0,1] else if r=1/\k=2 then .own [0,1] else if r=5/\k=1 then .own [0,1,2,3,4,5] else if r=4/\k=1 then .own [0,1] else if r=6/\k=2 then .own [0,1] else .own [],fun r=>[1,2,4,6].contains r⟩ Tryz.f101=some (WV,VF):=by kernel_rfl
def WD:PC:=.ord  [.q (.q 3 (.fa 3 (.t 0))),.q (.l 4 (.ld1 (.t 3))),.q (.q 5 (.fa 3 (.t 1))),.q (.l 6 (.ld1 (.t 5))),.q (.l 7 (.ia 4 (.t 6) (.i 0))),.q (.q 8 (.fa 0 (.t 7))),.q (.l 9 (.ld1 (.t 8))),.q (.l 12 (.ld1 (.t 2))),.q (.q 13 (.fa 3 (.t 1))),.q (.l 14 (.ld1 (.t 13))),.q (.l 15 (.ia 4 (.t 14) (.i 0))),.q (.l 16 (.ldn 4 (.t 15))),.q (.q 18 (.lnL (.t 4))),.m (.a 10 (.cl 24 [(.t 9)] [])),.rc (.q 3 (.fa 3 (.t 0))),.rc (.l 4 (.ld1 (.t 3))),.rc (.l 12 (.ld1 (.t 2))),.rc (.q 13 (.fa 3 (.t 1))),.rc (.l 14 (.ld1 (.t 13))),.rc (.l 15 (.ia 4 (.t 14) (.i 0))),.rc (.l 16 (.ldn 4 (.t 15))),.rc (.q 18 (.lnL (.t 4))),.q (.q 11 (.fld1 1 (.t 10))),.m (.a 17 (.ca (.t 11) [(.t 12),(.t 16)] [0,1])),.rc (.q 3 (.fa 3 (.t 0))),.rc (.l 4 (.ld1 (.t 3))),.rc (.q 18 (.lnL (.t 4))),.m (.e 19 (.bsl 32 5 [(.k (.agg #[(.int .i64 0),(.int .i64 0),(.string (mk [])),(.slice none 0 0),(.slice none 0 0)]))])),.rc (.q 3 (.fa 3 (.t 0))),.rc (.l 4 (.ld1 (.t 3))),.rc (.q 18 (.lnL (.t 4))),.m (.e 20 (.ap 32 5 80 (.t 4) (.t 19))),.q (.l 21 (.ia 5 (.t 20) (.t 18))),.q (.q 22 (.fa 3 (.t 0))),.fk (.s (.st 5 (.t 21) (.t 17))) (.s (.st 1 (.t 22) (.t 20))) [.q 22 (.fa 3 (.t 0))] [.l 21 (.ia 5 (.t 20) (.t 18))]]
def XX:List RV:=[]
theorem aIC:aO Tryz.prog true ⟨fun r k=>if r=0/\k=14 then .own [0,1] else .own [],fun _=>false⟩ Tryz.f102=some (WD,XX):=by kernel_rfl
def pN:PC:=.seq (.gh (.reg [.l 33 (.ld1 (.t 0)),.a 34 (.cl 31 [(.t 33)] [0,1])])) .ret
@[go_sem ↓] theorem aJL:aY pN:=aZ _
def BR:PC:=.gh (.ord  [.q (.q 49 (.fa 4 (.t 3))),.q (.l 50 (.ld1 (.t 49))),.q (.q 51 (.fa 0 (.t 6))),.q (.l 52 (.ld1 (.t 51))),.q (.q 53 (.fa 2 (.t 6))),.q (.q 54 (.fa 0 (.t 53))),.q (.l 55 (.ld1 (.t 54))),.q (.l 58 (.ld1 (.t 0))),.q (.q 59 (.fa 2 (.t 6))),.q (.l 60 (.ldn 4 (.t 59))),.q (.q 63 (.lnL (.t 50))),.m (.a 56 (.cl 24 [(.t 55)] [])),.rc (.q 49 (.fa 4 (.t 3))),.rc (.l 50 (.ld1 (.t 49))),.rc (.q 51 (.fa 0 (.t 6))),.rc (.l 52 (.ld1 (.t 51))),.rc (.l 58 (.ld1 (.t 0))),.rc (.q 59 (.fa 2 (.t 6))),.rc (.l 60 (.ldn 4 (.t 59))),.rc (.q 63 (.lnL (.t 50))),.q (.q 57 (.fld1 1 (.t 56))),.m (.a 61 (.ca (.t 57) [(.t 58),(.t 60)] [0,1])),.rc (.q 49 (.fa 4 (.t 3))),.rc (.l 50 (.ld1 (.t 49))),.rc (.q 51 (.fa 0 (.t 6))),.rc (.l 52 (.ld1 (.t 51))),.rc (.q 63 (.lnL (.t 50))),.q (.q 62 (.bd [(.int .i64 0),(.int .i64 0),(.int .i64 0),(.string (mk [])),(.slice none 0 0),(.slice none 0 0)] [(0,1,(.t 52)),(1,5,(.t 61))])),.m (.e 64 (.bsl 57 6 [(.k (.agg #[(.int .i64 0),(.int .i64 0),(.int .i64 0),(.string (mk [])),(.slice none 0 0),(.slice none 0 0)]))])),.rc (.q 49 (.fa 4 (.t 3))),.rc (.l 50 (.ld1 (.t 49))),.rc (.q 51 (.fa 0 (.t 6))),.rc (.l 52 (.ld1 (.t 51))),.rc (.q 63 (.lnL (.t 50))),.rc (.q 62 (.bd [(.int .i64 0),(.int .i64 0),(.int .i64 0),(.string (mk [])),(.slice none 0 0),(.slice none 0 0)] [(0,1,(.t 52)),(1,5,(.t 61))])),.m (.e 65 (.ap 57 6 88 (.t 50) (.t 64))),.q (.l 66 (.ia 6 (.t 65) (.t 63))),.q (.q 67 (.fa 4 (.t 3))),.fk (.s (.st 6 (.t 66) (.t 62))) (.s (.st 1 (.t 67) (.t 65))) [.q 67 (.fa 4 (.t 3))] [.l 66 (.ia 6 (.t 65) (.t 63))]])
@[go_sem ↓] theorem aJB:aY BR:=aZ _
def BH:PC:=.seq (.gh (.reg [.q 47 (.fa 0 (.t 6)),.l 48 (.ld1 (.t 47)),.s (.st 1 (.t 2) (.t 48))])) (BR)
@[go_sem ↓] theorem aJV:aY BH:=aZ _
def BD:PC:=.seq (.gh (.reg [.q 42 (.fa 1 (.t 1)),.l 43 (.ld1 (.t 42)),.v 44 5,.l 45 (.ia 7 (.t 43) (.t 44)),.l 46 (.ldn 7 (.t 45)),.e 6 (.al (.agg #[(.int .i64 0),(.string (mk [])),(.int .i64 0),(.int .i64 0),(.string (mk [])),(.slice none 0 0),(.bool false)]) 97),.s (.st 7 (.t 6) (.t 46))])) (BH)
@[go_sem ↓] theorem aJA:aY BD:=aZ _
def AW:PC:=.seq (.gh (.reg [.l 40 (.ld1 (.t 0)),.a 41 (.cl 108 [(.t 40),(.k (.string (mk [61])))] [0,1])])) (BD)
@[go_sem ↓] theorem aJ7:aY AW:=aZ _
def AU:PC:=.seq (.gh (.reg [.l 35 (.ld1 (.t 0)),.q 36 (.nc (.t 35)),.q 37 (.fa 3 (.t 36)),.l 38 (.ld1 (.t 37)),.a 39 (.cl 100 [(.t 38)] [1])])) (AW)
@[go_sem ↓] theorem aKB:aY AU:=aZ _
def mR:PC:=.seq (.seq (.gh (.reg [.q 16 (.fa 0 (.t 4)),.l 17 (.ld1 (.t 16)),.q 18 (.bin .neq true (.t 17) (.i 1)),.v 19 18,⟨some 20,(some (19,false)),.q (.mv (.t 5))⟩,⟨some 21,(some (19,false)),.q (.bin .lss true (.t 20) (.i 0))⟩,.a 22 (.pick (.t 19) (.k (.bool true)) (.t 21)),.v 23 22,⟨some 24,(some (23,false)),.q (.fa 1 (.t 1))⟩,⟨some 25,(some (23,false)),.l (.ld1 (.t 24))⟩,⟨some 26,(some (23,false)),.q (.mv (.t 5))⟩,⟨some 27,(some (23,false)),.l (.ia 7 (.t 25) (.t 26))⟩,⟨some 28,(some (23,false)),.q (.fa 0 (.t 27))⟩,⟨some 29,(some (23,false)),.l (.ld1 (.t 28))⟩,⟨some 30,(some (23,false)),.l (.ld1 (.t 2))⟩,⟨some 31,(some (23,false)),.q (.bin .leq true (.t 29) (.t 30))⟩,.a 32 (.pick (.t 23) (.k (.bool true)) (.t 31))])) (.cond (.t 32) (pN) .skip)) (AU)
@[go_sem ↓] theorem aJ8:aY mR:=aZ _
def BZ:PC:=.seq (.gh (.reg [.q 12 (.fa 1 (.t 1)),.l 13 (.ld1 (.t 12)),.q 14 (.mf 107 [(.t 4)]),.a 15 (.cl 106 [(.t 13),(.t 14)] [7]),.v 5 15])) (mR)
@[go_sem ↓] theorem aJF:aY BZ:=aZ _
def YH:PC:=.seq (.reg [.l 7 (.ld1 (.t 0)),.q 8 (.nc (.t 7)),.q 9 (.fa 3 (.t 8)),.l 10 (.ld1 (.t 9)),.a 11 (.cl 30 [(.t 10)] [1]),.e 4 (.al (.agg #[(.int .i64 0),(.string (mk [])),(.int .i64 0),(.int .i64 0)]) 71),.s (.st 4 (.t 4) (.t 11))]) (BZ)
def VD:List RV:=[]
theorem aHR:aO Tryz.prog true ⟨fun r k=>if r=0/\k=4 then .own [1] else if r=1/\k=3 then .own [7] else if r=3/\k=1 then .own [0,1] else if r=4/\k=4 then .own [1] else if r=5/\k=1 then .own [0,1] else if r=8/\k=12 then .own [0,1] else .own [],fun r=>[1,2,3,4,5,6,7,8].contains r⟩ Tryz.f105=some (YH,VD):=by kernel_rfl
def YI:PC:=.seq (.reg [.e 2 (.bx 97 (.t 0)),.q 3 (.mv (.k (.bool false)))]) (.seq (.reg [.q 4 (.fa 1 (.t 2)),.l 5 (.ld1 (.t 4)),.q 6 (.fa 1 (.t 1)),.l 7 (.ld1 (.t 6)),.q 8 (.bin .eql true (.t 5) (.t 7)),.v 3 8]) .ret)
def W8:List RV:=[.mv (.t 3)]
theorem aGG:aO Tryz.prog true ⟨fun _ _=>.own [],fun _=>false⟩ Tryz.f107=some (YI,W8):=by kernel_rfl
def WC:PC:=.seq (.reg [.v 4 0,.v 5 1,.a 6 (.cl 128 [(.t 4),(.t 5)] [0,1]),.q 7 (.not (.t 6))]) (.cond (.t 7) (.reg [.v 8 0,.a 9 (.cl 31 [(.t 8)] [0,1])]) .skip)
def WJ:List RV:=[]
theorem aHX:aO Tryz.prog true ⟨fun r k=>if r=0/\k=2 then .own [0,1] else if r=1/\k=1 then .own [0,1] else .own [],fun _=>false⟩ Tryz.f108=some (WC,WJ):=by kernel_rfl
def M8:PC:=.seq (.reg [.q 4 (.mv (.k (.bool false)))]) (.seq (.reg [.v 5 0,.q 6 (.nc (.t 5)),.q 7 (.fa 4 (.t 6)),.l 8 (.ld1 (.t 7)),.q 9 (.not (.t 8)),.v 10 9,⟨some 11,(some (10,true)),.q (.mv (.t 0))⟩,⟨some 12,(some (10,true)),.q (.nc (.t 11))⟩,⟨some 13,(some (10,true)),.q (.fa 3 (.t 12))⟩,⟨some 14,(some (10,true)),.l (.ld1 (.t 13))⟩,⟨some 15,(some (10,true)),.q (.mv (.t 1))⟩,⟨some 16,(some (10,true)),.cl 148 [(.t 14),(.t 15)] [1]⟩,.a 17 (.pick (.t 10) (.t 16) (.k (.bool false))),.v 4 17]) .ret)
def OG:List RV:=[.mv (.t 4)]
theorem aH0:aO Tryz.prog true ⟨fun r k=>if r=1/\k=11 then .own [1] else .own [],fun _=>false⟩ Tryz.f128=some (M8,OG):=by kernel_rfl
end Go.Proofs.YtkpohmhenegkiaaGreatDoor
namespace Go.Proofs
open Go.Shelf
def Tryz.laysM173_ren:Go.Shelf.Ren:=⟨fun | 173=>109 | 246=>131 | 283=>150 | 284=>151 | 285=>152 | 286=>153 | 129=>160 | 317=>159 | 318=>161 | 319=>162 | 320=>163 | 337=>165 | 338=>166 | n=>n,fun | 2=>2 | 3=>3 | 9=>9 | 4=>4 | 171=>169 | 0=>0 | 53=>139 | 37=>43 | 5=>5 | 173=>172 | 212=>184 | 51=>185 | 20=>20 | 213=>186 | 46=>187 | 232=>190 | 233=>191 | n=>n,fun | 17=>0 | 18=>1 | 19=>2 | n=>n⟩
theorem Tryz.lays173:Go.Proofs.Lays.n173 Tryz.prog Tryz.laysM173_ren:={
 mixed:=by kernel_rfl
 f129:=Tryz.func160.trans (congrArg some (by kernel_rfl))
 f173:=Tryz.func109.trans (congrArg some (by kernel_rfl))
 f246:=Tryz.func131.trans (congrArg some (by kernel_rfl))
 f283:=Tryz.func150.trans (congrArg some (by kernel_rfl))
 f284:=Tryz.func151.trans (congrArg some (by kernel_rfl))
 f285:=Tryz.func152.trans (congrArg some (by kernel_rfl))
 f286:=Tryz.func153.trans (congrArg some (by kernel_rfl))
 f317:=Tryz.func159.trans (congrArg some (by kernel_rfl))
 f318:=Tryz.func161.trans (congrArg some (by kernel_rfl))
 f319:=Tryz.func162.trans (congrArg some (by kernel_rfl))
 f320:=Tryz.func163.trans (congrArg some (by kernel_rfl))
 f337:=Tryz.func165.trans (congrArg some (by kernel_rfl))
 f338:=Tryz.func166.trans (congrArg some (by kernel_rfl))
 t0:=Tryz.underlying0
 a0:=Tryz.isAgg0
 z0:=Tryz.sizeOf0
 v0:=Tryz.zeroValue0
 t2:=Tryz.underlying2
 a2:=Tryz.isAgg2
 z2:=Tryz.sizeOf2
 v2:=Tryz.zeroValue2
 t3:=Tryz.underlying3
 a3:=Tryz.isAgg3
 z3:=Tryz.sizeOf3
 v3:=Tryz.zeroValue3
 t4:=Tryz.underlying4
 a4:=Tryz.isAgg4
 z4:=Tryz.sizeOf4
 v4:=Tryz.zeroValue4
 t5:=Tryz.underlying5
 a5:=Tryz.isAgg5
 z5:=Tryz.sizeOf5
 v5:=Tryz.zeroValue5
 t9:=Tryz.underlying9
 a9:=Tryz.isAgg9
 z9:=Tryz.sizeOf9
 v9:=Tryz.zeroValue9
 t20:=Tryz.underlying20
 a20:=Tryz.isAgg20
 z20:=Tryz.sizeOf20
 v20:=Tryz.zeroValue20
 t37:=Tryz.underlying43
 a37:=Tryz.isAgg43
 z37:=Tryz.sizeOf43
 v37:=Tryz.zeroValue43
 t46:=Tryz.underlying187
 a46:=Tryz.isAgg187
 z46:=Tryz.sizeOf187
 v46:=Tryz.zeroValue187
 t51:=Tryz.underlying185
 a51:=Tryz.isAgg185
 z51:=Tryz.sizeOf185
 v51:=Tryz.zeroValue185
 t53:=Tryz.underlying139
 a53:=Tryz.isAgg139
 z53:=Tryz.sizeOf139
 v53:=Tryz.zeroValue139
 t171:=Tryz.underlying169
 a171:=Tryz.isAgg169
 z171:=Tryz.sizeOf169
 v171:=Tryz.zeroValue169
 t173:=Tryz.underlying172
 a173:=Tryz.isAgg172
 z173:=Tryz.sizeOf172
 v173:=Tryz.zeroValue172
 t212:=Tryz.underlying184
 a212:=Tryz.isAgg184
 z212:=Tryz.sizeOf184
 v212:=Tryz.zeroValue184
 t213:=Tryz.underlying186
 a213:=Tryz.isAgg186
 z213:=Tryz.sizeOf186
 t232:=Tryz.underlying190
 a232:=Tryz.isAgg190
 z232:=Tryz.sizeOf190
 v232:=Tryz.zeroValue190
 t233:=Tryz.underlying191
 a233:=Tryz.isAgg191
 z233:=Tryz.sizeOf191
 v233:=Tryz.zeroValue191
 g17:=by kernel_rfl
 g18:=by kernel_rfl
 g19:=by kernel_rfl }
theorem Tryz.laysM173:Go.Proofs.LaysM.n173 Tryz.prog Tryz.laysM173_ren:={ Tryz.lays173 with
 i0:=by kernel_rfl
 i2:=by kernel_rfl
 i3:=by kernel_rfl
 i4:=by kernel_rfl
 i5:=by kernel_rfl
 i9:=by kernel_rfl
 i20:=by kernel_rfl
 i37:=by kernel_rfl
 i46:=by kernel_rfl
 i51:=by kernel_rfl
 i53:=by kernel_rfl
 i171:=by kernel_rfl
 i173:=by kernel_rfl
 i212:=by kernel_rfl
 i232:=by kernel_rfl
 i233:=by kernel_rfl
 m17:=by kernel_rfl
 m18:=by kernel_rfl
 m19:=by kernel_rfl }
open Go.RowKit Go.Sort Go.Lib in
theorem Tryz.strconv_FormatInt_10 (n:Int) (h0:-9223372036854775808<=n) (h1:n<=9223372036854775807) (w:World) (htab:Lib.TabIs Tryz.prog w "internal/strconv.uint64pow10" .u64 Lib.pow10Tab) :
 Calls Tryz.prog 109 #[.int .i64 n,.int .i64 10] w fun e w'=>e=.returned (.string ⟨(Lib.itoa n).toArray⟩)/\∃ k os,w'=grow (w.drewN k) os:=Any.strconv_FormatInt_10 Tryz.laysM173 n h0 h1 w htab
end Go.Proofs
namespace Go.Proofs.YtkpohmhenegkiaaGreatDoor
open Go.W
theorem C4:∀ n:Nat,Lib.decDigits n=digs n:=fun n=>by
 induction n using Nat.strongRecOn with
 | _ n ih=>
  rw [Lib.decDigits,digs]
  by_cases h:n < 10
  · have e:n % 10=n:=Nat.mod_eq_of_lt h
    simp [h,e,Nat.toUInt8]
  · rw [dif_neg h,dif_neg h,ih (n / 10) (by omega)]
theorem PY (n:Int):Lib.itoa n=f6 n:=by
 unfold Lib.itoa f6
 by_cases h:n < 0
 · rw [if_pos h,decide_eq_true h,C4]; rfl
 · rw [if_neg h,decide_eq_false h,C4,show n.toNat=n.natAbs by omega]; rfl
def FI:List S->Prop:=fun av=>match av with
 | [.va (.c1 (.vl (.int .i64 n))),.va (.c1 (.vl (.int .i64 b)))]=>b=10/\-9223372036854775808<=n/\n<=9223372036854775807
 | _=>False
theorem yM {av:List S} (h:FI av):∃ n:Int,av=[iS .i64 n,iS .i64 10]/\-9223372036854775808<=n/\n<=9223372036854775807:=by
 unfold FI at h
 split at h
 · obtain ⟨rfl,h⟩:=h; exact ⟨_,rfl,h⟩
 · exact h.elim
def XZ:List S->A:=fun av=>match av with
 | [.va (.c1 (.vl (.int .i64 n))),.va (.c1 (.vl (.int .i64 _)))]=>tA (mk (f6 n))
 | _=>.gs []
def fiFn:Fun:=⟨FI,XZ,fun av h=>by obtain ⟨_,rfl,_⟩:=yM h; trivial⟩
attribute [go_sem ↓] FI XZ fiFn
theorem aGB {ro:RO} {w:World} (h:GR Tryz.prog ro w):Lib.TabIs Tryz.prog w "internal/strconv.uint64pow10" .u64 Lib.pow10Tab:=by
 have:=(h _ (List.mem_singleton.2 rfl) _ Tryz.laysM173.m17).2
 unfold Lib.TabIs
 rw [this,Lib.pow10Tab,List.map_map]
 rfl
theorem MV:Meets Tryz.prog 109 fiFn.sp:=by
 refine ⟨by kernel_rfl,?_⟩
 rintro xs vs E ro w K hl hrel hr ⟨⟨h,hE⟩,hK⟩ hG
 obtain ⟨n,rfl,h0,h1⟩:=yM h
 obtain ⟨v0,v1,rfl⟩:∃ v0 v1,vs=[v0,v1]:=by
  match vs,hl with
  | [v0,v1],_=>exact ⟨v0,v1,rfl⟩
 have e0:v0=.int .i64 n:=hrel 0 _ _ rfl rfl
 have e1:v1=.int .i64 10:=hrel 1 _ _ rfl rfl
 subst e0 e1
 refine (Tryz.strconv_FormatInt_10 n h0 h1 w (aGB hG)).mono ?_
 rintro e w' ⟨rfl,k,os,rfl⟩
 refine ⟨tS (mk (f6 n)),_,E,ro,rfl,by rw [PY]; rfl,by rw [hE]; exact hK,?_⟩
 have hk:∀ j,j < w.heap.size->(Sort.grow (w.drewN k) os).heap[j]? = w.heap[j]?:=fun j hj=>by
  simp [Sort.grow,World.drewN,Array.getElem?_append_left hj]
 exact hr.grown hk (by simp [Sort.grow,World.drewN]) rfl rfl rfl
def gC (k:Int):FuncId:=bif k == 1 then 54 else bif k == 4 then 56 else bif k == 7 then 58 else bif k == 5 then 60 else bif k == 6 then 62 else 64
def gI (k:Int):FuncId:=bif k == 1 then 55 else bif k == 4 then 57 else bif k == 7 then 59 else bif k == 5 then 61 else bif k == 6 then 63 else 65
def l0:W.Spec:=fun av H K=>match av with
 | [.va (.c1 (.vl (.int .i64 k)))]=>H=[]/\K (.va (.gs [.fn (gC k) [],.fn (gI k) []])) []
 | _=>False
attribute [go_sem ↓] l0
theorem mOf:Meets Tryz.prog 24 l0:=by
 refine aF Tryz.func24 aLD 1 (by rw [Tryz.ntmps24]; decide) (aA _) (fun av H K h=>by
  unfold l0 at h
  split at h
  · rfl
  · exact h.elim) ?_
 intro av H K h
 unfold l0 at h
 split at h
 · rename_i k
   obtain ⟨rfl,hK⟩:=h
   unfold gC gI at hK
   have fin:∀ (f g:FuncId) (R:Hp),K (.va (.gs [.fn f [],.fn g []])) []->W.Fin 0 K (.va (.gs [.fn f [],.fn g []])) R:=fun f g R h=>.sel [] (by simp) (by simp) rfl (.done (by simpa [go_sem] using h))
   cases h1:k == 1 with
   | true=>rw [h1] at hK; simp -dsimp only [go_sem,w4,wN,h1]; exact fin _ _ _ hK
   | false=>
   cases h2:k == 4 with
   | true=>rw [h1,h2] at hK; simp -dsimp only [go_sem,w4,wN,h1,h2]; exact fin _ _ _ hK
   | false=>
   cases h3:k == 7 with
   | true=>rw [h1,h2,h3] at hK; simp -dsimp only [go_sem,w4,wN,h1,h2,h3]; exact fin _ _ _ hK
   | false=>
   cases h4:k == 5 with
   | true=>rw [h1,h2,h3,h4] at hK; simp -dsimp only [go_sem,w4,wN,h1,h2,h3,h4]; exact fin _ _ _ hK
   | false=>
   cases h5:k == 6 with
   | true=>rw [h1,h2,h3,h4,h5] at hK; simp -dsimp only [go_sem,w4,wN,h1,h2,h3,h4,h5]; exact fin _ _ _ hK
   | false=>rw [h1,h2,h3,h4,h5] at hK; simp -dsimp only [go_sem,w4,wN,h1,h2,h3,h4,h5]; exact fin _ _ _ hK
 · exact h.elim
structure Fs where
 bad:Bool
 off:Int
 n:Nat
instance:Inhabited Tk:=⟨⟨0,[],0,0⟩⟩
def bF (ts:List Tk) (n:Nat):Tk:=ts.getD n default
abbrev O9 (s:Sc) (b:Bool) (o:Int):B:=.cells [.vl (.int .i64 s.ver),.fz (s.es.map bI),.fz (s.ss.map aP),.pt 1 0,.vl (.bool b),.vl (.int .i64 o)] 62
abbrev iB (s:Sc) (ts:List Tk) (z:Fs):Hp:=[O9 s z.bad z.off,hU 114 ts z.n]
structure Tks (ts:List Tk):Prop where
 e:Ends ts
 n:∀ t ∈ ts,b5 t.n
 x:∀ t ∈ ts,t.x.length<=4000
 a:∀ t ∈ ts,t.a<=4000
def dU (ts:List Tk) (z:Fs):Fs:=bif z.bad then z else ⟨true,(bF ts z.n).a,z.n⟩
def cI (w:List UInt8) (ts:List Tk) (z:Fs):Bool:=!z.bad && c9 4 w (bF ts z.n)
def b9 (w:List UInt8) (ts:List Tk) (z:Fs):Fs:=bif cI w ts z then ⟨false,z.off,cB ts z.n⟩ else z
def cQ (w:List UInt8) (ts:List Tk) (z:Fs):Fs:=bif cI w ts z then ⟨false,z.off,cB ts z.n⟩ else dU ts z
def iC (k:Int) (ts:List Tk) (z:Fs):Bool:=!z.bad && (bF ts z.n).k == k
def iQ (k:Int) (ts:List Tk) (z:Fs):Tk:=bif iC k ts z then bF ts z.n else default
def lI (k:Int) (ts:List Tk) (z:Fs):Fs:=bif iC k ts z then ⟨false,z.off,cB ts z.n⟩ else dU ts z
theorem jS {ts:List Tk} {n:Nat} (h:n < ts.length):ts[n]? = some (bF ts n):=by simp [bF,List.getD_eq_getElem?_getD,aU h]
theorem kP {T:TypeId} {ts:List Tk} {n:Nat} {K:S->Hp->Prop} (he:Ends ts) (h:n < ts.length) (hK:K (.va (.gs (dB (bF ts n)))) [hU T ts n]):cC T [.va (.c1 (.pt 0 0))] [hU T ts n] K:=
 ⟨rfl,ts,n,rfl,rfl,he,h,fun t ht=>by rw [jS h] at ht; cases ht; exact hK⟩
theorem w3 {T:TypeId} {ts:List Tk} {n:Nat} {K:S->Hp->Prop} (he:Ends ts) (h:n < ts.length) (hK:K (.va (.gs (dB (bF ts n)))) [hU T ts (cB ts n)]):cJ T [.va (.c1 (.pt 0 0))] [hU T ts n] K:=
 ⟨rfl,ts,n,rfl,rfl,he,h,fun t ht=>by rw [jS h] at ht; cases ht; exact hK⟩
theorem s0 {k:Int} {T:TypeId} {w:ByteArray} {ts:List Tk} {n:Nat} {K:S->Hp->Prop} (he:Ends ts) (h:n < ts.length) (hK:K (bS (c9 k (bl w) (bF ts n))) [hU T ts (rQ k (bl w) ts n (bF ts n))]):cD k T [.va (.c1 (.pt 0 0)),tS w] [hU T ts n] K:=
 ⟨rfl,ts,n,rfl,rfl,he,h,fun t ht=>by rw [jS h] at ht; cases ht; exact hK⟩
def mZ:W.Spec:=fun av H K=>∃ s ts z,av=[.va (.c1 (.pt 0 0))]/\H=iB s ts z/\Ends ts/\z.n < ts.length/\K (.tu []) (iB s ts (dU ts z))
theorem d9 {s:Sc} {ts:List Tk} {z:Fs} {K:S->Hp->Prop} (h1:Ends ts) (h2:z.n < ts.length) (hK:K (.tu []) (iB s ts (dU ts z))):mZ [.va (.c1 (.pt 0 0))] (iB s ts z) K:=⟨s,ts,z,rfl,rfl,h1,h2,hK⟩
attribute [-go_sem] cC cJ cD eQ
theorem pO:Meets Tryz.prog 31 mZ:=by
 refine aF Tryz.func31 aKN 1 (by rw [Tryz.ntmps31]; decide) (aB rA (aA _)) (fun av H K h=>by obtain ⟨_,_,_,rfl,_⟩:=h; rfl) ?_
 rintro av H K ⟨s,ts,⟨b,o,n⟩,rfl,rfl,he,hn,hK⟩
 unfold dU at hK
 cases b with
 | true=>
  simp (maxSteps:=1000000) -dsimp only [go_sem,SD,SO]
  exact .done hK
 | false=>
  simp (maxSteps:=1000000) -dsimp only [go_sem,SD,SO]
  refine kP he hn ?_
  simp (maxSteps:=1000000) -dsimp only [go_sem]
  exact .done hK
end Go.Proofs.YtkpohmhenegkiaaGreatDoor
namespace Go.Proofs.YtkpohmhenegkiaaGreatDoor
open Go.W
attribute [-go_sem] cC cJ cD eQ cN
theorem A9 (k:Int) (w:List UInt8) (ts:List Tk) (n:Nat) (t:Tk):rQ k w ts n t=bif c9 k w t then cB ts n else n:=rfl
def QZ:W.Spec:=fun av H K=>∃ s ts z w,av=[.va (.c1 (.pt 0 0)),tS w]/\H=iB s ts z/\Ends ts/\z.n < ts.length/\K (bS (cI (bl w) ts z)) (iB s ts (b9 (bl w) ts z))
theorem pJ {s:Sc} {ts:List Tk} {z:Fs} {w:ByteArray} {K:S->Hp->Prop} (h1:Ends ts) (h2:z.n < ts.length) (hK:K (bS (cI (bl w) ts z)) (iB s ts (b9 (bl w) ts z))):QZ [.va (.c1 (.pt 0 0)),tS w] (iB s ts z) K:=⟨s,ts,z,w,rfl,rfl,h1,h2,hK⟩
theorem OH:Meets Tryz.prog 128 QZ:=by
 refine aF Tryz.func128 aH0 2 (by rw [Tryz.ntmps128]; decide) (aB aBO (aA _)) (fun av H K h=>by obtain ⟨_,_,_,_,rfl,_⟩:=h; rfl) ?_
 rintro av H K ⟨s,ts,⟨b,o,n⟩,w,rfl,rfl,he,hn,hK⟩
 unfold b9 cI at hK
 cases b with
 | true=>
  simp (maxSteps:=1000000) -dsimp only [go_sem,M8,OG]
  exact .done hK
 | false=>
  simp (maxSteps:=1000000) -dsimp only [go_sem,M8,OG]
  refine s0 he hn ?_
  rw [A9]
  cases ht:c9 4 (bl w) (bF ts n)<;>rw [ht] at hK<;>(simp (maxSteps:=1000000) -dsimp only [go_sem]; exact .done hK)
def uO:W.Spec:=fun av H K=>∃ s ts z w,av=[.va (.c1 (.pt 0 0)),tS w]/\H=iB s ts z/\Ends ts/\z.n < ts.length/\K (.tu []) (iB s ts (cQ (bl w) ts z))
theorem iN {s:Sc} {ts:List Tk} {z:Fs} {w:ByteArray} {K:S->Hp->Prop} (h1:Ends ts) (h2:z.n < ts.length) (hK:K (.tu []) (iB s ts (cQ (bl w) ts z))):uO [.va (.c1 (.pt 0 0)),tS w] (iB s ts z) K:=⟨s,ts,z,w,rfl,rfl,h1,h2,hK⟩
theorem HT:Meets Tryz.prog 108 uO:=by
 refine aF Tryz.func108 aHX 2 (by rw [Tryz.ntmps108]; decide) (aB OH (aB pO (aA _))) (fun av H K h=>by obtain ⟨_,_,_,_,rfl,_⟩:=h; rfl) ?_
 rintro av H K ⟨s,ts,z,w,rfl,rfl,he,hn,hK⟩
 simp (maxSteps:=1000000) -dsimp only [go_sem,WC,WJ]
 refine pJ he hn ?_
 unfold cQ at hK
 cases ht:cI (bl w) ts z with
 | true=>
  have e:b9 (bl w) ts z=⟨false,z.off,cB ts z.n⟩:=by unfold b9; rw [ht]; rfl
  rw [ht] at hK
  rw [e]
  simp (maxSteps:=1000000) -dsimp only [go_sem]
  exact .done hK
 | false=>
  have e:b9 (bl w) ts z=z:=by unfold b9; rw [ht]; rfl
  rw [ht] at hK
  rw [e]
  simp (maxSteps:=1000000) -dsimp only [go_sem]
  refine d9 he hn ?_
  simp (maxSteps:=1000000) -dsimp only [go_sem]
  exact .done hK
def L7:W.Spec:=fun av H K=>∃ s ts z k,av=[.va (.c1 (.pt 0 0)),iS .i64 k]/\H=iB s ts z/\Ends ts/\z.n < ts.length/\K (.va (.gs (dB (iQ k ts z)))) (iB s ts (lI k ts z))
theorem EB {s:Sc} {ts:List Tk} {z:Fs} {k:Int} {K:S->Hp->Prop} (h1:Ends ts) (h2:z.n < ts.length) (hK:K (.va (.gs (dB (iQ k ts z)))) (iB s ts (lI k ts z))):L7 [.va (.c1 (.pt 0 0)),iS .i64 k] (iB s ts z) K:=⟨s,ts,z,k,rfl,rfl,h1,h2,hK⟩
theorem OR:Meets Tryz.prog 97 L7:=by
 refine aF Tryz.func97 aM5 2 (by rw [Tryz.ntmps97]; decide) (aB rA (aB EM (aB pO (aA _)))) (fun av H K h=>by obtain ⟨_,_,_,_,rfl,_⟩:=h; rfl) ?_
 rintro av H K ⟨s,ts,⟨b,o,n⟩,k,rfl,rfl,he,hn,hK⟩
 unfold iQ lI iC at hK
 cases b with
 | true=>
  simp (maxSteps:=1000000) -dsimp only [go_sem,UN,ST]
  refine aD rfl (.done ?_)
  simp (maxSteps:=1000000) -dsimp only [go_sem,zK]
  refine d9 (z:=⟨true,o,n⟩) he hn ?_
  simp (maxSteps:=1000000) -dsimp only [go_sem]
  refine .sel [0,1] (by simp) (by simp) rfl (.done ?_)
  simp (maxSteps:=1000000) -dsimp only [go_sem]
  exact hK
 | false=>
  simp (maxSteps:=1000000) -dsimp only [go_sem,UN,ST]
  refine kP he hn ?_
  cases ht:(bF ts n).k == k with
  | true=>
   have ht':((bF ts n).k != k)=false:=by rw [bne,ht]; rfl
   rw [ht] at hK
   simp (maxSteps:=1000000) -dsimp only [go_sem,dB,ht']
   refine aD rfl (.done ?_)
   simp (maxSteps:=1000000) -dsimp only [go_sem,JJ]
   refine w3 he hn ?_
   simp (maxSteps:=1000000) -dsimp only [go_sem]
   refine .sel [0,1] (by simp) (by simp) rfl (.done ?_)
   simp (maxSteps:=1000000) -dsimp only [go_sem]
   exact hK
  | false=>
   have ht':((bF ts n).k != k)=true:=by rw [bne,ht]; rfl
   rw [ht] at hK
   simp (maxSteps:=1000000) -dsimp only [go_sem,dB,ht']
   refine aD rfl (.done ?_)
   simp (maxSteps:=1000000) -dsimp only [go_sem,zK]
   refine d9 (z:=⟨false,o,n⟩) he hn ?_
   simp (maxSteps:=1000000) -dsimp only [go_sem]
   refine .sel [0,1] (by simp) (by simp) rfl (.done ?_)
   simp (maxSteps:=1000000) -dsimp only [go_sem]
   exact hK
end Go.Proofs.YtkpohmhenegkiaaGreatDoor
namespace Go.Proofs.YtkpohmhenegkiaaGreatDoor
open Go.W
attribute [-go_sem] cC cJ cD eQ cN
def tW:List UInt8:=[116,114,117,101]
def pB:List UInt8:=[102,97,108,115,101]
def gP (ts:List Tk) (z:Fs):Vl × Fs:=
 bif !z.bad && c9 1 tW (bF ts z.n) then (.mk 1 1 (mk []) [] [],⟨false,z.off,cB ts z.n⟩)
 else bif !z.bad && c9 1 pB (bF ts z.n) then (.mk 1 0 (mk []) [] [],⟨false,z.off,cB ts z.n⟩)
 else (.mk 1 0 (mk []) [] [],dU ts z)
def HH (k:Int) (ts:List Tk) (z:Fs):Vl × Fs:=(.mk k (iQ 2 ts z).n (mk []) [] [],lI 2 ts z)
def xO (ts:List Tk) (z:Fs):Vl × Fs:=(.mk 4 0 (mk (iQ 3 ts z).x) [] [],lI 3 ts z)
def kD (e:En) (ts:List Tk) (z:Fs):Int:=bif !z.bad && (bF ts z.n).k == 1 then gW e.ns (mk (bF ts z.n).x) 0 else -1
def gO (e:En) (ts:List Tk) (z:Fs):Vl × Fs:=
 bif decide (kD e ts z < 0) || decide ((e.vs.length:Int)<=kD e ts z) then (.mk 7 0 (mk []) [] [],dU ts z)
 else (.mk 7 (e.vs.getD (kD e ts z).toNat 0) (mk []) [] [],⟨false,z.off,cB ts z.n⟩)
def oH (D:Sc->Ty->Prop) (P:Sc->List Tk->Ty->Fs->Vl × Fs):W.Spec:=fun av H K=>∃ s ts t z,av=[.va (.c1 (.pt 0 0)),.va (.gs (aL t))]/\H=iB s ts z/\s.fit/\TyOk t/\Tks ts/\z.n < ts.length/\D s t/\K (.va (.gs (a8 (P s ts t z).1))) (iB s ts (P s ts t z).2)
theorem p5 {D:Sc->Ty->Prop} {P:Sc->List Tk->Ty->Fs->Vl × Fs}:∀ av H K,oH D P av H K->av.length=2:=fun av H K h=>by obtain ⟨_,_,_,_,rfl,_⟩:=h; rfl
theorem FK:Meets Tryz.prog 65 (oH (fun _ _=>True) fun _ ts t z=>HH t.k ts z):=by
 refine aF Tryz.func65 aL8 2 (by rw [Tryz.ntmps65]; decide) (aB OR (aA _)) p5 ?_
 rintro av H K ⟨s,ts,t,z,rfl,rfl,hs,ht,hts,hn,_,hK⟩
 simp (maxSteps:=1000000) -dsimp only [go_sem,aM t,aB4,aBS]
 refine EB hts.e hn ?_
 simp (maxSteps:=1000000) -dsimp only [go_sem,dB]
 refine .sel [0,1] (by simp) (by simp) rfl (.done ?_)
 simp (maxSteps:=1000000) -dsimp only [go_sem]
 exact hK
theorem NG:Meets Tryz.prog 57 (oH (fun _ _=>True) fun _ ts _ z=>xO ts z):=by
 refine aF Tryz.func57 aOF 2 (by rw [Tryz.ntmps57]; decide) (aB OR (aA _)) p5 ?_
 rintro av H K ⟨s,ts,t,z,rfl,rfl,hs,ht,hts,hn,_,hK⟩
 simp (maxSteps:=1000000) -dsimp only [go_sem,aM t,aFR,aDC]
 refine EB hts.e hn ?_
 simp (maxSteps:=1000000) -dsimp only [go_sem,dB]
 refine .sel [0,1] (by simp) (by simp) rfl (.done ?_)
 simp (maxSteps:=1000000) -dsimp only [go_sem]
 exact hK
theorem M1:Meets Tryz.prog 55 (oH (fun _ _=>True) fun _ ts _ z=>gP ts z):=by
 refine aF Tryz.func55 aNX 2 (by rw [Tryz.ntmps55]; decide) (aB aF1 (aB pO (aA _))) p5 ?_
 rintro av H K ⟨s,ts,t,⟨b,o,n⟩,rfl,rfl,hs,ht,hts,hn,_,hK⟩
 have hK:K (.va (.gs (a8 (gP ts ⟨b,o,n⟩).1))) (iB s ts (gP ts ⟨b,o,n⟩).2):=hK
 cases b with
 | true=>
  simp (maxSteps:=1000000) -dsimp only [go_sem,aM t,UV,SH]
  refine aD rfl (.done ?_)
  simp (maxSteps:=1000000) -dsimp only [go_sem,xY]
  refine aD rfl (.done ?_)
  simp (maxSteps:=1000000) -dsimp only [go_sem,AS]
  refine d9 (z:=⟨true,o,n⟩) hts.e hn ?_
  simp (maxSteps:=1000000) -dsimp only [go_sem]
  refine aD rfl (.done ?_)
  simp (maxSteps:=1000000) -dsimp only [go_sem,o6]
  refine .sel [0,1] (by simp) (by simp) rfl (.done ?_)
  simp (maxSteps:=1000000) -dsimp only [go_sem]
  exact hK
 | false=>
  simp (maxSteps:=1000000) -dsimp only [go_sem,aM t,UV,SH]
  refine s0 hts.e hn ?_
  rw [A9]
  rw [show bl (mk [116,114,117,101])=tW from rfl]
  cases h1:c9 1 tW (bF ts n) with
  | true=>
   rw [show gP ts ⟨false,o,n⟩=(.mk 1 1 (mk []) [] [],⟨false,o,cB ts n⟩) by simp [gP,h1]] at hK
   simp (maxSteps:=1000000) -dsimp only [go_sem]
   refine aD rfl (.done ?_)
   simp (maxSteps:=1000000) -dsimp only [go_sem,G7]
   refine aD rfl (.done ?_)
   simp (maxSteps:=1000000) -dsimp only [go_sem,o6]
   refine .sel [0,1] (by simp) (by simp) rfl (.done ?_)
   simp (maxSteps:=1000000) -dsimp only [go_sem]
   exact hK
  | false=>
   simp (maxSteps:=1000000) -dsimp only [go_sem]
   refine aD rfl (.done ?_)
   simp (maxSteps:=1000000) -dsimp only [go_sem,xY]
   refine s0 hts.e hn ?_
   rw [A9]
   rw [show bl (mk [102,97,108,115,101])=pB from rfl]
   cases h2:c9 1 pB (bF ts n) with
   | true=>
    rw [show gP ts ⟨false,o,n⟩=(.mk 1 0 (mk []) [] [],⟨false,o,cB ts n⟩) by simp [gP,h1,h2]] at hK
    simp (maxSteps:=1000000) -dsimp only [go_sem]
    refine aD rfl (.done ?_)
    simp (maxSteps:=1000000) -dsimp only [go_sem,o6]
    refine .sel [0,1] (by simp) (by simp) rfl (.done ?_)
    simp (maxSteps:=1000000) -dsimp only [go_sem]
    exact hK
   | false=>
    rw [show gP ts ⟨false,o,n⟩=(.mk 1 0 (mk []) [] [],dU ts ⟨false,o,n⟩) by simp [gP,h1,h2]] at hK
    simp (maxSteps:=1000000) -dsimp only [go_sem]
    refine aD rfl (.done ?_)
    simp (maxSteps:=1000000) -dsimp only [go_sem,AS]
    refine d9 (z:=⟨false,o,n⟩) hts.e hn ?_
    simp (maxSteps:=1000000) -dsimp only [go_sem]
    refine aD rfl (.done ?_)
    simp (maxSteps:=1000000) -dsimp only [go_sem,o6]
    refine .sel [0,1] (by simp) (by simp) rfl (.done ?_)
    simp (maxSteps:=1000000) -dsimp only [go_sem]
    exact hK
theorem Q9:∀ (l:List ByteArray) (x:ByteArray) (i:Nat),-1<=gW l x i/\gW l x i < (l.length:Int) + i
 | [],_,_=>⟨by simp [gW],by simp only [gW,List.length_nil]; omega⟩
 | y :: l,x,i=>by
  have:=Q9 l x (i + 1)
  rw [gW]
  cases decide (x=y) with
  | true=>exact ⟨by simp only [aI]; omega,by simp only [aI,List.length_cons]; omega⟩
  | false=>exact ⟨by simp only [aG]; omega,by simp only [aG,List.length_cons]; omega⟩
theorem NA:Meets Tryz.prog 59 (oH (fun _ _=>True) fun s ts t z=>gO ((fA s.es t.n).getD default) ts z):=by
 refine aF Tryz.func59 aNH 2 (by rw [Tryz.ntmps59]; decide) (aB zX (aB rA (aB EM (aJ aA0 (aB pO (aA _)))))) p5 ?_
 rintro av H K ⟨s,ts,t,⟨b,o,n⟩,rfl,rfl,hs,ht,hts,hn,_,hK0⟩
 obtain ⟨e,hE⟩:∃ e,(fA s.es t.n).getD default=e:=⟨_,rfl⟩
 have he:e.ok:=by
  rw [<-hE]
  cases h:fA s.es t.n with
  | none=>exact ⟨by decide,by decide,by decide,fun _ h=>(by cases h),fun _ h=>(by cases h)⟩
  | some e=>exact hs.ok.es e (List.mem_of_find?_eq_some h)
 have hK:K (.va (.gs (a8 (gO e ts ⟨b,o,n⟩).1))) (iB s ts (gO e ts ⟨b,o,n⟩).2):=by
  have:=hK0; simp only [hE] at this; exact this
 clear hK0
 have hlv:=he.lv
 have hln:=he.ln
 have hvs:=he.vs
 simp (maxSteps:=1000000) -dsimp only [go_sem,aM t,aCC,aB5]
 refine m5 hs ?_
 rw [hE]
 simp (maxSteps:=1000000) -dsimp only [go_sem,bI]
 refine aD rfl (.done ?_)
 have g0:decide ((-1:Int) < 0)=true:=rfl
 cases b with
 | true=>
  simp (maxSteps:=1000000) -dsimp only [go_sem,yL]
  refine aD rfl (.done ?_)
  simp (maxSteps:=1000000) -dsimp only [go_sem,nY,g0]
  refine aD rfl (.done ?_)
  simp (maxSteps:=1000000) -dsimp only [go_sem,pI]
  refine d9 (z:=⟨true,o,n⟩) hts.e hn ?_
  simp (maxSteps:=1000000) -dsimp only [go_sem]
  refine aD rfl (.done ?_)
  simp (maxSteps:=1000000) -dsimp only [go_sem,o9]
  refine .sel [0,1] (by simp) (by simp) rfl (.done ?_)
  simp (maxSteps:=1000000) -dsimp only [go_sem]
  rw [show gO e ts ⟨true,o,n⟩=(.mk 7 0 (mk []) [] [],dU ts ⟨true,o,n⟩) by simp [gO,kD]] at hK
  exact hK
 | false=>
  simp (maxSteps:=1000000) -dsimp only [go_sem,yL]
  refine kP hts.e hn ?_
  cases hk:(bF ts n).k == 1 with
  | false=>
   simp (maxSteps:=1000000) -dsimp only [go_sem,dB,hk]
   refine aD rfl (.done ?_)
   simp (maxSteps:=1000000) -dsimp only [go_sem,nY,g0]
   refine aD rfl (.done ?_)
   simp (maxSteps:=1000000) -dsimp only [go_sem,pI]
   refine d9 (z:=⟨false,o,n⟩) hts.e hn ?_
   simp (maxSteps:=1000000) -dsimp only [go_sem]
   refine aD rfl (.done ?_)
   simp (maxSteps:=1000000) -dsimp only [go_sem,o9]
   refine .sel [0,1] (by simp) (by simp) rfl (.done ?_)
   simp (maxSteps:=1000000) -dsimp only [go_sem]
   rw [show gO e ts ⟨false,o,n⟩=(.mk 7 0 (mk []) [] [],dU ts ⟨false,o,n⟩) by simp [gO,kD,hk]] at hK
   exact hK
  | true=>
   simp (maxSteps:=1000000) -dsimp only [go_sem,dB,hk]
   refine aD rfl (.done ?_)
   simp (maxSteps:=1000000) -dsimp only [go_sem,GZ]
   refine kP hts.e hn ?_
   simp (maxSteps:=1000000) -dsimp only [go_sem,dB,tY hln]
   have hi:kD e ts ⟨false,o,n⟩=gW e.ns (mk (bF ts n).x) 0:=by simp [kD,hk]
   have hlo:=(Q9 e.ns (mk (bF ts n).x) 0).1
   have hpE:gO e ts ⟨false,o,n⟩=bif decide (gW e.ns (mk (bF ts n).x) 0 < 0) || decide ((e.vs.length:Int)<=gW e.ns (mk (bF ts n).x) 0) then (.mk 7 0 (mk []) [] [],dU ts ⟨false,o,n⟩)
    else (.mk 7 (e.vs.getD (gW e.ns (mk (bF ts n).x) 0).toNat 0) (mk []) [] [],⟨false,o,cB ts n⟩):=by unfold gO; rw [hi]
   rw [hpE] at hK
   clear hpE hi
   obtain ⟨k,hkk⟩:∃ k,gW e.ns (mk (bF ts n).x) 0=k:=⟨_,rfl⟩
   rw [hkk] at hK hlo
   cases h1:decide (k < 0) with
   | true=>
    rw [h1] at hK
    refine aD rfl (.done ?_)
    simp (maxSteps:=1000000) -dsimp only [go_sem,nY,hkk,h1]
    refine aD rfl (.done ?_)
    simp (maxSteps:=1000000) -dsimp only [go_sem,pI]
    refine d9 (z:=⟨false,o,n⟩) hts.e hn ?_
    simp (maxSteps:=1000000) -dsimp only [go_sem]
    refine aD rfl (.done ?_)
    simp (maxSteps:=1000000) -dsimp only [go_sem,o9]
    refine .sel [0,1] (by simp) (by simp) rfl (.done ?_)
    simp (maxSteps:=1000000) -dsimp only [go_sem]
    rw [Bool.true_or] at hK
    exact hK
   | false=>
   rw [h1] at hK
   cases h2:decide ((e.vs.length:Int)<=k) with
   | true=>
    rw [h2] at hK
    refine aD rfl (.done ?_)
    simp (maxSteps:=1000000) -dsimp only [go_sem,nY,hkk,h1,h2]
    refine aD rfl (.done ?_)
    simp (maxSteps:=1000000) -dsimp only [go_sem,pI]
    refine d9 (z:=⟨false,o,n⟩) hts.e hn ?_
    simp (maxSteps:=1000000) -dsimp only [go_sem]
    refine aD rfl (.done ?_)
    simp (maxSteps:=1000000) -dsimp only [go_sem,o9]
    refine .sel [0,1] (by simp) (by simp) rfl (.done ?_)
    simp (maxSteps:=1000000) -dsimp only [go_sem]
    rw [Bool.or_true] at hK
    exact hK
   | false=>
   rw [h2] at hK
   have h1':0<=k:=by simpa using h1
   have h2':k < (e.vs.length:Int):=by simpa using h2
   obtain ⟨m,rfl⟩:∃ m:Nat,k=m:=⟨k.toNat,by omega⟩
   have hm:m < e.vs.length:=by omega
   have hx:e.vs[m]? = some e.vs[m]:=aU hm
   have q2:=aV (row:=cL) hx
   have hv:e.vs.getD ((m:Int)).toNat 0=e.vs[m]:=by simp [List.getD_eq_getElem?_getD,hx]
   rw [hv] at hK
   have hin:=hvs _ (List.getElem_mem hm)
   generalize e.vs[m]=y at *
   refine aD rfl (.done ?_)
   simp (maxSteps:=1000000) -dsimp only [go_sem,nY,hkk,h1,h2]
   refine aD rfl (.done ?_)
   simp (maxSteps:=1000000) -dsimp only [go_sem,IB]
   refine w3 hts.e hn ?_
   simp (maxSteps:=1000000) -dsimp only [go_sem]
   refine aD rfl (.done ?_)
   simp (maxSteps:=1000000) -dsimp only [go_sem,BT,↓q2]
   refine ⟨⟨by omega,by omega⟩,aD rfl (.done ?_)⟩
   simp (maxSteps:=1000000) -dsimp only [go_sem,CJ]
   refine .sel [0,1] (by simp) (by simp) rfl (.done ?_)
   simp (maxSteps:=1000000) -dsimp only [go_sem]
   exact hK
end Go.Proofs.YtkpohmhenegkiaaGreatDoor
namespace Go.Proofs.YtkpohmhenegkiaaGreatDoor
open Go.W
attribute [-go_sem] cC cJ cD eQ cN
abbrev Prs:Type:=Sc->List Tk->Ty->Fs->Vl × Fs
def iJ (D:Sc->Ty->Prop) (P:Prs) (f:FuncId):W.Spec:=oH (fun s t=>D s t/\gI t.k=f) P
def zW (D:Sc->Ty->Prop) (P:Prs):cK:=[(24,.s l0),(55,.s (iJ D P 55)),(57,.s (iJ D P 57)),(59,.s (iJ D P 59)),
 (61,.s (iJ D P 61)),(63,.s (iJ D P 63)),(65,.s (iJ D P 65))]
structure ParsM (D:Sc->Ty->Prop) (P:Prs):Prop where
 b:Meets Tryz.prog 55 (iJ D P 55)
 t:Meets Tryz.prog 57 (iJ D P 57)
 e:Meets Tryz.prog 59 (iJ D P 59)
 l:Meets Tryz.prog 61 (iJ D P 61)
 s:Meets Tryz.prog 63 (iJ D P 63)
 n:Meets Tryz.prog 65 (iJ D P 65)
theorem oV {D:Sc->Ty->Prop} {P:Prs} (h:ParsM D P):dG Tryz.prog (zW D P):=
 aB mOf (aB h.b (aB h.t (aB h.e (aB h.l (aB h.s (aB h.n (aA _)))))))
theorem TX (D:Sc->Ty->Prop) (P:Prs):sp (zW D P) 24=l0:=rfl
theorem O1 (D:Sc->Ty->Prop) (P:Prs) (k:Int):sp (zW D P) (gI k)=iJ D P (gI k):=by
 unfold gI
 cases k == 1<;>cases k == 4<;>cases k == 7<;>cases k == 5<;>cases k == 6<;>rfl
theorem F7 {D:Sc->Ty->Prop} {P:Prs} {s:Sc} {ts:List Tk} {t:Ty} {z:Fs} {K:S->Hp->Prop} (h1:s.fit) (h2:TyOk t) (h3:Tks ts) (h4:z.n < ts.length) (h5:D s t) (hK:K (.va (.gs (a8 (P s ts t z).1))) (iB s ts (P s ts t z).2)):iJ D P (gI t.k) [.va (.c1 (.pt 0 0)),.va (.gs [.vl (.int .i64 t.k),.vl (.int .i64 t.s),.vl (.string t.n),.fz (t.e.map aL)])] (iB s ts z) K:=⟨s,ts,t,z,by rw [aM],rfl,h1,h2,h3,h4,⟨h5,rfl⟩,hK⟩
abbrev uQ (s:Sc) (ts:List Tk) (t:Ty) (l:List Vl) (z:Fs):Hp:=[O9 s z.bad z.off,hU 114 ts z.n,.cells [.pt 0 0] 59,.cells [.vl (.int .i64 t.k),.vl (.int .i64 t.s),.vl (.string t.n),.fz (t.e.map aL)] 28,
 .cells [.vl (.int .i64 5),.vl (.int .i64 0),.vl (.string (mk [])),.sl 5 l.length,.vl (.slice none 0 0)] 32,.row (l.map a8) 32 5]
def Y1 (D:Sc->Ty->Prop) (P:Prs):W.Spec:=fun av H K=>∃ s ts t u l z,av=[.va (.c1 (.pt 4 0)),.va (.c1 (.pt 3 0)),.va (.c1 (.pt 2 0))]/\H=uQ s ts t l z/\s.fit/\TyOk u/\Tks ts/\z.n < ts.length/\t.e=[u]/\D s u/\(l.length + 1) * 80<=140737488355328/\
 K (.tu []) (uQ s ts t (l ++ [(P s ts u z).1]) (P s ts u z).2)
theorem aAP {D:Sc->Ty->Prop} {P:Prs} {s:Sc} {ts:List Tk} {t u:Ty} {l:List Vl} {z:Fs} {K:S->Hp->Prop} (h1:s.fit) (h2:TyOk u) (h3:Tks ts) (h4:z.n < ts.length) (h5:t.e=[u]) (h6:D s u) (h7:(l.length + 1) * 80<=140737488355328)
 (hK:K (.tu []) (uQ s ts t (l ++ [(P s ts u z).1]) (P s ts u z).2)):Y1 D P [.va (.c1 (.pt 4 0)),.va (.c1 (.pt 3 0)),.va (.c1 (.pt 2 0))] (uQ s ts t l z) K:=⟨s,ts,t,u,l,z,rfl,rfl,h1,h2,h3,h4,h5,h6,h7,hK⟩
theorem aGI {D:Sc->Ty->Prop} {P:Prs} (hP:ParsM D P):Meets Tryz.prog 102 (Y1 D P):=by
 refine aF Tryz.func102 aIC 3 (by rw [Tryz.ntmps102]; decide) (oV hP) (fun av H K h=>by obtain ⟨_,_,_,_,_,_,rfl,_⟩:=h; rfl) ?_
 rintro av H K ⟨s,ts,t,u,l,z,rfl,rfl,hs,hu,hts,hn,he,hD,hl,hK⟩
 have z0:(0:Int) < ((1:Nat):Int):=by decide
 have z1:(0:Int)<=0:=by decide
 simp (maxSteps:=1000000) -dsimp only [go_sem,he,aM u,WD,XX,TX,O1,forall_eq',z0,z1,List.length_cons,List.length_nil,List.take_succ_cons,List.take_zero]
 refine F7 hs hu hts hn hD ?_
 generalize P s ts u z=r at *
 obtain ⟨v,z'⟩:=r
 have ha:∀ {x r:List C},(l.map a8 ++ [x])[l.length]? = some r->r=x:=fun {x r} h=>by
  have h0:l.length=(l.map a8).length:=by simp
  rw [h0,List.getElem?_concat_length] at h
  exact (bR h).symm
 have hb:∀ x:List C,(l.map a8 ++ [x]).set l.length (a8 v)=(l ++ [v]).map a8:=fun x=>by
  rw [List.set_append_right _ _ (by simp)]
  simp
 rw [aS] at hb
 simp (maxSteps:=1000000) -dsimp only [go_sem,aS v]
 have fin:∀ {r x:List C} (y:B),r=[.vl (.int .i64 0),.vl (.int .i64 0),.vl (.string (mk [])),.vl (.slice none 0 0),.vl (.slice none 0 0)]->W.Fin 6 K (.tu []) [O9 s z'.bad z'.off,hU 114 ts z'.n,.cells [.pt 0 0] 59,.cells [.vl (.int .i64 t.k),.vl (.int .i64 t.s),.vl (.string t.n),.fz [[.vl (.int .i64 u.k),.vl (.int .i64 u.s),.vl (.string u.n),.fz (u.e.map aL)]]] 28,
  .cells [.vl (.int .i64 5),.vl (.int .i64 0),.vl (.string (mk [])),.sl 5 (l.length + 1),.vl (.slice none 0 0)] 32,.row ((l.map a8 ++ [x]).set l.length (.vl (.int .i64 v.k) :: .vl (.int .i64 v.n) :: .vl (.string v.s) :: .fz (v.l.map a8) :: .fz (v.f.map bW) :: List.drop 5 r)) 32 5,y]:=fun {r x} y hr=>by
  subst hr
  refine .sel [0,1,2,3,4,5] (by simp) (by simp) rfl (.done ?_)
  rw [show List.drop 5 [C.vl (.int .i64 0),C.vl (.int .i64 0),C.vl (.string (mk [])),C.vl (.slice none 0 0),C.vl (.slice none 0 0)]=[] from rfl,hb x]
  simp (maxSteps:=1000000) -dsimp only [go_sem]
  have e:(l ++ [v]).length=l.length + 1:=by simp
  rw [<-e]
  have:=hK
  unfold uQ at this
  rw [he] at this
  simp only [aM u,List.map_cons,List.map_nil,List.map_append] at this
  exact this
 exact ⟨hl,⟨by omega,by omega⟩,⟨by omega,fun r hr=>fin _ (ha hr)⟩,⟨by omega,by omega⟩,by omega,fun r hr=>fin _ (ha hr)⟩
end Go.Proofs.YtkpohmhenegkiaaGreatDoor
namespace Go.Proofs.YtkpohmhenegkiaaGreatDoor
open Go.W
attribute [-go_sem] cC cJ cD eQ cN
def kA {α:Type} (one:α->Fs->α × Fs) (ts:List Tk):Nat->α->Fs->α × Fs
 | 0,a,z=>(a,z)
 | f + 1,a,z=>bif z.bad then (a,z) else bif cI [44] ts (one a z).2 then kA one ts f (one a z).1 (b9 [44] ts (one a z).2) else one a z
theorem j4 {α:Type} (one:α->Fs->α × Fs) (ts:List Tk) (f:Nat) (a:α) (z:Fs):kA one ts (f + 1) a z=bif z.bad then (a,z) else bif cI [44] ts (one a z).2 then kA one ts f (one a z).1 (b9 [44] ts (one a z).2) else one a z:=rfl
def eP {α:Type} (one:α->Fs->α × Fs) (op sh:List UInt8) (ts:List Tk) (a:α) (z:Fs):α × Fs:=
 bif cI sh ts (cQ op ts z) then (a,b9 sh ts (cQ op ts z))
 else ((kA one ts (ts.length + 1) a (cQ op ts z)).1,cQ sh ts (kA one ts (ts.length + 1) a (cQ op ts z)).2)
theorem LH {w:List UInt8} {ts:List Tk} {z:Fs} (he:Ends ts) (hn:z.n < ts.length) (h:cI w ts z=true):cB ts z.n=z.n + 1/\z.n + 1 < ts.length/\z.bad=false:=by
 unfold cI at h
 rw [Bool.and_eq_true] at h
 obtain ⟨h1,h2⟩:=h
 have hb:z.bad=false:=by cases hb:z.bad with
  | false=>rfl
  | true=>rw [hb] at h1; cases h1
 have hk:(bF ts z.n).k=4:=by
  unfold c9 at h2
  rw [Bool.and_eq_true] at h2
  exact eq_of_beq h2.1
 have hne:¬ (z.n + 1=ts.length):=fun e=>by
  have:=(he.last _ _ (jS hn)).2 e
  rw [hk] at this; cases this
 have hlt:z.n + 1 < ts.length:=by omega
 exact ⟨if_pos hlt,hlt,hb⟩
theorem lV {ts:List Tk} {n:Nat} (h:n < ts.length):n<=cB ts n/\cB ts n < ts.length:=by
 unfold cB; split<;>omega
theorem uE (ts:List Tk) (z:Fs):(dU ts z).n=z.n:=by unfold dU; cases z.bad<;>rfl
theorem gY {w:List UInt8} {ts:List Tk} {z:Fs} (h:z.n < ts.length):z.n<=(cQ w ts z).n/\(cQ w ts z).n < ts.length:=by
 unfold cQ
 cases cI w ts z
 · rw [aG,uE]; exact ⟨Nat.le_refl _,h⟩
 · exact lV h
theorem CE {w:List UInt8} {ts:List Tk} {z:Fs} (h:z.n < ts.length):z.n<=(b9 w ts z).n/\(b9 w ts z).n < ts.length:=by
 unfold b9
 cases cI w ts z
 · exact ⟨Nat.le_refl _,h⟩
 · exact lV h
def DC {α:Type} (one:α->Fs->α × Fs) (ts:List Tk):Prop:=∀ a z,z.n < ts.length->z.n<=(one a z).2.n/\(one a z).2.n < ts.length
theorem O0 {α:Type} {one:α->Fs->α × Fs} {ts:List Tk} (ho:DC one ts):∀ (f:Nat) (a:α) (z:Fs),z.n < ts.length->z.n<=(kA one ts f a z).2.n/\(kA one ts f a z).2.n < ts.length
 | 0,a,z,h=>⟨Nat.le_refl _,h⟩
 | f + 1,a,z,h=>by
  rw [j4]
  cases z.bad
  · have h1:=ho a z h
    cases cI [44] ts (one a z).2
    · exact h1
    · have h2:=CE (w:=[44]) h1.2
      have h3:=O0 ho f (one a z).1 _ h2.2
      exact ⟨Nat.le_trans h1.1 (Nat.le_trans h2.1 h3.1),h3.2⟩
  · exact ⟨Nat.le_refl _,h⟩
theorem ON {α:Type} {one:α->Fs->α × Fs} {ts:List Tk} (ho:DC one ts) (op sh:List UInt8) (a:α) (z:Fs) (h:z.n < ts.length):z.n<=(eP one op sh ts a z).2.n/\(eP one op sh ts a z).2.n < ts.length:=by
 unfold eP
 have h1:=gY (w:=op) h
 cases cI sh ts (cQ op ts z)
 · have h2:=O0 ho (ts.length + 1) a _ h1.2
   have h3:=gY (w:=sh) h2.2
   exact ⟨Nat.le_trans h1.1 (Nat.le_trans h2.1 h3.1),h3.2⟩
 · have h2:=CE (w:=sh) h1.2
   exact ⟨Nat.le_trans h1.1 h2.1,h2.2⟩
def jD (P:Prs) (s:Sc) (ts:List Tk) (u:Ty):List Vl->Fs->List Vl × Fs:=fun l z=>(l ++ [(P s ts u z).1],(P s ts u z).2)
abbrev UH:S:=.va (.c1 (.fn 102 [(false,[.pt 4 0]),(false,[.pt 3 0]),(false,[.pt 2 0])]))
def X1 (D:Sc->Ty->Prop) (P:Prs):W.Spec:=fun av H K=>∃ s ts t u z op sh,av=[.va (.c1 (.pt 0 0)),tS op,tS sh,UH]/\H=uQ s ts t [] z/\s.fit/\TyOk u/\Tks ts/\z.n < ts.length/\t.e=[u]/\D s u/\
 K (.tu []) (uQ s ts t (eP (jD P s ts u) (bl op) (bl sh) ts [] z).1 (eP (jD P s ts u) (bl op) (bl sh) ts [] z).2)
theorem aAO {D:Sc->Ty->Prop} {P:Prs} {s:Sc} {ts:List Tk} {t u:Ty} {z:Fs} {op sh:ByteArray} {K:S->Hp->Prop} (h1:s.fit) (h2:TyOk u) (h3:Tks ts) (h4:z.n < ts.length) (h5:t.e=[u]) (h6:D s u)
 (hK:K (.tu []) (uQ s ts t (eP (jD P s ts u) (bl op) (bl sh) ts [] z).1 (eP (jD P s ts u) (bl op) (bl sh) ts [] z).2)):X1 D P [.va (.c1 (.pt 0 0)),tS op,tS sh,UH] (uQ s ts t [] z) K:=⟨s,ts,t,u,z,op,sh,rfl,rfl,h1,h2,h3,h4,h5,h6,hK⟩
def Prs.onw (P:Prs):Prop:=∀ s ts t z,z.n < ts.length->z.n<=(P s ts t z).2.n/\(P s ts t z).2.n < ts.length
theorem ZX {D:Sc->Ty->Prop} {P:Prs} (hP:ParsM D P) (hO:P.onw):Meets Tryz.prog 101 (X1 D P):=by
 refine aF Tryz.func101 aGT 4 (by rw [Tryz.ntmps101]; decide) (aB HT (aB OH (aB (aGI hP) (aA _)))) (fun av H K h=>by obtain ⟨_,_,_,_,_,_,_,rfl,_⟩:=h; rfl) ?_
 rintro av H K ⟨s,ts,t,u,z,op,sh,rfl,rfl,hs,hu,hts,hn,he,hD,hK⟩
 have onw:DC (jD P s ts u) ts:=fun a z h=>hO s ts u z h
 have hl0:=hts.e.le
 unfold eP at hK
 simp (maxSteps:=1000000) -dsimp only [go_sem,WV,VF]
 refine iN hts.e hn ?_
 have hn1:=(gY (w:=bl op) hn).2
 generalize cQ (bl op) ts z=z1 at *
 simp (maxSteps:=1000000) -dsimp only [go_sem]
 refine aD rfl (.done ?_)
 simp (maxSteps:=1000000) -dsimp only [go_sem,CA]
 refine pJ hts.e hn1 ?_
 cases hh:cI (bl sh) ts z1 with
 | true=>
  rw [hh] at hK
  simp (maxSteps:=1000000) -dsimp only [go_sem]
  refine .sel [0,1,2,3,4,5] (by simp) (by simp) rfl (.done ?_)
  simp (maxSteps:=1000000) -dsimp only [go_sem]
  exact hK
 | false=>
 rw [hh] at hK
 rw [show b9 (bl sh) ts z1=z1 by unfold b9; rw [hh]; rfl]
 simp (maxSteps:=1000000) -dsimp only [go_sem]
 refine aD rfl (.done ?_)
 simp (maxSteps:=1000000) -dsimp only [go_sem,BK]
 refine aN (α:=Nat × Bool × List Vl × Fs) (fun x=>[(0,.va (.c1 (.pt 0 0))),(2,tS sh),(3,UH),(8,bS x.2.1)]) (fun x=>uQ s ts t x.2.2.1 x.2.2.2)
  (fun x=>x.2.2.2.n < ts.length/\x.2.2.1.length + x.1<=ts.length + 1/\(x.2.1=true->ts.length < x.2.2.2.n + x.1)/\(bif x.2.1 then kA (jD P s ts u) ts x.1 x.2.2.1 x.2.2.2 else (x.2.2.1,x.2.2.2))=kA (jD P s ts u) ts (ts.length + 1) [] z1)
  (fun x=>x.1) (ts.length + 1,true,[],z1) 6 ⟨hn1,by simp,fun _=>by omega,rfl⟩ ?_ ?_ ?_
 · simp -dsimp only [go_sem]<;>simp
 · simp -dsimp only [go_sem]<;>simp
 rintro ⟨f,m,l,z⟩ ⟨h1,h2,h3,h4⟩
 simp only at h1 h2 h3 h4
 cases m with
 | false=>
  rw [aG] at h4
  rw [<-h4] at hK
  simp (maxSteps:=1000000) -dsimp only [go_sem]
  refine aD rfl (.done ?_)
  simp (maxSteps:=1000000) -dsimp only [go_sem,uK]
  refine iN (z:=z) hts.e h1 ?_
  simp (maxSteps:=1000000) -dsimp only [go_sem]
  refine .sel [0,1,2,3,4,5] (by simp) (by simp) rfl (.done ?_)
  simp (maxSteps:=1000000) -dsimp only [go_sem]
  exact hK
 | true=>
  rw [aI] at h4
  have h3:=h3 rfl
  obtain ⟨f,rfl⟩:∃ g,f=g + 1:=⟨f - 1,by omega⟩
  rw [j4] at h4
  obtain ⟨b,o,n⟩:=z
  cases b with
  | true=>
   rw [aI] at h4
   rw [<-h4] at hK
   simp (maxSteps:=1000000) -dsimp only [go_sem]
   refine aD rfl (.done ?_)
   simp (maxSteps:=1000000) -dsimp only [go_sem,uK]
   refine iN (z:=⟨true,o,n⟩) hts.e h1 ?_
   simp (maxSteps:=1000000) -dsimp only [go_sem]
   refine .sel [0,1,2,3,4,5] (by simp) (by simp) rfl (.done ?_)
   simp (maxSteps:=1000000) -dsimp only [go_sem]
   exact hK
  | false=>
   rw [aG] at h4
   simp (maxSteps:=1000000) -dsimp only [go_sem]
   refine aAP (z:=⟨false,o,n⟩) hs hu hts h1 he hD (by omega) ?_
   have h5:=onw l ⟨false,o,n⟩ h1
   have e1:jD P s ts u l ⟨false,o,n⟩=(l ++ [(P s ts u ⟨false,o,n⟩).1],(P s ts u ⟨false,o,n⟩).2):=rfl
   rw [e1] at h4 h5
   generalize P s ts u ⟨false,o,n⟩=r at *
   obtain ⟨v,z'⟩:=r
   simp only at h4 h5
   simp (maxSteps:=1000000) -dsimp only [go_sem]
   refine aD rfl (.done ?_)
   simp (maxSteps:=1000000) -dsimp only [go_sem,AX]
   refine pJ (z:=z') hts.e h5.2 ?_
   cases hc:cI (bl (mk [44])) ts z' with
   | true=>
    obtain ⟨g1,g2,g3⟩:=LH hts.e h5.2 hc
    have hc':cI [44] ts z'=true:=hc
    rw [hc',aI] at h4
    have e2:b9 (bl (mk [44])) ts z'=⟨false,z'.off,cB ts z'.n⟩:=by unfold b9; rw [hc]; rfl
    have e3:b9 [44] ts z'=⟨false,z'.off,cB ts z'.n⟩:=e2
    rw [e3] at h4
    rw [e2]
    simp (maxSteps:=1000000) -dsimp only [go_sem]
    refine aE (f,true,l ++ [v],⟨false,z'.off,cB ts z'.n⟩) 6 ⟨?_,?_,?_,h4⟩ (by simp) ?_ ?_
    · simp only [g1]; exact g2
    · simp only [List.length_append,List.length_singleton]; omega
    · intro _
      have h6:=h5.1
      simp only at h6 h3 ⊢
      omega
    · simp -dsimp only [go_sem]<;>simp
    · simp -dsimp only [go_sem]<;>simp
   | false=>
    have hc':cI [44] ts z'=false:=hc
    rw [hc',aG] at h4
    rw [show b9 (bl (mk [44])) ts z'=z' by unfold b9; rw [hc]; rfl]
    simp (maxSteps:=1000000) -dsimp only [go_sem]
    refine aE (f,false,l ++ [v],z') 6 ⟨h5.2,?_,fun h=>(by cases h),h4⟩ (by simp) ?_ ?_
    · simp only [List.length_append,List.length_singleton]; omega
    · simp -dsimp only [go_sem]<;>simp
    · simp -dsimp only [go_sem]<;>simp
end Go.Proofs.YtkpohmhenegkiaaGreatDoor
namespace Go.Proofs.YtkpohmhenegkiaaGreatDoor
open Go.W
attribute [-go_sem] cC cJ cD eQ cN
def mH (P:Prs) (s:Sc) (ts:List Tk) (u:Ty) (z:Fs):Vl × Fs:=(.mk 5 0 (mk []) (eP (jD P s ts u) [91] [93] ts [] z).1 [],(eP (jD P s ts u) [91] [93] ts [] z).2)
theorem OD {D:Sc->Ty->Prop} {P:Prs} (hP:ParsM D P) (hO:P.onw):Meets Tryz.prog 61 (oH (fun s t=>∃ u,t.e=[u]/\TyOk u/\D s u) fun s ts t z=>mH P s ts (t.e.headD default) z):=by
 refine aF Tryz.func61 aNI 2 (by rw [Tryz.ntmps61]; decide) (aB (ZX hP hO) (aA _)) p5 ?_
 rintro av H K ⟨s,ts,t,z,rfl,rfl,hs,ht,hts,hn,⟨u,he,hu,hD⟩,hK⟩
 have hK:K (.va (.gs (a8 (mH P s ts u z).1))) (iB s ts (mH P s ts u z).2):=by
  have:=hK; simp only [he,List.headD_cons] at this; exact this
 unfold mH at hK
 simp (maxSteps:=1000000) -dsimp only [go_sem,aM t,aFG,aA7]
 refine aD rfl (.nilc 5 3 32 5 _ _ rfl rfl (.done ?_))
 simp (maxSteps:=1000000) -dsimp only [go_sem,H7]
 refine aAO (t:=t) hs hu hts hn he hD ?_
 rw [show bl (mk [91])=[91] from rfl,show bl (mk [93])=[93] from rfl]
 generalize eP (jD P s ts u) [91] [93] ts [] z=r at *
 obtain ⟨l,z'⟩:=r
 simp (maxSteps:=1000000) -dsimp only [go_sem]
 refine aD rfl (.done ?_)
 simp (maxSteps:=1000000) -dsimp only [go_sem,I1]
 refine .pub 6 _ _ _ rfl (.sel [0,1] (by simp) (by simp [cP]) rfl (.done ?_))
 simp (maxSteps:=1000000) -dsimp only [go_sem,cP]
 rw [aS] at hK
 exact hK
end Go.Proofs.YtkpohmhenegkiaaGreatDoor
namespace Go.Proofs.YtkpohmhenegkiaaGreatDoor
open Go.W
attribute [-go_sem] cC cJ cD eQ cN
abbrev nmV:S:=.va (.c1 (.fn 107 [(false,[.pt 0 0])]))
def aEH:W.Spec:=fun av H K=>∃ (f:Fl) (t:Tk),av=[.va (.gs (aW f)),.va (.c1 (.pt 0 0))]/\H=[.cells (dB t) 71]/\K (bS (bl f.nm == t.x)) [.cells (dB t) 71]
theorem aB7 {f:Fl} {t:Tk} {K:S->Hp->Prop} (hK:K (bS (bl f.nm == t.x)) [.cells (dB t) 71]):aEH [.va (.gs (aW f)),.va (.c1 (.pt 0 0))] [.cells (dB t) 71] K:=⟨f,t,rfl,rfl,hK⟩
theorem aDA:Meets Tryz.prog 107 aEH:=by
 refine aF Tryz.func107 aGG 2 (by rw [Tryz.ntmps107]; decide) (aA _) (fun av H K h=>by obtain ⟨_,_,rfl,_⟩:=h; rfl) ?_
 rintro av H K ⟨f,t,rfl,rfl,hK⟩
 simp -dsimp only [go_sem,aW,dB,YI,W8]
 exact .sel [0] (by simp) (by simp) rfl (.done (by simpa [go_sem,dB] using hK))
def iL (n:List UInt8):List Fl->Nat->Int
 | [],_=>-1
 | x :: l,i=>bif bl x.nm == n then (i:Int) else iL n l (i + 1)
def NH:W.Spec:=fun av H K=>∃ (l:List Fl) (t:Tk),av=[.va (.c1 (.fz (l.map aW))),nmV]/\H=[.cells (dB t) 71]/\l.length<=9223372036854775807/\K (iS .i64 (iL t.x l 0)) [.cells (dB t) 71]
theorem aEU {l:List Fl} {t:Tk} {K:S->Hp->Prop} (h:l.length<=9223372036854775807) (hK:K (iS .i64 (iL t.x l 0)) [.cells (dB t) 71]):NH [.va (.c1 (.fz (l.map aW))),nmV] [.cells (dB t) 71] K:=⟨l,t,rfl,rfl,h,hK⟩
theorem TN:Meets Tryz.prog 106 NH:=by
 refine aF Tryz.func106 aHW 2 (by rw [Tryz.ntmps106]; decide) (aB aDA (aA _)) (fun av H K h=>by obtain ⟨_,_,rfl,_⟩:=h; rfl) ?_
 rintro av H K ⟨l,t,rfl,rfl,hl,hK⟩
 simp -dsimp only [go_sem,XT,VE]
 refine aN (α:=Nat) (fun i=>[(0,.va (.c1 (.fz (l.map aW)))),(1,nmV),(7,iS .i64 l.length),(8,iS .i64 i)]) (fun _=>[.cells (dB t) 71])
  (fun i=>i<=l.length/\iL t.x (l.drop i) i=iL t.x l 0) (fun i=>l.length - i) 0 1 ⟨Nat.zero_le _,rfl⟩ ?_ ?_ ?_
 · simp -dsimp only [go_sem]<;>simp
 · simp -dsimp only [go_sem,dB]<;>simp
 rintro i ⟨hi,ho⟩
 rcases bC i l.length with hlt | hge
 · have hg:decide ((i:Int) < (l.length:Int))=true:=by simp; omega
   have hx:l[i]? = some l[i]:=aU hlt
   have q2:=aV (row:=aW) hx
   rw [List.drop_eq_getElem_cons hlt,iL] at ho
   generalize l[i]=y at *
   simp -dsimp only [go_sem,hg,↓q2,aW,List.take_succ_cons,List.take_zero,List.length_cons]
   refine ⟨by omega,aB7 ?_⟩
   cases hc:bl y.nm == t.x with
   | true=>
    rw [hc,aI] at ho
    simp -dsimp only [go_sem]
    exact .sel [0] (by simp) (by simp) rfl (.done (by simpa [go_sem,dB,ho] using hK))
   | false=>
    rw [hc,aG] at ho
    simp -dsimp only [go_sem]
    refine ⟨by omega,aE (i + 1) 1 ⟨by omega,ho⟩ (by omega) ?_ ?_⟩
    · simp -dsimp only [go_sem]<;>simp
    · simp -dsimp only [go_sem,dB]<;>simp [dB]
 · have hg:decide ((i:Int) < (l.length:Int))=false:=by simp; omega
   have:l.drop i=[]:=List.drop_eq_nil_iff.2 (by omega)
   rw [this] at ho
   simp -dsimp only [go_sem,hg]
   exact .sel [0] (by simp) (by simp) rfl (.done (by rw [show iL t.x l 0=-1 from ho.symm] at hK; simpa [go_sem,dB] using hK))
theorem AV (n:List UInt8):∀ (l:List Fl) (i:Nat),-1<=iL n l i/\iL n l i < (l.length:Int) + i
 | [],_=>⟨by simp [iL],by simp only [iL,List.length_nil]; omega⟩
 | y :: l,i=>by
  have:=AV n l (i + 1)
  rw [iL]
  cases bl y.nm == n with
  | true=>exact ⟨by simp only [aI]; omega,by simp only [aI,List.length_cons]; omega⟩
  | false=>exact ⟨by simp only [aG]; omega,by simp only [aG,List.length_cons]; omega⟩
end Go.Proofs.YtkpohmhenegkiaaGreatDoor
namespace Go.Proofs.YtkpohmhenegkiaaGreatDoor
open Go.W
attribute [-go_sem] cC cJ cD eQ cN
def n4 (D:Sc->Ty->Prop) (P:Prs):cK:=(30,.s (cC 114)) :: (100,.s (cJ 114)) :: (31,.s mZ) :: (108,.s uO) :: (106,.s NH) :: zW D P
theorem JS {D:Sc->Ty->Prop} {P:Prs} (h:ParsM D P):dG Tryz.prog (n4 D P):=aB rA (aB EM (aB pO (aB HT (aB TN (oV h)))))
theorem SX (D:Sc->Ty->Prop) (P:Prs):sp (n4 D P) 24=l0:=rfl
theorem U7 (D:Sc->Ty->Prop) (P:Prs):sp (n4 D P) 30=cC 114:=rfl
theorem UJ (D:Sc->Ty->Prop) (P:Prs):sp (n4 D P) 100=cJ 114:=rfl
theorem wY (D:Sc->Ty->Prop) (P:Prs):sp (n4 D P) 31=mZ:=rfl
theorem SY (D:Sc->Ty->Prop) (P:Prs):sp (n4 D P) 108=uO:=rfl
theorem UQ (D:Sc->Ty->Prop) (P:Prs):sp (n4 D P) 106=NH:=rfl
theorem QD (D:Sc->Ty->Prop) (P:Prs) (k:Int):sp (n4 D P) (gI k)=iJ D P (gI k):=by
 unfold gI
 cases k == 1<;>cases k == 4<;>cases k == 7<;>cases k == 5<;>cases k == 6<;>rfl
abbrev xX:Type:=Int × List (Int × Vl)
abbrev uU (s:Sc) (ts:List Tk) (u:St) (a:xX) (z:Fs):Hp:=[O9 s z.bad z.off,hU 114 ts z.n,.cells [.pt 0 0] 59,
 .cells [.vl (.int .i64 6),.vl (.int .i64 0),.vl (.string (mk [])),.vl (.slice none 0 0),.sl 6 a.2.length] 32,.cells [.vl (.string u.nm),.fz (u.fs.map aW)] 95,.cells [.vl (.int .i64 a.1)] 3,.row (a.2.map bW) 57 6]
def dW (ts:List Tk) (u:St) (z:Fs):Int:=iL (bF ts z.n).x u.fs 0
def lR (ts:List Tk) (u:St) (last:Int) (z:Fs):Bool:=(bF ts z.n).k != 1 || decide (dW ts u z < 0) || decide ((u.fs.getD (dW ts u z).toNat default).num<=last)
def n1 (ts:List Tk) (z:Fs):Fs:=cQ [61] ts ⟨z.bad,z.off,cB ts z.n⟩
def eR (P:Prs) (s:Sc) (ts:List Tk) (u:St):xX->Fs->xX × Fs:=fun a z=>
 bif lR ts u a.1 z then (a,dU ts z)
 else (((u.fs.getD (dW ts u z).toNat default).num,a.2 ++ [((u.fs.getD (dW ts u z).toNat default).num,(P s ts (u.fs.getD (dW ts u z).toNat default).ty (n1 ts z)).1)]),(P s ts (u.fs.getD (dW ts u z).toNat default).ty (n1 ts z)).2)
def PM (D:Sc->Ty->Prop) (P:Prs):W.Spec:=fun av H K=>∃ s ts u a z,av=[.va (.c1 (.pt 2 0)),.va (.c1 (.pt 4 0)),.va (.c1 (.pt 5 0)),.va (.c1 (.pt 3 0))]/\H=uU s ts u a z/\s.fit/\Tks ts/\z.n < ts.length/\u.fs.length<=9223372036854775807/\(∀ f ∈ u.fs,TyOk f.ty/\D s f.ty)/\(a.2.length + 1) * 88<=140737488355328/\
 K (.tu []) (uU s ts u (eR P s ts u a z).1 (eR P s ts u a z).2)
theorem SU {D:Sc->Ty->Prop} {P:Prs} {s:Sc} {ts:List Tk} {u:St} {a:xX} {z:Fs} {K:S->Hp->Prop} (h1:s.fit) (h3:Tks ts) (h4:z.n < ts.length) (h5:u.fs.length<=9223372036854775807) (h6:∀ f ∈ u.fs,TyOk f.ty/\D s f.ty) (h7:(a.2.length + 1) * 88<=140737488355328)
 (hK:K (.tu []) (uU s ts u (eR P s ts u a z).1 (eR P s ts u a z).2)):PM D P [.va (.c1 (.pt 2 0)),.va (.c1 (.pt 4 0)),.va (.c1 (.pt 5 0)),.va (.c1 (.pt 3 0))] (uU s ts u a z) K:=⟨s,ts,u,a,z,rfl,rfl,h1,h3,h4,h5,h6,h7,hK⟩
theorem aH4 {D:Sc->Ty->Prop} {P:Prs} (hP:ParsM D P):Meets Tryz.prog 105 (PM D P):=by
 refine aF Tryz.func105 aHR 4 (by rw [Tryz.ntmps105]; decide) (JS hP) (fun av H K h=>by obtain ⟨_,_,_,_,_,rfl,_⟩:=h; rfl) ?_
 rintro av H K ⟨s,ts,u,⟨last,F⟩,z,rfl,rfl,hs,hts,hn,hul,hD,hl,hK⟩
 unfold eR at hK
 simp only at hK hl
 simp (maxSteps:=1000000) -dsimp only [go_sem,YH,VD,U7]
 refine kP hts.e hn ?_
 simp (maxSteps:=1000000) -dsimp only [go_sem,dB]
 refine aD rfl (.done ?_)
 simp (maxSteps:=1000000) -dsimp only [go_sem,BZ,UQ]
 refine aEU (t:=bF ts z.n) hul ?_
 simp (maxSteps:=1000000) -dsimp only [go_sem]
 refine aD rfl (.done ?_)
 rw [show iL (bF ts z.n).x u.fs 0=dW ts u z from rfl]
 have hlo:-1<=dW ts u z/\dW ts u z < (u.fs.length:Int) + (0:Nat):=AV _ _ _
 have hbad:lR ts u last z=((bF ts z.n).k != 1 || decide (dW ts u z < 0) || decide ((u.fs.getD (dW ts u z).toNat default).num<=last)):=rfl
 obtain ⟨k,hk⟩:∃ k,dW ts u z=k:=⟨_,rfl⟩
 rw [hk] at hK hlo hbad
 have hlt:=hlo.2
 cases h1:(bF ts z.n).k != 1 with
 | true=>
  rw [h1,Bool.true_or,Bool.true_or] at hbad
  rw [hbad,aI] at hK
  simp (maxSteps:=1000000) -dsimp only [go_sem,mR,h1]
  refine aD rfl (.done ?_)
  simp (maxSteps:=1000000) -dsimp only [go_sem,pN,wY]
  refine d9 hts.e hn ?_
  simp (maxSteps:=1000000) -dsimp only [go_sem]
  refine .sel [0,1,2,3,4,5,6] (by simp) (by simp) rfl (.done ?_)
  simp (maxSteps:=1000000) -dsimp only [go_sem]
  exact hK
 | false=>
  cases h2:decide (k < 0) with
  | true=>
   rw [h1,h2,Bool.or_true,Bool.true_or] at hbad
   rw [hbad,aI] at hK
   simp (maxSteps:=1000000) -dsimp only [go_sem,mR,h1,hk,h2]
   refine aD rfl (.done ?_)
   simp (maxSteps:=1000000) -dsimp only [go_sem,pN,wY]
   refine d9 hts.e hn ?_
   simp (maxSteps:=1000000) -dsimp only [go_sem]
   refine .sel [0,1,2,3,4,5,6] (by simp) (by simp) rfl (.done ?_)
   simp (maxSteps:=1000000) -dsimp only [go_sem]
   exact hK
  | false=>
  have h2':0<=k:=by simpa using h2
  obtain ⟨m,rfl⟩:∃ m:Nat,k=m:=⟨k.toNat,by omega⟩
  have hm:m < u.fs.length:=by omega
  have hx:u.fs[m]? = some u.fs[m]:=aU hm
  have q1:=pF (row:=aW) hx
  have q2:=aV (row:=aW) hx
  have hv:u.fs.getD ((m:Int)).toNat default=u.fs[m]:=by simp [List.getD_eq_getElem?_getD,hx]
  rw [hv] at hK hbad
  obtain ⟨hto,hDf⟩:=hD _ (List.getElem_mem hm)
  generalize u.fs[m]=d at *
  rw [h1,h2,Bool.false_or,Bool.false_or] at hbad
  cases h3:decide (d.num<=last) with
  | true=>
   rw [h3] at hbad
   rw [hbad,aI] at hK
   simp (maxSteps:=1000000) -dsimp only [go_sem,mR,h1,hk,h2,↓q2,aW,h3]
   refine ⟨⟨by omega,by omega⟩,aD rfl (.done ?_)⟩
   simp (maxSteps:=1000000) -dsimp only [go_sem,pN,wY]
   refine d9 hts.e hn ?_
   simp (maxSteps:=1000000) -dsimp only [go_sem]
   refine .sel [0,1,2,3,4,5,6] (by simp) (by simp) rfl (.done ?_)
   simp (maxSteps:=1000000) -dsimp only [go_sem]
   exact hK
  | false=>
   rw [h3] at hbad
   rw [hbad,aG] at hK
   simp (maxSteps:=1000000) -dsimp only [go_sem,mR,h1,hk,h2,↓q2,aW,h3]
   refine ⟨⟨by omega,by omega⟩,aD rfl (.done ?_)⟩
   simp (maxSteps:=1000000) -dsimp only [go_sem,AU,UJ]
   refine w3 hts.e hn ?_
   simp (maxSteps:=1000000) -dsimp only [go_sem]
   refine aD rfl (.done ?_)
   simp (maxSteps:=1000000) -dsimp only [go_sem,AW,SY]
   refine iN (z:=⟨z.bad,z.off,cB ts z.n⟩) hts.e (lV hn).2 ?_
   rw [show cQ (bl (mk [61])) ts ⟨z.bad,z.off,cB ts z.n⟩=n1 ts z from rfl]
   have hn2:(n1 ts z).n < ts.length:=(gY (w:=[61]) (z:=⟨z.bad,z.off,cB ts z.n⟩) (lV hn).2).2
   generalize n1 ts z=z1 at *
   simp (maxSteps:=1000000) -dsimp only [go_sem]
   refine aD rfl (.done ?_)
   simp (maxSteps:=1000000) -dsimp only [go_sem,BD,↓q2,aW,List.take_succ_cons,List.take_zero,List.length_cons]
   refine ⟨⟨by omega,by omega⟩,?_⟩
   refine aD rfl (.done ?_)
   simp (maxSteps:=1000000) -dsimp only [go_sem,BH]
   refine aD rfl (.done ?_)
   simp (maxSteps:=1000000) -dsimp only [go_sem,BR,SX,QD]
   refine F7 hs hto hts hn2 hDf ?_
   generalize P s ts d.ty z1=r at *
   obtain ⟨v,z'⟩:=r
   have ha:∀ {x r:List C},(F.map bW ++ [x])[F.length]? = some r->r=x:=fun {x r} h=>by
    have h0:F.length=(F.map bW).length:=by simp
    rw [h0,List.getElem?_concat_length] at h
    exact (bR h).symm
   have hb:∀ x:List C,(F.map bW ++ [x]).set F.length (bW (d.num,v))=(F ++ [(d.num,v)]).map bW:=fun x=>by
    rw [List.set_append_right _ _ (by simp)]
    simp
   unfold bW at hb
   rw [aS] at hb
   simp (maxSteps:=1000000) -dsimp only [go_sem,aS v]
   have fin:∀ {r x:List C} (y1 y2 y3:B),r=[.vl (.int .i64 0),.vl (.int .i64 0),.vl (.int .i64 0),.vl (.string (mk [])),.vl (.slice none 0 0),.vl (.slice none 0 0)]->W.Fin 7 K (.tu []) [O9 s z'.bad z'.off,hU 114 ts z'.n,.cells [.pt 0 0] 59,
    .cells [.vl (.int .i64 6),.vl (.int .i64 0),.vl (.string (mk [])),.vl (.slice none 0 0),.sl 6 (F.length + 1)] 32,.cells [.vl (.string u.nm),.fz (u.fs.map aW)] 95,.cells [.vl (.int .i64 d.num)] 3,
    .row ((F.map bW ++ [x]).set F.length (.vl (.int .i64 d.num) :: .vl (.int .i64 v.k) :: .vl (.int .i64 v.n) :: .vl (.string v.s) :: .fz (v.l.map a8) :: .fz (v.f.map bW) :: List.drop 6 r)) 57 6,y1,y2,y3]:=fun {r x} y1 y2 y3 hr=>by
    subst hr
    refine .sel [0,1,2,3,4,5,6] (by simp) (by simp) rfl (.done ?_)
    rw [show List.drop 6 [C.vl (.int .i64 0),C.vl (.int .i64 0),C.vl (.int .i64 0),C.vl (.string (mk [])),C.vl (.slice none 0 0),C.vl (.slice none 0 0)]=[] from rfl]
    have hb:=hb x
    simp (maxSteps:=1000000) -dsimp only [go_sem]
    have e:(F ++ [(d.num,v)]).length=F.length + 1:=by simp
    have:=hK
    unfold uU at this
    simp only [e] at this
    unfold bW at hb this ⊢
    rw [<-hb] at this
    exact this
   exact ⟨hl,⟨by omega,by omega⟩,⟨by omega,fun r hr=>fin _ _ _ (ha hr)⟩,⟨by omega,by omega⟩,by omega,fun r hr=>fin _ _ _ (ha hr)⟩
end Go.Proofs.YtkpohmhenegkiaaGreatDoor
namespace Go.Proofs.YtkpohmhenegkiaaGreatDoor
open Go.W
def w7:PC:=.gh (.reg [.v 23 0,.a 24 (.cl 128 [(.t 23),(.k (.string (mk [44])))] [0,1]),.v 8 24])
@[go_sem ↓] theorem aH8:aY w7:=aZ _
def qJ:PC:=.gh (.reg [.v 27 0,.v 28 2,.a 29 (.cl 108 [(.t 27),(.t 28)] [0,1])])
@[go_sem ↓] theorem aG7:aY qJ:=aZ _
def w8:PC:=.seq (.seq (.gh (.reg [.q 8 (.mv (.k (.bool true)))])) (.block 0 (.loop (.seq (.seq (.reg [.v 15 8,.v 16 15,⟨some 17,(some (16,true)),.q (.mv (.t 0))⟩,⟨some 18,(some (16,true)),.q (.nc (.t 17))⟩,⟨some 19,(some (16,true)),.q (.fa 4 (.t 18))⟩,⟨some 20,(some (16,true)),.l (.ld1 (.t 19))⟩,⟨some 21,(some (16,true)),.q (.not (.t 20))⟩,.a 22 (.pick (.t 16) (.t 21) (.k (.bool false)))]) (.cond (.t 22) .skip (.exit 0))) (.seq (.block 1 (.reg [.v 25 3,.a 26 (.ca (.t 25) [] [0,1,2,3,4,5,6])])) (w7)))))) (qJ)
@[go_sem ↓] theorem aHH:aY w8:=aZ _
def v6:PC:=.seq (.seq (.gh (.reg [.v 12 0,.v 13 2,.a 14 (.cl 128 [(.t 12),(.t 13)] [0,1])])) (.cond (.t 14) .ret .skip)) (w8)
@[go_sem ↓] theorem aIE:aY v6:=aZ _
def RF:PC:=.seq (.reg [.v 9 0,.v 10 1,.a 11 (.cl 108 [(.t 9),(.t 10)] [0,1])]) (v6)
def O5:List RV:=[]
theorem aEK:aO Tryz.prog true ⟨fun r k=>if r=0/\k=2 then .own [0,1] else if r=1/\k=2 then .own [0,1] else if r=5/\k=1 then .own [0,1,2,3,4,5,6] else if r=4/\k=1 then .own [0,1] else if r=6/\k=2 then .own [0,1] else .own [],fun r=>[1,2,4,6].contains r⟩ Tryz.f101=some (RF,O5):=by kernel_rfl
attribute [-go_sem] cC cJ cD eQ cN
abbrev M6:S:=.va (.c1 (.fn 105 [(false,[.pt 2 0]),(false,[.pt 4 0]),(false,[.pt 5 0]),(false,[.pt 3 0])]))
theorem IP {P:Prs} (hO:P.onw) {s:Sc} {ts:List Tk} {u:St}:DC (eR P s ts u) ts:=fun a z h=>by
 unfold eR
 cases lR ts u a.1 z
 · have h1:z.n<=(n1 ts z).n/\(n1 ts z).n < ts.length:=by
    have h2:=lV h
    have h3:=gY (w:=[61]) (ts:=ts) (z:=⟨z.bad,z.off,cB ts z.n⟩) h2.2
    exact ⟨Nat.le_trans h2.1 h3.1,h3.2⟩
   have h2:=hO s ts (u.fs.getD (dW ts u z).toNat default).ty (n1 ts z) h1.2
   exact ⟨Nat.le_trans h1.1 h2.1,h2.2⟩
 · rw [aI,uE]; exact ⟨Nat.le_refl _,h⟩
theorem aFS (P:Prs) (s:Sc) (ts:List Tk) (u:St) (a:xX) (z:Fs):(eR P s ts u a z).1.2.length<=a.2.length + 1:=by
 unfold eR
 cases lR ts u a.1 z
 · rw [aG]; simp
 · rw [aI]; exact Nat.le_succ _
def Q8 (D:Sc->Ty->Prop) (P:Prs):W.Spec:=fun av H K=>∃ s ts u z op sh,av=[.va (.c1 (.pt 0 0)),tS op,tS sh,M6]/\H=uU s ts u (0,[]) z/\s.fit/\Tks ts/\z.n < ts.length/\u.fs.length<=9223372036854775807/\(∀ f ∈ u.fs,TyOk f.ty/\D s f.ty)/\
 K (.tu []) (uU s ts u (eP (eR P s ts u) (bl op) (bl sh) ts (0,[]) z).1 (eP (eR P s ts u) (bl op) (bl sh) ts (0,[]) z).2)
theorem TB {D:Sc->Ty->Prop} {P:Prs} {s:Sc} {ts:List Tk} {u:St} {z:Fs} {op sh:ByteArray} {K:S->Hp->Prop} (h1:s.fit) (h3:Tks ts) (h4:z.n < ts.length) (h5:u.fs.length<=9223372036854775807) (h6:∀ f ∈ u.fs,TyOk f.ty/\D s f.ty)
 (hK:K (.tu []) (uU s ts u (eP (eR P s ts u) (bl op) (bl sh) ts (0,[]) z).1 (eP (eR P s ts u) (bl op) (bl sh) ts (0,[]) z).2)):Q8 D P [.va (.c1 (.pt 0 0)),tS op,tS sh,M6] (uU s ts u (0,[]) z) K:=⟨s,ts,u,z,op,sh,rfl,rfl,h1,h3,h4,h5,h6,hK⟩
theorem TU {D:Sc->Ty->Prop} {P:Prs} (hP:ParsM D P) (hO:P.onw):Meets Tryz.prog 101 (Q8 D P):=by
 refine aF Tryz.func101 aEK 4 (by rw [Tryz.ntmps101]; decide) (aB HT (aB OH (aB (aH4 hP) (aA _)))) (fun av H K h=>by obtain ⟨_,_,_,_,_,_,rfl,_⟩:=h; rfl) ?_
 rintro av H K ⟨s,ts,u,z,op,sh,rfl,rfl,hs,hts,hn,hul,hD,hK⟩
 have onw:DC (eR P s ts u) ts:=IP hO
 have hl0:=hts.e.le
 unfold eP at hK
 simp (maxSteps:=1000000) -dsimp only [go_sem,RF,O5]
 refine iN hts.e hn ?_
 have hn1:=(gY (w:=bl op) hn).2
 generalize cQ (bl op) ts z=z1 at *
 simp (maxSteps:=1000000) -dsimp only [go_sem]
 refine aD rfl (.done ?_)
 simp (maxSteps:=1000000) -dsimp only [go_sem,v6]
 refine pJ hts.e hn1 ?_
 cases hh:cI (bl sh) ts z1 with
 | true=>
  rw [hh] at hK
  simp (maxSteps:=1000000) -dsimp only [go_sem]
  refine .sel [0,1,2,3,4,5,6] (by simp) (by simp) rfl (.done ?_)
  simp (maxSteps:=1000000) -dsimp only [go_sem]
  exact hK
 | false=>
 rw [hh] at hK
 rw [show b9 (bl sh) ts z1=z1 by unfold b9; rw [hh]; rfl]
 simp (maxSteps:=1000000) -dsimp only [go_sem]
 refine aD rfl (.done ?_)
 simp (maxSteps:=1000000) -dsimp only [go_sem,w8]
 refine aN (α:=Nat × Bool × xX × Fs) (fun x=>[(0,.va (.c1 (.pt 0 0))),(2,tS sh),(3,M6),(8,bS x.2.1)]) (fun x=>uU s ts u x.2.2.1 x.2.2.2)
  (fun x=>x.2.2.2.n < ts.length/\x.2.2.1.2.length + x.1<=ts.length + 1/\(x.2.1=true->ts.length < x.2.2.2.n + x.1)/\(bif x.2.1 then kA (eR P s ts u) ts x.1 x.2.2.1 x.2.2.2 else (x.2.2.1,x.2.2.2))=kA (eR P s ts u) ts (ts.length + 1) (0,[]) z1)
  (fun x=>x.1) (ts.length + 1,true,(0,[]),z1) 7 ⟨hn1,by simp,fun _=>by omega,rfl⟩ ?_ ?_ ?_
 · simp -dsimp only [go_sem]<;>simp
 · simp -dsimp only [go_sem]<;>simp
 rintro ⟨f,m,l,z⟩ ⟨h1,h2,h3,h4⟩
 simp only at h1 h2 h3 h4
 cases m with
 | false=>
  rw [aG] at h4
  rw [<-h4] at hK
  simp (maxSteps:=1000000) -dsimp only [go_sem]
  refine aD rfl (.done ?_)
  simp (maxSteps:=1000000) -dsimp only [go_sem,qJ]
  refine iN (z:=z) hts.e h1 ?_
  simp (maxSteps:=1000000) -dsimp only [go_sem]
  refine .sel [0,1,2,3,4,5,6] (by simp) (by simp) rfl (.done ?_)
  simp (maxSteps:=1000000) -dsimp only [go_sem]
  exact hK
 | true=>
  rw [aI] at h4
  have h3:=h3 rfl
  obtain ⟨f,rfl⟩:∃ g,f=g + 1:=⟨f - 1,by omega⟩
  rw [j4] at h4
  obtain ⟨b,o,n⟩:=z
  cases b with
  | true=>
   rw [aI] at h4
   rw [<-h4] at hK
   simp (maxSteps:=1000000) -dsimp only [go_sem]
   refine aD rfl (.done ?_)
   simp (maxSteps:=1000000) -dsimp only [go_sem,qJ]
   refine iN (z:=⟨true,o,n⟩) hts.e h1 ?_
   simp (maxSteps:=1000000) -dsimp only [go_sem]
   refine .sel [0,1,2,3,4,5,6] (by simp) (by simp) rfl (.done ?_)
   simp (maxSteps:=1000000) -dsimp only [go_sem]
   exact hK
  | false=>
   rw [aG] at h4
   simp (maxSteps:=1000000) -dsimp only [go_sem]
   refine SU (z:=⟨false,o,n⟩) hs hts h1 hul hD (by omega) ?_
   have h5:=onw l ⟨false,o,n⟩ h1
   have h7:=aFS P s ts u l ⟨false,o,n⟩
   generalize eR P s ts u l ⟨false,o,n⟩=r at *
   obtain ⟨l',z'⟩:=r
   simp only at h7
   simp only at h4 h5
   simp (maxSteps:=1000000) -dsimp only [go_sem]
   refine aD rfl (.done ?_)
   simp (maxSteps:=1000000) -dsimp only [go_sem,w7]
   refine pJ (z:=z') hts.e h5.2 ?_
   cases hc:cI (bl (mk [44])) ts z' with
   | true=>
    obtain ⟨g1,g2,g3⟩:=LH hts.e h5.2 hc
    have hc':cI [44] ts z'=true:=hc
    rw [hc',aI] at h4
    have e2:b9 (bl (mk [44])) ts z'=⟨false,z'.off,cB ts z'.n⟩:=by unfold b9; rw [hc]; rfl
    have e3:b9 [44] ts z'=⟨false,z'.off,cB ts z'.n⟩:=e2
    rw [e3] at h4
    rw [e2]
    simp (maxSteps:=1000000) -dsimp only [go_sem]
    refine aE (f,true,l',⟨false,z'.off,cB ts z'.n⟩) 7 ⟨?_,?_,?_,h4⟩ (by simp) ?_ ?_
    · simp only [g1]; exact g2
    · simp only; omega
    · intro _
      have h6:=h5.1
      simp only at h6 h3 ⊢
      omega
    · simp -dsimp only [go_sem]<;>simp
    · simp -dsimp only [go_sem]<;>simp
   | false=>
    have hc':cI [44] ts z'=false:=hc
    rw [hc',aG] at h4
    rw [show b9 (bl (mk [44])) ts z'=z' by unfold b9; rw [hc]; rfl]
    simp (maxSteps:=1000000) -dsimp only [go_sem]
    refine aE (f,false,l',z') 7 ⟨h5.2,?_,fun h=>(by cases h),h4⟩ (by simp) ?_ ?_
    · simp only; omega
    · simp -dsimp only [go_sem]<;>simp
    · simp -dsimp only [go_sem]<;>simp
end Go.Proofs.YtkpohmhenegkiaaGreatDoor
namespace Go.Proofs.YtkpohmhenegkiaaGreatDoor
open Go.W
attribute [-go_sem] cC cJ cD eQ cN
def stOf (s:Sc) (t:Ty):St:=(fS s.ss t.n).getD default
def iY (P:Prs) (s:Sc) (ts:List Tk) (u:St) (z:Fs):Vl × Fs:=(.mk 6 0 (mk []) [] (eP (eR P s ts u) [123] [125] ts (0,[]) z).1.2,(eP (eR P s ts u) [123] [125] ts (0,[]) z).2)
theorem kW {s:Sc} (hs:s.fit) (t:Ty):(stOf s t).ok:=by
 unfold stOf
 cases h:fS s.ss t.n with
 | none=>exact ⟨by decide,by decide,fun _ h=>(by cases h)⟩
 | some u=>exact hs.ok.ss u (List.mem_of_find?_eq_some h)
theorem HQ {D:Sc->Ty->Prop} {P:Prs} (hP:ParsM D P) (hO:P.onw):Meets Tryz.prog 63 (oH (fun s t=>∀ f ∈ (stOf s t).fs,D s f.ty) fun s ts t z=>iY P s ts (stOf s t) z):=by
 refine aF Tryz.func63 aMR 2 (by rw [Tryz.ntmps63]; decide) (aB nM (aB (TU hP hO) (aA _))) p5 ?_
 rintro av H K ⟨s,ts,t,z,rfl,rfl,hs,ht,hts,hn,hD,hK⟩
 have hok:=kW hs t
 have hK:K (.va (.gs (a8 (iY P s ts (stOf s t) z).1))) (iB s ts (iY P s ts (stOf s t) z).2):=hK
 simp (maxSteps:=1000000) -dsimp only [go_sem,aM t,aDT,aEV]
 refine kZ hs ?_
 rw [show (fS s.ss t.n).getD default=stOf s t from rfl]
 generalize stOf s t=u at *
 unfold iY at hK
 simp (maxSteps:=1000000) -dsimp only [go_sem,aP]
 refine aD rfl (.done ?_)
 simp (maxSteps:=1000000) -dsimp only [go_sem,IK]
 refine aD rfl (.nilc 5 4 57 6 _ _ rfl rfl (.done ?_))
 simp (maxSteps:=1000000) -dsimp only [go_sem,FQ]
 refine TB (u:=u) hs hts hn hok.len (fun f hf=>⟨(hok.fs f hf).ty,hD f hf⟩) ?_
 rw [show bl (mk [123])=[123] from rfl,show bl (mk [125])=[125] from rfl]
 generalize eP (eR P s ts u) [123] [125] ts (0,[]) z=r at *
 obtain ⟨⟨last,F⟩,z'⟩:=r
 simp (maxSteps:=1000000) -dsimp only [go_sem]
 refine aD rfl (.done ?_)
 simp (maxSteps:=1000000) -dsimp only [go_sem,GQ]
 refine .pub 8 _ _ _ rfl (.sel [0,1] (by simp) (by simp [cP]) rfl (.done ?_))
 simp (maxSteps:=1000000) -dsimp only [go_sem,cP]
 rw [aS] at hK
 exact hK
end Go.Proofs.YtkpohmhenegkiaaGreatDoor
namespace Go.Proofs.YtkpohmhenegkiaaGreatDoor
open Go.W
def dP:Nat->Sc->Ty->Prop
 | 0,_,_=>False
 | N + 1,s,t=>((t.k == 5)=true->∃ u,t.e=[u]/\TyOk u/\dP N s u)/\((t.k == 6)=true->∀ f ∈ (stOf s t).fs,dP N s f.ty)
def pP:Nat->Prs
 | 0=>fun _ _ _ z=>(default,z)
 | N + 1=>fun s ts t z=>bif t.k == 1 then gP ts z else bif t.k == 4 then xO ts z else bif t.k == 7 then gO ((fA s.es t.n).getD default) ts z
  else bif t.k == 5 then mH (pP N) s ts (t.e.headD default) z else bif t.k == 6 then iY (pP N) s ts (stOf s t) z else HH t.k ts z
theorem iT (N:Nat) (s:Sc) (ts:List Tk) (t:Ty) (z:Fs):pP (N + 1) s ts t z=bif t.k == 1 then gP ts z else bif t.k == 4 then xO ts z else bif t.k == 7 then gO ((fA s.es t.n).getD default) ts z
 else bif t.k == 5 then mH (pP N) s ts (t.e.headD default) z else bif t.k == 6 then iY (pP N) s ts (stOf s t) z else HH t.k ts z:=rfl
theorem ME {k:Int} {ts:List Tk} {z:Fs} (h:z.n < ts.length):z.n<=(lI k ts z).n/\(lI k ts z).n < ts.length:=by
 unfold lI
 cases iC k ts z
 · rw [aG,uE]; exact ⟨Nat.le_refl _,h⟩
 · exact lV h
theorem A4:∀ N,(pP N).onw
 | 0=>fun s ts t z h=>⟨Nat.le_refl _,h⟩
 | N + 1=>fun s ts t z h=>by
  have hf:z.n<=(dU ts z).n/\(dU ts z).n < ts.length:=by rw [uE]; exact ⟨Nat.le_refl _,h⟩
  have hx:=lV h
  rw [iT]
  cases t.k == 1 with
  | true=>
   rw [aI]; unfold gP
   cases (!z.bad && c9 1 tW (bF ts z.n))<;>cases (!z.bad && c9 1 pB (bF ts z.n))<;>first | exact hx | exact hf
  | false=>
  cases t.k == 4 with
  | true=>exact ME h
  | false=>
  cases t.k == 7 with
  | true=>
   rw [aG,aG,aI]; unfold gO
   cases (decide (kD ((fA s.es t.n).getD default) ts z < 0) || decide ((((fA s.es t.n).getD default).vs.length:Int)<=kD ((fA s.es t.n).getD default) ts z))<;>first | exact hx | exact hf
  | false=>
  cases t.k == 5 with
  | true=>exact ON (one:=jD (pP N) s ts (t.e.headD default)) (fun a z h=>A4 N s ts _ z h) [91] [93] [] z h
  | false=>
  cases t.k == 6 with
  | true=>exact ON (one:=eR (pP N) s ts (stOf s t)) (IP (A4 N)) [123] [125] (0,[]) z h
  | false=>exact ME h
theorem mV {f:FuncId} {D D':Sc->Ty->Prop} {P P':Prs} (h:Meets Tryz.prog f (oH D P)) (hd:∀ s t,D' s t->D s t/\∀ ts z,P s ts t z=P' s ts t z):Meets Tryz.prog f (oH D' P'):=
 eJ (0:Nat) (fun (_:Nat)=>h) fun av H K ⟨s,ts,t,z,h1,h2,h3,h4,h5,h6,h7,h8⟩=>⟨0,s,ts,t,z,h1,h2,h3,h4,h5,h6,(hd s t h7).1,by rw [(hd s t h7).2]; exact h8⟩
theorem mX (k:Int):(gI k=55->(k == 1)=true)/\(gI k=57->(k == 1)=false/\(k == 4)=true)/\(gI k=59->(k == 1)=false/\(k == 4)=false/\(k == 7)=true)/\
 (gI k=61->(k == 1)=false/\(k == 4)=false/\(k == 7)=false/\(k == 5)=true)/\(gI k=63->(k == 1)=false/\(k == 4)=false/\(k == 7)=false/\(k == 5)=false/\(k == 6)=true)/\
 (gI k=65->(k == 1)=false/\(k == 4)=false/\(k == 7)=false/\(k == 5)=false/\(k == 6)=false):=by
 unfold gI
 cases k == 1<;>cases k == 4<;>cases k == 7<;>cases k == 5<;>cases k == 6<;>refine ⟨?_,?_,?_,?_,?_,?_⟩<;>intro h<;>first | (exact absurd h (by decide)) | simp
theorem nA {f:FuncId} {P:Prs} {g:FuncId} (h:nU Tryz.prog f=true):Meets Tryz.prog f (iJ (dP 0) P g):=⟨h,by rintro xs vs E ro w K _ _ _ ⟨_,_,_,_,_,_,_,_,_,_,⟨h,_⟩,_⟩; exact h.elim⟩
theorem WW:∀ N,ParsM (dP N) (pP N)
 | 0=>⟨nA (by kernel_rfl),nA (by kernel_rfl),nA (by kernel_rfl),nA (by kernel_rfl),nA (by kernel_rfl),nA (by kernel_rfl)⟩
 | N + 1=>by
  have ih:=WW N
  have hN:=A4 N
  refine ⟨mV M1 ?_,mV NG ?_,mV NA ?_,mV (OD ih hN) ?_,mV (HQ ih hN) ?_,mV FK ?_⟩
  · rintro s t ⟨hD,hk⟩
    have h1:=(mX t.k).1 hk
    exact ⟨trivial,fun ts z=>by rw [iT,h1,aI]⟩
  · rintro s t ⟨hD,hk⟩
    obtain ⟨h1,h2⟩:=(mX t.k).2.1 hk
    exact ⟨trivial,fun ts z=>by rw [iT,h1,h2]; rfl⟩
  · rintro s t ⟨hD,hk⟩
    obtain ⟨h1,h2,h3⟩:=(mX t.k).2.2.1 hk
    exact ⟨trivial,fun ts z=>by rw [iT,h1,h2,h3]; rfl⟩
  · rintro s t ⟨hD,hk⟩
    obtain ⟨h1,h2,h3,h4⟩:=(mX t.k).2.2.2.1 hk
    exact ⟨hD.1 h4,fun ts z=>by rw [iT,h1,h2,h3,h4]; rfl⟩
  · rintro s t ⟨hD,hk⟩
    obtain ⟨h1,h2,h3,h4,h5⟩:=(mX t.k).2.2.2.2.1 hk
    exact ⟨hD.2 h5,fun ts z=>by rw [iT,h1,h2,h3,h4,h5]; rfl⟩
  · rintro s t ⟨hD,hk⟩
    obtain ⟨h1,h2,h3,h4,h5⟩:=(mX t.k).2.2.2.2.2 hk
    exact ⟨trivial,fun ts z=>by rw [iT,h1,h2,h3,h4,h5]; rfl⟩
attribute [-go_sem] cC cJ cD eQ cN
def zF (s:Sc):Nat->Ty->Vl
 | 0,_=>.mk 0 0 (mk []) [] []
 | n + 1,t=>bif valF s.ss s.es t then (bif t.k == 6 then .mk 6 0 (mk []) [] (((stOf s t).fs.filter fun f=>!f.opt).map fun f=>(f.num,zF s n f.ty)) else .mk t.k 0 (mk []) [] []) else .mk 0 0 (mk []) [] []
def zE (s:Sc) (n:Nat) (l:List Fl):List (Int × Vl):=(l.filter fun f=>!f.opt).map fun f=>(f.num,zF s n f.ty)
theorem mW (s:Sc) (n:Nat) (t:Ty):zF s (n + 1) t=bif valF s.ss s.es t then (bif t.k == 6 then .mk 6 0 (mk []) [] (zE s n (stOf s t).fs) else .mk t.k 0 (mk []) [] []) else .mk 0 0 (mk []) [] []:=rfl
theorem aAN {s:Sc} {n i:Nat} {l:List Fl} {f:Fl} (h:l[i]? = some f):zE s n (l.take (i + 1))=bif f.opt then zE s n (l.take i) else zE s n (l.take i) ++ [(f.num,zF s n f.ty)]:=by
 unfold zE
 rw [List.take_add_one,h,List.filter_append,List.map_append]
 cases hf:f.opt<;>simp [hf]
theorem Q2 (s:Sc) (n:Nat) (l:List Fl):(zE s n l).length<=l.length:=by
 unfold zE; rw [List.length_map]; exact List.length_filter_le _ _
theorem KQ {s:Sc} (hs:s.fit) (t:Ty):(stOf s t).fs.length<=1000000000:=by
 unfold stOf
 cases h:fS s.ss t.n with
 | none=>exact Nat.zero_le _
 | some u=>exact (hs.sm u (List.mem_of_find?_eq_some h)).1
def aE1 (N:Nat):W.Spec:=fun av H K=>∃ (s:Sc) (t:Ty) (n:Nat),av=[.va (.gs (aC s)),.va (.gs (aL t)),iS .i64 ((n:Int) - 1)]/\H=[]/\s.fit/\TyOk t/\n < N/\N<=100/\K (.va (.gs (a8 (zF s n t)))) []
theorem PU {N:Nat} {s:Sc} {t:Ty} {n:Nat} {K:S->Hp->Prop} (h1:s.fit) (h2:TyOk t) (h3:n < N) (h4:N<=100) (hK:K (.va (.gs (a8 (zF s n t)))) []):aE1 N [.va (.gs [.vl (.int .i64 s.ver),.fz (s.es.map bI),.fz (s.ss.map aP)]),.va (.gs [.vl (.int .i64 t.k),.vl (.int .i64 t.s),.vl (.string t.n),.fz (t.e.map aL)]),iS .i64 ((n:Int) - 1)] [] K:=⟨s,t,n,by rw [aM]; rfl,rfl,h1,h2,h3,h4,hK⟩
theorem PH:∀ N,Meets Tryz.prog 114 (aE1 N)
 | 0=>⟨by kernel_rfl,by rintro xs vs E ro w K _ _ _ ⟨_,_,n,_,_,_,_,h,_⟩; exact absurd h (Nat.not_lt_zero n)⟩
 | N + 1=>by
  refine aF Tryz.func114 aIQ 3 (by rw [Tryz.ntmps114]; decide) (aJ vS (aB nM (aB (PH N) (aA _)))) (fun av H K h=>by obtain ⟨_,_,_,rfl,_⟩:=h; rfl) ?_
  rintro av H K ⟨s,t,n,rfl,rfl,hs,ht,hn,hN,hK⟩
  have k4:=iE ht
  have k5:=nT t
  have k6:=iM hs
  have k7:=nJ s
  have fin:∀ {v:Vl} (R:Hp),zF s n t=v->W.Fin 0 K (.va (.gs (a8 v))) R:=fun {v} R h=>by
   rw [h] at hK; refine .sel [] (by simp) (by simp) rfl (.done ?_)
   rw [aS] at hK ⊢
   simpa [go_sem] using hK
  cases n with
  | zero=>
   have g:decide (((0:Nat):Int) - 1 < 0)=true:=rfl
   simp (maxSteps:=1000000) -dsimp only [go_sem,aC,aM t,yF,y4,g,k4,k5,k6,k7]
   exact fin (v:=.mk 0 0 (mk []) [] []) _ rfl
  | succ n=>
   have g:decide (((n + 1:Nat):Int) - 1 < 0)=false:=by rw [decide_eq_false_iff_not]; omega
   have g':((n + 1:Nat):Int) - 1=n:=by omega
   rw [g'] at g ⊢
   rw [mW] at fin
   cases h1:valF s.ss s.es t with
   | false=>
    rw [h1,aG] at fin
    simp (maxSteps:=1000000) -dsimp only [go_sem,aC,aM t,yF,y4,g,k4,k5,k6,k7,h1]
    exact fin _ rfl
   | true=>
   rw [h1,aI] at fin
   cases h2:t.k == 6 with
   | false=>
    have h2':(t.k != 6)=true:=by rw [bne,h2]; rfl
    rw [h2,aG] at fin
    simp (maxSteps:=1000000) -dsimp only [go_sem,aC,aM t,yF,y4,g,k4,k5,k6,k7,h1,h2']
    exact fin _ rfl
   | true=>
   have h2':(t.k != 6)=false:=by rw [bne,h2]; rfl
   rw [h2,aI] at fin
   simp (maxSteps:=1000000) -dsimp only [go_sem,aC,aM t,yF,y4,g,k4,k5,k6,k7,h1,h2']
   refine kZ hs ?_
   rw [show (fS s.ss t.n).getD default=stOf s t from rfl]
   have hok:=kW hs t
   have hsm:=KQ hs t
   have hz6:zF s (n + 1) t=.mk 6 0 (mk []) [] (zE s n (stOf s t).fs):=by rw [mW,h1,h2]; rfl
   rw [hz6,aS] at hK
   clear hz6 fin
   generalize stOf s t=u at *
   simp (maxSteps:=1000000) -dsimp only [go_sem,aP]
   have hlen:=fun i=>Nat.le_trans (Q2 s n (u.fs.take i)) (Nat.le_trans (List.length_take_le' i u.fs) hsm)
   refine eE (α:=Nat) (fun i=>[(2,iS .i64 n),(3,.va (.c1 (.pt 0 0))),(4,.va (.c1 (.pt 1 0))),(6,.va (.c1 (.pt 2 0))),(7,.va (.c1 (.pt 3 0))),(37,.va (.c1 (.fz (u.fs.map aW)))),(38,iS .i64 u.fs.length),(39,iS .i64 i)])
    (fun i=>[.cells [.vl (.int .i64 s.ver),.fz (s.es.map bI),.fz (s.ss.map aP)] 105,.cells [.vl (.int .i64 t.k),.vl (.int .i64 t.s),.vl (.string t.n),.fz (t.e.map aL)] 28,.cells [.vl (.int .i64 0),.vl (.int .i64 0),.vl (.string (mk [])),.vl (.slice none 0 0),.vl (.slice none 0 0)] 32,
      .cells [.vl (.int .i64 t.k),.vl (.int .i64 0),.vl (.string (mk [])),.vl (.slice none 0 0),.sl 5 (zE s n (u.fs.take i)).length] 32,.cells [.vl (.string u.nm),.fz (u.fs.map aW)] 95,.row ((zE s n (u.fs.take i)).map bW) 57 6])
    (fun i=>i<=u.fs.length) (fun i=>u.fs.length - i) (.nilc 3 4 57 6 _ _ rfl rfl (mK 0 6 (Nat.zero_le _) ?_ ?_)) ?_
   · simp -dsimp only [go_sem]<;>simp
   · simp -dsimp only [go_sem]<;>simp [zE]
   intro i hi
   have hli:=hlen i
   rcases bC i u.fs.length with hlt | hge
   · have hg:decide ((i:Int) < (u.fs.length:Int))=true:=by simp; omega
     have hx:u.fs[i]? = some u.fs[i]:=aU hlt
     have q2:=aV (row:=aW) hx
     have hfo:=(hok.fs _ (List.getElem_mem hlt)).ty
     generalize u.fs[i]=f at *
     have hz:=aAN (s:=s) (n:=n) hx
     cases ho:f.opt with
     | true=>
      rw [ho,aI] at hz
      simp (maxSteps:=1000000) -dsimp only [go_sem,hg,↓q2,aW,ho,List.take_succ_cons,List.take_zero,List.length_cons]
      refine ⟨by omega,by omega,aE (i + 1) 6 (by omega) (by omega) ?_ ?_⟩
      · simp -dsimp only [go_sem]<;>simp
      · simp -dsimp only [go_sem,hz]<;>simp
     | false=>
      rw [ho,aG] at hz
      simp (maxSteps:=1000000) -dsimp only [go_sem,hg,↓q2,aW,ho,List.take_succ_cons,List.take_zero,List.length_cons]
      refine ⟨⟨by omega,by omega⟩,⟨by omega,by omega⟩,PU hs hfo (by omega) (by omega) ?_⟩
      generalize zF s n f.ty=v at *
      simp (maxSteps:=1000000) -dsimp only [go_sem,aS v]
      refine ⟨by omega,by omega,aE (i + 1) 6 (by omega) (by omega) ?_ ?_⟩
      · simp -dsimp only [go_sem]<;>simp
      · simp -dsimp only [go_sem,hz]<;>simp [bW,aS v]
   · have hg:decide ((i:Int) < (u.fs.length:Int))=false:=by simp; omega
     rw [List.take_of_length_le hge] at *
     have h6:t.k=6:=eq_of_beq h2
     simp (maxSteps:=1000000) -dsimp only [go_sem,hg,h6]
     refine .pub 5 _ _ _ rfl (.sel [] (by simp) (by simp [cP]) rfl (.done ?_))
     simp -dsimp only [go_sem,cP]
     exact hK
def aEQ:W.Spec:=fun av H K=>∃ (s:Sc) (t:Ty),av=[.va (.gs (aC s)),.va (.gs (aL t))]/\H=[]/\s.fit/\TyOk t/\K (.va (.gs (a8 (zF s 23 t)))) []
theorem ZK {s:Sc} {t:Ty} {K:S->Hp->Prop} (h1:s.fit) (h2:TyOk t) (hK:K (.va (.gs (a8 (zF s 23 t)))) []):aEQ [.va (.gs [.vl (.int .i64 s.ver),.fz (s.es.map bI),.fz (s.ss.map aP)]),.va (.gs [.vl (.int .i64 t.k),.vl (.int .i64 t.s),.vl (.string t.n),.fz (t.e.map aL)])] [] K:=⟨s,t,by rw [aM]; rfl,rfl,h1,h2,hK⟩
theorem aHU:Meets Tryz.prog 71 aEQ:=by
 refine aF Tryz.func71 aOI 2 (by rw [Tryz.ntmps71]; decide) (aB (PH 24) (aA _)) (fun av H K h=>by obtain ⟨_,_,rfl,_⟩:=h; rfl) ?_
 rintro av H K ⟨s,t,rfl,rfl,hs,ht,hK⟩
 simp (maxSteps:=1000000) -dsimp only [go_sem,aC,aM t,aFE,aER]
 refine PU (n:=23) hs ht (by decide) (by decide) ?_
 rw [aS] at hK ⊢
 simp (maxSteps:=1000000) -dsimp only [go_sem]
 refine .sel [] (by simp) (by simp) rfl (.done ?_)
 simp -dsimp only [go_sem]
 exact hK
end Go.Proofs.YtkpohmhenegkiaaGreatDoor
namespace Go.Proofs.YtkpohmhenegkiaaGreatDoor
open Go.W
attribute [-go_sem] cC cJ cD eQ cN
theorem V8 {s:Sc} (hs:s.fit):∀ (n:Nat) (t:Ty),TyOk t->VlOk (zF s n t)
 | 0,t,ht=>.mk ⟨by decide,by decide⟩ ⟨by decide,by decide⟩ (by decide) (by simp) (by simp) (by simp) (by simp) (by simp)
 | n + 1,t,ht=>by
  have hok:=kW hs t
  have hsm:=KQ hs t
  rw [mW]
  cases valF s.ss s.es t with
  | false=>exact .mk ⟨by decide,by decide⟩ ⟨by decide,by decide⟩ (by decide) (by simp) (by simp) (by simp) (by simp) (by simp)
  | true=>
   cases t.k == 6 with
   | false=>exact .mk ht.k ⟨by decide,by decide⟩ (by decide) (by simp) (by simp) (by simp) (by simp) (by simp)
   | true=>
    have hl:=Q2 s n (stOf s t).fs
    have hm:∀ x ∈ zE s n (stOf s t).fs,∃ f ∈ (stOf s t).fs,x=(f.num,zF s n f.ty):=fun x hx=>by
     unfold zE at hx
     obtain ⟨f,hf,rfl⟩:=List.mem_map.1 hx
     exact ⟨f,(List.mem_filter.1 hf).1,rfl⟩
    refine .mk ⟨by decide,by decide⟩ ⟨by decide,by decide⟩ (by decide) (by simp) (by omega) (by simp) (fun x hx=>?_) (fun x hx=>?_)
    · obtain ⟨f,hf,rfl⟩:=hm x hx; exact (hok.fs f hf).num
    · obtain ⟨f,hf,rfl⟩:=hm x hx; exact V8 hs n f.ty (hok.fs f hf).ty
def FE:List S->Prop:=fun av=>match av with
 | [.va (.gs r),.va (.gs q)]=>kK r/\eW q
 | _=>False
theorem qF {av:List S} (h:FE av):∃ s t,av=[.va (.gs (aC s)),.va (.gs (aL t))]/\s.fit/\TyOk t:=by
 unfold FE at h
 split at h
 · obtain ⟨⟨s,rfl,hs⟩,⟨t,rfl,ht⟩⟩:=h
   exact ⟨s,t,rfl,hs,ht⟩
 · exact h.elim
noncomputable def YW (f:Sc->Ty->Value):List S->A:=fun av=>match av with
 | [.va (.gs r),.va (.gs q)]=>.c1 (.vl (f (C.sc r) (C.ty q)))
 | _=>.gs []
noncomputable def vU (f:Sc->Ty->Value):Fun:=⟨FE,YW f,fun av h=>by obtain ⟨_,_,rfl,_⟩:=qF h; trivial⟩
theorem TG {f:Sc->Ty->Value}:∀ av H K,(vU f).sp av H K->av.length=2:=fun av H K h=>by obtain ⟨_,_,rfl,_⟩:=qF h.1.1; rfl
attribute [go_sem] vU FE YW
theorem aA2 {f:Sc->Ty->Value} {av:List S} {H:Hp} {K:S->Hp->Prop} (h:(vU f).sp av H K):∃ s t,av=[.va (.gs (aC s)),.va (.gs (aL t))]/\H=[]/\s.fit/\TyOk t/\K (.va (.c1 (.vl (f s t)))) []:=by
 obtain ⟨⟨h,rfl⟩,hK⟩:=h
 obtain ⟨s,t,rfl,hs,ht⟩:=qF h
 have:(vU f).val [.va (.gs (aC s)),.va (.gs (aL t))]=.c1 (.vl (f s t)):=by
  show A.c1 (.vl (f (C.sc (aC s)) (C.ty (aL t))))=_
  rw [fV,fG]
 rw [this] at hK
 exact ⟨s,t,rfl,rfl,hs,ht,hK⟩
def uX (s:Sc) (t:Ty):Bool:=gG s t (zF s 23 t) == 0
theorem JQ:Meets Tryz.prog 28 (vU fun s t=>.bool (uX s t)).sp:=by
 refine aF Tryz.func28 aLI 2 (by rw [Tryz.ntmps28]; decide) (aB aHU (aJ BF (aA _))) TG ?_
 intro av H K h
 obtain ⟨s,t,rfl,rfl,hs,ht,hK⟩:=aA2 h
 clear h
 have k4:=iE ht
 have k5:=nT t
 have k6:=iM hs
 have k7:=nJ s
 have hv:=V8 hs 23 t ht
 have hK:K (bS (gG s t (zF s 23 t) == 0)) []:=hK
 simp (maxSteps:=1000000) -dsimp only [go_sem,aC,aM t,aC7,aDD]
 refine ZK hs ht ?_
 generalize zF s 23 t=v at *
 have k1:=fU hv
 have k2:=kQ v
 simp (maxSteps:=1000000) -dsimp only [go_sem,aS v,k1,k2,k4,k5,k6,k7]
 exact .sel [] (by simp) (by simp) rfl (.done (by simpa [go_sem] using hK))
end Go.Proofs.YtkpohmhenegkiaaGreatDoor
namespace Go.Proofs.YtkpohmhenegkiaaGreatDoor
open Go.W
theorem FZ {α:Type} {one:α->Fs->α × Fs} {ts:List Tk} (ho:DC one ts) (I:Nat->α->Prop) (hs:∀ k a z,z.n < ts.length->I k a->I (k + 1) (one a z).1):∀ (f k:Nat) (a:α) (z:Fs),z.n < ts.length->I k a->∃ k',k'<=k + f/\I k' (kA one ts f a z).1
 | 0,k,a,z,_,h=>⟨k,Nat.le_refl _,h⟩
 | f + 1,k,a,z,hn,h=>by
  rw [j4]
  cases z.bad
  · have h1:=hs k a z hn h
    have h2:=ho a z hn
    cases cI [44] ts (one a z).2
    · exact ⟨k + 1,by omega,h1⟩
    · obtain ⟨k',h3,h4⟩:=FZ ho I hs f (k + 1) (one a z).1 (b9 [44] ts (one a z).2) (CE h2.2).2 h1
      exact ⟨k',by omega,h4⟩
  · exact ⟨k,by omega,h⟩
theorem H9 {α:Type} {one:α->Fs->α × Fs} {ts:List Tk} (ho:DC one ts) (I:Nat->α->Prop) (hs:∀ k a z,z.n < ts.length->I k a->I (k + 1) (one a z).1) (op sh:List UInt8) (a:α) (z:Fs) (hn:z.n < ts.length) (h:I 0 a):∃ k',k'<=ts.length + 1/\I k' (eP one op sh ts a z).1:=by
 unfold eP
 have h1:=gY (w:=op) hn
 cases cI sh ts (cQ op ts z)
 · obtain ⟨k,h2,h3⟩:=FZ ho I hs (ts.length + 1) 0 a _ h1.2 h
   exact ⟨k,by omega,h3⟩
 · exact ⟨0,Nat.zero_le _,h⟩
theorem wE {k n:Int} {s:ByteArray} (hk:b5 k) (hn:b5 n) (hs:s.size<=9223372036854775807):VlOk (.mk k n s [] []):=.mk hk hn hs (by simp) (by simp) (by simp) (by simp) (by simp)
theorem P0 {ts:List Tk} (h:Tks ts) (k:Int) (z:Fs) (hn:z.n < ts.length):b5 (iQ k ts z).n/\(iQ k ts z).x.length<=4000:=by
 have hm:bF ts z.n ∈ ts:=bM (jS hn)
 unfold iQ
 cases iC k ts z
 · rw [aG]; exact ⟨⟨by decide,by decide⟩,by decide⟩
 · exact ⟨h.n _ hm,h.x _ hm⟩
theorem NC {s:Sc} (hs:s.fit) {ts:List Tk} (hts:Tks ts):∀ (N:Nat) (t:Ty) (z:Fs),TyOk t->dP N s t->z.n < ts.length->VlOk (pP N s ts t z).1
 | 0,t,z,_,h,_=>h.elim
 | N + 1,t,z,ht,hd,hn=>by
  have hle:=hts.e.le
  have c0:b5 0:=⟨by decide,by decide⟩
  have c1:b5 1:=⟨by decide,by decide⟩
  have c4:b5 4:=⟨by decide,by decide⟩
  have c5:b5 5:=⟨by decide,by decide⟩
  have c6:b5 6:=⟨by decide,by decide⟩
  have c7:b5 7:=⟨by decide,by decide⟩
  rw [iT]
  cases t.k == 1 with
  | true=>
   rw [aI]; unfold gP
   cases (!z.bad && c9 1 tW (bF ts z.n))<;>cases (!z.bad && c9 1 pB (bF ts z.n))<;>first | exact wE c1 c1 (by decide) | exact wE c1 c0 (by decide)
  | false=>
  cases t.k == 4 with
  | true=>
   refine wE c4 c0 ?_
   have:=(P0 hts 3 z hn).2
   show (mk (iQ 3 ts z).x).size<=_
   have e:(mk (iQ 3 ts z).x).size=(iQ 3 ts z).x.length:=by simp [mk,ByteArray.size]
   omega
  | false=>
  cases t.k == 7 with
  | true=>
   have he:((fA s.es t.n).getD default).ok:=by
    cases h:fA s.es t.n with
    | none=>exact ⟨by decide,by decide,by decide,fun _ h=>(by cases h),fun _ h=>(by cases h)⟩
    | some e=>exact hs.ok.es e (List.mem_of_find?_eq_some h)
   generalize (fA s.es t.n).getD default=e at he ⊢
   rw [aG,aG,aI]; unfold gO
   cases hc:(decide (kD e ts z < 0) || decide ((e.vs.length:Int)<=kD e ts z)) with
   | true=>exact wE c7 c0 (by decide)
   | false=>
    refine wE c7 ?_ (by decide)
    rw [List.getD_eq_getElem?_getD]
    cases hx:e.vs[(kD e ts z).toNat]? with
    | none=>exact c0
    | some y=>exact he.vs _ (bM hx)
  | false=>
  cases h5:t.k == 5 with
  | true=>
   obtain ⟨u,he,hu,hD⟩:=hd.1 h5
   rw [he,List.headD_cons]
   obtain ⟨k,hk,h1,h2⟩:=H9 (one:=jD (pP N) s ts u) (fun a z h=>A4 N s ts u z h) (fun k l=>l.length<=k/\∀ v ∈ l,VlOk v) (fun k l z hz ⟨h1,h2⟩=>⟨by simp [jD]; omega,fun v hv=>by
    rcases List.mem_append.1 hv with hv | hv
    · exact h2 v hv
    · rw [List.mem_singleton.1 hv]; exact NC hs hts N u z hu hD hz⟩) [91] [93] [] z hn ⟨Nat.le_refl _,by simp⟩
   exact .mk c5 c0 (by decide) (by omega) (by simp) h2 (by simp) (by simp)
  | false=>
  cases h6:t.k == 6 with
  | true=>
   have hD:=hd.2 h6
   have hok:=kW hs t
   obtain ⟨k,hk,h1,h2⟩:=H9 (one:=eR (pP N) s ts (stOf s t)) (IP (A4 N)) (fun k a=>a.2.length<=k/\∀ x ∈ a.2,b5 x.1/\VlOk x.2) (fun k a z hz ⟨h1,h2⟩=>by
    unfold eR
    cases hb:lR ts (stOf s t) a.1 z with
    | true=>exact ⟨by rw [aI]; exact Nat.le_succ_of_le h1,h2⟩
    | false=>
     rw [aG]
     refine ⟨by simp; omega,fun x hx=>?_⟩
     rcases List.mem_append.1 hx with hx | hx
     · exact h2 x hx
     · rw [List.mem_singleton.1 hx]
       have hz1:(n1 ts z).n < ts.length:=(gY (w:=[61]) (z:=⟨z.bad,z.off,cB ts z.n⟩) (lV hz).2).2
       have hlt:dW ts (stOf s t) z < ((stOf s t).fs.length:Int):=by have:=(AV (bF ts z.n).x (stOf s t).fs 0).2; unfold dW; omega
       have hge:¬ (dW ts (stOf s t) z < 0):=fun h=>by unfold lR at hb; rw [decide_eq_true h] at hb; simp at hb
       have hm:(stOf s t).fs.getD (dW ts (stOf s t) z).toNat default ∈ (stOf s t).fs:=by
        have hl:(dW ts (stOf s t) z).toNat < (stOf s t).fs.length:=by omega
        rw [List.getD_eq_getElem?_getD,aU hl]
        exact List.getElem_mem hl
       exact ⟨(hok.fs _ hm).num,NC hs hts N _ _ (hok.fs _ hm).ty (hD _ hm) hz1⟩) [123] [125] (0,[]) z hn ⟨Nat.le_refl _,by simp⟩
   exact .mk c6 c0 (by decide) (by simp) (by show List.length _ * 88<=_; omega) (by simp) (fun x hx=>(h2 x hx).1) (fun x hx=>(h2 x hx).2)
  | false=>exact wE ht.k (P0 hts 2 z hn).1 (by decide)
attribute [-go_sem] cC cJ cD eQ cN gN
noncomputable def n5 (D:Sc->Ty->Prop) (P:Prs):cK:=(28,.f (vU fun s t=>.bool (uX s t))) :: (23,.f (hS (fun _ _ _=>True) fun s t v=>.int .i64 (gG s t v))) :: (29,.s gN) :: (30,.s (cC 114)) :: (31,.s mZ) :: zW D P
theorem JT {D:Sc->Ty->Prop} {P:Prs} (h:ParsM D P):dG Tryz.prog (n5 D P):=aJ JQ (aJ BF (aB aLJ (aB rA (aB pO (oV h)))))
theorem H5 (D:Sc->Ty->Prop) (P:Prs):jE (n5 D P) 28=some (vU fun s t=>.bool (uX s t)):=rfl
theorem GH (D:Sc->Ty->Prop) (P:Prs):jE (n5 D P) 23=some (hS (fun _ _ _=>True) fun s t v=>.int .i64 (gG s t v)):=rfl
theorem UM (D:Sc->Ty->Prop) (P:Prs):sp (n5 D P) 29=gN:=rfl
theorem US (D:Sc->Ty->Prop) (P:Prs):sp (n5 D P) 30=cC 114:=rfl
theorem R5 (D:Sc->Ty->Prop) (P:Prs):sp (n5 D P) 31=mZ:=rfl
theorem U2 (D:Sc->Ty->Prop) (P:Prs):sp (n5 D P) 24=l0:=rfl
theorem P9 (D:Sc->Ty->Prop) (P:Prs) (k:Int):sp (n5 D P) (gI k)=iJ D P (gI k):=by
 unfold gI
 cases k == 1<;>cases k == 4<;>cases k == 7<;>cases k == 5<;>cases k == 6<;>rfl
theorem aFJ {x:ByteArray} {K:S->Hp->Prop} (h:(a7 (bl x)).err=0) (hK:K (.tu [.c1 (.pt 0 0),iA .i64 0,iA .i64 0]) [hU 114 (a7 (bl x)).toks 0]):gN [tS x] [] K:=⟨fun _=>hK,fun h'=>absurd h h'⟩
theorem aAJ {x:ByteArray} {K:S->Hp->Prop} (h:(a7 (bl x)).err ≠ 0) (hK:K (.tu [.c1 (.vl (.pointer none)),iA .i64 (a7 (bl x)).err,iA .i64 (a7 (bl x)).off]) []):gN [tS x] [] K:=⟨fun h'=>absurd h' h,fun _=>hK⟩
def v0:Vl:=.mk 0 0 (mk []) [] []
def M3 (ts:List Tk) (z:Fs):Fs:=bif (bF ts z.n).k != 0 then dU ts z else z
def TK (s:Sc) (t:Ty) (ts:List Tk) (r:Vl × Fs):Vl × Int × Int:=
 bif (M3 ts r.2).bad then (v0,2,(M3 ts r.2).off) else bif gG s t r.1 != 0 then (v0,gG s t r.1,0) else (r.1,0,0)
def jT (P:Prs) (s:Sc) (t:Ty) (x:List UInt8):Vl × Int × Int:=
 bif !uX s t then (v0,13,0) else bif (a7 x).err != 0 then (v0,(a7 x).err,(a7 x).off) else TK s t (a7 x).toks (P s (a7 x).toks t ⟨false,0,0⟩)
def sC (D:Sc->Ty->Prop) (P:Prs):W.Spec:=fun av H K=>∃ s t x,av=[.va (.gs (aC s)),.va (.gs (aL t)),tS x]/\H=[]/\s.fit/\TyOk t/\(uX s t=true->D s t)/\((a7 (bl x)).err=0->Tks (a7 (bl x)).toks)/\
 K (.tu [.gs (a8 (jT P s t (bl x)).1),iA .i64 (jT P s t (bl x)).2.1,iA .i64 (jT P s t (bl x)).2.2]) []
theorem aFH {D:Sc->Ty->Prop} {P:Prs} (hP:ParsM D P) (hO:P.onw) (hv:∀ s ts t z,s.fit->Tks ts->TyOk t->D s t->z.n < ts.length->VlOk (P s ts t z).1):Meets Tryz.prog 13 (sC D P):=by
 refine aF Tryz.func13 aL7 3 (by rw [Tryz.ntmps13]; decide) (JT hP) (fun av H K h=>by obtain ⟨_,_,_,rfl,_⟩:=h; rfl) ?_
 rintro av H K ⟨s,t,x,rfl,rfl,hs,ht,hD,hT,hK⟩
 have k4:=iE ht
 have k5:=nT t
 have k6:=iM hs
 have k7:=nJ s
 have fin:∀ (v:Vl) (e a:Int) (R:Hp),jT P s t (bl x)=(v,e,a)->W.Fin 0 K (.tu [.gs (a8 v),iA .i64 e,iA .i64 a]) R:=fun v e a R h=>by
  rw [h] at hK
  refine .sel [] (by simp) (by simp) rfl (.done ?_)
  rw [aS] at hK ⊢
  simpa [go_sem] using hK
 clear hK
 unfold jT at fin
 cases h1:uX s t with
 | false=>
  rw [h1] at fin
  simp (maxSteps:=1000000) -dsimp only [go_sem,aC,aM t,SL,R8,H5,k4,k5,k6,k7,h1]
  exact fin v0 13 0 _ rfl
 | true=>
 rw [h1] at fin
 simp (maxSteps:=1000000) -dsimp only [go_sem,aC,aM t,SL,R8,H5,k4,k5,k6,k7,h1]
 refine aD rfl (.done ?_)
 simp (maxSteps:=1000000) -dsimp only [go_sem,G8,UM]
 cases h2:(a7 (bl x)).err != 0 with
 | true=>
  rw [h2] at fin
  refine aAJ (by simpa using h2) ?_
  simp (maxSteps:=1000000) -dsimp only [go_sem]
  refine aD rfl (.done ?_)
  simp (maxSteps:=1000000) -dsimp only [go_sem,x5,h2]
  exact fin v0 _ _ _ rfl
 | false=>
 rw [h2] at fin
 have h2':(a7 (bl x)).err=0:=by simpa using h2
 have hts:=hT h2'
 refine aFJ h2' ?_
 have hn0:(⟨false,0,0⟩:Fs).n < (a7 (bl x)).toks.length:=hts.e.pos
 generalize (a7 (bl x)).toks=ts at *
 simp (maxSteps:=1000000) -dsimp only [go_sem]
 refine aD rfl (.done ?_)
 have g0:((0:Int) != 0)=false:=rfl
 simp (maxSteps:=1000000) -dsimp only [go_sem,x5,g0]
 refine aD rfl (.done ?_)
 simp (maxSteps:=1000000) -dsimp only [go_sem,IG]
 refine aD rfl (.done ?_)
 simp (maxSteps:=1000000) -dsimp only [go_sem,JA,U2,P9]
 refine F7 (z:=⟨false,0,0⟩) hs ht hts hn0 (hD h1) ?_
 have hvk:=hv s ts t ⟨false,0,0⟩ hs hts ht (hD h1) hn0
 have hn1:=(hO s ts t ⟨false,0,0⟩ hn0).2
 generalize P s ts t ⟨false,0,0⟩=r at *
 obtain ⟨v,z⟩:=r
 simp only at hvk hn1
 have k1:=fU hvk
 have k2:=kQ v
 simp (maxSteps:=1000000) -dsimp only [go_sem,aS v]
 refine aD rfl (.done ?_)
 simp (maxSteps:=1000000) -dsimp only [go_sem,JD,US]
 refine kP hts.e hn1 ?_
 simp only [Bool.not_true,aG,TK,M3] at fin
 cases hk:(bF ts z.n).k != 0 with
 | true=>
  rw [hk,aI] at fin
  simp (maxSteps:=1000000) -dsimp only [go_sem,dB,hk]
  refine aD rfl (.done ?_)
  simp (maxSteps:=1000000) -dsimp only [go_sem,ID,R5]
  refine d9 (z:=z) hts.e hn1 ?_
  generalize dU ts z=z2 at *
  simp (maxSteps:=1000000) -dsimp only [go_sem]
  refine aD rfl (.done ?_)
  cases hb:z2.bad with
  | true=>
   rw [hb] at fin
   simp (maxSteps:=1000000) -dsimp only [go_sem,m8]
   exact fin v0 2 z2.off _ rfl
  | false=>
   rw [hb] at fin
   simp (maxSteps:=1000000) -dsimp only [go_sem,m8]
   refine aD rfl (.done ?_)
   simp (maxSteps:=1000000) -dsimp only [go_sem,uJ,GH,k1,k2,k4,k5,k6,k7]
   refine aD rfl (.done ?_)
   cases hc:gG s t v != 0 with
   | true=>
    rw [hc] at fin
    simp (maxSteps:=1000000) -dsimp only [go_sem,m6,hc]
    exact fin v0 (gG s t v) 0 _ rfl
   | false=>
    rw [hc] at fin
    simp (maxSteps:=1000000) -dsimp only [go_sem,m6,hc]
    have:=fin v 0 0
    rw [aS] at this
    exact this _ rfl
 | false=>
  rw [hk,aG] at fin
  simp (maxSteps:=1000000) -dsimp only [go_sem,dB,hk]
  have z2:=z
  clear z2
  generalize hz2:z=z2 at *
  refine aD rfl (.done ?_)
  cases hb:z2.bad with
  | true=>
   rw [hb] at fin
   simp (maxSteps:=1000000) -dsimp only [go_sem,m8]
   exact fin v0 2 z2.off _ rfl
  | false=>
   rw [hb] at fin
   simp (maxSteps:=1000000) -dsimp only [go_sem,m8]
   refine aD rfl (.done ?_)
   simp (maxSteps:=1000000) -dsimp only [go_sem,uJ,GH,k1,k2,k4,k5,k6,k7]
   refine aD rfl (.done ?_)
   cases hc:gG s t v != 0 with
   | true=>
    rw [hc] at fin
    simp (maxSteps:=1000000) -dsimp only [go_sem,m6,hc]
    exact fin v0 (gG s t v) 0 _ rfl
   | false=>
    rw [hc] at fin
    simp (maxSteps:=1000000) -dsimp only [go_sem,m6,hc]
    have:=fin v 0 0
    rw [aS] at this
    exact this _ rfl
end Go.Proofs.YtkpohmhenegkiaaGreatDoor
namespace Go.Proofs.YtkpohmhenegkiaaGreatDoor
open Go.W
attribute [-go_sem] cC cJ cD eQ cN gN
abbrev sE (s:Sc) (b:Bool):B:=.cells [.vl (.int .i64 s.ver),.fz (s.es.map bI),.fz (s.ss.map aP),.vl (.pointer none),.vl (.bool b),.vl (.int .i64 0)] 62
abbrev fL:Type:=Sc->Ty->Vl->List UInt8 × Bool
def oL (D:Sc->Ty->Vl->Prop) (F:fL):W.Spec:=fun av H K=>∃ s t v b,av=[.va (.c1 (.pt 0 0)),.va (.gs (aL t)),.va (.gs (a8 v))]/\H=[sE s b]/\s.fit/\TyOk t/\VlOk v/\D s t v/\K (tS (mk (F s t v).1)) [sE s (b || (F s t v).2)]
theorem pK {D:Sc->Ty->Vl->Prop} {F:fL}:∀ av H K,oL D F av H K->av.length=3:=fun av H K h=>by obtain ⟨_,_,_,_,rfl,_⟩:=h; rfl
def zS (n:Int):List UInt8:=bif n == 1 then tW else pB
theorem JN:Meets Tryz.prog 54 (oL (fun _ _ _=>True) fun _ _ v=>(zS v.n,false)):=by
 refine aF Tryz.func54 aL4 3 (by rw [Tryz.ntmps54]; decide) (aA _) pK ?_
 rintro av H K ⟨s,t,v,b,rfl,rfl,hs,ht,hv,_,hK⟩
 unfold zS at hK
 rw [Bool.or_false] at hK
 cases h:v.n == 1<;>simp only [h,aI,aG] at hK <;>
 · simp (maxSteps:=1000000) -dsimp only [go_sem,aM t,aS v,aF9,aC1,h]
   refine .sel [0] (by simp) (by simp) rfl (.done ?_)
   simp (maxSteps:=1000000) -dsimp only [go_sem]
   exact hK
theorem EJ:Meets Tryz.prog 64 (oL (fun _ _ _=>True) fun _ _ v=>(f6 v.n,false)):=by
 refine aF Tryz.func64 aK2 3 (by rw [Tryz.ntmps64]; decide) (aJ MV (aA _)) pK ?_
 rintro av H K ⟨s,t,v,b,rfl,rfl,hs,ht,hv,_,hK⟩
 rw [Bool.or_false] at hK
 have hn:=hv.n
 have hn1:=hn.1
 have hn2:=hn.2
 simp (maxSteps:=1000000) -dsimp only [go_sem,aM t,aS v,aDS,aDW]
 refine ⟨⟨hn1,hn2⟩,.sel [0] (by simp) (by simp) rfl (.done ?_)⟩
 simp (maxSteps:=1000000) -dsimp only [go_sem]
 exact hK
def nD (x:List UInt8):List UInt8:=bif decide (x.length<=200) && x.all gT then jO x else []
theorem aE7 (x:List UInt8):lO [⟨3,x,0,0⟩]=nD x:=by
 unfold lO nD r8 kM fM
 cases h:(decide (x.length<=200) && x.all gT)<;>simp [h]
theorem JM:Meets Tryz.prog 56 (oL (fun _ _ v=>(bl v.s).length<=100000) fun _ _ v=>(nD (bl v.s),nD (bl v.s) == [])):=by
 refine aF Tryz.func56 aNN 3 (by rw [Tryz.ntmps56]; decide) (aJ aCG (aA _)) pK ?_
 rintro av H K ⟨s,t,v,b,rfl,rfl,hs,ht,hv,hD,hK⟩
 have hK:K (tS (mk (nD (bl v.s)))) [sE s (b || (nD (bl v.s) == []))]:=hK
 have e:[C.vl (.int .i64 3),.vl (.string v.s),.vl (.int .i64 0),.vl (.int .i64 0)]=CP ⟨3,bl v.s,0,0⟩:=by show _=[_,C.vl (.string (mk (bl v.s))),_,_]; rw [kI]
 have p1:prtFn.val [.va (.c1 (.fz [[.vl (.int .i64 3),.vl (.string v.s),.vl (.int .i64 0),.vl (.int .i64 0)]]))]=tA (mk (nD (bl v.s))):=by
  rw [e,<-aE7]; exact sA [⟨3,bl v.s,0,0⟩]
 have p2:prtFn.pre [.va (.c1 (.fz [[.vl (.int .i64 3),.vl (.string v.s),.vl (.int .i64 0),.vl (.int .i64 0)]]))]:=by
  rw [e]
  exact ⟨[⟨3,bl v.s,0,0⟩],rfl,by simp,fun t ht=>by rw [List.mem_singleton.1 ht]; exact ⟨show (-9223372036854775808:Int)<=0 by decide,show (0:Int)<=9223372036854775807 by decide,hD⟩⟩
 cases b <;>
 · simp (maxSteps:=1000000) -dsimp only [go_sem,aM t,aS v,aEL,aCB,p1,p2]
   refine .sel [0] (by simp) (by simp) rfl (.done ?_)
   simp (maxSteps:=1000000) -dsimp only [go_sem]
   exact hK
end Go.Proofs.YtkpohmhenegkiaaGreatDoor
namespace Go.Proofs.YtkpohmhenegkiaaGreatDoor
open Go.W
attribute [-go_sem] cC cJ cD eQ cN gN
def jH (ns:List ByteArray) (n:Int):List Int->Nat->ByteArray
 | [],_=>mk []
 | m :: l,i=>bif m == n && decide ((i:Int) < (ns.length:Int)) then ns.getD i (mk []) else jH ns n l (i + 1)
def enOf (s:Sc) (t:Ty):En:=(fA s.es t.n).getD default
theorem Z6 {s:Sc} (hs:s.fit) (t:Ty):(enOf s t).ok:=by
 unfold enOf
 cases h:fA s.es t.n with
 | none=>exact ⟨by decide,by decide,by decide,fun _ h=>(by cases h),fun _ h=>(by cases h)⟩
 | some e=>exact hs.ok.es e (List.mem_of_find?_eq_some h)
theorem JU:Meets Tryz.prog 58 (oL (fun _ _ _=>True) fun s t v=>(bl (jH (enOf s t).ns v.n (enOf s t).vs 0),false)):=by
 refine aF Tryz.func58 aOC 3 (by rw [Tryz.ntmps58]; decide) (aB zX (aA _)) pK ?_
 rintro av H K ⟨s,t,v,b,rfl,rfl,hs,ht,hv,_,hK⟩
 have he:=Z6 hs t
 rw [Bool.or_false] at hK
 have hK:K (tS (jH (enOf s t).ns v.n (enOf s t).vs 0)) [sE s b]:=by have:=hK; rw [kI] at this; exact this
 simp (maxSteps:=1000000) -dsimp only [go_sem,aM t,aS v,aC8,aCP]
 refine m5 hs ?_
 rw [show (fA s.es t.n).getD default=enOf s t from rfl]
 generalize enOf s t=e at *
 have hlv:=he.lv
 have hln:=he.ln
 simp (maxSteps:=1000000) -dsimp only [go_sem,bI]
 refine aD rfl (.done ?_)
 simp (maxSteps:=1000000) -dsimp only [go_sem,JB]
 refine aN (α:=Nat) (fun i=>[(5,.va (.c1 (.pt 2 0))),(7,.va (.c1 (.pt 3 0))),(22,.va (.c1 (.fz (e.vs.map cL)))),(23,iS .i64 e.vs.length),(24,iS .i64 i)])
  (fun _=>[sE s b,.cells [.vl (.int .i64 t.k),.vl (.int .i64 t.s),.vl (.string t.n),.fz (t.e.map aL)] 28,.cells [.vl (.int .i64 v.k),.vl (.int .i64 v.n),.vl (.string v.s),.fz (v.l.map a8),.fz (v.f.map bW)] 32,.cells [.vl (.string e.nm),.fz (e.ns.map bL),.fz (e.vs.map cL)] 92])
  (fun i=>i<=e.vs.length/\jH e.ns v.n (e.vs.drop i) i=jH e.ns v.n e.vs 0) (fun i=>e.vs.length - i) 0 4 ⟨Nat.zero_le _,rfl⟩ ?_ ?_ ?_
 · simp -dsimp only [go_sem]<;>simp
 · simp -dsimp only [go_sem]<;>simp
 rintro i ⟨hi,ho⟩
 rcases bC i e.vs.length with hlt | hge
 · have hg:decide ((i:Int) < (e.vs.length:Int))=true:=by simp; omega
   have hx:e.vs[i]? = some e.vs[i]:=aU hlt
   have q2:=aV (row:=cL) hx
   rw [List.drop_eq_getElem_cons hlt,jH] at ho
   generalize e.vs[i]=m at *
   simp (maxSteps:=1000000) -dsimp only [go_sem,hg,↓q2]
   refine ⟨⟨by omega,by omega⟩,aD rfl (.done ?_)⟩
   cases hc1:m == v.n with
   | false=>
    rw [hc1,Bool.false_and,aG] at ho
    simp (maxSteps:=1000000) -dsimp only [go_sem,sQ,hc1]
    refine ⟨by omega,aE (i + 1) 4 ⟨by omega,ho⟩ (by omega) ?_ ?_⟩
    · simp -dsimp only [go_sem]<;>simp
    · simp -dsimp only [go_sem]<;>simp
   | true=>
    cases hc2:decide ((i:Int) < (e.ns.length:Int)) with
    | false=>
     rw [hc1,hc2,Bool.true_and,aG] at ho
     simp (maxSteps:=1000000) -dsimp only [go_sem,sQ,hc1,hc2]
     refine ⟨by omega,aE (i + 1) 4 ⟨by omega,ho⟩ (by omega) ?_ ?_⟩
     · simp -dsimp only [go_sem]<;>simp
     · simp -dsimp only [go_sem]<;>simp
    | true=>
     rw [hc1,hc2,Bool.true_and,aI] at ho
     have hlt2:i < e.ns.length:=by simpa using hc2
     have hx2:e.ns[i]? = some e.ns[i]:=aU hlt2
     have q3:=aV (row:=bL) hx2
     rw [List.getD_eq_getElem?_getD,hx2,Option.getD_some] at ho
     rw [<-ho] at hK
     generalize e.ns[i]=w at *
     simp (maxSteps:=1000000) -dsimp only [go_sem,sQ,hc1,hc2,↓q3]
     refine ⟨⟨by omega,by omega⟩,.sel [0] (by simp) (by simp) rfl (.done ?_)⟩
     simp (maxSteps:=1000000) -dsimp only [go_sem]
     exact hK
 · have hg:decide ((i:Int) < (e.vs.length:Int))=false:=by simp; omega
   have:e.vs.drop i=[]:=List.drop_eq_nil_iff.2 (by omega)
   rw [this,jH] at ho
   rw [<-ho] at hK
   simp (maxSteps:=1000000) -dsimp only [go_sem,hg]
   refine .sel [0] (by simp) (by simp) rfl (.done ?_)
   simp (maxSteps:=1000000) -dsimp only [go_sem]
   exact hK
end Go.Proofs.YtkpohmhenegkiaaGreatDoor
namespace Go.Proofs.YtkpohmhenegkiaaGreatDoor
open Go.W
attribute [-go_sem] cC cJ cD eQ cN gN
def iI (D:Sc->Ty->Vl->Prop) (F:fL) (f:FuncId):W.Spec:=oL (fun s t v=>D s t v/\gC t.k=f) F
def HJ (D:Sc->Ty->Vl->Prop) (F:fL):cK:=[(24,.s l0),(54,.s (iI D F 54)),(56,.s (iI D F 56)),(58,.s (iI D F 58)),
 (60,.s (iI D F 60)),(62,.s (iI D F 62)),(64,.s (iI D F 64))]
structure FmtM (D:Sc->Ty->Vl->Prop) (F:fL):Prop where
 b:Meets Tryz.prog 54 (iI D F 54)
 t:Meets Tryz.prog 56 (iI D F 56)
 e:Meets Tryz.prog 58 (iI D F 58)
 l:Meets Tryz.prog 60 (iI D F 60)
 s:Meets Tryz.prog 62 (iI D F 62)
 n:Meets Tryz.prog 64 (iI D F 64)
theorem qY {D:Sc->Ty->Vl->Prop} {F:fL} (h:FmtM D F):dG Tryz.prog (HJ D F):=
 aB mOf (aB h.b (aB h.t (aB h.e (aB h.l (aB h.s (aB h.n (aA _)))))))
theorem L0 (D:Sc->Ty->Vl->Prop) (F:fL):sp (HJ D F) 24=l0:=rfl
theorem F8 (D:Sc->Ty->Vl->Prop) (F:fL) (k:Int):sp (HJ D F) (gC k)=iI D F (gC k):=by
 unfold gC
 cases k == 1<;>cases k == 4<;>cases k == 7<;>cases k == 5<;>cases k == 6<;>rfl
theorem sG {D:Sc->Ty->Vl->Prop} {F:fL} {s:Sc} {t:Ty} {v:Vl} {b:Bool} {K:S->Hp->Prop} (h1:s.fit) (h2:TyOk t) (h3:VlOk v) (h4:D s t v) (hK:K (tS (mk (F s t v).1)) [sE s (b || (F s t v).2)]) :
 iI D F (gC t.k) [.va (.c1 (.pt 0 0)),.va (.gs [.vl (.int .i64 t.k),.vl (.int .i64 t.s),.vl (.string t.n),.fz (t.e.map aL)]),.va (.gs [.vl (.int .i64 v.k),.vl (.int .i64 v.n),.vl (.string v.s),.fz (v.l.map a8),.fz (v.f.map bW)])] [sE s b] K:=
 ⟨s,t,v,b,by rw [aM,aS],rfl,h1,h2,h3,⟨h4,rfl⟩,hK⟩
def dJ:Bool->List (List UInt8)->List UInt8
 | _,[]=>[]
 | c,x :: r=>(bif c then [44,32] else []) ++ x ++ dJ true r
theorem wF:∀ (c:Bool) (xs ys:List (List UInt8)),dJ c (xs ++ ys)=dJ c xs ++ dJ (c || !xs.isEmpty) ys
 | c,[],ys=>by simp [dJ]
 | c,x :: r,ys=>by
  rw [List.cons_append,dJ,dJ,wF true r ys]
  simp [List.append_assoc]
theorem oC {α:Type} (f:α->List UInt8) (l:List α) (i:Nat):(dJ false ((l.take i).map f)).length<=(dJ false (l.map f)).length:=by
 have h:l.map f=(l.take i).map f ++ (l.drop i).map f:=by rw [<-List.map_append,List.take_append_drop]
 rw [h,wF,List.length_append]; omega
theorem DV {α:Type} (f:α->List UInt8) {l:List α} {i:Nat} {x:α} (h:l[i]? = some x):dJ false ((l.take (i + 1)).map f)=dJ false ((l.take i).map f) ++ (bif decide (0 < (i:Int)) then [44,32] else []) ++ f x:=by
 have hl:=(a6.1 h).1
 rw [List.take_add_one,h,List.map_append,wF]
 have e:(false || !((l.take i).map f).isEmpty)=decide (0 < (i:Int)):=by
  cases i with
  | zero=>simp
  | succ i=>
   have:decide (0 < ((i + 1:Nat):Int))=true:=decide_eq_true (by omega)
   rw [this]
   cases l with
   | nil=>simp at hl
   | cons y l=>simp
 rw [e]
 simp [dJ,List.append_assoc]
def mM (F:fL) (s:Sc) (u:Ty) (l:List Vl):List UInt8 × Bool:=([91] ++ dJ false (l.map fun x=>(F s u x).1) ++ [93],l.any fun x=>(F s u x).2)
theorem JK {D:Sc->Ty->Vl->Prop} {F:fL} (hF:FmtM D F):Meets Tryz.prog 60 (oL (fun s t v=>∃ u,t.e=[u]/\TyOk u/\(∀ x ∈ v.l,D s u x)/\(mM F s u v.l).1.length<=100000000000000) fun s t v=>mM F s (t.e.headD default) v.l):=by
 refine aF Tryz.func60 aLR 3 (by rw [Tryz.ntmps60]; decide) (qY hF) pK ?_
 rintro av H K ⟨s,t,v,b,rfl,rfl,hs,ht,hv,⟨u,he,hu,hD,hlen⟩,hK⟩
 have hK:K (tS (mk (mM F s u v.l).1)) [sE s (b || (mM F s u v.l).2)]:=by have:=hK; simp only [he,List.headD_cons] at this; exact this
 have hll:=hv.ll
 have hvl:=hv.l
 unfold mM at hK hlen
 simp only [List.length_append,List.length_singleton] at hlen
 simp (maxSteps:=1000000) -dsimp only [go_sem,aM t,aS v,aEI,aD9]
 refine aN (α:=Nat) (fun i=>[(0,.va (.c1 (.pt 0 0))),(4,.va (.c1 (.pt 1 0))),(7,tS (mk ([91] ++ dJ false ((v.l.take i).map fun x=>(F s u x).1)))),(11,.va (.c1 (.fz (v.l.map a8)))),(12,iS .i64 v.l.length),(13,iS .i64 i)])
  (fun i=>[sE s (b || (v.l.take i).any fun x=>(F s u x).2),.cells [.vl (.int .i64 t.k),.vl (.int .i64 t.s),.vl (.string t.n),.fz (t.e.map aL)] 28,.cells [.vl (.int .i64 v.k),.vl (.int .i64 v.n),.vl (.string v.s),.fz (v.l.map a8),.fz (v.f.map bW)] 32])
  (fun i=>i<=v.l.length) (fun i=>v.l.length - i) 0 3 (Nat.zero_le _) ?_ ?_ ?_
 · simp -dsimp only [go_sem]<;>simp [dJ]
 · simp -dsimp only [go_sem]<;>simp
 intro i hi
 have hci:=oC (fun x=>(F s u x).1) v.l i
 rcases bC i v.l.length with hlt | hge
 · have hg:decide ((i:Int) < (v.l.length:Int))=true:=by simp; omega
   have hx:v.l[i]? = some v.l[i]:=aU hlt
   have q2:=aV (row:=a8) hx
   have hxo:=hvl _ (List.getElem_mem hlt)
   have hxD:=hD _ (List.getElem_mem hlt)
   have hcn:=DV (fun x=>(F s u x).1) hx
   have han:(v.l.take (i + 1)).any (fun x=>(F s u x).2)=((v.l.take i).any (fun x=>(F s u x).2) || (F s u v.l[i]).2):=by rw [List.take_add_one,hx,List.any_append]; simp
   have hc1:=oC (fun x=>(F s u x).1) v.l (i + 1)
   generalize v.l[i]=x at *
   have z0:(0:Int) < ((1:Nat):Int):=by decide
   have z1:(0:Int)<=0:=by decide
   cases hc:decide (0 < (i:Int)) with
   | true=>
    rw [hc,aI] at hcn
    rw [hcn] at hc1
    simp only [List.length_append] at hc1
    simp (maxSteps:=1000000) -dsimp only [go_sem,hg,↓q2,aS x,hc,List.take_succ_cons,List.take_zero,List.length_cons]
    refine ⟨⟨by omega,by omega⟩,by omega,aD rfl (.done ?_)⟩
    simp (maxSteps:=1000000) -dsimp only [go_sem,xZ,he,aM u,L0,F8,forall_eq',z0,z1,List.length_cons,List.length_nil,List.take_succ_cons,List.take_zero]
    refine sG hs hu hxo hxD ?_
    simp (maxSteps:=1000000) -dsimp only [go_sem]
    refine ⟨by simp only [List.length_cons,List.length_nil] at hc1; omega,⟨by omega,by omega⟩,aE (i + 1) 3 (by omega) (by omega) ?_ ?_⟩
    · simp -dsimp only [go_sem,hcn]<;>simp
    · simp -dsimp only [go_sem,han]<;>simp [he,aM u,Bool.or_assoc]
   | false=>
    rw [hc,aG] at hcn
    rw [hcn] at hc1
    simp only [List.length_append] at hc1
    simp (maxSteps:=1000000) -dsimp only [go_sem,hg,↓q2,aS x,hc,List.take_succ_cons,List.take_zero,List.length_cons]
    refine ⟨⟨by omega,by omega⟩,aD rfl (.done ?_)⟩
    simp (maxSteps:=1000000) -dsimp only [go_sem,xZ,he,aM u,L0,F8,forall_eq',z0,z1,List.length_cons,List.length_nil,List.take_succ_cons,List.take_zero]
    refine sG hs hu hxo hxD ?_
    simp (maxSteps:=1000000) -dsimp only [go_sem]
    refine ⟨by simp only [List.length_nil] at hc1; omega,⟨by omega,by omega⟩,aE (i + 1) 3 (by omega) (by omega) ?_ ?_⟩
    · simp -dsimp only [go_sem,hcn]<;>simp
    · simp -dsimp only [go_sem,han]<;>simp [he,aM u,Bool.or_assoc]
 · have hg:decide ((i:Int) < (v.l.length:Int))=false:=by simp; omega
   rw [List.take_of_length_le hge] at hci ⊢
   simp (maxSteps:=1000000) -dsimp only [go_sem,hg]
   refine ⟨by omega,.sel [0] (by simp) (by simp) rfl (.done ?_)⟩
   simp (maxSteps:=1000000) -dsimp only [go_sem]
   simpa using hK
end Go.Proofs.YtkpohmhenegkiaaGreatDoor
namespace Go.Proofs.YtkpohmhenegkiaaGreatDoor
open Go.W
attribute [-go_sem] cC cJ cD eQ cN gN
def GA (D:Sc->Ty->Vl->Prop) (F:fL):cK:=(103,.s xQ) :: (104,.s AO) :: HJ D F
theorem NV {D:Sc->Ty->Vl->Prop} {F:fL} (h:FmtM D F):dG Tryz.prog (GA D F):=aB nM (aB rU (qY h))
theorem LO (D:Sc->Ty->Vl->Prop) (F:fL):sp (GA D F) 24=l0:=rfl
theorem aAH (D:Sc->Ty->Vl->Prop) (F:fL):sp (GA D F) 103=xQ:=rfl
theorem LP (D:Sc->Ty->Vl->Prop) (F:fL):sp (GA D F) 104=AO:=rfl
theorem I7 (D:Sc->Ty->Vl->Prop) (F:fL) (k:Int):sp (GA D F) (gC k)=iI D F (gC k):=by
 unfold gC
 cases k == 1<;>cases k == 4<;>cases k == 7<;>cases k == 5<;>cases k == 6<;>rfl
def bG (u:St) (n:Int):Fl:=(fF u.fs n).getD default
def u7 (F:fL) (s:Sc) (u:St) (x:Int × Vl):List UInt8:=bl (bG u x.1).nm ++ [32,61,32] ++ (F s (bG u x.1).ty x.2).1
def iR (F:fL) (s:Sc) (u:St) (l:List (Int × Vl)):List UInt8 × Bool:=([123] ++ dJ false (l.map (u7 F s u)) ++ [125],l.any fun x=>(F s (bG u x.1).ty x.2).2)
theorem KB {u:St} (hu:u.ok) (n:Int):(bG u n).ok:=by
 unfold bG
 cases h:fF u.fs n with
 | none=>exact ⟨⟨by decide,by decide⟩,by decide,.mk ⟨by decide,by decide⟩ ⟨by decide,by decide⟩ (by decide) (by decide) (fun _ h=>by cases h)⟩
 | some d=>exact hu.fs d (List.mem_of_find?_eq_some h)
theorem SJ {s:Sc} (hs:s.fit) (t:Ty):∀ f ∈ (stOf s t).fs,TySm f.ty:=by
 unfold stOf
 cases h:fS s.ss t.n with
 | none=>exact fun _ h=>(by cases h)
 | some u=>exact (hs.sm u (List.mem_of_find?_eq_some h)).2
theorem GW {t:St} {k:Int} {K:S->Hp->Prop} (h:t.ok) (h2:∀ f ∈ t.fs,TySm f.ty) (hK:K (.tu [.gs (aW (bG t k)),bA (fF t.fs k).isSome]) []):AO [.va (.gs [.vl (.string t.nm),.fz (t.fs.map aW)]),iS .i64 k] [] K:=⟨t,k,rfl,rfl,h,h2,hK⟩
theorem EF {D:Sc->Ty->Vl->Prop} {F:fL} (hF:FmtM D F):Meets Tryz.prog 62 (oL (fun s t v=>(∀ x ∈ v.f,D s (bG (stOf s t) x.1).ty x.2)/\(iR F s (stOf s t) v.f).1.length<=100000000000000) fun s t v=>iR F s (stOf s t) v.f):=by
 refine aF Tryz.func62 aOT 3 (by rw [Tryz.ntmps62]; decide) (NV hF) pK ?_
 rintro av H K ⟨s,t,v,b,rfl,rfl,hs,ht,hv,⟨hD,hlen⟩,hK⟩
 have hK:K (tS (mk (iR F s (stOf s t) v.f).1)) [sE s (b || (iR F s (stOf s t) v.f).2)]:=hK
 have hok:=kW hs t
 have hll:=hv.lf
 have hvl:=hv.f
 have hvn:=hv.fn
 simp (maxSteps:=1000000) -dsimp only [go_sem,aM t,aS v,aF7,aDM,aAH]
 refine kZ hs ?_
 rw [show (fS s.ss t.n).getD default=stOf s t from rfl]
 have hsu:=SJ hs t
 generalize stOf s t=u at *
 unfold iR at hK hlen
 simp only [List.length_append,List.length_singleton] at hlen
 simp (maxSteps:=1000000) -dsimp only [go_sem,aP]
 refine aD rfl (.done ?_)
 simp (maxSteps:=1000000) -dsimp only [go_sem,I4]
 refine aN (α:=Nat) (fun i=>[(0,.va (.c1 (.pt 0 0))),(7,.va (.c1 (.pt 3 0))),(9,tS (mk ([123] ++ dJ false ((v.f.take i).map (u7 F s u))))),(25,.va (.c1 (.fz (v.f.map bW)))),(26,iS .i64 v.f.length),(27,iS .i64 i)])
  (fun i=>[sE s (b || (v.f.take i).any fun x=>(F s (bG u x.1).ty x.2).2),.cells [.vl (.int .i64 t.k),.vl (.int .i64 t.s),.vl (.string t.n),.fz (t.e.map aL)] 28,.cells [.vl (.int .i64 v.k),.vl (.int .i64 v.n),.vl (.string v.s),.fz (v.l.map a8),.fz (v.f.map bW)] 32,.cells [.vl (.string u.nm),.fz (u.fs.map aW)] 95])
  (fun i=>i<=v.f.length) (fun i=>v.f.length - i) 0 4 (Nat.zero_le _) ?_ ?_ ?_
 · simp -dsimp only [go_sem]<;>simp [dJ]
 · simp -dsimp only [go_sem]<;>simp
 intro i hi
 have hci:=oC (u7 F s u) v.f i
 rcases bC i v.f.length with hlt | hge
 · have hg:decide ((i:Int) < (v.f.length:Int))=true:=by simp; omega
   have hx:v.f[i]? = some v.f[i]:=aU hlt
   have q2:=aV (row:=bW) hx
   have hxo:=hvl _ (List.getElem_mem hlt)
   have hxD:=hD _ (List.getElem_mem hlt)
   have hcn:=DV (u7 F s u) hx
   have han:(v.f.take (i + 1)).any (fun x=>(F s (bG u x.1).ty x.2).2)=((v.f.take i).any (fun x=>(F s (bG u x.1).ty x.2).2) || (F s (bG u v.f[i].1).ty v.f[i].2).2):=by rw [List.take_add_one,hx,List.any_append]; simp
   have hc1:=oC (u7 F s u) v.f (i + 1)
   generalize v.f[i]=x at *
   obtain ⟨n,x⟩:=x
   have hdo:=KB hok n
   have hit:u7 F s u (n,x)=bl (bG u n).nm ++ [32,61,32] ++ (F s (bG u n).ty x).1:=rfl
   simp only at hxo hxD han
   simp (maxSteps:=1000000) -dsimp only [go_sem,hg,↓q2,bW,aS x,List.take_succ_cons,List.take_zero,List.length_cons]
   refine ⟨⟨by omega,by omega⟩,aD rfl (.done ?_)⟩
   cases hc:decide (0 < (i:Int)) with
   | true=>
    rw [hc,aI] at hcn
    rw [hcn,hit] at hc1
    rw [hit] at hcn
    simp only [List.length_append,List.length_cons,List.length_nil] at hc1
    simp (maxSteps:=1000000) -dsimp only [go_sem,z8,hc]
    refine ⟨by omega,aD rfl (.done ?_)⟩
    simp (maxSteps:=1000000) -dsimp only [go_sem,zU,LP]
    refine GW hok hsu ?_
    generalize bG u n=d at *
    simp (maxSteps:=1000000) -dsimp only [go_sem,aW]
    refine aD rfl (.done ?_)
    simp (maxSteps:=1000000) -dsimp only [go_sem,yC,LO,I7,List.length_cons,List.length_nil,List.take_succ_cons,List.take_zero]
    have hnm:(bl d.nm).length<=9223372036854775804:=by omega
    refine ⟨hnm,hnm,sG hs hdo.ty hxo hxD ?_⟩
    simp (maxSteps:=1000000) -dsimp only [go_sem]
    refine ⟨hnm,by omega,by omega,⟨by omega,by omega⟩,aE (i + 1) 4 (by omega) (by omega) ?_ ?_⟩
    · simp -dsimp only [go_sem,hcn]<;>simp
    · simp -dsimp only [go_sem,han]<;>simp [Bool.or_assoc]
   | false=>
    rw [hc,aG] at hcn
    rw [hcn,hit] at hc1
    rw [hit] at hcn
    simp only [List.length_append,List.length_cons,List.length_nil] at hc1
    simp (maxSteps:=1000000) -dsimp only [go_sem,z8,hc]
    refine aD rfl (.done ?_)
    simp (maxSteps:=1000000) -dsimp only [go_sem,zU,LP]
    refine GW hok hsu ?_
    generalize bG u n=d at *
    simp (maxSteps:=1000000) -dsimp only [go_sem,aW]
    refine aD rfl (.done ?_)
    simp (maxSteps:=1000000) -dsimp only [go_sem,yC,LO,I7,List.length_cons,List.length_nil,List.take_succ_cons,List.take_zero]
    have hnm:(bl d.nm).length<=9223372036854775804:=by omega
    refine ⟨hnm,hnm,sG hs hdo.ty hxo hxD ?_⟩
    simp (maxSteps:=1000000) -dsimp only [go_sem]
    refine ⟨hnm,by omega,by omega,⟨by omega,by omega⟩,aE (i + 1) 4 (by omega) (by omega) ?_ ?_⟩
    · simp -dsimp only [go_sem,hcn]<;>simp
    · simp -dsimp only [go_sem,han]<;>simp [Bool.or_assoc]
 · have hg:decide ((i:Int) < (v.f.length:Int))=false:=by simp; omega
   rw [List.take_of_length_le hge] at hci ⊢
   simp (maxSteps:=1000000) -dsimp only [go_sem,hg]
   refine ⟨by omega,.sel [0] (by simp) (by simp) rfl (.done ?_)⟩
   simp (maxSteps:=1000000) -dsimp only [go_sem]
   simpa using hK
end Go.Proofs.YtkpohmhenegkiaaGreatDoor
namespace Go.Proofs.YtkpohmhenegkiaaGreatDoor
open Go.W
attribute [-go_sem] cC cJ cD eQ cN gN
def fP:Nat->fL
 | 0=>fun _ _ _=>([],false)
 | N + 1=>fun s t v=>bif t.k == 1 then (zS v.n,false) else bif t.k == 4 then (nD (bl v.s),nD (bl v.s) == []) else bif t.k == 7 then (bl (jH (enOf s t).ns v.n (enOf s t).vs 0),false)
  else bif t.k == 5 then mM (fP N) s (t.e.headD default) v.l else bif t.k == 6 then iR (fP N) s (stOf s t) v.f else (f6 v.n,false)
theorem iV (N:Nat) (s:Sc) (t:Ty) (v:Vl):fP (N + 1) s t v=bif t.k == 1 then (zS v.n,false) else bif t.k == 4 then (nD (bl v.s),nD (bl v.s) == []) else bif t.k == 7 then (bl (jH (enOf s t).ns v.n (enOf s t).vs 0),false)
 else bif t.k == 5 then mM (fP N) s (t.e.headD default) v.l else bif t.k == 6 then iR (fP N) s (stOf s t) v.f else (f6 v.n,false):=rfl
def dF:Nat->Sc->Ty->Vl->Prop
 | 0,_,_,_=>False
 | N + 1,s,t,v=>((t.k == 4)=true->(bl v.s).length<=100000)/\((t.k == 5)=true->∃ u,t.e=[u]/\TyOk u/\∀ x ∈ v.l,dF N s u x)/\((t.k == 6)=true->∀ x ∈ v.f,dF N s (bG (stOf s t) x.1).ty x.2)/\(fP (N + 1) s t v).1.length<=100000000000000
theorem mS {f:FuncId} {D D':Sc->Ty->Vl->Prop} {F F':fL} (h:Meets Tryz.prog f (oL D F)) (hd:∀ s t v,D' s t v->D s t v/\F s t v=F' s t v):Meets Tryz.prog f (oL D' F'):=
 eJ (0:Nat) (fun (_:Nat)=>h) fun av H K ⟨s,t,v,b,h1,h2,h3,h4,h5,h6,h7⟩=>⟨0,s,t,v,b,h1,h2,h3,h4,h5,(hd s t v h6).1,by rw [(hd s t v h6).2]; exact h7⟩
theorem nB (k:Int):(gC k=54->(k == 1)=true)/\(gC k=56->(k == 1)=false/\(k == 4)=true)/\(gC k=58->(k == 1)=false/\(k == 4)=false/\(k == 7)=true)/\
 (gC k=60->(k == 1)=false/\(k == 4)=false/\(k == 7)=false/\(k == 5)=true)/\(gC k=62->(k == 1)=false/\(k == 4)=false/\(k == 7)=false/\(k == 5)=false/\(k == 6)=true)/\
 (gC k=64->(k == 1)=false/\(k == 4)=false/\(k == 7)=false/\(k == 5)=false/\(k == 6)=false):=by
 unfold gC
 cases k == 1<;>cases k == 4<;>cases k == 7<;>cases k == 5<;>cases k == 6<;>refine ⟨?_,?_,?_,?_,?_,?_⟩<;>intro h<;>first | (exact absurd h (by decide)) | simp
theorem mP {f:FuncId} {F:fL} {g:FuncId} (h:nU Tryz.prog f=true):Meets Tryz.prog f (iI (dF 0) F g):=⟨h,by rintro xs vs E ro w K _ _ _ ⟨_,_,_,_,_,_,_,_,_,⟨h,_⟩,_⟩; exact h.elim⟩
theorem aD7:∀ N,FmtM (dF N) (fP N)
 | 0=>⟨mP (by kernel_rfl),mP (by kernel_rfl),mP (by kernel_rfl),mP (by kernel_rfl),mP (by kernel_rfl),mP (by kernel_rfl)⟩
 | N + 1=>by
  have ih:=aD7 N
  refine ⟨mS JN ?_,mS JM ?_,mS JU ?_,mS (JK ih) ?_,mS (EF ih) ?_,mS EJ ?_⟩
  · rintro s t v ⟨hD,hk⟩
    have h1:=(nB t.k).1 hk
    exact ⟨trivial,by rw [iV,h1,aI]⟩
  · rintro s t v ⟨hD,hk⟩
    obtain ⟨h1,h2⟩:=(nB t.k).2.1 hk
    exact ⟨hD.1 h2,by rw [iV,h1,h2]; rfl⟩
  · rintro s t v ⟨hD,hk⟩
    obtain ⟨h1,h2,h3⟩:=(nB t.k).2.2.1 hk
    exact ⟨trivial,by rw [iV,h1,h2,h3]; rfl⟩
  · rintro s t v ⟨hD,hk⟩
    obtain ⟨h1,h2,h3,h4⟩:=(nB t.k).2.2.2.1 hk
    have e:fP (N + 1) s t v=mM (fP N) s (t.e.headD default) v.l:=by rw [iV,h1,h2,h3,h4]; rfl
    obtain ⟨u,he,hu,hD1⟩:=hD.2.1 h4
    have hl:=hD.2.2.2
    rw [e,he,List.headD_cons] at hl
    exact ⟨⟨u,he,hu,hD1,hl⟩,e.symm⟩
  · rintro s t v ⟨hD,hk⟩
    obtain ⟨h1,h2,h3,h4,h5⟩:=(nB t.k).2.2.2.2.1 hk
    have e:fP (N + 1) s t v=iR (fP N) s (stOf s t) v.f:=by rw [iV,h1,h2,h3,h4,h5]; rfl
    have hl:=hD.2.2.2
    rw [e] at hl
    exact ⟨⟨hD.2.2.1 h5,hl⟩,e.symm⟩
  · rintro s t v ⟨hD,hk⟩
    obtain ⟨h1,h2,h3,h4,h5⟩:=(nB t.k).2.2.2.2.2 hk
    exact ⟨trivial,by rw [iV,h1,h2,h3,h4,h5]; rfl⟩
end Go.Proofs.YtkpohmhenegkiaaGreatDoor
namespace Go.Proofs.YtkpohmhenegkiaaGreatDoor
open Go.W
attribute [-go_sem] cC cJ cD eQ cN gN
noncomputable def N1 (D:Sc->Ty->Vl->Prop) (F:fL):cK:=(23,.f (hS (fun _ _ _=>True) fun s t v=>.int .i64 (gG s t v))) :: HJ D F
theorem OI {D:Sc->Ty->Vl->Prop} {F:fL} (h:FmtM D F):dG Tryz.prog (N1 D F):=aJ BF (qY h)
theorem aAI (D:Sc->Ty->Vl->Prop) (F:fL):sp (N1 D F) 24=l0:=rfl
theorem KW (D:Sc->Ty->Vl->Prop) (F:fL):jE (N1 D F) 23=some (hS (fun _ _ _=>True) fun s t v=>.int .i64 (gG s t v)):=rfl
theorem TF (D:Sc->Ty->Vl->Prop) (F:fL) (k:Int):sp (N1 D F) (gC k)=iI D F (gC k):=by
 unfold gC
 cases k == 1<;>cases k == 4<;>cases k == 7<;>cases k == 5<;>cases k == 6<;>rfl
def qV (F:fL) (s:Sc) (t:Ty) (v:Vl):List UInt8:=bif gG s t v != 0 then [] else bif (F s t v).2 || decide (4000 < ((F s t v).1.length:Int)) then [] else (F s t v).1
def aNK (D:Sc->Ty->Vl->Prop) (F:fL):W.Spec:=fun av H K=>∃ s t v,av=[.va (.gs (aC s)),.va (.gs (aL t)),.va (.gs (a8 v))]/\H=[]/\s.fit/\TyOk t/\VlOk v/\(gG s t v=0->D s t v)/\K (tS (mk (qV F s t v))) []
theorem aAL {D:Sc->Ty->Vl->Prop} {F:fL} (hF:FmtM D F):Meets Tryz.prog 11 (aNK D F):=by
 refine aF Tryz.func11 aNO 3 (by rw [Tryz.ntmps11]; decide) (OI hF) (fun av H K h=>by obtain ⟨_,_,_,rfl,_⟩:=h; rfl) ?_
 rintro av H K ⟨s,t,v,rfl,rfl,hs,ht,hv,hD,hK⟩
 have k1:=fU hv
 have k2:=kQ v
 have k4:=iE ht
 have k5:=nT t
 have k6:=iM hs
 have k7:=nJ s
 have fin:∀ (x:List UInt8) (R:Hp),qV F s t v=x->W.Fin 0 K (tS (mk x)) R:=fun x R h=>by
  rw [h] at hK
  exact .sel [] (by simp) (by simp) rfl (.done (by simpa [go_sem] using hK))
 clear hK
 unfold qV at fin
 cases h1:gG s t v != 0 with
 | true=>
  rw [h1] at fin
  simp (maxSteps:=1000000) -dsimp only [go_sem,aC,aM t,aS v,TR,R7,KW,k1,k2,k4,k5,k6,k7,h1]
  exact fin [] _ rfl
 | false=>
 rw [h1,aG] at fin
 have hD:=hD (by simpa using h1)
 simp (maxSteps:=1000000) -dsimp only [go_sem,aC,aM t,aS v,TR,R7,KW,k1,k2,k4,k5,k6,k7,h1]
 refine aD rfl (.done ?_)
 simp (maxSteps:=1000000) -dsimp only [go_sem,IX,aAI,TF]
 refine sG hs ht hv hD ?_
 generalize F s t v=r at *
 obtain ⟨x,b⟩:=r
 simp only at fin
 simp (maxSteps:=1000000) -dsimp only [go_sem]
 refine aD rfl (.done ?_)
 cases b with
 | true=>
  rw [Bool.true_or,aI] at fin
  simp (maxSteps:=1000000) -dsimp only [go_sem,sU,Bool.or_true]
  exact fin [] _ rfl
 | false=>
  rw [Bool.false_or] at fin
  cases h2:decide (4000 < (x.length:Int)) with
  | true=>
   rw [h2,aI] at fin
   simp (maxSteps:=1000000) -dsimp only [go_sem,sU,Bool.or_false,h2]
   exact fin [] _ rfl
  | false=>
   rw [h2,aG] at fin
   simp (maxSteps:=1000000) -dsimp only [go_sem,sU,Bool.or_false,h2]
   exact fin x _ rfl
end Go.Proofs.YtkpohmhenegkiaaGreatDoor
namespace Go.Proofs.YtkpohmhenegkiaaGreatDoor
open Go.W
def RU (v:Vl):Bool:=(v.k != 4 && !(bl v.s == [])) || (v.k != 5 && decide (0 < (v.l.length:Int))) || (v.k != 6 && decide (0 < (v.f.length:Int)))
def U0 (v:Vl):Bool:=(v.k == 4 || v.k == 5 || v.k == 6) && v.n != 0
def QS (s:Sc) (t:Ty) (v:Vl):Bool:=bif !(valF s.ss s.es t) || v.k != t.k || RU v then false else bif U0 v then false else bif v.k != 6 then true else c8 (stOf s t).fs v.f
def AN (s:Sc) (t:Ty) (n:Int):Bool:=
 bif t.k == 1 then n == 0 || n == 1
 else bif t.k == 2 then t.s == 64 || (decide (-(2 ^ (t.s.toNat - 1):Int)<=n) && decide (n < (2 ^ (t.s.toNat - 1):Int)))
 else bif t.k == 3 then decide (0<=n) && decide (n < (2 ^ t.s.toNat:Int))
 else bif t.k == 7 then (enOf s t).vs.any fun x=>x == n else true
def aFY (t:Ty) (a b:Int):Bool:=(t.k == 4 && decide (t.s < a)) || (t.k == 5 && decide (t.s < b))
mutual
def KV (s:Sc) (t:Ty):Vl->Int
 | .mk k n str l f=>bif !(QS s t (.mk k n str l f)) then 13 else bif !(AN s t n) then 4 else bif aFY t (bl str).length l.length then 3
  else bif FS s (t.e.headD default) l != 0 then FS s (t.e.headD default) l else MF s (stOf s t) f
def FS (s:Sc) (t:Ty):List Vl->Int
 | []=>0
 | v :: r=>bif KV s t v != 0 then KV s t v else FS s t r
def MF (s:Sc) (u:St):List (Int × Vl)->Int
 | []=>0
 | (i,v) :: r=>bif KV s (bG u i).ty v != 0 then KV s (bG u i).ty v else MF s u r
end
theorem pH {α:Type} {l:List α} (h:decide (0 < (l.length:Int))=false):l=[]:=by
 have:=of_decide_eq_false h
 exact List.length_eq_zero_iff.1 (by omega)
theorem aBV {s:Sc} {t:Ty} {n:Int} (hp:valF s.ss s.es t=true) (h4:(t.k == 4)=false) (h5:(t.k == 5)=false) (h6:(t.k == 6)=false):AN s t n=rL s t n:=by
 unfold AN rL
 cases h1:t.k == 1 with
 | true=>rfl
 | false=>
 cases h2:t.k == 2 with
 | true=>rfl
 | false=>
 cases h3:t.k == 3 with
 | true=>rfl
 | false=>
 cases h7:t.k == 7 with
 | true=>rfl
 | false=>
  exfalso
  obtain ⟨k,sz,nm,e⟩:=t
  have h1:(k == 1)=false:=h1
  have h2:(k == 2)=false:=h2
  have h3:(k == 3)=false:=h3
  have h4:(k == 4)=false:=h4
  have h5:(k == 5)=false:=h5
  have h6:(k == 6)=false:=h6
  have h7:(k == 7)=false:=h7
  rw [valF,h1,h2,h3,h4,h5,h6,h7] at hp
  cases hp
mutual
theorem PP (s:Sc) (t:Ty):∀ v:Vl,KV s t v=dZ s t v
 | .mk k n str l f=>by
  have hL:∀ u,FS s u l=j8 s u l:=fun u=>OT s u l
  have hE:MF s (stOf s t) f=jL s ((fS s.ss t.n).getD default).fs f:=P2 s (stOf s t) f
  rw [KV,dZ,hL,hE]
  unfold QS
  cases hp:valF s.ss s.es t with
  | false=>rfl
  | true=>
  show (bif !(bif !true || k != t.k || RU (.mk k n str l f) then false else bif U0 (.mk k n str l f) then false else bif k != 6 then true else c8 (stOf s t).fs f) then 13 else _)=_
  cases hk:k != t.k with
  | true=>rfl
  | false=>
  have hk':k=t.k:=by simpa using hk
  subst hk'
  have eA:RU (.mk t.k n str l f)=((t.k != 4 && !(bl str == [])) || (t.k != 5 && decide (0 < (l.length:Int))) || (t.k != 6 && decide (0 < (f.length:Int)))):=rfl
  have eB:U0 (.mk t.k n str l f)=((t.k == 4 || t.k == 5 || t.k == 6) && n != 0):=rfl
  rw [eA,eB]
  unfold aFY
  cases h4:t.k == 4 with
  | true=>
   have e4:t.k=4:=eq_of_beq h4
   have er:AN s t n=true:=by unfold AN; rw [e4]; rfl
   rw [er,e4]
   unfold mB
   cases hn:n != 0<;>cases hl:decide (0 < (l.length:Int))<;>cases hf:decide (0 < (f.length:Int))<;>cases hs:decide (t.s < ((bl str).length:Int))<;>(try rw [pH hl])<;>(try rw [pH hf])<;>simp [j8,jL]
  | false=>
  cases h5:t.k == 5 with
  | true=>
   have e5:t.k=5:=eq_of_beq h5
   have er:AN s t n=true:=by unfold AN; rw [e5]; rfl
   rw [er,e5]
   generalize j8 s (t.e.headD default) l=q
   have hq:(bif q != 0 then q else 0)=q:=by
    cases hz:q != 0 with
    | true=>rfl
    | false=>
     have hq0:q=0:=by simpa using hz
     rw [hq0]; rfl
   cases hn:n != 0<;>cases hb:bl str == []<;>cases hf:decide (0 < (f.length:Int))<;>cases hs:decide (t.s < (l.length:Int))<;>(try rw [pH hf])<;>simp [jL,hq]
  | false=>
  cases h6:t.k == 6 with
  | true=>
   have e6:t.k=6:=eq_of_beq h6
   have er:AN s t n=true:=by unfold AN; rw [e6]; rfl
   have ef:(stOf s t).fs=((fS s.ss t.n).getD default).fs:=rfl
   rw [er,e6,ef]
   cases hn:n != 0<;>cases hb:bl str == []<;>cases hl:decide (0 < (l.length:Int))<;>cases hs:c8 ((fS s.ss t.n).getD default).fs f<;>(try rw [pH hl])<;>simp [j8]
  | false=>
   rw [aBV hp h4 h5 h6]
   have c4:(t.k != 4)=true:=by rw [bne,h4]; rfl
   have c5:(t.k != 5)=true:=by rw [bne,h5]; rfl
   have c6:(t.k != 6)=true:=by rw [bne,h6]; rfl
   rw [c4,c5,c6]
   unfold mN
   cases hb:bl str == []<;>cases hl:decide (0 < (l.length:Int))<;>cases hf:decide (0 < (f.length:Int))<;>cases hr:rL s t n<;>(try rw [pH hl])<;>(try rw [pH hf])<;>simp [j8,jL]
theorem OT (s:Sc) (t:Ty):∀ l:List Vl,FS s t l=j8 s t l
 | []=>by rw [FS,j8]
 | v :: r=>by rw [FS,j8,PP s t v,OT s t r]
theorem P2 (s:Sc) (u:St):∀ l:List (Int × Vl),MF s u l=jL s u.fs l
 | []=>by rw [MF,jL]
 | (i,v) :: r=>by
  rw [MF,jL,PP s (bG u i).ty v,P2 s u r]; rfl
end
mutual
def dC:Vl->Int
 | .mk k n s l f=>bif lM (.mk k n s l f) then 0 else 1 + j6 (i7 0 l) f
def i7 (d:Int):List Vl->Int
 | []=>d
 | v :: r=>i7 (max d (dC v)) r
def j6 (d:Int):List (Int × Vl)->Int
 | []=>d
 | (_,v) :: r=>j6 (max d (dC v)) r
end
theorem sH (v:Vl):dC v=bif lM v then 0 else 1 + j6 (i7 0 v.l) v.f:=by cases v; rw [dC]; rfl
theorem F4 {g:Vl->Int} {n:Nat} (hg:∀ x,g x=min (dC x) n) (D:Int) (x:Vl):lZ g ((n:Int) - 1) (min D n) x=min (max D (dC x)) n:=by
 unfold lZ
 rw [hg x]
 cases h:decide (min D (n:Int)<=(n:Int) - 1) with
 | true=>have:=of_decide_eq_true h; rw [aI]; omega
 | false=>have:=of_decide_eq_false h; rw [aG]; omega
theorem VG {g:Vl->Int} {n:Nat} (hg:∀ x,g x=min (dC x) n):∀ (l:List Vl) (D:Int),l.foldl (lZ g ((n:Int) - 1)) (min D n)=min (i7 D l) n
 | [],D=>by rw [i7]; rfl
 | x :: l,D=>by rw [List.foldl_cons,F4 hg,VG hg l,i7]
theorem WR {g:Vl->Int} {n:Nat} (hg:∀ x,g x=min (dC x) n):∀ (l:List (Int × Vl)) (D:Int),l.foldl (pL g ((n:Int) - 1)) (min D n)=min (j6 D l) n
 | [],D=>by rw [j6]; rfl
 | (i,x) :: l,D=>by
  rw [List.foldl_cons,show pL g ((n:Int) - 1) (min D n) (i,x)=lZ g ((n:Int) - 1) (min D n) x from rfl,F4 hg,WR hg l,j6]
theorem XP {g:Vl->Int} {n:Nat} (hg:∀ x,g x=min (dC x) n) (v:Vl):IY g ((n:Int) - 1) v=min (dC v) ((n:Int) + 1):=by
 unfold IY
 rw [sH]
 cases lM v with
 | true=>rw [aI,aI]; omega
 | false=>
  rw [aG,aG]
  have h1:=VG hg v.l 0
  rw [show min (0:Int) (n:Int)=0 by omega] at h1
  rw [h1,WR hg v.f]
  omega
mutual
theorem AZ:∀ v:Vl,0<=dC v
 | .mk k n s l f=>by
  rw [dC]
  have h1:=BJ l 0
  have h2:=tL f (i7 0 l)
  cases lM (.mk k n s l f) with
  | true=>exact Int.le_refl _
  | false=>rw [aG]; omega
theorem BJ:∀ (l:List Vl) (d:Int),d<=i7 d l
 | [],d=>by rw [i7]; exact Int.le_refl _
 | v :: r,d=>by
  rw [i7]
  have:=BJ r (max d (dC v))
  omega
theorem tL:∀ (l:List (Int × Vl)) (d:Int),d<=j6 d l
 | [],d=>by rw [j6]; exact Int.le_refl _
 | (_,v) :: r,d=>by
  rw [j6]
  have:=tL r (max d (dC v))
  omega
end
theorem L2:∀ (n:Nat) (x:Vl),iK n x=min (dC x) n
 | 0,x=>by have:=AZ x; show (0:Int)=min (dC x) 0; omega
 | n + 1,x=>by
  rw [iK,zY,XP (L2 n) x]
  omega
theorem ZM (n:Nat) (v:Vl):rN n v=min (dC v) ((n:Int) + 1):=by rw [zY,XP (L2 n) v]
theorem KS (v:Vl):decide (6 < rN 7 v)=decide (6 < dC v):=by
 rw [ZM]
 rw [Bool.eq_iff_iff,decide_eq_true_iff,decide_eq_true_iff]
 omega
mutual
theorem X4:∀ v:Vl,dC v<=v.h
 | .mk k n s l f=>by
  rw [dC,Vl.h]
  have h1:=W3 l 0
  have h2:=WU f (i7 0 l)
  cases lM (.mk k n s l f) with
  | true=>rw [aI]; omega
  | false=>rw [aG]; omega
theorem W3:∀ (l:List Vl) (d:Int),i7 d l<=max d (Vl.hl l)
 | [],d=>by rw [i7,Vl.hl]; omega
 | v :: r,d=>by
  rw [i7,Vl.hl]
  have h1:=X4 v
  have h2:=W3 r (max d (dC v))
  omega
theorem WU:∀ (l:List (Int × Vl)) (d:Int),j6 d l<=max d (Vl.hf l)
 | [],d=>by rw [j6,Vl.hf]; omega
 | (i,v) :: r,d=>by
  rw [j6,Vl.hf]
  have h1:=X4 v
  have h2:=WU r (max d (dC v))
  omega
end
mutual
def oD:Vl->Bool
 | .mk _ _ s l f=>(decide ((bl s).length<=200) && (bl s).all gT) && (vM l && rM f)
def vM:List Vl->Bool
 | []=>true
 | v :: r=>oD v && vM r
def rM:List (Int × Vl)->Bool
 | []=>true
 | (_,v) :: r=>oD v && rM r
end
theorem xJ (v:Vl):oD v=((decide ((bl v.s).length<=200) && (bl v.s).all gT) && (vM v.l && rM v.f)):=by cases v; rw [oD]; rfl
theorem IQ (x:Int × Vl) (r:List (Int × Vl)):rM (x :: r)=(oD x.2 && rM r):=by cases x; rw [rM]
theorem aBC (c:UInt8):decide ((c.toNat:Int) < 32)=!decide (32<=c):=by
 have:decide (32<=c)=decide (32<=c.toNat):=by rw [decide_eq_decide,UInt8.le_iff_toNat_le]; rfl
 rw [this,<-decide_not,decide_eq_decide]; omega
theorem XY (c:UInt8):decide (126 < (c.toNat:Int))=!decide (c<=126):=by
 have:decide (c<=126)=decide (c.toNat<=126):=by rw [decide_eq_decide,UInt8.le_iff_toNat_le]; rfl
 rw [this,<-decide_not,decide_eq_decide]; omega
def aMO (s:Sc):Prop:=∀ e ∈ s.es,e.ns.length=e.vs.length
structure NSt (ss:List St) (es:List En) (u:St):Prop where
 l:u.fs.length<=16
 n:∀ f ∈ u.fs,1<=f.num/\f.num<=127
 m:∀ f ∈ u.fs,cF (bl f.nm)=true
 v:∀ f ∈ u.fs,valF ss es f.ty=true
 a:∀ k f g,0 < k->u.fs[k - 1]? = some g->u.fs[k]? = some f->g.num < f.num
 d:∀ k f,u.fs[k]? = some f->(u.fs.take k).any (fun g=>decide (g.nm=f.nm))=false
structure NEn (e:En):Prop where
 l:e.ns.length=e.vs.length
 s:e.ns.length<=16
 m:∀ n ∈ e.ns,cF (bl n)=true
 d:∀ k x,e.ns[k]? = some x->cU (e.ns.take k) x=false
 a:∀ k x y,0 < k->e.vs[k - 1]? = some x->e.vs[k]? = some y->x < y
 n:∀ x ∈ e.vs,0<=x/\x<=127
structure Nice (s:Sc):Prop where
 st:∀ u ∈ s.ss,NSt s.ss s.es u
 en:∀ e ∈ s.es,NEn e
theorem fX {b:Bool} {x y:Int} (h:(bif b then x else y)=0) (hx:x ≠ 0):b=false/\y=0:=by
 cases b with
 | true=>exact absurd h hx
 | false=>exact ⟨rfl,h⟩
theorem QP {x y:Int} (h:(bif x != 0 then x else y)=0):x=0/\y=0:=by
 by_cases c:x=0
 · subst c; exact ⟨rfl,h⟩
 · rw [show (x != 0)=true by simpa using c] at h; exact absurd h c
theorem PT {ss:List St} {es:List En} {t:St} {k:Nat} {f:Fl} (hx:t.fs[k]? = some f) (h:oP ss es t k=0) :
 (1<=f.num/\f.num<=127)/\(∀ g,0 < k->t.fs[k - 1]? = some g->g.num < f.num)/\cF (bl f.nm)=true/\(t.fs.take k).any (fun g=>decide (g.nm=f.nm))=false/\valF ss es f.ty=true:=by
 unfold oP at h
 rw [hx] at h
 simp only at h
 obtain ⟨c1,h⟩:=fX h (by decide)
 obtain ⟨c2,h⟩:=fX h (by decide)
 obtain ⟨c3,h⟩:=fX h (by decide)
 obtain ⟨c4,h⟩:=fX h (by decide)
 obtain ⟨c5,h⟩:=fX h (by decide)
 simp only [Bool.or_eq_false_iff,decide_eq_false_iff_not] at c1
 refine ⟨⟨by omega,by omega⟩,fun g hk hg=>?_,by simpa using c3,c4,by simpa using c5⟩
 rw [hg] at c2
 simp only at c2
 rw [show decide (0 < (k:Int))=true by simp; omega,Bool.true_and] at c2
 have:=of_decide_eq_false c2
 omega
theorem CX {e:En} {k:Nat} {x:ByteArray} {n:Int} (hx:e.ns[k]? = some x) (hn:e.vs[k]? = some n) (h:kH e k=0) :
 cF (bl x)=true/\cU (e.ns.take k) x=false/\(0<=n/\n<=127)/\(k=0->n=0)/\∀ m,0 < k->e.vs[k - 1]? = some m->m < n:=by
 unfold kH at h
 rw [hx,hn] at h
 simp only at h
 obtain ⟨c3,h⟩:=fX h (by decide)
 obtain ⟨c4,h⟩:=fX h (by decide)
 obtain ⟨c1,h⟩:=fX h (by decide)
 obtain ⟨c2,h⟩:=fX h (by decide)
 rw [Bool.or_eq_false_iff] at c1 c2
 have a1:=of_decide_eq_false c1.1
 have a2:=of_decide_eq_false c1.2
 refine ⟨by simpa using c3,c4,⟨by omega,by omega⟩,fun hk=>?_,fun m hk hm=>?_⟩
 · have c2:=c2.1
   rw [show decide ((k:Int)=0)=true by simp; omega,Bool.true_and] at c2
   exact Decidable.of_not_not (of_decide_eq_false c2)
 · have c2:=c2.2
   rw [hm] at c2
   simp only at c2
   rw [show decide (0 < (k:Int))=true by simp; omega,Bool.true_and] at c2
   have:=of_decide_eq_false c2
   omega
theorem LQ {e:En} (h:CU e=0):0 < e.ns.length/\e.ns.length=e.vs.length/\∀ k < e.ns.length,kH e k=0:=by
 unfold CU at h
 obtain ⟨c1,h⟩:=fX h (by decide)
 simp only [Bool.or_eq_false_iff,decide_eq_false_iff_not] at c1
 exact ⟨by omega,by omega,fun k hk=>lE (m:=e.ns.length) (by rw [Nat.sub_zero]; exact h) k hk⟩
theorem q9 {s:Sc} (h:eG s=0):eK s=false/\I8 s=0/\EC s=0/\tO s.ss=0:=by
 unfold eG at h
 obtain ⟨_,h⟩:=fX h (by decide)
 obtain ⟨c2,h⟩:=fX h (by decide)
 obtain ⟨c3,h⟩:=QP h
 obtain ⟨c4,h⟩:=QP h
 exact ⟨c2,c3,c4,h⟩
theorem KR {s:Sc} (h:eG s=0):Nice s:=by
 obtain ⟨c2,c3,c4,_⟩:=q9 h
 obtain ⟨l1,l2,l3,l4⟩:=u5 c2
 refine ⟨fun u hu=>?_,fun e he=>?_⟩
 · obtain ⟨i,hi⟩:=List.mem_iff_getElem?.1 hu
   have hc:=(J0 hi (lE c4 i (a6.1 hi).1)).2
   have key:=fun k f (hx:u.fs[k]? = some f)=>PT hx (lE hc k (a6.1 hx).1)
   have mem:∀ f ∈ u.fs,∃ k,u.fs[k]? = some f:=fun f hf=>List.mem_iff_getElem?.1 hf
   exact ⟨l4 u hu,fun f hf=>(mem f hf).elim fun k hx=>(key k f hx).1,fun f hf=>(mem f hf).elim fun k hx=>(key k f hx).2.2.1,fun f hf=>(mem f hf).elim fun k hx=>(key k f hx).2.2.2.2,
    fun k f g hk hg hf=>(key k f hf).2.1 g hk hg,fun k f hf=>(key k f hf).2.2.2.1⟩
 · obtain ⟨i,hi⟩:=List.mem_iff_getElem?.1 he
   obtain ⟨hp,hl,hc⟩:=LQ (LE hi (lE c3 i (a6.1 hi).1)).2.2
   have key:=fun k x n (hx:e.ns[k]? = some x) (hn:e.vs[k]? = some n)=>CX hx hn (hc k (a6.1 hx).1)
   have oth:∀ k x,e.ns[k]? = some x->∃ n,e.vs[k]? = some n:=fun k x hx=>⟨_,aU (hl ▸ (a6.1 hx).1)⟩
   have oth2:∀ k n,e.vs[k]? = some n->∃ x,e.ns[k]? = some x:=fun k x hx=>⟨_,aU (hl ▸ (a6.1 hx).1)⟩
   refine ⟨hl,l3 e he,fun x hx=>?_,fun k x hx=>?_,fun k x y hk hx hy=>?_,fun n hn=>?_⟩
   · obtain ⟨k,hk⟩:=List.mem_iff_getElem?.1 hx
     obtain ⟨n,hn⟩:=oth k x hk
     exact (key k x n hk hn).1
   · obtain ⟨n,hn⟩:=oth k x hx
     exact (key k x n hx hn).2.1
   · obtain ⟨z,hz⟩:=oth2 k y hy
     exact (key k z y hz hy).2.2.2.2 x hk hx
   · obtain ⟨k,hk⟩:=List.mem_iff_getElem?.1 hn
     obtain ⟨z,hz⟩:=oth2 k n hk
     exact (key k z n hz hk).2.2.1
theorem SE {s:Sc} (h:eG s=0) {e:En} (he:e ∈ s.es):e.vs[0]? = some 0:=by
 obtain ⟨c2,c3,c4,_⟩:=q9 h
 obtain ⟨i,hi⟩:=List.mem_iff_getElem?.1 he
 obtain ⟨hp,hl,hc⟩:=LQ (LE hi (lE c3 i (a6.1 hi).1)).2.2
 have h1:e.ns[0]? = some e.ns[0]:=aU hp
 have h2:e.vs[0]? = some (e.vs[0]'(hl ▸ hp)):=aU (hl ▸ hp)
 rw [h2,(CX h1 h2 (hc 0 hp)).2.2.2.1 rfl]
theorem Nice.stOf {s:Sc} (h:Nice s) (t:Ty):NSt s.ss s.es (stOf s t):=by
 unfold Proofs.YtkpohmhenegkiaaGreatDoor.stOf
 cases h1:fS s.ss t.n with
 | none=>exact ⟨by decide,fun _ h=>(by cases h),fun _ h=>(by cases h),fun _ h=>(by cases h),fun _ _ _ _ h=>(by cases h),fun _ _ h=>(by cases h)⟩
 | some u=>exact h.st u (List.mem_of_find?_eq_some h1)
theorem Nice.enOf {s:Sc} (h:Nice s) (t:Ty):NEn (enOf s t):=by
 unfold Proofs.YtkpohmhenegkiaaGreatDoor.enOf
 cases h1:fA s.es t.n with
 | none=>exact ⟨rfl,by decide,fun _ h=>(by cases h),fun _ _ h=>(by cases h),fun _ _ _ _ h=>(by cases h),fun _ h=>(by cases h)⟩
 | some u=>exact h.en u (List.mem_of_find?_eq_some h1)
theorem Nice.eq {s:Sc} (h:Nice s):aMO s:=fun e he=>(h.en e he).l
theorem qE {x:List UInt8} (h:cF x=true):x.length<=16:=by
 rcases bC 16 x.length with h1 | h1
 · rw [sN h1] at h; cases h
 · exact h1
structure Ck (s:Sc) (t:Ty) (v:Vl):Prop where
 va:valF s.ss s.es t=true
 kk:v.k=t.k
 tx:(t.k == 4)=true->v.n=0/\v.l=[]/\v.f=[]/\((bl v.s).length:Int)<=t.s
 ls:(t.k == 5)=true->v.n=0/\bl v.s=[]/\v.f=[]/\(v.l.length:Int)<=t.s/\∀ x ∈ v.l,dZ s (t.e.headD default) x=0
 st:(t.k == 6)=true->v.n=0/\bl v.s=[]/\v.l=[]/\c8 (stOf s t).fs v.f=true/\∀ x ∈ v.f,dZ s (bG (stOf s t) x.1).ty x.2=0
 nu:(t.k == 4)=false->(t.k == 5)=false->(t.k == 6)=false->bl v.s=[]/\v.l=[]/\v.f=[]/\rL s t v.n=true
theorem G2 {s:Sc} {t:Ty}:∀ {l:List Vl},j8 s t l=0->∀ x ∈ l,dZ s t x=0
 | [],_,_,h=>by cases h
 | y :: l,h,x,hx=>by
  rw [j8] at h
  by_cases c:dZ s t y=0
  · rw [c] at h
    rcases List.mem_cons.1 hx with rfl | hx
    · exact c
    · exact G2 h x hx
  · rw [show (dZ s t y != 0)=true by simpa using c] at h; exact absurd h c
theorem G1 {s:Sc} {fs:List Fl}:∀ {l:List (Int × Vl)},jL s fs l=0->∀ x ∈ l,dZ s ((fF fs x.1).getD default).ty x.2=0
 | [],_,_,h=>by cases h
 | y :: l,h,x,hx=>by
  rw [vX] at h
  by_cases c:dZ s ((fF fs y.1).getD default).ty y.2=0
  · rw [c] at h
    rcases List.mem_cons.1 hx with rfl | hx
    · exact c
    · exact G1 h x hx
  · rw [show (dZ s ((fF fs y.1).getD default).ty y.2 != 0)=true by simpa using c] at h; exact absurd h c
theorem mQ {α:Type} {l:List α} (h:¬ 0 < (l.length:Int)):l=[]:=List.eq_nil_of_length_eq_zero (by omega)
theorem bZ {k a b:Int} (h:(k == a)=true) (hab:a ≠ b):(k == b)=false:=by
 have:=eq_of_beq h; simp; omega
theorem mY {s:Sc} {t:Ty} {v:Vl} (h:dZ s t v=0):Ck s t v:=by
 rw [rO] at h
 cases c1:!(valF s.ss s.es t) || v.k != t.k with
 | true=>rw [c1] at h; simp at h
 | false=>
 rw [c1,aG] at h
 rw [Bool.or_eq_false_iff] at c1
 have va:valF s.ss s.es t=true:=by simpa using c1.1
 have kk:v.k=t.k:=by simpa using c1.2
 cases c4:t.k == 4 with
 | true=>
  rw [c4,aI] at h
  unfold mB at h
  cases d1:v.n != 0 || decide (0 < (v.l.length:Int)) || decide (0 < (v.f.length:Int)) with
  | true=>rw [d1] at h; simp at h
  | false=>
   rw [d1,aG] at h
   cases d2:decide (t.s < ((bl v.s).length:Int)) with
   | true=>rw [d2] at h; simp at h
   | false=>
    simp only [Bool.or_eq_false_iff,decide_eq_false_iff_not,bne_eq_false_iff_eq] at d1 d2
    refine ⟨va,kk,fun _=>⟨d1.1.1,mQ d1.1.2,mQ d1.2,by omega⟩,fun h=>?_,fun h=>?_,fun h _ _=>?_⟩
    · rw [bZ c4 (by decide)] at h; cases h
    · rw [bZ c4 (by decide)] at h; cases h
    · rw [c4] at h; cases h
 | false=>
 rw [c4,aG] at h
 cases c5:t.k == 5 with
 | true=>
  rw [c5,aI] at h
  cases d1:v.n != 0 || !(bl v.s == []) || decide (0 < (v.f.length:Int)) with
  | true=>rw [d1] at h; simp at h
  | false=>
   rw [d1,aG] at h
   cases d2:decide (t.s < (v.l.length:Int)) with
   | true=>rw [d2] at h; simp at h
   | false=>
    rw [d2,aG] at h
    simp only [Bool.or_eq_false_iff,decide_eq_false_iff_not,bne_eq_false_iff_eq,Bool.not_eq_false'] at d1 d2
    refine ⟨va,kk,fun h=>?_,fun _=>⟨d1.1.1,eq_of_beq d1.1.2,mQ d1.2,by omega,G2 h⟩,fun h=>?_,fun _ h _=>?_⟩
    · rw [c4] at h; cases h
    · rw [bZ c5 (by decide)] at h; cases h
    · rw [c5] at h; cases h
 | false=>
 rw [c5,aG] at h
 cases c6:t.k == 6 with
 | true=>
  rw [c6,aI] at h
  cases d1:v.n != 0 || !(bl v.s == []) || decide (0 < (v.l.length:Int)) || !(c8 ((fS s.ss t.n).getD default).fs v.f) with
  | true=>rw [d1] at h; simp at h
  | false=>
   rw [d1,aG] at h
   simp only [Bool.or_eq_false_iff,decide_eq_false_iff_not,bne_eq_false_iff_eq,Bool.not_eq_false'] at d1
   refine ⟨va,kk,fun h=>?_,fun h=>?_,fun _=>⟨d1.1.1.1,eq_of_beq d1.1.1.2,mQ d1.1.2,d1.2,G1 h⟩,fun _ _ h=>?_⟩
   · rw [c4] at h; cases h
   · rw [c5] at h; cases h
   · rw [c6] at h; cases h
 | false=>
 rw [c6,aG] at h
 unfold mN at h
 cases d1:!(bl v.s == []) || decide (0 < (v.l.length:Int)) || decide (0 < (v.f.length:Int)) with
 | true=>rw [d1] at h; simp at h
 | false=>
  rw [d1,aG] at h
  cases d2:rL s t v.n with
  | false=>rw [d2] at h; simp at h
  | true=>
   simp only [Bool.or_eq_false_iff,decide_eq_false_iff_not,Bool.not_eq_false'] at d1
   refine ⟨va,kk,fun h=>?_,fun h=>?_,fun h=>?_,fun _ _ _=>⟨eq_of_beq d1.1.1,mQ d1.1.2,mQ d1.2,d2⟩⟩
   · rw [c4] at h; cases h
   · rw [c5] at h; cases h
   · rw [c6] at h; cases h
theorem RG {p:Vl->Bool}:∀ {l:List Vl},(∀ x ∈ l,p x=!oD x)->l.any p=!vM l
 | [],_=>by rw [vM]; rfl
 | x :: l,h=>by
  rw [List.any_cons,vM,h x (List.mem_cons_self ..),RG fun y hy=>h y (List.mem_cons_of_mem _ hy),Bool.not_and]
theorem O4 {p:Int × Vl->Bool}:∀ {l:List (Int × Vl)},(∀ x ∈ l,p x=!oD x.2)->l.any p=!rM l
 | [],_=>by rw [rM]; rfl
 | x :: l,h=>by
  rw [List.any_cons,IQ,h x (List.mem_cons_self ..),O4 fun y hy=>h y (List.mem_cons_of_mem _ hy),Bool.not_and]
theorem GS {v:Vl} (h1:v.l=[]) (h2:v.f=[]):oD v=(decide ((bl v.s).length<=200) && (bl v.s).all gT):=by
 rw [xJ,h1,h2,vM,rM,Bool.and_true,Bool.and_true]
theorem aAF (x:List UInt8):(jO x == [])=false:=by unfold jO; rfl
theorem NZ:∀ (N:Nat) (s:Sc) (t:Ty) (v:Vl),v.h<=N->dZ s t v=0->(fP N s t v).2=!oD v
 | 0,_,_,v,h,_=>by have:=v.h_pos; omega
 | N + 1,s,t,v,hh,h0=>by
  have hc:=mY h0
  have flat:bl v.s=[]->v.l=[]->v.f=[]->false=!oD v:=fun e1 e2 e3=>by rw [GS e2 e3,e1]; rfl
  rw [iV]
  cases c4:t.k == 4 with
  | true=>
   obtain ⟨_,e1,e2,_⟩:=hc.tx c4
   rw [bZ c4 (b:=1) (by decide),aG,aI,GS e1 e2]
   unfold nD
   cases decide ((bl v.s).length<=200) && (bl v.s).all gT with
   | true=>rw [aI,aAF]; rfl
   | false=>rfl
  | false=>
  cases c5:t.k == 5 with
  | true=>
   obtain ⟨_,e1,e2,_,e3⟩:=hc.ls c5
   rw [bZ c5 (b:=1) (by decide),bZ c5 (b:=7) (by decide),aG,aG,aG,aI,xJ,e1,e2]
   show (v.l.any fun x=>(fP N s (t.e.headD default) x).2)=_
   rw [RG fun x hx=>NZ N s _ x (by have:=Vl.h_l hx; omega) (e3 x hx),rM]
   simp
  | false=>
  cases c6:t.k == 6 with
  | true=>
   obtain ⟨_,e1,e2,_,e3⟩:=hc.st c6
   rw [bZ c6 (b:=1) (by decide),bZ c6 (b:=7) (by decide),aG,aG,aG,aG,aI,xJ,e1,e2]
   show (v.f.any fun x=>(fP N s (bG (stOf s t) x.1).ty x.2).2)=_
   rw [O4 fun x hx=>NZ N s _ x.2 (by have:=Vl.h_f hx; omega) (e3 x hx),vM]
   simp
  | false=>
   obtain ⟨e1,e2,e3,_⟩:=hc.nu c4 c5 c6
   have:=flat e1 e2 e3
   cases t.k == 1<;>cases t.k == 7<;>exact this
def eC:Nat->Nat
 | 0=>500
 | m + 1=>40 * eC m
theorem yB:∀ m,500<=eC m
 | 0=>Nat.le_refl _
 | m + 1=>by have:=yB m; rw [eC]; omega
theorem wJ {B:Nat}:∀ (c:Bool) (l:List (List UInt8)),(∀ x ∈ l,x.length<=B)->(dJ c l).length<=l.length * (B + 2)
 | _,[],_=>by simp [dJ]
 | c,x :: r,h=>by
  have h1:=wJ true r fun y hy=>h y (List.mem_cons_of_mem _ hy)
  have h2:=h x (List.mem_cons_self ..)
  rw [dJ,List.length_append,List.length_append,List.length_cons,Nat.succ_mul]
  have:(bif c then ([44,32]:List UInt8) else []).length<=2:=by cases c<;>simp
  omega
theorem LK:∀ x:List UInt8,(x.flatMap kC).length<=2 * x.length
 | []=>by simp
 | c :: x=>by
  have:=LK x
  rw [List.flatMap_cons,List.length_append,List.length_cons]
  have h:(kC c).length<=2:=by unfold kC; cases (c == 34 || c == 92)<;>simp
  omega
theorem ZE (x:List UInt8):(nD x).length<=402:=by
 unfold nD
 cases h:decide (x.length<=200) && x.all gT with
 | false=>simp
 | true=>
  rw [Bool.and_eq_true] at h
  have h1:=of_decide_eq_true h.1
  have h2:=LK x
  rw [aI,jO,List.length_append,List.length_cons,List.length_singleton]
  omega
theorem C3 {α:Type} {p q:α->Bool} (hq:∀ x,q x=true->p x=true):∀ {l:List α} {a:α},a ∈ l->p a=true->q a=false->(l.filter q).length < (l.filter p).length
 | [],_,h,_,_=>by cases h
 | x :: l,a,h,ha,hb=>by
  have le:∀ l:List α,(l.filter q).length<=(l.filter p).length:=fun l=>by
   induction l with
   | nil=>simp
   | cons y l ih=>
    rw [List.filter_cons,List.filter_cons]
    cases h1:q y with
    | true=>rw [hq y h1]; simpa using ih
    | false=>cases p y<;>simp<;>omega
  rw [List.filter_cons,List.filter_cons]
  rcases List.mem_cons.1 h with rfl | h
  · rw [ha,hb]
    have:=le l
    simp; omega
  · have:=C3 hq h ha hb
    cases h1:q x with
    | true=>rw [hq x h1]; simpa using this
    | false=>cases p x<;>simp<;>omega
theorem OX {fs:List Fl}:∀ (l:List (Int × Vl)) (p:Option Int),ftA fs p l=true->l.length<=(fs.filter fun f=>LL p f.num).length
 | [],_,_=>Nat.zero_le _
 | x :: r,p,h=>by
  rw [jR,Bool.and_eq_true,Bool.and_eq_true] at h
  obtain ⟨⟨h1,h2⟩,h3⟩:=h
  have ih:=OX r (some x.1) h3
  obtain ⟨f,hf⟩:=Option.isSome_iff_exists.1 h1
  have hm:=List.mem_of_find?_eq_some hf
  have hn:f.num=x.1:=by have:=List.find?_some hf; simpa using this
  have hlt:=C3 (p:=fun f=>LL p f.num) (q:=fun f=>LL (some x.1) f.num) (l:=fs) (a:=f) (fun g hg=>by
   cases p with
   | none=>rfl
   | some q=>
    have a1:q < x.1:=of_decide_eq_true h2
    have a2:x.1 < g.num:=of_decide_eq_true hg
    exact decide_eq_true (by omega)) hm (by rw [hn]; exact h2) (by rw [hn]; exact decide_eq_false (by omega))
  rw [List.length_cons]
  omega
theorem UR {fs:List Fl} {l:List (Int × Vl)} (h:c8 fs l=true):l.length<=fs.length:=by
 unfold c8 at h
 rw [Bool.and_eq_true] at h
 exact Nat.le_trans (OX l none h.1) (List.length_filter_le _ _)
theorem LG:∀ {l:List Vl} {x:Vl} (d:Int),x ∈ l->dC x<=i7 d l
 | y :: l,x,d,h=>by
  rw [i7]
  rcases List.mem_cons.1 h with rfl | h
  · have:=BJ l (max d (dC x)); omega
  · exact LG _ h
theorem KP:∀ {l:List (Int × Vl)} {x:Int × Vl} (d:Int),x ∈ l->dC x.2<=j6 d l
 | (i,y) :: l,x,d,h=>by
  rw [j6]
  rcases List.mem_cons.1 h with rfl | h
  · have:=tL l (max d (dC y)); simp only; omega
  · exact KP _ h
theorem TO {v x:Vl} {m:Nat} (hm:dC v<=m) (hx:x ∈ v.l):∃ j,m=j + 1/\dC x<=j:=by
 have hs:lM v=false:=by
  unfold lM
  have:((v.l.length:Int) == 0)=false:=by
   have:=List.length_pos_of_mem hx
   simp; intro h; rw [h] at hx; cases hx
  rw [this,Bool.and_false,Bool.false_and]
 rw [sH,hs,aG] at hm
 have h1:=LG 0 hx
 have h2:=tL v.f (i7 0 v.l)
 have h3:=AZ x
 exact ⟨m - 1,by omega,by omega⟩
theorem TQ {v:Vl} {x:Int × Vl} {m:Nat} (hm:dC v<=m) (hx:x ∈ v.f):∃ j,m=j + 1/\dC x.2<=j:=by
 have hs:lM v=false:=by
  unfold lM
  have:((v.f.length:Int) == 0)=false:=by
   simp; intro h; rw [h] at hx; cases hx
  rw [this,Bool.and_false]
 rw [sH,hs,aG] at hm
 have h1:=KP (i7 0 v.l) hx
 have h3:=AZ x.2
 exact ⟨m - 1,by omega,by omega⟩
theorem va5 {ss:List St} {es:List En} {t:Ty} (h:valF ss es t=true) (hk:(t.k == 5)=true):t.s<=32:=by
 obtain ⟨k,s,n,e⟩:=t
 have hk:k=5:=eq_of_beq hk
 subst hk
 rw [valF.eq_def] at h
 simp at h
 show s<=32
 omega
theorem va4 {ss:List St} {es:List En} {t:Ty} (h:valF ss es t=true) (hk:(t.k == 4)=true):t.s<=2000:=by
 obtain ⟨k,s,n,e⟩:=t
 have hk:k=4:=eq_of_beq hk
 subst hk
 rw [valF.eq_def] at h
 simp at h
 show s<=2000
 omega
theorem L9 (ns:List ByteArray) (n:Int):∀ (l:List Int) (i:Nat),jH ns n l i=mk []\/jH ns n l i ∈ ns
 | [],_=>.inl rfl
 | m :: l,i=>by
  rw [jH]
  cases h:m == n && decide ((i:Int) < (ns.length:Int)) with
  | false=>exact L9 ns n l (i + 1)
  | true=>
   rw [Bool.and_eq_true] at h
   have h2:=of_decide_eq_true h.2
   right
   rw [aI,List.getD_eq_getElem?_getD,aU (show i < ns.length by omega)]
   exact List.getElem_mem _
theorem TP {u:St} {n:Int}:bG u n ∈ u.fs\/bG u n=default:=by
 unfold bG
 cases h:fF u.fs n with
 | none=>exact .inr rfl
 | some f=>exact .inl (List.mem_of_find?_eq_some h)
theorem G4:∀ (N:Nat) (s:Sc) (t:Ty) (v:Vl) (m:Nat),Nice s->VlOk v->v.h<=N->dZ s t v=0->dC v<=m->(fP N s t v).1.length<=eC m
 | 0,_,_,v,_,_,_,h,_,_=>by have:=v.h_pos; omega
 | N + 1,s,t,v,m,hn,hv,hh,h0,hm=>by
  have hc:=mY h0
  have hb:=yB m
  rw [iV]
  cases c1:t.k == 1 with
  | true=>
   rw [aI]
   have:(zS v.n).length<=5:=by unfold zS; cases v.n == 1<;>decide
   simp only; omega
  | false=>
  rw [aG]
  cases c4:t.k == 4 with
  | true=>
   rw [aI]
   have:=ZE (bl v.s)
   simp only; omega
  | false=>
  rw [aG]
  cases c7:t.k == 7 with
  | true=>
   rw [aI]
   have:(bl (jH (enOf s t).ns v.n (enOf s t).vs 0)).length<=16:=by
    rcases L9 (enOf s t).ns v.n (enOf s t).vs 0 with h | h
    · rw [h]; exact Nat.zero_le _
    · exact qE ((hn.enOf t).m _ h)
   simp only; omega
  | false=>
  rw [aG]
  cases c5:t.k == 5 with
  | true=>
   rw [aI]
   obtain ⟨_,e1,e2,e4,e3⟩:=hc.ls c5
   have hs:=va5 hc.va c5
   show ([91] ++ dJ false (v.l.map fun x=>(fP N s (t.e.headD default) x).1) ++ [93]).length<=_
   rcases Nat.eq_zero_or_pos v.l.length with h | h
   · rw [List.eq_nil_of_length_eq_zero h]; simp [dJ]; omega
   · obtain ⟨y,hy⟩:∃ y,y ∈ v.l:=⟨_,List.getElem_mem h⟩
     obtain ⟨j,rfl,_⟩:=TO hm hy
     have hb2:=yB j
     have:=wJ (B:=eC j) false (v.l.map fun x=>(fP N s (t.e.headD default) x).1) fun z hz=>by
      obtain ⟨x,hx,rfl⟩:=List.mem_map.1 hz
      obtain ⟨j',hj,hr⟩:=TO hm hx
      obtain rfl:j=j':=by omega
      exact G4 N s _ x j hn (hv.l x hx) (by have:=Vl.h_l hx; omega) (e3 x hx) hr
     rw [List.length_map] at this
     have h2:v.l.length * (eC j + 2)<=32 * (eC j + 2):=Nat.mul_le_mul_right _ (by omega)
     rw [List.length_append,List.length_append,List.length_singleton,List.length_singleton,eC]
     omega
  | false=>
  rw [aG]
  cases c6:t.k == 6 with
  | true=>
   rw [aI]
   obtain ⟨_,e1,e2,e4,e3⟩:=hc.st c6
   have hu:=hn.stOf t
   have hl:=Nat.le_trans (UR e4) hu.l
   show ([123] ++ dJ false (v.f.map (u7 (fP N) s (stOf s t))) ++ [125]).length<=_
   rcases Nat.eq_zero_or_pos v.f.length with h | h
   · rw [List.eq_nil_of_length_eq_zero h]; simp [dJ]; omega
   · obtain ⟨y,hy⟩:∃ y,y ∈ v.f:=⟨_,List.getElem_mem h⟩
     obtain ⟨j,rfl,_⟩:=TQ hm hy
     have hb2:=yB j
     have:=wJ (B:=eC j + 19) false (v.f.map (u7 (fP N) s (stOf s t))) fun z hz=>by
      obtain ⟨x,hx,rfl⟩:=List.mem_map.1 hz
      obtain ⟨j',hj,hr⟩:=TQ hm hx
      obtain rfl:j=j':=by omega
      have h1:=G4 N s _ x.2 j hn (hv.f x hx) (by have:=Vl.h_f hx; omega) (e3 x hx) hr
      have h2:(bl (bG (stOf s t) x.1).nm).length<=16:=by
       rcases TP (u:=stOf s t) (n:=x.1) with h | h
       · exact qE (hu.m _ h)
       · rw [h]; exact Nat.zero_le _
      unfold u7
      rw [List.length_append,List.length_append]
      simp only [List.length_cons,List.length_nil]
      omega
     rw [List.length_map] at this
     have h2:v.f.length * (eC j + 19 + 2)<=16 * (eC j + 19 + 2):=Nat.mul_le_mul_right _ (by omega)
     rw [List.length_append,List.length_append,List.length_singleton,List.length_singleton,eC]
     omega
  | false=>
   rw [aG]
   have:=IZ hv.n.1 hv.n.2
   simp only; omega
theorem MP:∀ (N:Nat) (s:Sc) (t:Ty) (v:Vl),s.fit->Nice s->TyOk t->VlOk v->v.h<=N->dZ s t v=0->dC v<=6->dF N s t v
 | 0,_,_,v,_,_,_,_,h,_,_=>by have:=v.h_pos; omega
 | N + 1,s,t,v,hs,hn,ht,hv,hh,h0,hm=>by
  have hc:=mY h0
  refine ⟨fun c4=>?_,fun c5=>?_,fun c6 x hx=>?_,?_⟩
  · have h1:=va4 hc.va c4
    have h2:=(hc.tx c4).2.2.2
    omega
  · obtain ⟨_,e1,e2,e4,e3⟩:=hc.ls c5
    obtain ⟨u,he,_⟩:=H4 hc.va c5
    rw [he,List.headD_cons] at e3
    have hu:=ht.e u (by rw [he]; exact List.mem_singleton.2 rfl)
    refine ⟨u,he,hu,fun x hx=>MP N s u x hs hn hu (hv.l x hx) (by have:=Vl.h_l hx; omega) (e3 x hx) ?_⟩
    obtain ⟨j,hj,hr⟩:=TO (m:=6) hm hx
    omega
  · obtain ⟨_,e1,e2,e4,e3⟩:=hc.st c6
    refine MP N s _ x.2 hs hn (KB (kW hs t) x.1).ty (hv.f x hx) (by have:=Vl.h_f hx; omega) (e3 x hx) ?_
    obtain ⟨j,hj,hr⟩:=TQ (m:=6) hm hx
    omega
  · refine Nat.le_trans (G4 (N + 1) s t v 6 hn hv hh h0 hm) ?_
    decide
theorem wA {s:Sc} {t:Ty} {v:Vl} (h:gG s t v=0):dZ s t v=0/\dC v<=6:=by
 unfold gG at h
 rw [KS] at h
 cases c:decide (6 < dC v) with
 | true=>rw [c] at h; simp at h
 | false=>rw [c] at h; exact ⟨h,by have:=of_decide_eq_false c; omega⟩
def W7:PC:=.seq (.reg [.e 2 (.bx 25 (.t 0)),.e 3 (.bx 28 (.t 1)),.q 4 (.mv (.k (.bool false)))]) (.seq (.reg [.l 5 (.ldn 3 (.t 2)),.a 6 (.cq 18 [(.t 5)]),.v 7 6,⟨some 8,(some (7,true)),.l (.ldn 4 (.t 3))⟩,⟨some 9,(some (7,true)),.cq 19 [(.t 8)]⟩,.a 10 (.pick (.t 7) (.t 9) (.k (.bool false))),.v 11 10,⟨some 12,(some (11,true)),.l (.ldn 3 (.t 2))⟩,⟨some 13,(some (11,true)),.cq 20 [(.t 12)]⟩,⟨some 14,(some (11,true)),.q (.bin .eql true (.t 13) (.i 0))⟩,.a 15 (.pick (.t 11) (.t 14) (.k (.bool false))),.v 4 15]) .ret)
def V2:List RV:=[.mv (.t 4)]
theorem ok8:aO Tryz.prog true ⟨fun r k=>if r=1/\k=1 then .q else if r=1/\k=4 then .q else if r=1/\k=8 then .q else .own [],fun _=>false⟩ Tryz.f8=some (W7,V2):=by kernel_rfl
def MM:PC:=.seq (.gh (.reg [.v 10 3,.q 11 (.bin .leq true (.t 10) (.i 500)),.v 12 11,⟨some 13,(some (12,true)),.q (.mv (.t 4))⟩,⟨some 14,(some (12,true)),.q (.bin .leq true (.t 13) (.i 12))⟩,.a 15 (.pick (.t 12) (.t 14) (.k (.bool false))),.v 2 15])) .ret
@[go_sem ↓] theorem aP3:aY MM:=aZ _
def pc9:PC:=.seq (.reg [.e 1 (.bx 32 (.t 0)),.q 2 (.mv (.k (.bool false)))]) (.seq (.reg [.l 6 (.ldn 5 (.t 1)),.a 7 (.cl 21 [(.t 6),(.i 0)] []),.v 5 7,.q 8 (.ex (.t 5) 0),.q 9 (.ex (.t 5) 1),.v 3 8,.v 4 9]) (MM))
def rs9:List RV:=[.mv (.t 2)]
theorem ok9:aO Tryz.prog true ⟨fun _ _=>.own [],fun r=>[2].contains r⟩ Tryz.f9=some (pc9,rs9):=by kernel_rfl
def F3:PC:=.seq (.gh (.reg [.v 49 5,.q 50 (.bin .eql true (.t 49) (.i 0)),.v 51 50,⟨some 52,(some (51,true)),.l (.ldn 3 (.t 1))⟩,⟨some 53,(some (51,true)),.l (.ldn 4 (.t 2))⟩,⟨some 54,(some (51,true)),.l (.ldn 5 (.t 4))⟩,⟨some 55,(some (51,true)),.cq 11 [(.t 52),(.t 53),(.t 54)]⟩,⟨some 56,(some (51,true)),.q (.mv (.t 3))⟩,⟨some 57,(some (51,true)),.q (.bin .eql true (.t 55) (.t 56))⟩,.a 58 (.pick (.t 51) (.t 57) (.k (.bool false))),.v 59 58,⟨some 60,(some (59,true)),.q (.fa 4 (.t 4))⟩,⟨some 61,(some (59,true)),.l (.ld1 (.t 60))⟩,⟨some 62,(some (59,true)),.q (.lnL (.t 61))⟩,⟨some 63,(some (59,true)),.q (.bin .eql true (.t 62) (.i 3))⟩,.a 64 (.pick (.t 59) (.t 63) (.k (.bool false))),.v 65 64,⟨some 66,(some (65,true)),.q (.fa 4 (.t 4))⟩,⟨some 67,(some (65,true)),.l (.ld1 (.t 66))⟩,⟨some 68,(some (65,true)),.l (.ia 6 (.t 67) (.i 1))⟩,⟨some 69,(some (65,true)),.q (.fa 0 (.t 68))⟩,⟨some 70,(some (65,true)),.l (.ld1 (.t 69))⟩,⟨some 71,(some (65,true)),.q (.bin .eql true (.t 70) (.i 4))⟩,.a 72 (.pick (.t 65) (.t 71) (.k (.bool false))),.v 73 72,⟨some 74,(some (73,true)),.q (.fa 4 (.t 4))⟩,⟨some 75,(some (73,true)),.l (.ld1 (.t 74))⟩,⟨some 76,(some (73,true)),.l (.ia 6 (.t 75) (.i 1))⟩,⟨some 77,(some (73,true)),.q (.fa 1 (.t 76))⟩,⟨some 78,(some (73,true)),.q (.fa 1 (.t 77))⟩,⟨some 79,(some (73,true)),.l (.ld1 (.t 78))⟩,⟨some 80,(some (73,true)),.q (.bin .eql true (.t 79) (.i 3))⟩,.a 81 (.pick (.t 73) (.t 80) (.k (.bool false))),.v 82 81,⟨some 83,(some (82,true)),.q (.mv (.t 8))⟩,⟨some 84,(some (82,true)),.q (.bin .eql true (.t 83) (.i 4))⟩,.a 85 (.pick (.t 82) (.t 84) (.k (.bool false))),.v 86 85,⟨some 87,(some (86,true)),.q (.mv (.t 9))⟩,⟨some 88,(some (86,true)),.q (.bin .eql true (.t 87) (.i 0))⟩,.a 89 (.pick (.t 86) (.t 88) (.k (.bool false))),.v 90 89,⟨some 91,(some (90,true)),.q (.mv (.t 11))⟩,⟨some 92,(some (90,true)),.q (.bin .eql true (.t 91) (.i 2))⟩,.a 93 (.pick (.t 90) (.t 92) (.k (.bool false))),.v 94 93,⟨some 95,(some (94,true)),.q (.mv (.t 12))⟩,⟨some 96,(some (94,true)),.q (.bin .eql true (.t 95) (.i 13))⟩,.a 97 (.pick (.t 94) (.t 96) (.k (.bool false))),.v 98 97,⟨some 99,(some (98,true)),.q (.mv (.t 14))⟩,⟨some 100,(some (98,true)),.q (.bin .eql true (.t 99) (.i 2))⟩,.a 101 (.pick (.t 98) (.t 100) (.k (.bool false))),.v 102 101,⟨some 103,(some (102,true)),.q (.mv (.t 15))⟩,⟨some 104,(some (102,true)),.q (.bin .eql true (.t 103) (.i 15))⟩,.a 105 (.pick (.t 102) (.t 104) (.k (.bool false))),.v 0 105])) .ret
@[go_sem ↓] theorem aOY:aY F3:=aZ _
def F6:PC:=.seq (.gh (.reg [.l 43 (.ldn 3 (.t 1)),.l 44 (.ldn 4 (.t 2)),.a 45 (.cl 13 [(.t 43),(.t 44),(.k (.string (mk [123,120,32,61,32,49,44,32,109,111,100,101,32,61,32,115,116,111,112,44,32,108,32,61,32,91,93,125])))] []),.v 42 45,.q 46 (.ex (.t 42) 0),.q 47 (.ex (.t 42) 1),.q 48 (.ex (.t 42) 2),.e 13 (.al (.agg #[(.int .i64 0),(.int .i64 0),(.string (mk [])),(.slice none 0 0),(.slice none 0 0)]) 32),.s (.st 5 (.t 13) (.t 46)),.v 14 47,.v 15 48])) (F3)
@[go_sem ↓] theorem aNP:aY F6:=aZ _
def HD:PC:=.seq (.gh (.reg [.l 36 (.ldn 3 (.t 1)),.l 37 (.ldn 4 (.t 2)),.a 38 (.cl 13 [(.t 36),(.t 37),(.k (.string (mk [123,109,111,100,101,32,61,32,114,117,110,44,32,120,32,61,32,49,125])))] []),.v 35 38,.q 39 (.ex (.t 35) 0),.q 40 (.ex (.t 35) 1),.q 41 (.ex (.t 35) 2),.e 10 (.al (.agg #[(.int .i64 0),(.int .i64 0),(.string (mk [])),(.slice none 0 0),(.slice none 0 0)]) 32),.s (.st 5 (.t 10) (.t 39)),.v 11 40,.v 12 41])) (F6)
@[go_sem ↓] theorem aLG:aY HD:=aZ _
def FM:PC:=.seq (.gh (.reg [.l 29 (.ldn 3 (.t 1)),.l 30 (.ldn 4 (.t 2)),.a 31 (.cl 13 [(.t 29),(.t 30),(.k (.string (mk [123,120,32,61,32,50,48,48,44,32,109,111,100,101,32,61,32,114,117,110,44,32,108,32,61,32,91,93,125])))] []),.v 28 31,.q 32 (.ex (.t 28) 0),.q 33 (.ex (.t 28) 1),.q 34 (.ex (.t 28) 2),.e 7 (.al (.agg #[(.int .i64 0),(.int .i64 0),(.string (mk [])),(.slice none 0 0),(.slice none 0 0)]) 32),.s (.st 5 (.t 7) (.t 32)),.v 8 33,.v 9 34])) (HD)
@[go_sem ↓] theorem aLL:aY FM:=aZ _
def HW:PC:=.seq (.gh (.reg [.l 21 (.ldn 3 (.t 1)),.l 22 (.ldn 4 (.t 2)),.v 23 3,.a 24 (.cl 13 [(.t 21),(.t 22),(.t 23)] []),.v 20 24,.q 25 (.ex (.t 20) 0),.q 26 (.ex (.t 20) 1),.q 27 (.ex (.t 20) 2),.e 4 (.al (.agg #[(.int .i64 0),(.int .i64 0),(.string (mk [])),(.slice none 0 0),(.slice none 0 0)]) 32),.s (.st 5 (.t 4) (.t 25)),.v 5 26,.v 6 27])) (FM)
@[go_sem ↓] theorem aK1:aY HW:=aZ _
def G5:PC:=.seq (.gh (.reg [.q 3 (.mv (.k (.string (mk [123,120,32,61,32,45,53,44,32,109,111,100,101,32,61,32,114,117,110,44,32,108,32,61,32,91,116,114,117,101,44,32,102,97,108,115,101,93,125]))))])) (HW)
@[go_sem ↓] theorem aNF:aY G5:=aZ _
def aBG:PC:=.seq (.reg [.q 0 (.mv (.k (.bool false)))]) (.seq (.reg [.a 17 (.cl 22 [] []),.v 16 17,.q 18 (.ex (.t 16) 0),.q 19 (.ex (.t 16) 1),.e 1 (.al (.agg #[(.int .i64 0),(.slice none 0 0),(.slice none 0 0)]) 25),.e 2 (.al (.agg #[(.int .i64 0),(.int .i64 0),(.string (mk [])),(.slice none 0 0)]) 28),.s (.st 3 (.t 1) (.t 18)),.s (.st 4 (.t 2) (.t 19))]) (G5))
def aFM:List RV:=[.mv (.t 0)]
theorem aKP:aO Tryz.prog true ⟨fun r k=>if r=7/\k=6 then .q else .own [],fun r=>[2,3,4,5,6,7].contains r⟩ Tryz.f10=some (aBG,aFM):=by kernel_rfl
def IV:PC:=.gh (.reg [.v 37 6,.v 38 9,.q 39 (.bin .add false (.t 37) (.t 38)),.v 40 7,.v 41 10,.q 42 (.mx true (.t 40) (.t 41)),.v 6 39,.v 7 42])
@[go_sem ↓] theorem aN5:aY IV:=aZ _
def A1:PC:=.gh (.reg [.v 62 6,.v 63 12,.q 64 (.bin .add false (.t 62) (.t 63)),.v 65 7,.v 66 13,.q 67 (.mx true (.t 65) (.t 66)),.v 6 64,.v 7 67])
@[go_sem ↓] theorem aJ3:aY A1:=aZ _
def UB:PC:=.seq (.reg [.e 2 (.bx 32 (.t 0)),.q 4 (.mv (.i 0)),.q 5 (.mv (.i 0))]) (.seq (.reg [.v 14 1,.q 6 (.mv (.i 1)),.v 7 14]) (.seq (.seq (.reg [.v 15 1,.q 16 (.bin .gtr false (.t 15) (.i 20))]) (.cond (.t 16) (.seq (.reg [.v 17 6,.v 18 1,.v 4 17,.v 5 18]) .ret) .skip)) (.seq (.seq (.reg [.q 8 (.mv (.i 0))]) (.block 0 (.loop (.seq (.seq (.reg [.v 19 8,.q 20 (.fa 3 (.t 2)),.l 21 (.ld1 (.t 20)),.q 22 (.lnL (.t 21)),.q 23 (.bin .lss false (.t 19) (.t 22))]) (.cond (.t 23) .skip (.exit 0))) (.seq (.block 1 (.seq (.reg [.q 27 (.fa 3 (.t 2)),.l 28 (.ld1 (.t 27)),.v 29 8,.l 30 (.ia 5 (.t 28) (.t 29)),.l 31 (.ldn 5 (.t 30)),.v 32 1,.q 33 (.bin .add false (.t 32) (.i 1)),.a 34 (.cl 21 [(.t 31),(.t 33)] []),.v 26 34,.q 35 (.ex (.t 26) 0),.q 36 (.ex (.t 26) 1),.v 9 35,.v 10 36]) (IV))) (.reg [.v 24 8,.q 25 (.bin .add false (.t 24) (.i 1)),.v 8 25])))))) (.seq (.seq (.reg [.q 11 (.mv (.i 0))]) (.block 2 (.loop (.seq (.seq (.reg [.v 43 11,.q 44 (.fa 4 (.t 2)),.l 45 (.ld1 (.t 44)),.q 46 (.lnL (.t 45)),.q 47 (.bin .lss false (.t 43) (.t 46))]) (.cond (.t 47) .skip (.exit 2))) (.seq (.block 3 (.seq (.reg [.q 51 (.fa 4 (.t 2)),.l 52 (.ld1 (.t 51)),.v 53 11,.l 54 (.ia 6 (.t 52) (.t 53)),.q 55 (.fa 1 (.t 54)),.l 56 (.ldn 5 (.t 55)),.v 57 1,.q 58 (.bin .add false (.t 57) (.i 1)),.a 59 (.cl 21 [(.t 56),(.t 58)] []),.v 50 59,.q 60 (.ex (.t 50) 0),.q 61 (.ex (.t 50) 1),.v 12 60,.v 13 61]) (A1))) (.reg [.v 48 11,.q 49 (.bin .add false (.t 48) (.i 1)),.v 11 49])))))) (.seq (.reg [.v 68 6,.v 69 7,.v 4 68,.v 5 69]) .ret)))))
def S2:List RV:=[.mv (.t 4),.mv (.t 5)]
theorem aL2:aO Tryz.prog false ⟨fun _ _=>.own [],fun r=>[8,13].contains r⟩ Tryz.f21=some (UB,S2):=by kernel_rfl
def aFB:PC:=.seq (.reg [.e 0 (.al (.agg #[(.int .i64 0),(.slice none 0 0),(.slice none 0 0)]) 25),.e 1 (.al (.agg #[(.int .i64 0),(.int .i64 0),(.string (mk [])),(.slice none 0 0)]) 28)]) (.seq (.reg [.q 5 (.bd [(.int .i64 0),(.int .i64 0),(.string (mk [])),(.slice none 0 0)] [(0,1,(.i 1))]),.e 6 (.bsl 28 4 [(.t 5)]),.q 7 (.bd [(.int .i64 0),(.int .i64 0),(.string (mk [])),(.slice none 0 0)] [(0,1,(.i 5)),(1,1,(.i 2)),(3,1,(.t 6))]),.e 2 (.al (.agg #[(.int .i64 0),(.int .i64 0),(.string (mk [])),(.slice none 0 0)]) 28),.s (.st 4 (.t 2) (.t 7))]) (.seq (.reg [.q 8 (.bd [(.int .i64 0),(.int .i64 0),(.string (mk [])),(.slice none 0 0)] [(0,1,(.i 2)),(1,1,(.i 8))]),.q 9 (.bd [(.int .i64 0),(.string (mk [])),(.int .i64 0),(.int .i64 0),(.string (mk [])),(.slice none 0 0),(.bool false)] [(0,1,(.i 1)),(1,1,(.k (.string (mk [120])))),(2,4,(.t 8))]),.q 10 (.bd [(.int .i64 0),(.int .i64 0),(.string (mk [])),(.slice none 0 0)] [(0,1,(.i 4)),(1,1,(.i 5))]),.q 11 (.bd [(.int .i64 0),(.string (mk [])),(.int .i64 0),(.int .i64 0),(.string (mk [])),(.slice none 0 0),(.bool false)] [(0,1,(.i 2)),(1,1,(.k (.string (mk [110,97,109,101])))),(2,4,(.t 10)),(6,1,(.k (.bool true)))]),.q 12 (.bd [(.int .i64 0),(.int .i64 0),(.string (mk [])),(.slice none 0 0)] [(0,1,(.i 7)),(2,1,(.k (.string (mk [77,111,100,101]))))]),.q 13 (.bd [(.int .i64 0),(.string (mk [])),(.int .i64 0),(.int .i64 0),(.string (mk [])),(.slice none 0 0),(.bool false)] [(0,1,(.i 4)),(1,1,(.k (.string (mk [109,111,100,101])))),(2,4,(.t 12))]),.l 14 (.ldn 4 (.t 2)),.q 15 (.bd [(.int .i64 0),(.string (mk [])),(.int .i64 0),(.int .i64 0),(.string (mk [])),(.slice none 0 0),(.bool false)] [(0,1,(.i 5)),(1,1,(.k (.string (mk [108])))),(2,4,(.t 14))]),.e 16 (.bslx 97 7 [(.t 9),(.t 11),(.t 13),(.t 15)]),.v 3 16]) (.seq (.reg [.e 17 (.bsl 9 1 [(.k (.string (mk [105,100,108,101]))),(.k (.string (mk [114,117,110])))]),.e 18 (.bsl 3 1 [(.i 0),(.i 3)]),.q 19 (.bd [(.string (mk [])),(.slice none 0 0),(.slice none 0 0)] [(0,1,(.k (.string (mk [77,111,100,101])))),(1,1,(.t 17)),(2,1,(.t 18))]),.e 20 (.bslx 92 3 [(.t 19)]),.v 21 3,.q 22 (.bd [(.string (mk [])),(.slice none 0 0)] [(0,1,(.k (.string (mk [80,111,115,101])))),(1,1,(.t 21))]),.e 23 (.bslx 95 2 [(.t 22)]),.q 24 (.bd [(.int .i64 0),(.slice none 0 0),(.slice none 0 0)] [(0,1,(.i 1)),(1,1,(.t 20)),(2,1,(.t 23))]),.e 4 (.al (.agg #[(.int .i64 0),(.slice none 0 0),(.slice none 0 0)]) 25),.s (.st 3 (.t 4) (.t 24))]) (.seq (.reg [.l 25 (.ldn 3 (.t 4)),.q 26 (.bd [(.int .i64 0),(.int .i64 0),(.string (mk [])),(.slice none 0 0)] [(0,1,(.i 6)),(2,1,(.k (.string (mk [80,111,115,101]))))]),.s (.st 3 (.t 0) (.t 25)),.s (.st 4 (.t 1) (.t 26))]) .ret))))
def aC0:List RV:=[.ld (.ldn 3 (.t 0)),.ld (.ldn 4 (.t 1))]
theorem aKL:aO Tryz.prog true ⟨fun r k=>if r=2/\k=8 then .q else if r=3/\k=3 then .q else if r=3/\k=6 then .q else .own [],fun _=>false⟩ Tryz.f22=some (aFB,aC0):=by kernel_rfl
def lT (a b:Int × Int):Int × Int:=(IntKind.i64.wrap (a.1 + b.1),max a.2 b.2)
mutual
def gD:Vl->Int->Int × Int
 | .mk _ _ _ l f,lev=>bif decide (20 < lev) then (1,lev) else oE f (lev + 1) (nN l (lev + 1) (1,lev))
def nN:List Vl->Int->Int × Int->Int × Int
 | [],_,a=>a
 | v :: r,lev,a=>nN r lev (lT a (gD v lev))
def oE:List (Int × Vl)->Int->Int × Int->Int × Int
 | [],_,a=>a
 | (_,v) :: r,lev,a=>oE r lev (lT a (gD v lev))
end
theorem aDR (v:Vl) (lev:Int):gD v lev=bif decide (20 < lev) then (1,lev) else oE v.f (lev + 1) (nN v.l (lev + 1) (1,lev)):=by cases v; rw [gD]; rfl
theorem R4 (x:Int × Vl) (r:List (Int × Vl)) (lev:Int) (a:Int × Int):oE (x :: r) lev a=oE r lev (lT a (gD x.2 lev)):=by cases x; rw [oE]
mutual
theorem aAG:∀ (v:Vl) (lev:Int),lev<=(gD v lev).2
 | .mk k n s l f,lev=>by
  rw [gD]
  cases decide (20 < lev) with
  | true=>exact Int.le_refl _
  | false=>
   have h1:=tP l (lev + 1) (1,lev)
   have h2:=uB f (lev + 1) (nN l (lev + 1) (1,lev))
   rw [aG]
   simp only at h1
   omega
theorem tP:∀ (l:List Vl) (lev:Int) (a:Int × Int),a.2<=(nN l lev a).2
 | [],_,_=>by rw [nN]; exact Int.le_refl _
 | v :: r,lev,a=>by
  have h:=tP r lev (lT a (gD v lev))
  rw [nN]
  unfold lT at h ⊢
  simp only at h
  omega
theorem uB:∀ (l:List (Int × Vl)) (lev:Int) (a:Int × Int),a.2<=(oE l lev a).2
 | [],_,_=>by rw [oE]; exact Int.le_refl _
 | (i,v) :: r,lev,a=>by
  have h:=uB r lev (lT a (gD v lev))
  rw [oE]
  unfold lT at h ⊢
  simp only at h
  omega
end
mutual
theorem MW:∀ (v:Vl) (lev:Int),(gD v lev).2<=12->lev + v.h<=13
 | .mk k n s l f,lev,h=>by
  have h0:=aAG (.mk k n s l f) lev
  rw [gD] at h h0
  cases c:decide (20 < lev) with
  | true=>have:=of_decide_eq_true c; rw [c,aI] at h; simp only at h; omega
  | false=>
   rw [c,aG] at h h0
   have h1:=tP l (lev + 1) (1,lev)
   have h2:=uB f (lev + 1) (nN l (lev + 1) (1,lev))
   have h3:=XE f (lev + 1) (nN l (lev + 1) (1,lev)) h
   have h4:=XH l (lev + 1) (1,lev) (by omega)
   rw [Vl.h]
   simp only at h1
   omega
theorem XH:∀ (l:List Vl) (lev:Int) (a:Int × Int),(nN l lev a).2<=12->Vl.hl l=0\/lev + Vl.hl l<=13
 | [],_,_,_=>.inl (by rw [Vl.hl])
 | v :: r,lev,a,h=>by
  rw [nN] at h
  have h1:=tP r lev (lT a (gD v lev))
  have h2:(gD v lev).2<=(lT a (gD v lev)).2:=by unfold lT; simp only; omega
  have h3:=MW v lev (by omega)
  have h4:=XH r lev _ h
  rw [Vl.hl]
  omega
theorem XE:∀ (l:List (Int × Vl)) (lev:Int) (a:Int × Int),(oE l lev a).2<=12->Vl.hf l=0\/lev + Vl.hf l<=13
 | [],_,_,_=>.inl (by rw [Vl.hf])
 | (i,v) :: r,lev,a,h=>by
  rw [oE] at h
  have h1:=uB r lev (lT a (gD v lev))
  have h2:(gD v lev).2<=(lT a (gD v lev)).2:=by unfold lT; simp only; omega
  have h3:=MW v lev (by omega)
  have h4:=XE r lev _ h
  rw [Vl.hf]
  omega
end
def aFC (N:Nat):W.Spec:=fun av H K=>∃ (v:Vl) (lev:Int),av=[.va (.gs (a8 v)),iS .i64 lev]/\H=[]/\VlOk v/\0<=lev/\lev<=21/\22<=lev + N/\K (.tu [iA .i64 (gD v lev).1,iA .i64 (gD v lev).2]) []
theorem GM {N:Nat} {v:Vl} {lev:Int} {K:S->Hp->Prop} (h1:VlOk v) (h2:0<=lev) (h3:lev<=21) (h4:22<=lev + N) (hK:K (.tu [iA .i64 (gD v lev).1,iA .i64 (gD v lev).2]) []) :
 aFC N [.va (.gs [.vl (.int .i64 v.k),.vl (.int .i64 v.n),.vl (.string v.s),.fz (v.l.map a8),.fz (v.f.map bW)]),iS .i64 lev] [] K:=⟨v,lev,by rw [aS],rfl,h1,h2,h3,h4,hK⟩
theorem KU:∀ N,Meets Tryz.prog 21 (aFC N)
 | 0=>⟨by kernel_rfl,by rintro xs vs E ro w K _ _ _ ⟨v,lev,_,_,_,h1,h2,h3,_⟩; omega⟩
 | N + 1=>by
  refine aF Tryz.func21 aL2 2 (by rw [Tryz.ntmps21]; decide) (aB (KU N) (aA _)) (fun av H K h=>by obtain ⟨_,_,rfl,_⟩:=h; rfl) ?_
  rintro av H K ⟨v,lev,rfl,rfl,hv,h0,h21,hN,hK⟩
  have fin:∀ (x:Int × Int) (R:Hp),gD v lev=x->W.Fin 0 K (.tu [iA .i64 x.1,iA .i64 x.2]) R:=fun x R h=>by
   rw [h] at hK; exact .sel [] (by simp) (by simp) rfl (.done (by simpa [go_sem] using hK))
  clear hK
  rw [aDR] at fin
  have hll:=hv.ll
  have hlf:=hv.lf
  cases h1:decide (20 < lev) with
  | true=>
   rw [h1,aI] at fin
   simp (maxSteps:=1000000) -dsimp only [go_sem,aS v,UB,S2,h1]
   exact fin _ _ rfl
  | false=>
  have h20:=of_decide_eq_false h1
  rw [h1,aG] at fin
  have hw:IntKind.i64.wrap (lev + 1)=lev + 1:=CB (by omega) (by omega)
  simp (maxSteps:=1000000) -dsimp only [go_sem,aS v,UB,S2,h1]
  refine aN (α:=Nat × (Int × Int)) (fun x=>[(1,iS .i64 lev),(2,.va (.c1 (.pt 0 0))),(6,iS .i64 x.2.1),(7,iS .i64 x.2.2),(8,iS .i64 x.1)]) (fun _=>[.cells [.vl (.int .i64 v.k),.vl (.int .i64 v.n),.vl (.string v.s),.fz (v.l.map a8),.fz (v.f.map bW)] 32])
   (fun x=>x.1<=v.l.length/\nN (v.l.drop x.1) (lev + 1) x.2=nN v.l (lev + 1) (1,lev)) (fun x=>v.l.length - x.1) (0,(1,lev)) 1 ⟨Nat.zero_le _,rfl⟩ ?_ ?_ ?_
  · simp -dsimp only [go_sem]<;>simp
  · simp -dsimp only [go_sem]<;>simp
  rintro ⟨i,a⟩ ⟨hi,ho⟩
  simp only at hi ho
  rcases bC i v.l.length with hlt | hge
  · have hg:decide ((i:Int) < (v.l.length:Int))=true:=by simp; omega
    have hwi:IntKind.i64.wrap ((i:Int) + 1)=(i:Int) + 1:=CB (by omega) (by omega)
    have hx:v.l[i]? = some v.l[i]:=aU hlt
    have q2:=aV (row:=a8) hx
    rw [List.drop_eq_getElem_cons hlt,nN] at ho
    have hxo:=hv.l _ (List.getElem_mem hlt)
    generalize v.l[i]=x at *
    simp (maxSteps:=1000000) -dsimp only [go_sem,hg,↓q2,aS x,hw]
    refine ⟨by omega,GM hxo (by omega) (by omega) (by omega) ?_⟩
    simp (maxSteps:=1000000) -dsimp only [go_sem]
    refine aD rfl (.done ?_)
    simp (maxSteps:=1000000) -dsimp only [go_sem,IV,hwi]
    refine aE (i + 1,lT a (gD x (lev + 1))) 1 ⟨by simp only; omega,ho⟩ (by simp only; omega) ?_ ?_
    · simp -dsimp only [go_sem,lT]<;>simp
    · simp -dsimp only [go_sem]<;>simp
  · have hg:decide ((i:Int) < (v.l.length:Int))=false:=by simp; omega
    obtain rfl:i=v.l.length:=by omega
    rw [List.drop_length,nN] at ho
    rw [<-ho] at fin
    clear ho hi hge
    simp (maxSteps:=1000000) -dsimp only [go_sem,hg]
    clear hg
    refine aN (α:=Nat × (Int × Int)) (fun x=>[(1,iS .i64 lev),(2,.va (.c1 (.pt 0 0))),(6,iS .i64 x.2.1),(7,iS .i64 x.2.2),(11,iS .i64 x.1)]) (fun _=>[.cells [.vl (.int .i64 v.k),.vl (.int .i64 v.n),.vl (.string v.s),.fz (v.l.map a8),.fz (v.f.map bW)] 32])
     (fun x=>x.1<=v.f.length/\oE (v.f.drop x.1) (lev + 1) x.2=oE v.f (lev + 1) a) (fun x=>v.f.length - x.1) (0,a) 1 ⟨Nat.zero_le _,rfl⟩ ?_ ?_ ?_
    · simp -dsimp only [go_sem]<;>simp
    · simp -dsimp only [go_sem]<;>simp
    rintro ⟨i,b⟩ ⟨hi,ho⟩
    simp only at hi ho
    rcases bC i v.f.length with hlt | hge
    · have hg:decide ((i:Int) < (v.f.length:Int))=true:=by simp; omega
      have hwi:IntKind.i64.wrap ((i:Int) + 1)=(i:Int) + 1:=CB (by omega) (by omega)
      have hx:v.f[i]? = some v.f[i]:=aU hlt
      have q2:=t6 hx
      rw [List.drop_eq_getElem_cons hlt,R4] at ho
      have hxo:=hv.f _ (List.getElem_mem hlt)
      generalize v.f[i]=x at *
      simp (maxSteps:=1000000) -dsimp only [go_sem,hg,↓q2,hw]
      refine ⟨by omega,GM hxo (by omega) (by omega) (by omega) ?_⟩
      simp (maxSteps:=1000000) -dsimp only [go_sem]
      refine aD rfl (.done ?_)
      simp (maxSteps:=1000000) -dsimp only [go_sem,A1,hwi]
      refine aE (i + 1,lT b (gD x.2 (lev + 1))) 1 ⟨by simp only; omega,ho⟩ (by simp only; omega) ?_ ?_
      · simp -dsimp only [go_sem,lT]<;>simp
      · simp -dsimp only [go_sem]<;>simp
    · have hg:decide ((i:Int) < (v.f.length:Int))=false:=by simp; omega
      obtain rfl:i=v.f.length:=by omega
      rw [List.drop_length,oE] at ho
      rw [<-ho] at fin
      simp (maxSteps:=1000000) -dsimp only [go_sem,hg]
      exact fin _ _ rfl
def DN (v:Vl):Bool:=decide ((gD v 0).1<=500) && decide ((gD v 0).2<=12)
theorem aIH {v:Vl} (h:DN v=true):v.h<=13:=by
 unfold DN at h
 rw [Bool.and_eq_true] at h
 have:=MW v 0 (of_decide_eq_true h.2)
 omega
noncomputable def liFn:Fun:=rT s3 C.vv fun v=>.bool (DN v)
attribute [go_sem] liFn
theorem aBP:Meets Tryz.prog 9 liFn.sp:=by
 refine aF Tryz.func9 ok9 1 (by rw [Tryz.ntmps9]; decide) (aB (KU 22) (aA _)) o8 ?_
 rintro av H K ⟨⟨h,rfl⟩,hK⟩
 obtain ⟨_,rfl,v,rfl,hv⟩:=gL h
 have hK:K (bS (DN v)) []:=by
  have:liFn.val [.va (.gs (a8 v))]=bA (DN v):=by simp -dsimp only [go_sem]
  rw [this] at hK; exact hK
 clear h
 have fin:∀ (b:Bool) (R:Hp),DN v=b->W.Fin 0 K (bS b) R:=fun b R h=>by
  rw [h] at hK; exact .sel [] (by simp) (by simp) rfl (.done (by simpa [go_sem] using hK))
 clear hK
 unfold DN at fin
 simp (maxSteps:=1000000) -dsimp only [go_sem,aS v,pc9,rs9]
 refine GM hv (by decide) (by decide) (by decide) ?_
 generalize gD v 0=r at *
 simp (maxSteps:=1000000) -dsimp only [go_sem]
 refine aD rfl (.done ?_)
 cases h1:decide (r.1<=500)<;>cases h2:decide (r.2<=12)<;>rw [h1,h2] at fin <;>
 · simp (maxSteps:=1000000) -dsimp only [go_sem,MM,h1,h2]
   exact fin _ _ rfl
def tI (s:Sc) (t:Ty):Bool:=kV s && fewT t && eG s == 0
def E4:List S->Prop:=fun av=>match av with
 | [.va (.gs r),.va (.gs q)]=>qO r/\eW q
 | _=>False
theorem qR {av:List S} (h:E4 av):∃ s t,av=[.va (.gs (aC s)),.va (.gs (aL t))]/\s.ok/\TyOk t:=by
 unfold E4 at h
 split at h
 · obtain ⟨⟨s,rfl,h1⟩,⟨t,rfl,h2⟩⟩:=h; exact ⟨s,t,rfl,h1,h2⟩
 · exact h.elim
noncomputable def V5:List S->A:=fun av=>match av with
 | [.va (.gs r),.va (.gs q)]=>bA (tI (C.sc r) (C.ty q))
 | _=>.gs []
noncomputable def feFn:Fun:=⟨E4,V5,fun av h=>by obtain ⟨_,_,rfl,_⟩:=qR h; trivial⟩
attribute [go_sem] feFn E4 V5
theorem KT {s:Sc} (h:s.ok):qO [.vl (.int .i64 s.ver),.fz (s.es.map bI),.fz (s.ss.map aP)]:=K5 h
theorem aDN:Meets Tryz.prog 8 feFn.sp:=by
 refine aF Tryz.func8 ok8 2 (by rw [Tryz.ntmps8]; decide) (aJ aN1 (aJ FL (aJ aA4 (aA _)))) (fun av H K h=>by obtain ⟨_,_,rfl,_⟩:=qR h.1.1; rfl) ?_
 rintro av H K ⟨⟨h,rfl⟩,hK⟩
 obtain ⟨s,t,rfl,hs,ht⟩:=qR h
 have hK:K (bS (tI s t)) []:=by
  have:feFn.val [.va (.gs (aC s)),.va (.gs (aL t))]=bA (tI s t):=by
   show bA (tI (C.sc (aC s)) (C.ty (aL t)))=_
   rw [fV,fG]
  rw [this] at hK; exact hK
 clear h
 have fin:∀ (b:Bool) (R:Hp),tI s t=b->W.Fin 0 K (bS b) R:=fun b R h=>by
  rw [h] at hK; exact .sel [] (by simp) (by simp) rfl (.done (by simpa [go_sem] using hK))
 clear hK
 unfold tI at fin
 have k4:=iE ht
 have k5:=nT t
 have k6:=KT hs
 have k7:=nJ s
 cases h1:kV s with
 | false=>
  rw [h1,Bool.false_and,Bool.false_and] at fin
  simp (maxSteps:=1000000) -dsimp only [go_sem,aC,aM t,W7,V2,k4,k5,k6,k7,h1]
  exact fin _ _ rfl
 | true=>
 have k8:=iM (BG hs h1)
 cases h2:fewT t with
 | false=>
  rw [h1,h2,Bool.and_false,Bool.false_and] at fin
  simp (maxSteps:=1000000) -dsimp only [go_sem,aC,aM t,W7,V2,f0Fn,k4,k5,k6,k7,k8,h1,h2]
  exact fin _ _ rfl
 | true=>
  rw [h1,h2,Bool.and_true,Bool.true_and] at fin
  cases h3:eG s == 0<;>rw [h3] at fin <;>
  · simp (maxSteps:=1000000) -dsimp only [go_sem,aC,aM t,W7,V2,f0Fn,k4,k5,k6,k7,k8,h1,h2,h3]
    exact fin _ _ rfl
theorem aAZ {s:Sc} {t:Ty} (hs:s.ok) (h:tI s t=true):s.fit/\Nice s:=by
 unfold tI at h
 rw [Bool.and_eq_true,Bool.and_eq_true] at h
 exact ⟨BG hs h.1.1,KR (eq_of_beq h.2)⟩
theorem aEA {ts:List Tk} {n:Nat} (he:Ends ts) (hn:n < ts.length) (hk:(bF ts n).k ≠ 0):cB ts n=n + 1:=by
 have h:=he.last n _ (jS hn)
 unfold cB
 rw [if_pos]
 by_cases e:n + 1=ts.length
 · exact absurd (h.2 e) hk
 · omega
abbrev bK (n:Nat):Fs:=⟨false,0,n⟩
def moN (w:List UInt8) (ts:List Tk) (n:Nat):Fs:=bif cI [44] ts (bK n) then b9 [44] ts (bK n) else cQ w ts (bK n)
theorem PV {ts:List Tk} {z:Fs} (h:z.bad=true):dU ts z=z:=by unfold dU; rw [h]; rfl
theorem H6 {w:List UInt8} {ts:List Tk} {z:Fs} (h:z.bad=true):cI w ts z=false:=by unfold cI; rw [h]; rfl
theorem C2 {w:List UInt8} {ts:List Tk} {z:Fs} (h:z.bad=true):cQ w ts z=z:=by unfold cQ; rw [H6 h]; exact PV h
structure Vr {α:Type} (ts:List Tk) (r:α × Fs) (v:α) (n:Nat) (b:Bool):Prop where
 hb:r.2.bad=b
 hn:n < ts.length
 ok:b=false->v=r.1/\r.2=bK n
 er:b=true->r.2.off=((bF ts n).a:Int)
theorem IE {x:List UInt8}:∀ {fs:List Fl} {i:Nat} {f:Fl} (o:Nat),fs[i]? = some f->(bl f.nm == x)=true->(∀ j < i,∀ g,fs[j]? = some g->(bl g.nm == x)=false)->iL x fs o=((o + i:Nat):Int)
 | [],i,f,o,h,_,_=>by simp at h
 | y :: fs,0,f,o,h,hx,_=>by
  simp at h; subst h
  rw [iL,hx]; rfl
 | y :: fs,i + 1,f,o,h,hx,hj=>by
  rw [iL,hj 0 (by omega) y rfl,aG,IE (o + 1) (by simpa using h) hx fun j hlt g hg=>hj (j + 1) (by omega) g (by simpa using hg)]
  congr 1; omega
theorem ZB {ss:List St} {es:List En} {u:St} (hu:NSt ss es u) {ts:List Tk} {z:Fs} {last:Int} {i:Nat} {f:Fl} (hk:((bF ts z.n).k == 1)=true) (hi:u.fs[i]? = some f) (hx:(bl f.nm == (bF ts z.n).x)=true) (hl:last < f.num) :
 lR ts u last z=false/\u.fs.getD (dW ts u z).toNat default=f:=by
 have h1:dW ts u z=(i:Int):=by
  unfold dW
  rw [IE 0 hi hx fun j hj g hg=>?_,Nat.zero_add]
  have hd:=e7 (hu.d i f hi) g (bM (by rw [List.getElem?_take_of_lt hj]; exact hg))
  have hd:=of_decide_eq_false hd
  rw [Bool.eq_false_iff]
  intro hg2
  exact hd (lY ((eq_of_beq hg2).trans (eq_of_beq hx).symm))
 have h2:u.fs.getD (dW ts u z).toNat default=f:=by rw [h1]; simp [List.getD_eq_getElem?_getD,hi]
 refine ⟨?_,h2⟩
 unfold lR
 rw [h2,h1,bne,hk]
 have a1:decide ((i:Int) < 0)=false:=by simp
 have a2:decide (f.num<=last)=false:=by simp; omega
 rw [a1,a2]; rfl
theorem ZN {ts:List Tk} {n:Nat} (he:Ends ts) (hn:n < ts.length) (hk:(bF ts n).k ≠ 0):n + 1 < ts.length:=by
 have h:=he.last n _ (jS hn)
 by_cases e:n + 1=ts.length
 · exact absurd (h.2 e) hk
 · omega
theorem Q6 {k:Int} {w:List UInt8} {t:Tk} (h:c9 k w t=true):t.k=k:=by unfold c9 at h; rw [Bool.and_eq_true] at h; exact eq_of_beq h.1
end Go.Proofs.YtkpohmhenegkiaaGreatDoor
namespace Go.W
section
variable {P:Program} {f:FuncId} {s t:Spec}
def C.pl:C->C->Prop
 | .vl v,c'=>c'=.vl v
 | c,c'=>∃ u,c'=.vl u/\(c.one->u.oneCell'=true)
def A.pl:A->A->Prop
 | .c1 c,.c1 c'=>C.pl c c'
 | .gs cs,.gs cs'=>All2 C.pl cs cs'
 | _,_=>False
def S.pl:S->S->Prop
 | .va a,s=>∃ b,s=.va b/\A.pl a b
 | .tu l,s=>∃ m,s=.tu m/\All2 A.pl l m
 | _,s=>s=.un
end
end Go.W
namespace Go.Proofs.YtkpohmhenegkiaaGreatDoor
open Go.W
theorem aIP {α:Type} {ts:List Tk} {n:Nat} {v:α} {z:Fs} (h:z=bK z.n\/z=dU ts (bK n)) (hn:n < ts.length) (hz:z.n < ts.length):Vr ts (v,z) v z.n z.bad:=by
 rcases h with h | h
 · rw [h]; exact ⟨rfl,hz,fun _=>⟨rfl,rfl⟩,fun h=>(by cases h)⟩
 · rw [h]; exact ⟨rfl,hn,fun h=>(by cases h),fun _=>rfl⟩
theorem SB (w:List UInt8) (ts:List Tk) (n:Nat):cQ w ts (bK n)=bK (cQ w ts (bK n)).n\/cQ w ts (bK n)=dU ts (bK n):=by
 unfold cQ
 cases cI w ts (bK n) with
 | true=>exact .inl rfl
 | false=>exact .inr rfl
abbrev DU:List (Nat × S):=[(0,.va (.c1 (.pt 0 0))),(4,.va (.c1 (.pt 1 0))),(5,.va (.c1 (.pt 2 0))),(6,.va (.c1 (.pt 3 0))),(7,.va (.c1 (.pt 4 0)))]
theorem Z3 {ss:List St} {es:List En} {t:Ty} (h:valF ss es t=true):(t.k == 1)=true\/(t.k == 2)=true\/(t.k == 3)=true\/(t.k == 4)=true\/(t.k == 5)=true\/(t.k == 6)=true\/(t.k == 7)=true:=by
 obtain ⟨k,s,n,e⟩:=t
 show (k == 1)=true\/_
 rw [valF.eq_def] at h
 simp only at h
 cases h1:k == 1<;>cases h2:k == 2<;>cases h3:k == 3<;>cases h4:k == 4<;>cases h5:k == 5<;>cases h6:k == 6<;>cases h7:k == 7 <;>
 first
  | (simp [Ty.k,h1,h2,h3,h4,h5,h6,h7]; done)
  | (rw [h1,h2,h3,h4,h5,h6,h7] at h; cases h)
end Go.Proofs.YtkpohmhenegkiaaGreatDoor
