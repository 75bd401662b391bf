/- Lemmas and walks for the proof. -/
import Derived.Test.YtkpohmhenegkiaaGreatDoorFd
import Derived.Test.YtkpohmhenegkiaaGreatDoorProg
import Derived.Shelf.Strconv.Itoa4
set_option maxRecDepth 100000
set_option maxHeartbeats 8000000
namespace Go.Proofs.YtkpohmhenegkiaaGreatDoor
open Go.W
def digs (n:Nat):List UInt8:=(if h:n < 10 then [] else digs (n / 10)) ++ [(48 + n % 10).toUInt8]
  termination_by n
  decreasing_by omega
theorem s6 {n:Nat} (h:n < 10):digs n=[(48 + n).toUInt8]:=by
  rw [digs.eq_1,dif_pos h,Nat.mod_eq_of_lt h]; rfl
theorem B1 {n:Nat} (h:10<=n):digs n=digs (n / 10) ++ [(48 + n % 10).toUInt8]:=by
  rw [digs.eq_1,dif_neg (by omega)]
theorem qB:∀ (k n:Nat),n < 10 ^ (k + 1)->(digs n).length<=k + 1
  | 0,n,h=>by rw [s6 (by omega)]; simp
  | k + 1,n,h=>by
    rcases Nat.lt_or_ge n 10 with h1 | h1
    · rw [s6 h1]; simp
    · rw [B1 h1,List.length_append]
      have:=qB k (n / 10) (by rw [Nat.pow_succ] at h; omega)
      simp; omega
def gG (n:Int):List UInt8:=bif decide (n < 0) then 45 :: digs n.natAbs else digs n.natAbs
def qD (f:Bool) (u:Nat):List UInt8:=bif f || decide (0 < u) then digs u else []
theorem L0 {f:Bool} {u:Nat} (h:(f || decide (0 < u))=true):qD f u=qD false (u / 10) ++ [(48 + u % 10).toUInt8]:=by
  unfold qD
  rw [h,Bool.cond_true,Bool.false_or]
  rcases Nat.lt_or_ge u 10 with h1 | h1
  · rw [s6 h1,Nat.mod_eq_of_lt h1,show decide (0 < u / 10)=false by simp; omega]; rfl
  · rw [B1 h1,show decide (0 < u / 10)=true by simp; omega]; rfl
def yL:List S->Prop:=fun xs=>match xs with
  | [.va (.c1 (.vl (.int .i64 n)))]=>-9223372036854775808<=n/\n<=9223372036854775807
  | _=>False
theorem kG {xs:List S} (h:yL xs):∃ n:Int,xs=[iS .i64 n]/\-9223372036854775808<=n/\n<=9223372036854775807:=by
  unfold yL at h
  split at h
  · exact ⟨_,rfl,h⟩
  · exact h.elim
def NM:List S->A:=fun xs=>match xs with
  | [.va (.c1 (.vl (.int .i64 n)))]=>tA (mk (gG n))
  | _=>.gs []
def decFn:Fun:=⟨yL,NM,fun xs h=>by obtain ⟨n,rfl,_⟩:=kG h; trivial⟩
theorem C0:∀ xs H K,decFn.sp xs H K->xs.length=1:=fun xs H K h=>by obtain ⟨n,rfl,_⟩:=kG h.1.1; rfl
attribute [go_sem ↓] yL NM decFn
theorem QY:Meets Tryz.prog 144 decFn.sp:=by
  refine aF Tryz.func144 Pr.ok144 1 (by rw [Tryz.ntmps144]; decide) (aA _) C0 ?_
  intro xs H K h
  obtain ⟨⟨hp,rfl⟩,hK⟩:=h
  obtain ⟨n,rfl,hn1,hn2⟩:=kG hp
  have hK':K (tS (mk (gG n))) []:=hK
  have rest:vc [] 0 Pr.pc144_4.ungh (eG [(0,iS .i64 n),(3,iS .u64 n.natAbs)]) [] (jL 0 Pr.rs144 K):=by
    simp -dsimp only [go_sem,Pr.pc144_4,Pr.rs144]
    refine aK (α:=Bool × Nat × List UInt8) (fun z=>[(0,iS .i64 n),(3,iS .u64 z.2.1),(4,tS (mk z.2.2)),(5,bS z.1)]) (fun _=>[]) (fun z=>z.2.1<=9223372036854775808/\qD z.1 z.2.1 ++ z.2.2=digs n.natAbs) (fun z=>2 * z.2.1 + (bif z.1 then 1 else 0)) (true,n.natAbs,[]) 0 ⟨by simp only; omega,by simp [qD]⟩ ?_ rfl ?_
    · simp [go_sem]
    rintro ⟨f,u,acc⟩ ⟨hu,hr⟩
    simp only at hu hr
    have hl:=qB 19 n.natAbs (by omega)
    rw [<-hr,List.length_append] at hl
    simp -dsimp only [go_sem]
    have hu0:decide (0 < (u:Int))=decide (0 < u):=by rw [decide_eq_decide]; omega
    have ht:(u:Int).tmod 10=(u % 10:Nat):=by rw [Int.tmod_eq_emod_of_nonneg (by omega)]; omega
    have hd:(u:Int).tdiv 10=(u / 10:Nat):=by rw [Int.tdiv_eq_ediv_of_nonneg (by omega)]; omega
    have hm:=Nat.mod_lt u (show 0 < 10 by decide)
    have hw:IntKind.u8.wrap (48 + ((u % 10:Nat):Int))=48 + ((u % 10:Nat):Int):=mU (by simp [inr,IntKind.min,IntKind.max,IntKind.signed,IntKind.bits]; omega)
    rw [hu0,ht,hd,hw]
    have hb:jS [[C.vl (Value.int IntKind.u8 (48 + ((u % 10:Nat):Int)))]]=[(48 + u % 10).toUInt8]:=by
      show [UInt8.ofNat (48 + ((u % 10:Nat):Int)).toNat]=_
      rw [show (48 + ((u % 10:Nat):Int)).toNat=48 + u % 10 by omega]
    rw [hb]
    refine ⟨fun hf=>⟨by decide,by omega,rfl,by simp; omega,⟨by decide,by omega⟩,?_⟩,fun hf=>⟨fun h0=>⟨by omega,?_⟩,fun h0=>?_⟩⟩
    · rw [L0 hf,List.append_assoc] at hr
      refine aC (false,u / 10,[(48 + u % 10).toUInt8] ++ acc) 0 ⟨by simp only; omega,hr⟩ ?_ ?_ rfl
      · cases f with
        | true=>simp only [Bool.cond_true,Bool.cond_false]; omega
        | false=>simp at hf; simp only [Bool.cond_false]; omega
      · simp [go_sem]
    · have:acc=digs n.natAbs:=by rw [<-hr]; simp [qD,hf]
      refine .done ?_
      rw [this]
      simpa [gG,h0] using hK'
    · have:acc=digs n.natAbs:=by rw [<-hr]; simp [qD,hf]
      refine .done ?_
      rw [this]
      simpa [gG,h0] using hK'
  simp -dsimp only [go_sem,Pr.pc144,Pr.rs144]
  have w:∀ m:Int,IntKind.u64.wrap m=m % 18446744073709551616:=fun m=>by simp [IntKind.wrap,IntKind.signed,IntKind.bits]
  refine ⟨fun h0=>dY 0 rest ?_ rfl,fun h0=>dY 0 rest ?_ rfl⟩
  · simp at h0
    simp [go_sem,w]
    omega
  · simp at h0
    simp [go_sem,w]
    omega
theorem NF:∀ d,d < 10->(([48,49,50,51,52,53,54,55,56,57]:List UInt8).take (d + 1)).drop d=[(48 + d).toUInt8]:=by decide
theorem OI:Meets Tryz.prog 43 decFn.sp:=by
  refine aF Tryz.func43 aKZ 1 (by rw [Tryz.ntmps43]; decide) (aA _) C0 ?_
  intro xs H K h
  obtain ⟨⟨hp,rfl⟩,hK⟩:=h
  obtain ⟨n,rfl,hn1,hn2⟩:=kG hp
  have hK':K (tS (mk (gG n))) []:=hK
  simp -dsimp only [go_sem,aBS,aE2]
  refine aK (α:=Int × List UInt8) (fun z=>[(0,iS .i64 z.1),(3,tS (mk z.2)),(4,bS (decide (n < 0)))]) (fun _=>[]) (fun z=>z.1.natAbs<=9223372036854775808/\digs z.1.natAbs ++ z.2=digs n.natAbs) (fun z=>z.1.natAbs) (n,[]) 0 ⟨by simp only; omega,by simp⟩ ?_ rfl ?_
  · simp [go_sem]
  rintro ⟨m,acc⟩ ⟨hu,hr⟩
  simp only at hu hr
  have hl:=qB 19 n.natAbs (by omega)
  rw [<-hr,List.length_append] at hl
  simp -dsimp only [go_sem]
  have ht:(m.tmod 10).natAbs=m.natAbs % 10:=Int.natAbs_tmod m 10
  have hq:(m.tdiv 10).natAbs=m.natAbs / 10:=Int.natAbs_tdiv m 10
  have hm:=Nat.mod_lt m.natAbs (show 0 < 10 by decide)
  have hn:decide (m.tmod 10 < 0)=true->0 - m.tmod 10=((m.natAbs % 10:Nat):Int):=fun h=>by simp at h; omega
  have hp:decide (m.tmod 10 < 0)=false->m.tmod 10=((m.natAbs % 10:Nat):Int):=fun h=>by simp at h; omega
  have hz:(m.tdiv 10 == 0)=decide (m.natAbs < 10):=by rw [Bool.eq_iff_iff]; simp; omega
  obtain ⟨d,hdd⟩:∃ d,d=m.natAbs % 10:=⟨_,rfl⟩
  rw [<-hdd] at ht hm hn hp
  have hd:∀ k:Int,k=(d:Int)->(([48,49,50,51,52,53,54,55,56,57]:List UInt8).take (k + 1).toNat).drop k.toNat=[(48 + d).toUInt8]:=fun k hk=>by
    subst hk
    rw [show ((d:Int) + 1).toNat=d + 1 by omega,show (d:Int).toNat=d by omega]
    exact NF d hm
  have hlast:decide (m.natAbs < 10)=true->[(48 + d).toUInt8] ++ acc=digs n.natAbs:=fun h=>by
    simp at h
    rw [s6 h] at hr
    rw [<-hr,show m.natAbs=d by omega]
  have hnext:decide (m.natAbs < 10)=false->digs (m.tdiv 10).natAbs ++ ([(48 + d).toUInt8] ++ acc)=digs n.natAbs:=fun h=>by
    simp at h
    rw [B1 h,List.append_assoc] at hr
    rw [hq,<-hr,show d=m.natAbs % 10 by omega]
  rw [hz]
  refine ⟨by decide,fun h=>?_,fun h=>?_⟩
  · have e:=hn h
    rw [hd _ e]
    refine ⟨by omega,by omega,by simp; omega,by simp; omega,⟨by decide,by omega⟩,fun h1=>⟨fun h0=>⟨by simp; omega,?_⟩,fun h0=>?_⟩,fun h1=>?_⟩
    · exact .done (by rw [hlast h1]; simpa [gG,h0] using hK')
    · exact .done (by rw [hlast h1]; simpa [gG,h0] using hK')
    · refine aC (m.tdiv 10,[(48 + d).toUInt8] ++ acc) 0 ⟨by simp only; omega,hnext h1⟩ (by simp at h1; simp only; omega) ?_ rfl
      simp [go_sem,<-e,hd _ e]
  · have e:=hp h
    rw [hd _ e]
    refine ⟨by omega,by simp; omega,by simp; omega,⟨by decide,by omega⟩,fun h1=>⟨fun h0=>⟨by simp; omega,?_⟩,fun h0=>?_⟩,fun h1=>?_⟩
    · exact .done (by rw [hlast h1]; simpa [gG,h0] using hK')
    · exact .done (by rw [hlast h1]; simpa [gG,h0] using hK')
    · refine aC (m.tdiv 10,[(48 + d).toUInt8] ++ acc) 0 ⟨by simp only; omega,hnext h1⟩ (by simp at h1; simp only; omega) ?_ rfl
      simp [go_sem,hd _ e]
def mV (c:UInt8):List UInt8:=bif c == 34 || c == 92 then [92,c] else [c]
def gD (l:List UInt8) (i:Nat):List UInt8:=34 :: (l.take i).flatMap mV
def lK (l:List UInt8):List UInt8:=34 :: l.flatMap mV ++ [34]
theorem C4 {l:List UInt8} {i:Nat} {c:UInt8} (h:l[i]? = some c):gD l (i + 1)=gD l i ++ mV c:=by
  unfold gD
  rw [List.take_add_one,h]
  simp
theorem S7 (c:UInt8):(mV c).length<=2:=by unfold mV; cases c == 34 || c == 92<;>simp
theorem DH (l:List UInt8):(l.flatMap mV).length<=2 * l.length:=by
  induction l with
  | nil=>simp
  | cons c l ih=>have:=S7 c; simp only [List.flatMap_cons,List.length_append,List.length_cons]; omega
theorem ID (l:List UInt8) (i:Nat):(gD l i).length<=1 + 2 * l.length:=by
  have:=DH (l.take i)
  simp only [gD,List.length_cons]
  simp only [List.length_take] at this
  omega
theorem HH (l:List UInt8):gD l l.length ++ [34]=lK l:=by unfold gD lK; rw [List.take_length]
def zK:List S->Prop:=fun xs=>match xs with
  | [.va (.c1 (.vl (.string s)))]=>(bl s).length<=10000000
  | _=>False
theorem kL {xs:List S} (h:zK xs):∃ s,xs=[tS s]/\(bl s).length<=10000000:=by
  unfold zK at h
  split at h
  · exact ⟨_,rfl,h⟩
  · exact h.elim
def PE:List S->A:=fun xs=>match xs with
  | [.va (.c1 (.vl (.string s)))]=>tA (mk (lK (bl s)))
  | _=>.gs []
def quoFn:Fun:=⟨zK,PE,fun xs h=>by obtain ⟨s,rfl,_⟩:=kL h; trivial⟩
theorem CI:∀ xs H K,quoFn.sp xs H K->xs.length=1:=fun xs H K h=>by obtain ⟨s,rfl,_⟩:=kL h.1.1; rfl
attribute [go_sem ↓] zK PE quoFn
theorem RX:Meets Tryz.prog 44 quoFn.sp:=by
  refine aF Tryz.func44 aMX 1 (by rw [Tryz.ntmps44]; decide) (aA _) CI ?_
  intro xs H K h
  obtain ⟨⟨hp,rfl⟩,hK⟩:=h
  obtain ⟨s,rfl,hs⟩:=kL hp
  have hK':K (tS (mk (lK (bl s)))) []:=hK
  have h34:∀ c:UInt8,((c.toNat:Int) == 34)=(c == 34):=fun c=>mW 34
  have h92:∀ c:UInt8,((c.toNat:Int) == 92)=(c == 92):=fun c=>mW 92
  simp -dsimp only [go_sem,aCS,aAN]
  refine aK (α:=Nat) (fun i=>[(0,tS s),(3,tS (mk (gD (bl s) i))),(4,iS .i64 i)]) (fun _=>[]) (fun i=>i<=(bl s).length) (fun i=>(bl s).length - i) 0 0 (by omega) ?_ rfl ?_
  · simp [go_sem,gD]
  intro i hi
  have hl:=ID (bl s) i
  simp -dsimp only [go_sem,h34,h92]
  have hi1:((i:Int) + 1).toNat=i + 1:=by omega
  have hsub:∀ c,(bl s)[i]? = some c->List.drop i (List.take ((i:Int) + 1).toNat (bl s))=[c]:=fun c hc=>by rw [hi1,List.drop_take,eD hc]; simp
  refine ⟨fun h1=>?_,fun h1=>?_⟩
  · simp at h1
    refine ⟨by omega,fun c hc=>⟨fun _=>by omega,fun d hd=>?_⟩⟩
    have hE:(c == 34 || d == 92)=(c == 34 || c == 92):=by
      cases h7:c == 34 with
      | true=>rfl
      | false=>
        have:=hd h7
        rw [hc] at this
        obtain rfl:=Option.some.inj this
        rfl
    have hst:=C4 hc
    rw [hE,hsub c hc]
    unfold mV at hst
    refine ⟨fun h2=>⟨by omega,by omega,by omega,by simp; omega,by omega,?_⟩,fun h2=>⟨by omega,by omega,by simp; omega,by omega,?_⟩⟩
    · rw [h2,Bool.cond_true] at hst
      refine aC (i + 1) 0 (by omega) (by omega) ?_ rfl
      simp -dsimp only [go_sem,hsub c hc]
      simp [hst]
    · rw [h2,Bool.cond_false] at hst
      refine aC (i + 1) 0 (by omega) (by omega) ?_ rfl
      simp -dsimp only [go_sem,hsub c hc]
      simp [hst]
  · simp at h1
    obtain rfl:i=(bl s).length:=by omega
    refine ⟨by omega,.done ?_⟩
    rw [HH]
    exact hK'
theorem IR (l:List UInt8):jS (l.map gK)=l:=by
  simp only [jS,List.map_map]
  conv=>rhs; rw [<-List.map_id l]
  apply List.map_congr_left
  intro c _
  simp [C.gi,gK]
theorem YF:Meets Tryz.prog 145 quoFn.sp:=by
  refine aF Tryz.func145 aIK 1 (by rw [Tryz.ntmps145]; decide) (aA _) CI ?_
  intro xs H K h
  obtain ⟨⟨hp,rfl⟩,hK⟩:=h
  obtain ⟨s,rfl,hs⟩:=kL hp
  have hK':K (tS (mk (lK (bl s)))) []:=hK
  have h34:∀ c:UInt8,((c.toNat:Int) == 34)=(c == 34):=fun c=>mW 34
  have h92:∀ c:UInt8,((c.toNat:Int) == 92)=(c == 92):=fun c=>mW 92
  simp -dsimp only [go_sem,W5,W9]
  refine aK (α:=Nat) (fun i=>[(0,tS s),(3,.va (.c1 (.sl 0 (gD (bl s) i).length))),(7,iS .i64 (bl s).length),(8,iS .i64 i)]) (fun i=>[.row ((gD (bl s) i).map gK) 5 1]) (fun i=>i<=(bl s).length) (fun i=>(bl s).length - i) 0 1 (by omega) ?_ (by simp [go_sem,gD]) ?_
  · simp [go_sem,gD]
  intro i hi
  have hl:=ID (bl s) i
  simp -dsimp only [go_sem,h34,h92]
  have hap:∀ (l:List UInt8) (c:UInt8),l.map gK ++ [[C.vl (.int .u8 c.toNat)]]=(l ++ [c]).map gK:=fun l c=>by rw [List.map_append]; rfl
  have hap34:(gD (bl s) i).map gK ++ [[C.vl (.int .u8 34)]]=(gD (bl s) i ++ [34]).map gK:=hap _ 34
  have hap92:(gD (bl s) i).map gK ++ [[C.vl (.int .u8 92)]]=(gD (bl s) i ++ [92]).map gK:=hap _ 92
  refine ⟨fun h1=>?_,fun h1=>?_⟩
  · simp at h1
    refine ⟨by omega,fun c hc=>⟨fun _=>by omega,fun d hd=>?_⟩⟩
    have hE:(c == 34 || d == 92)=(c == 34 || c == 92):=by
      cases h7:c == 34 with
      | true=>rfl
      | false=>
        have:=hd h7
        rw [hc] at this
        obtain rfl:=Option.some.inj this
        rfl
    have hst:=C4 hc
    rw [hE]
    unfold mV at hst
    refine ⟨fun h2=>⟨by omega,by omega,fun e he=>?_⟩,fun h2=>⟨by omega,fun e he=>?_⟩⟩
    · rw [hc] at he
      obtain rfl:=Option.some.inj he
      rw [h2,Bool.cond_true] at hst
      have hst':gD (bl s) (i + 1)=gD (bl s) i ++ [92] ++ [c]:=by rw [hst,List.append_assoc]; rfl
      refine ⟨by omega,by omega,?_⟩
      refine aC (i + 1) 1 (by omega) (by omega) ?_ ?_
      · simp -dsimp only [go_sem,hst']
        simp
      · simp -dsimp only [go_sem,hst',List.map_cons,List.map_nil]
        rfl
    · rw [hc] at he
      obtain rfl:=Option.some.inj he
      rw [h2,Bool.cond_false] at hst
      refine ⟨by omega,by omega,?_⟩
      refine aC (i + 1) 1 (by omega) (by omega) ?_ ?_
      · simp -dsimp only [go_sem,hst]
        simp
      · simp -dsimp only [go_sem,hst,List.map_cons,List.map_nil]
  · simp at h1
    obtain rfl:i=(bl s).length:=by omega
    rw [hap34,IR,HH]
    refine ⟨by omega,fun r hr=>?_,.sel [] (by simp) (by simp) rfl (.done hK')⟩
    obtain ⟨c,_,rfl⟩:=List.mem_map.1 hr
    rfl
end Go.Proofs.YtkpohmhenegkiaaGreatDoor
namespace Go.Proofs.YtkpohmhenegkiaaGreatDoor
open Go.W
def MD:W.Spec:=fun av H K=>
  match av,H with
  | [.va (.c1 (.pt 0 0)),.va (.c1 (.vl (.string s)))],[.cells [p,.sl 1 n] 146,.row xs 5 1]=>(iT p n xs/\(bl s).length<=1000000000)/\
      K (.tu [iA .i64 (bl s).length,.c1 (.vl .nilIface)]) [.cells [.pt 0 0,.sl 1 (n + (bl s).length)] 146,.row (xs ++ (bl s).map gK) 5 1]
  | _,_=>False
theorem C2 {av:List S} {H:Hp} {K:S->Hp->Prop} (h:MD av H K):∃ p n xs s,av=[.va (.c1 (.pt 0 0)),tS s]/\H=[.cells [p,.sl 1 n] 146,.row xs 5 1]/\iT p n xs/\(bl s).length<=1000000000/\
    K (.tu [iA .i64 (bl s).length,.c1 (.vl .nilIface)]) [.cells [.pt 0 0,.sl 1 (n + (bl s).length)] 146,.row (xs ++ (bl s).map gK) 5 1]:=by
  unfold MD at h
  split at h
  · exact ⟨_,_,_,_,rfl,rfl,h.1.1,h.1.2,h.2⟩
  · exact h.elim
attribute [go_sem ↓] MD
theorem HA:Meets Tryz.prog 124 MD:=by
  refine aF Tryz.func124 Pr.ok124 2 (by rw [Tryz.ntmps124]; decide) (aB zR (aA _)) (fun av H K h=>by obtain ⟨_,_,_,_,rfl,_⟩:=C2 h; rfl) ?_
  intro av H K h
  obtain ⟨p,n,xs,s,rfl,rfl,hp,hs,hK⟩:=C2 h
  obtain ⟨hp1,rfl,hp2,hp3⟩:=hp
  rcases hp1 with rfl | rfl
  all_goals
    simp -dsimp only [go_sem,Pr.pc124,Pr.rs124] at hK ⊢
    exact ⟨⟨by simp,rfl,hp2,hp3⟩,by omega,.done hK⟩
def gB (c:UInt8):Bool:=decide (32<=c) && decide (c<=126)
def lL (k:Int) (x:List UInt8) (n:Int):List UInt8:=bif k == 1 then x else bif k == 2 then gG n else bif k == 3 then lK x else bif k == 4 then x else []
def m3 (k:Int) (x:List UInt8) (n:Int):Bool:=
  bif k == 1 then n == 0 && cH x else bif k == 2 then x == [] else bif k == 3 then n == 0 && (decide (x.length<=200) && x.all gB) else bif k == 4 then n == 0 && (match x with | [c]=>fZ c.toNat | _=>false) else false
def zI:W.Spec:=fun xs H K=>
  match xs with
  | [.va (.gs [.vl (.int .i64 k),.vl (.string x),.vl (.int .i64 n),.vl (.int .i64 _)])]=>(H=[]/\(-9223372036854775808<=n/\n<=9223372036854775807)/\(bl x).length<=10000000)/\K (.tu [tA (mk (lL k (bl x) n)),bA (m3 k (bl x) n)]) []
  | _=>False
theorem x5 {xs:List S} {H:Hp} {K:S->Hp->Prop} (h:zI xs H K):∃ k x n a,xs=[.va (.gs (mX k x n a))]/\H=[]/\(-9223372036854775808<=n/\n<=9223372036854775807)/\(bl x).length<=10000000/\K (.tu [tA (mk (lL k (bl x) n)),bA (m3 k (bl x) n)]) []:=by
  unfold zI at h
  split at h
  · exact ⟨_,_,_,_,rfl,h.1.1,h.1.2.1,h.1.2.2,h.2⟩
  · exact h.elim
theorem N2:∀ xs H K,zI xs H K->xs.length=1:=fun xs H K h=>by obtain ⟨_,_,_,_,rfl,_⟩:=x5 h; rfl
attribute [go_sem ↓] zI
theorem RI:Meets Tryz.prog 121 zI:=by
  refine aF Tryz.func121 aGI 1 (by rw [Tryz.ntmps121]; decide) (aG YH (aG QY (aG YF (aG IW (aA _))))) N2 ?_
  intro xs H K h
  obtain ⟨k,x,n,a,rfl,rfl,hn,hx,hK⟩:=x5 h
  simp -dsimp only [go_sem,XT,VN]
  have fin:∀ (H':Hp) (y:ByteArray) (b:Bool),y=mk (lL k (bl x) n)->b=m3 k (bl x) n->W.Fin 0 K (.tu [tA y,bA b]) H':=fun H' y b h1 h2=>by
    subst h1; subst h2
    exact .sel [] (by simp) (by simp) rfl (.done hK)
  refine ⟨fun h1=>fin _ _ _ (by simp [lL,h1]) (by simp [m3,h1]),fun h1=>⟨fun h2=>⟨hn,fin _ _ _ (by simp [lL,h1,h2]) (by simp [m3,h1,h2])⟩,fun h2=>⟨fun h3=>?_,fun h3=>⟨fun h4=>?_,fun h4=>fin _ _ _ (by simp [lL,h1,h2,h3,h4]) (by simp [m3,h1,h2,h3,h4])⟩⟩⟩⟩
  · refine aK (α:=Nat) (fun i=>[(1,.va (.c1 (.pt 0 0))),(4,bS (n == 0 && (decide ((bl x).length<=200) && ((bl x).take i).all gB))),(41,iS .i64 (bl x).length),(42,iS .i64 i)]) (fun _=>[.cells (mX k x n a) 71]) (fun i=>i<=(bl x).length) (fun i=>(bl x).length - i) 0 1 (by omega) ?_ (by simp [go_sem]) ?_
    · simp [go_sem]
      congr 1
      rw [decide_eq_decide]; omega
    intro i hi
    simp -dsimp only [go_sem]
    refine ⟨fun h5=>⟨fun _=>by simp at h5; omega,fun c hc=>⟨fun _=>by simp at h5; omega,fun d hd=>⟨by omega,aC (i + 1) 1 (by simp at h5; omega) (by simp at h5; omega) ?_ (by simp [go_sem])⟩⟩⟩,fun h5=>?_⟩
    · have hE:(n == 0 && (decide ((bl x).length<=200) && (List.take i (bl x)).all gB) && decide (32<=(c.toNat:Int)) && decide ((d.toNat:Int)<=126))=(n == 0 && (decide ((bl x).length<=200) && (List.take (i + 1) (bl x)).all gB)):=by
        have hlt:i < (bl x).length:=by simp at h5; omega
        have hg:=List.getElem?_eq_getElem hlt
        rw [List.take_add_one,hg,List.all_append]
        generalize (bl x)[i]=e at hg
        simp only [Option.toList_some,List.all_cons,List.all_nil,Bool.and_true]
        have hb:∀ p q r s:Bool,(p && (q && (r && s)))=(p && (q && r) && s):=by decide
        rw [hb]
        generalize (n == 0 && (decide ((bl x).length<=200) && (List.take i (bl x)).all gB))=g at hc hd ⊢
        cases g with
        | false=>rfl
        | true=>
          obtain rfl:e=c:=by have:=hc rfl; rw [hg] at this; exact Option.some.inj this
          have e32:decide (32<=(e.toNat:Int))=decide (32<=e):=by rw [decide_eq_decide,UInt8.le_iff_toNat_le]; show _ ↔ 32<=e.toNat; omega
          have e126:∀ d:UInt8,decide ((d.toNat:Int)<=126)=decide (d<=126):=fun d=>by rw [decide_eq_decide,UInt8.le_iff_toNat_le]; show _ ↔ d.toNat<=126; omega
          rw [e32] at hd ⊢
          rw [e126]
          unfold gB
          cases h6:decide (32<=e) with
          | false=>rfl
          | true=>
            rw [h6] at hd
            obtain rfl:e=d:=by have:=hd rfl; rw [hg] at this; exact Option.some.inj this
            rfl
      rw [<-hE]
      simp [go_sem]
    · obtain rfl:i=(bl x).length:=by simp at h5; omega
      rw [List.take_length]
      exact ⟨hx,fin _ _ _ (by simp [lL,h1,h2,h3]) (by simp [m3,h1,h2,h3])⟩
  · refine ⟨fun h5=>by simp at h5; omega,fun c hc=>⟨fun _=>by have:=c.toNat_lt; omega,fin _ _ _ (by simp [lL,h1,h2,h3,h4]) ?_⟩⟩
    rw [aDZ]
    simp only [m3,h1,h2,h3,h4,Bool.cond_true,Bool.cond_false]
    cases h6:n == 0 with
    | false=>rfl
    | true=>
      rw [h6] at hc
      cases hb:bl x with
      | nil=>rfl
      | cons d r=>
        rw [hb] at hc
        cases r with
        | nil=>
          obtain rfl:d=c:=by simpa using hc
          rfl
        | cons e r=>
          have:((((d :: e :: r).length:Nat):Int) == 1)=false:=by simp; omega
          rw [this]; rfl
end Go.Proofs.YtkpohmhenegkiaaGreatDoor
namespace Go.Proofs.YtkpohmhenegkiaaGreatDoor
open Go.W
structure Tx where
  k:Int
  x:List UInt8
  n:Int
  a:Int
abbrev DD (t:Tx):List C:=mX t.k (mk t.x) t.n t.a
structure TkFit (t:Tx):Prop where
  lo:-9223372036854775808<=t.n
  hi:t.n<=9223372036854775807
  len:t.x.length<=100000
def rY (acc:List UInt8) (t:Tx):List UInt8:=bif m3 t.k t.x t.n then acc ++ (bif (acc == []) then [] else [32]) ++ lL t.k t.x t.n else acc
def kU (ts:List Tx):List UInt8:=ts.foldl rY []
def dL (ts:List Tx) (i:Nat):List UInt8:=(ts.take i).foldl rY []
theorem uD {ts:List Tx} {i:Nat} {t:Tx} (h:ts[i]? = some t):dL ts (i + 1)=rY (dL ts i) t:=by
  unfold dL
  rw [List.take_add_one,h,List.foldl_append]; rfl
theorem yG (ts:List Tx):dL ts ts.length=kU ts:=by unfold dL kU; rw [List.take_length]
theorem FJ {n:Int} (h1:-9223372036854775808<=n) (h2:n<=9223372036854775807):(gG n).length<=21:=by
  have:=qB 19 n.natAbs (by omega)
  unfold gG
  cases decide (n < 0)<;>simp<;>omega
theorem HJ {t:Tx} (h:TkFit t):(lL t.k t.x t.n).length<=200002:=by
  have h1:=FJ h.lo h.hi
  have h2:=DH t.x
  have h3:=h.len
  unfold lL lK
  cases t.k == 1<;>cases t.k == 2<;>cases t.k == 3<;>cases t.k == 4<;>simp -dsimp only [Bool.cond_true,Bool.cond_false,List.length_append,List.length_cons,List.length_nil]<;>omega
theorem QO {acc:List UInt8} {t:Tx} (h:TkFit t):(rY acc t).length<=acc.length + 200003:=by
  have:=HJ h
  unfold rY
  cases m3 t.k t.x t.n<;>cases (acc == [])<;>simp<;>omega
theorem yO {ts:List Tx} (h:∀ t ∈ ts,TkFit t):∀ i,i<=ts.length->(dL ts i).length<=i * 200003
  | 0,_=>by simp [dL]
  | i + 1,hi=>by
    have h1:=yO h i (by omega)
    have hg:ts[i]? = some ts[i]:=List.getElem?_eq_getElem (by omega)
    rw [uD hg]
    have:=QO (acc:=dL ts i) (h _ (List.mem_of_getElem? hg))
    omega
def FG:List S->Prop:=fun xs=>match xs with
  | [.va (.c1 (.fz rs))]=>∃ ts:List Tx,rs=ts.map DD/\ts.length<=4001/\∀ t ∈ ts,TkFit t
  | _=>False
theorem nZ {xs:List S} (h:FG xs):∃ ts:List Tx,xs=[.va (.c1 (.fz (ts.map DD)))]/\ts.length<=4001/\∀ t ∈ ts,TkFit t:=by
  unfold FG at h
  split at h
  · obtain ⟨ts,rfl,h1,h2⟩:=h
    exact ⟨_,rfl,h1,h2⟩
  · exact h.elim
def C.tk (r:List C):Tx:=match r with
  | [.vl (.int .i64 k),.vl (.string x),.vl (.int .i64 n),.vl (.int .i64 a)]=>⟨k,bl x,n,a⟩
  | _=>⟨0,[],0,0⟩
theorem aDF (t:Tx):C.tk (DD t)=t:=rfl
def II:List S->A:=fun xs=>match xs with
  | [.va (.c1 (.fz rs))]=>tA (mk (kU (rs.map C.tk)))
  | _=>.gs []
theorem qZ (ts:List Tx):II [.va (.c1 (.fz (ts.map DD)))]=tA (mk (kU ts)):=by
  show tA (mk (kU ((ts.map DD).map C.tk)))=_
  rw [List.map_map,show (C.tk ∘ DD)=id from funext aDF,List.map_id]
def prtFn:Fun:=⟨FG,II,fun xs h=>by obtain ⟨ts,rfl,_⟩:=nZ h; rw [qZ]; trivial⟩
theorem NN:∀ xs H K,prtFn.sp xs H K->xs.length=1:=fun xs H K h=>by obtain ⟨ts,rfl,_⟩:=nZ h.1.1; rfl
theorem aEN:Meets Tryz.prog 96 prtFn.sp:=by
  refine aF Tryz.func96 Pr.ok96 1 (by rw [Tryz.ntmps96]; decide) (aB RI (aB aAW (aB yQ (aB HA (aB K4 (aA _)))))) NN ?_
  intro xs H K h
  obtain ⟨⟨hp,rfl⟩,hK⟩:=h
  obtain ⟨ts,rfl,h60,hf⟩:=nZ hp
  have hK':K (tS (mk (kU ts))) []:=by have:=hK; rw [show prtFn.val=II from rfl,qZ] at this; exact this
  simp -dsimp only [go_sem,Pr.pc96,Pr.rs96]
  refine dT (α:=C × Nat) (fun z=>[(3,.va (.c1 (.pt 0 0))),(8,.va (.c1 (.fz (ts.map DD)))),(9,iS .i64 ts.length),(10,iS .i64 z.2)])
    (fun z=>[.cells [z.1,.sl 1 (dL ts z.2).length] 146,.row ((dL ts z.2).map gK) 5 1])
    (fun z=>(z.1=.vl (.pointer none)\/z.1=.pt 0 0)/\z.2<=ts.length) (fun z=>ts.length - z.2)
    (.nilc 0 1 5 1 _ _ rfl rfl (l9 (.vl (.pointer none),0) 2 ⟨.inl rfl,by simp only; omega⟩ ?_ ?_)) ?_
  · simp [go_sem]
  · simp -dsimp only [go_sem]; simp [dL]
  rintro ⟨p,i⟩ ⟨hp,hi⟩
  simp only at hp hi
  have hl:=yO hf i hi
  have hby:∀ (l:List UInt8),∀ r ∈ l.map gK,∃ c:UInt8,r=gK c:=fun l r hr=>by obtain ⟨c,_,rfl⟩:=List.mem_map.1 hr; exact ⟨c,rfl⟩
  have hI:∀ (p:C) (l:List UInt8),(p=.vl (.pointer none)\/p=.pt 0 0)->l.length<=1000000000->iT p l.length (l.map gK):=fun p l h1 h2=>⟨h1,by simp,hby l,by simpa using h2⟩
  have hap:∀ (l:List UInt8),l.map gK ++ [[C.vl (.int .u8 32)]]=(l ++ [32]).map gK:=fun l=>by rw [List.map_append]; rfl
  rcases hp with rfl | rfl
  all_goals
    simp -dsimp only [go_sem,ZM]
    refine ⟨fun h1=>⟨by simp at h1; omega,fun t ht=>?_⟩,fun h1=>?_⟩
    · have hft:=hf t (List.mem_of_getElem? ht)
      have hlx:=hft.len
      have hxl:=HJ hft
      have hst:=uD ht
      have hlt:i < ts.length:=by simp at h1; omega
      refine ⟨⟨⟨hft.lo,hft.hi⟩,by omega⟩,fun h2=>⟨by omega,?_⟩,fun h2=>?_⟩
      · simp only [rY,h2,Bool.cond_false] at hst
        first
          | (refine aC (C.vl (.pointer none),i + 1) 2 ⟨.inl rfl,hlt⟩ (by simp only; omega) (by simp [go_sem]) ?_; simp -dsimp only [go_sem,hst]; done)
          | (refine aC (C.pt 0 0,i + 1) 2 ⟨.inr rfl,hlt⟩ (by simp only; omega) (by simp [go_sem]) ?_; simp -dsimp only [go_sem,hst]; done)
      · have h2':m3 t.k t.x t.n=true:=by simpa using h2
        simp only [rY,h2',Bool.cond_true] at hst
        refine ⟨hI _ _ (by simp) (by omega),fun h3=>?_,fun h3=>?_⟩
        · have hne:(dL ts i == [])=false:=by
            cases hq:dL ts i with
            | nil=>rw [hq] at h3; simp at h3
            | cons c l=>rfl
          rw [hne,Bool.cond_false] at hst
          have hB:iT (C.pt 0 0) ((dL ts i).length + 1) ((dL ts i).map gK ++ [[C.vl (.int .u8 32)]]):=by
            rw [hap]
            have:=hI (.pt 0 0) (dL ts i ++ [32]) (.inr rfl) (by simp; omega)
            simpa only [List.length_append,List.length_cons,List.length_nil] using this
          refine ⟨⟨hI _ _ (by simp) (by omega),by omega⟩,⟨hB,by omega⟩,by omega,aC (C.pt 0 0,i + 1) 2 ⟨.inr rfl,hlt⟩ (by simp only; omega) (by simp [go_sem]) ?_⟩
          simp -dsimp only [go_sem,hst,List.map_cons,List.map_nil]
          rfl
        · have hne:(dL ts i == [])=true:=by
            cases hq:dL ts i with
            | nil=>rfl
            | cons c l=>rw [hq] at h3; simp at h3
          rw [hne,Bool.cond_true,List.append_nil] at hst
          refine ⟨⟨hI _ _ (by simp) (by omega),by omega⟩,by omega,aC (C.pt 0 0,i + 1) 2 ⟨.inr rfl,hlt⟩ (by simp only; omega) (by simp [go_sem]) ?_⟩
          simp -dsimp only [go_sem,hst]
    · obtain rfl:i=ts.length:=by simp at h1; omega
      rw [IR,yG]
      exact ⟨hI _ _ (by simp) (by rw [yG] at hl; omega),.sel [] (by simp) (by simp) rfl (.done hK')⟩
end Go.Proofs.YtkpohmhenegkiaaGreatDoor
namespace Go.Proofs.YtkpohmhenegkiaaGreatDoor
open Go.W
def sO:PC:=.seq (.seq (.gh (.reg [.v 25 7,.q 26 (.nc (.t 25)),.q 27 (.fa 4 (.t 26)),.l 28 (.ld1 (.t 27)),.v 29 28,⟨some 30,(some (29,false)),.q (.mv (.t 8))⟩,⟨some 31,(some (29,false)),.q (.lnS (.t 30))⟩,⟨some 32,(some (29,false)),.q (.bin .gtr true (.t 31) (.i 4000))⟩,.a 33 (.pick (.t 29) (.k (.bool true)) (.t 32))])) (.cond (.t 33) (.seq (.reg [.q 6 (.mv (.k (.string (mk []))))]) .ret) .skip)) (.seq (.reg [.v 34 8,.v 6 34]) .ret)
@[go_sem ↓] theorem aLX:aT sO:=aU _
def GK:PC:=.seq (.gh (.ord  [.q (.q 17 (.fa 0 (.t 4))),.q (.l 18 (.ld1 (.t 17))),.q (.v 21 7),.q (.l 22 (.ldn 4 (.t 4))),.q (.l 23 (.ldn 5 (.t 5))),.m (.a 19 (.cl 24 [(.t 18)] [])),.rc (.v 21 7),.rc (.l 22 (.ldn 4 (.t 4))),.rc (.l 23 (.ldn 5 (.t 5))),.q (.q 20 (.fld1 0 (.t 19))),.m (.a 24 (.ca (.t 20) [(.t 21),(.t 22),(.t 23)] [3])),.m (.v 8 24)])) (sO)
@[go_sem ↓] theorem aMW:aT GK:=aU _
def R8:PC:=.seq (.reg [.e 3 (.bx 25 (.t 0)),.e 4 (.bx 28 (.t 1)),.e 5 (.bx 32 (.t 2)),.q 6 (.mv (.k (.string (mk []))))]) (.seq (.seq (.reg [.l 9 (.ldn 3 (.t 3)),.l 10 (.ldn 4 (.t 4)),.l 11 (.ldn 5 (.t 5)),.a 12 (.cq 23 [(.t 9),(.t 10),(.t 11)]),.q 13 (.bin .neq true (.t 12) (.i 0))]) (.cond (.t 13) (.seq (.reg [.q 6 (.mv (.k (.string (mk []))))]) .ret) .skip)) (.seq (.reg [.l 14 (.ldn 3 (.t 3)),.q 15 (.bd [(.int .i64 0),(.slice none 0 0),(.slice none 0 0),(.pointer none),(.bool false),(.int .i64 0)] [(0,3,(.t 14))]),.e 16 (.bx 62 (.t 15)),.v 7 16]) (GK)))
def RT:List RV:=[.mv (.t 6)]
theorem aK6:aN Tryz.prog true ⟨fun r k=>if r=1/\k=3 then .q else if r=4/\k=7 then .own [3] else .own [],fun r=>[4,5].contains r⟩ Tryz.f11=some (R8,RT):=by kernel_rfl
def HI:PC:=.gh (.reg [.v 46 12,.a 47 (.cl 31 [(.t 46)] [4,3])])
@[go_sem ↓] theorem aKP:aT HI:=aU _
def mE:PC:=.seq (.gh (.reg [.v 61 14,.q 62 (.bin .neq true (.t 61) (.i 0))])) (.cond (.t 62) (.seq (.reg [.q 63 (.bd [(.int .i64 0),(.int .i64 0),(.string (mk [])),(.slice none 0 0),(.slice none 0 0)] []),.v 64 14,.s (.st 5 (.t 6) (.t 63)),.v 7 64,.q 8 (.mv (.i 0))]) .ret) .skip)
@[go_sem ↓] theorem aIU:aT mE:=aU _
def s3:PC:=.seq (.seq (.gh (.reg [.l 57 (.ldn 3 (.t 3)),.l 58 (.ldn 4 (.t 4)),.l 59 (.ldn 5 (.t 13)),.a 60 (.cq 23 [(.t 57),(.t 58),(.t 59)]),.v 14 60])) (mE)) (.seq (.reg [.l 65 (.ldn 5 (.t 13)),.s (.st 5 (.t 6) (.t 65)),.q 7 (.mv (.i 0)),.q 8 (.mv (.i 0))]) .ret)
@[go_sem ↓] theorem aJL:aT s3:=aU _
def mH:PC:=.seq (.seq (.gh (.reg [.v 48 12,.q 49 (.nc (.t 48)),.q 50 (.fa 4 (.t 49)),.l 51 (.ld1 (.t 50))])) (.cond (.t 51) (.seq (.ord  [.q (.q 52 (.bd [(.int .i64 0),(.int .i64 0),(.string (mk [])),(.slice none 0 0),(.slice none 0 0)] [])),.q (.v 53 12),.q (.q 54 (.nc (.t 53))),.q (.q 55 (.fa 5 (.t 54))),.q (.l 56 (.ld1 (.t 55))),.m (.s (.st 5 (.t 6) (.t 52))),.rc (.v 53 12),.rc (.q 54 (.nc (.t 53))),.rc (.q 55 (.fa 5 (.t 54))),.rc (.l 56 (.ld1 (.t 55))),.m (.q 7 (.mv (.i 2))),.rc (.v 53 12),.rc (.q 54 (.nc (.t 53))),.rc (.q 55 (.fa 5 (.t 54))),.rc (.l 56 (.ld1 (.t 55))),.m (.v 8 56)]) .ret) .skip)) (s3)
@[go_sem ↓] theorem aJR:aT mH:=aU _
def GN:PC:=.seq (.seq (.gh (.reg [.v 42 9,.a 43 (.cl 30 [(.t 42)] [3]),.q 44 (.fld1 0 (.t 43)),.q 45 (.bin .neq true (.t 44) (.i 0))])) (.cond (.t 45) (HI) .skip)) (mH)
@[go_sem ↓] theorem aLG:aT GN:=aU _
def GA:PC:=.seq (.gh (.ord  [.q (.q 35 (.fa 0 (.t 4))),.q (.l 36 (.ld1 (.t 35))),.q (.v 39 12),.q (.l 40 (.ldn 4 (.t 4))),.m (.a 37 (.cl 24 [(.t 36)] [])),.rc (.v 39 12),.rc (.l 40 (.ldn 4 (.t 4))),.q (.q 38 (.fld1 1 (.t 37))),.m (.a 41 (.ca (.t 38) [(.t 39),(.t 40)] [4,3])),.m (.e 13 (.al (.agg #[(.int .i64 0),(.int .i64 0),(.string (mk [])),(.slice none 0 0),(.slice none 0 0)]) 32)),.m (.s (.st 5 (.t 13) (.t 41)))])) (GN)
@[go_sem ↓] theorem aKC:aT GA:=aU _
def IG:PC:=.seq (.gh (.reg [.l 31 (.ldn 3 (.t 3)),.v 32 9,.q 33 (.bd [(.int .i64 0),(.slice none 0 0),(.slice none 0 0),(.pointer none),(.bool false),(.int .i64 0)] [(0,3,(.t 31)),(3,1,(.t 32))]),.e 34 (.bx 62 (.t 33)),.v 12 34])) (GA)
@[go_sem ↓] theorem aKJ:aT IG:=aU _
def w4:PC:=.seq (.seq (.gh (.reg [.v 26 10,.q 27 (.bin .neq true (.t 26) (.i 0))])) (.cond (.t 27) (.seq (.reg [.q 28 (.bd [(.int .i64 0),(.int .i64 0),(.string (mk [])),(.slice none 0 0),(.slice none 0 0)] []),.v 29 10,.v 30 11,.s (.st 5 (.t 6) (.t 28)),.v 7 29,.v 8 30]) .ret) .skip)) (IG)
@[go_sem ↓] theorem aMH:aT w4:=aU _
def HU:PC:=.seq (.gh (.reg [.v 21 2,.a 22 (.cl 29 [(.t 21)] []),.v 20 22,.q 23 (.ex (.t 20) 0),.q 24 (.ex (.t 20) 1),.q 25 (.ex (.t 20) 2),.v 9 23,.v 10 24,.v 11 25])) (w4)
@[go_sem ↓] theorem aMN:aT HU:=aU _
def S8:PC:=.seq (.reg [.e 3 (.bx 25 (.t 0)),.e 4 (.bx 28 (.t 1)),.e 6 (.al (.agg #[(.int .i64 0),(.int .i64 0),(.string (mk [])),(.slice none 0 0),(.slice none 0 0)]) 32),.q 7 (.mv (.i 0)),.q 8 (.mv (.i 0))]) (.seq (.seq (.reg [.l 15 (.ldn 3 (.t 3)),.l 16 (.ldn 4 (.t 4)),.a 17 (.cq 28 [(.t 15),(.t 16)]),.q 18 (.not (.t 17))]) (.cond (.t 18) (.seq (.reg [.q 19 (.bd [(.int .i64 0),(.int .i64 0),(.string (mk [])),(.slice none 0 0),(.slice none 0 0)] []),.s (.st 5 (.t 6) (.t 19)),.q 7 (.mv (.i 13)),.q 8 (.mv (.i 0))]) .ret) .skip)) (HU))
def Q4:List RV:=[.ld (.ldn 5 (.t 6)),.mv (.t 7),.mv (.t 8)]
theorem aNL:aN Tryz.prog true ⟨fun r k=>if r=1/\k=2 then .q else if r=7/\k=6 then .own [4,3] else if r=8/\k=1 then .own [3] else if r=9/\k=1 then .own [4,3] else if r=12/\k=3 then .q else .own [],fun r=>[3,4,6,7,8,10,12,13,9].contains r⟩ Tryz.f13=some (S8,Q4):=by kernel_rfl
def vS:PC:=.seq (.reg [.e 2 (.al (.agg #[.nilFunc,.nilFunc]) 66)]) (.seq (.seq (.reg [.v 3 0]) (.block 0 (.seq (.reg [.q 5 (.bin .eql true (.t 3) (.i 1)),.v 4 5]) (.cond (.t 4) (.seq (.reg [.q 6 (.bd [.nilFunc,.nilFunc] [(0,1,(.f 54)),(1,1,(.f 55))]),.s (.st 2 (.t 2) (.t 6))]) .ret) (.seq (.reg [.q 8 (.bin .eql true (.t 3) (.i 4)),.v 7 8]) (.cond (.t 7) (.seq (.reg [.q 9 (.bd [.nilFunc,.nilFunc] [(0,1,(.f 56)),(1,1,(.f 57))]),.s (.st 2 (.t 2) (.t 9))]) .ret) (.seq (.reg [.q 11 (.bin .eql true (.t 3) (.i 7)),.v 10 11]) (.cond (.t 10) (.seq (.reg [.q 12 (.bd [.nilFunc,.nilFunc] [(0,1,(.f 58)),(1,1,(.f 59))]),.s (.st 2 (.t 2) (.t 12))]) .ret) (.seq (.reg [.q 14 (.bin .eql true (.t 3) (.i 5)),.v 13 14]) (.cond (.t 13) (.seq (.reg [.q 15 (.bd [.nilFunc,.nilFunc] [(0,1,(.f 60)),(1,1,(.f 61))]),.s (.st 2 (.t 2) (.t 15))]) .ret) (.seq (.reg [.q 17 (.bin .eql true (.t 3) (.i 6)),.v 16 17]) (.cond (.t 16) (.seq (.reg [.q 18 (.bd [.nilFunc,.nilFunc] [(0,1,(.f 62)),(1,1,(.f 63))]),.s (.st 2 (.t 2) (.t 18))]) .ret) .skip)))))))))))) (.seq (.reg [.q 19 (.bd [.nilFunc,.nilFunc] [(0,1,(.f 64)),(1,1,(.f 65))]),.s (.st 2 (.t 2) (.t 19))]) .ret))
def wJ:List RV:=[.ld (.ldn 2 (.t 2))]
theorem aMI:aN Tryz.prog true ⟨fun _ _=>.own [],fun _=>false⟩ Tryz.f24=some (vS,wJ):=by kernel_rfl
def aDQ:PC:=.seq (.reg [.e 2 (.bx 25 (.t 0)),.e 3 (.bx 28 (.t 1)),.q 4 (.mv (.k (.bool false)))]) (.seq (.ord  [.q (.l 5 (.ldn 3 (.t 2))),.q (.l 6 (.ldn 4 (.t 3))),.q (.l 7 (.ldn 3 (.t 2))),.q (.l 8 (.ldn 4 (.t 3))),.m (.a 9 (.cl 71 [(.t 7),(.t 8)] [])),.rc (.l 5 (.ldn 3 (.t 2))),.rc (.l 6 (.ldn 4 (.t 3))),.m (.a 10 (.cq 23 [(.t 5),(.t 6),(.t 9)])),.q (.q 11 (.bin .eql true (.t 10) (.i 0))),.m (.v 4 11)]) .ret)
def aED:List RV:=[.mv (.t 4)]
theorem aOI:aN Tryz.prog true ⟨fun r k=>if r=1/\k=5 then .q else .own [],fun _=>false⟩ Tryz.f28=some (aDQ,aED):=by kernel_rfl
def TG:PC:=.seq (.reg [.v 2 0,.q 3 (.nc (.t 2)),.q 4 (.fa 4 (.t 3)),.l 5 (.ld1 (.t 4)),.q 6 (.not (.t 5))]) (.cond (.t 6) (.reg [.v 7 0,.v 8 0,.v 9 0,.q 10 (.nc (.t 9)),.q 11 (.fa 3 (.t 10)),.l 12 (.ld1 (.t 11)),.a 13 (.cl 30 [(.t 12)] [1]),.q 14 (.fld1 3 (.t 13)),.q 15 (.nc (.t 7)),.q 16 (.fa 4 (.t 15)),.s (.st 1 (.t 16) (.k (.bool true))),.q 17 (.nc (.t 8)),.q 18 (.fa 5 (.t 17)),.s (.st 1 (.t 18) (.t 14))]) .skip)
def QK:List RV:=[]
theorem aLQ:aN Tryz.prog true ⟨fun r k=>if r=1/\k=6 then .own [1] else .own [],fun _=>false⟩ Tryz.f31=some (TG,QK):=by kernel_rfl
def aFF:PC:=.seq (.reg [.e 4 (.bx 28 (.t 1)),.e 5 (.bx 32 (.t 2)),.q 6 (.mv (.k (.string (mk []))))]) (.seq (.seq (.reg [.q 7 (.fa 1 (.t 5)),.l 8 (.ld1 (.t 7)),.q 9 (.bin .eql true (.t 8) (.i 1))]) (.cond (.t 9) (.seq (.reg [.q 6 (.mv (.k (.string (mk [116,114,117,101]))))]) .ret) .skip)) (.seq (.reg [.q 6 (.mv (.k (.string (mk [102,97,108,115,101]))))]) .ret))
def aCB:List RV:=[.mv (.t 6)]
theorem aNA:aN Tryz.prog true ⟨fun _ _=>.own [],fun _=>false⟩ Tryz.f54=some (aFF,aCB):=by kernel_rfl
def E9:PC:=.gh (.reg [.q 20 (.fa 1 (.t 5)),.s (.st 1 (.t 20) (.i 1))])
@[go_sem ↓] theorem aM2:aT E9:=aU _
def yW:PC:=.gh (.reg [.v 34 0,.a 35 (.cl 31 [(.t 34)] [0,1])])
@[go_sem ↓] theorem aLD:aT yW:=aU _
def xI:PC:=.seq (.gh (.reg [.v 22 0,.q 23 (.nc (.t 22)),.q 24 (.fa 4 (.t 23)),.l 25 (.ld1 (.t 24)),.v 26 25,⟨some 27,(some (26,false)),.q (.mv (.t 0))⟩,⟨some 28,(some (26,false)),.q (.nc (.t 27))⟩,⟨some 29,(some (26,false)),.q (.fa 3 (.t 28))⟩,⟨some 30,(some (26,false)),.l (.ld1 (.t 29))⟩,⟨some 31,(some (26,false)),.cl 95 [(.t 30),(.k (.string (mk [102,97,108,115,101])))] [1]⟩,⟨some 32,(some (26,false)),.q (.not (.t 31))⟩,.a 33 (.pick (.t 26) (.k (.bool true)) (.t 32)),.v 21 33])) (.cond (.t 21) (yW) .skip)
@[go_sem ↓] theorem aNJ:aT xI:=aU _
def oX:PC:=.seq (.gh (.reg [.l 36 (.ldn 5 (.t 5)),.s (.st 5 (.t 4) (.t 36))])) .ret
@[go_sem ↓] theorem aKD:aT oX:=aU _
def TF:PC:=.seq (.reg [.e 3 (.bx 28 (.t 1)),.e 4 (.al (.agg #[(.int .i64 0),(.int .i64 0),(.string (mk [])),(.slice none 0 0),(.slice none 0 0)]) 32)]) (.seq (.reg [.q 6 (.bd [(.int .i64 0),(.int .i64 0),(.string (mk [])),(.slice none 0 0),(.slice none 0 0)] [(0,1,(.i 1))]),.e 5 (.al (.agg #[(.int .i64 0),(.int .i64 0),(.string (mk [])),(.slice none 0 0),(.slice none 0 0)]) 32),.s (.st 5 (.t 5) (.t 6))]) (.seq (.block 0 (.seq (.reg [.v 8 0,.q 9 (.nc (.t 8)),.q 10 (.fa 4 (.t 9)),.l 11 (.ld1 (.t 10)),.q 12 (.not (.t 11)),.v 13 12,⟨some 14,(some (13,true)),.q (.mv (.t 0))⟩,⟨some 15,(some (13,true)),.q (.nc (.t 14))⟩,⟨some 16,(some (13,true)),.q (.fa 3 (.t 15))⟩,⟨some 17,(some (13,true)),.l (.ld1 (.t 16))⟩,⟨some 18,(some (13,true)),.cl 95 [(.t 17),(.k (.string (mk [116,114,117,101])))] [1]⟩,.a 19 (.pick (.t 13) (.t 18) (.k (.bool false))),.v 7 19]) (.cond (.t 7) (E9) (xI)))) (oX)))
def TK:List RV:=[.ld (.ldn 5 (.t 4))]
theorem aON:aN Tryz.prog true ⟨fun r k=>if r=2/\k=10 then .own [1] else if r=4/\k=9 then .own [1] else if r=5/\k=1 then .own [0,1] else .own [],fun r=>[4,6,3,5].contains r⟩ Tryz.f55=some (TF,TK):=by kernel_rfl
def aBK:PC:=.seq (.reg [.e 4 (.bx 28 (.t 1)),.e 5 (.bx 32 (.t 2)),.q 6 (.mv (.k (.string (mk []))))]) (.seq (.reg [.q 8 (.fa 2 (.t 5)),.l 9 (.ld1 (.t 8)),.q 10 (.bd [(.int .i64 0),(.string (mk [])),(.int .i64 0),(.int .i64 0)] [(0,1,(.i 3)),(1,1,(.t 9))]),.e 11 (.bsl 71 4 [(.t 10)]),.a 12 (.cq 96 [(.t 11)]),.v 7 12]) (.seq (.reg [.v 13 0,.v 14 0,.q 15 (.nc (.t 14)),.q 16 (.fa 4 (.t 15)),.l 17 (.ld1 (.t 16)),.v 18 17,⟨some 19,(some (18,false)),.q (.mv (.t 7))⟩,⟨some 20,(some (18,false)),.q (.bin .eql true (.t 19) (.k (.string (mk []))))⟩,.a 21 (.pick (.t 18) (.k (.bool true)) (.t 20)),.q 22 (.nc (.t 13)),.q 23 (.fa 4 (.t 22)),.s (.st 1 (.t 23) (.t 21))]) (.seq (.reg [.v 24 7,.v 6 24]) .ret)))
def aEI:List RV:=[.mv (.t 6)]
theorem aKB:aN Tryz.prog true ⟨fun r k=>if r=1/\k=4 then .q else .own [],fun _=>false⟩ Tryz.f56=some (aBK,aEI):=by kernel_rfl
def aC8:PC:=.seq (.reg [.e 3 (.bx 28 (.t 1)),.e 4 (.al (.agg #[(.int .i64 0),(.int .i64 0),(.string (mk [])),(.slice none 0 0),(.slice none 0 0)]) 32)]) (.seq (.reg [.v 5 0,.a 6 (.cl 97 [(.t 5),(.i 3)] [0,1]),.q 7 (.fld1 1 (.t 6)),.q 8 (.bd [(.int .i64 0),(.int .i64 0),(.string (mk [])),(.slice none 0 0),(.slice none 0 0)] [(0,1,(.i 4)),(2,1,(.t 7))]),.s (.st 5 (.t 4) (.t 8))]) .ret)
def aDD:List RV:=[.ld (.ldn 5 (.t 4))]
theorem aMG:aN Tryz.prog true ⟨fun r k=>if r=1/\k=1 then .own [0,1] else .own [],fun _=>false⟩ Tryz.f57=some (aC8,aDD):=by kernel_rfl
def rX:PC:=.seq (.gh (.reg [.v 29 10,.q 30 (.fa 1 (.t 5)),.l 31 (.ld1 (.t 30)),.q 32 (.bin .eql true (.t 29) (.t 31)),.v 33 32,⟨some 34,(some (33,true)),.q (.mv (.t 9))⟩,⟨some 35,(some (33,true)),.q (.fa 1 (.t 7))⟩,⟨some 36,(some (33,true)),.l (.ld1 (.t 35))⟩,⟨some 37,(some (33,true)),.q (.lnL (.t 36))⟩,⟨some 38,(some (33,true)),.q (.bin .lss true (.t 34) (.t 37))⟩,.a 39 (.pick (.t 33) (.t 38) (.k (.bool false)))])) (.cond (.t 39) (.seq (.reg [.q 40 (.fa 1 (.t 7)),.l 41 (.ld1 (.t 40)),.v 42 9,.l 43 (.ia 1 (.t 41) (.t 42)),.l 44 (.ld1 (.t 43)),.v 6 44]) .ret) .skip)
@[go_sem ↓] theorem aLZ:aT rX:=aU _
def IB:PC:=.seq (.seq (.gh (.reg [.q 21 (.fa 2 (.t 7)),.l 22 (.ld1 (.t 21)),.q 23 (.lnL (.t 22)),.q 24 (.mv (.i 0))])) (.block 0 (.loop (.seq (.reg [.q 25 (.bin .lss true (.t 24) (.t 23))]) (.seq (.cond (.t 25) .skip (.exit 0)) (.seq (.block 1 (.seq (.reg [.v 26 24,.l 27 (.ia 1 (.t 22) (.t 24)),.l 28 (.ld1 (.t 27)),.v 9 26,.v 10 28]) (rX))) (.reg [.q 45 (.bin .add true (.t 24) (.i 1)),.v 24 45]))))))) (.seq (.reg [.q 6 (.mv (.k (.string (mk []))))]) .ret)
@[go_sem ↓] theorem aNN:aT IB:=aU _
def aCP:PC:=.seq (.reg [.e 4 (.bx 28 (.t 1)),.e 5 (.bx 32 (.t 2)),.q 6 (.mv (.k (.string (mk []))))]) (.seq (.ord  [.q (.v 12 0),.q (.q 13 (.nc (.t 12))),.q (.q 14 (.fa 0 (.t 13))),.q (.l 15 (.ldn 3 (.t 14))),.q (.q 16 (.fa 2 (.t 4))),.q (.l 17 (.ld1 (.t 16))),.m (.a 18 (.cl 98 [(.t 15),(.t 17)] [])),.q (.v 11 18),.q (.q 19 (.ex (.t 11) 0)),.q (.q 20 (.ex (.t 11) 1)),.m (.e 7 (.al (.agg #[(.string (mk [])),(.slice none 0 0),(.slice none 0 0)]) 92)),.rc (.v 11 18),.rc (.q 19 (.ex (.t 11) 0)),.rc (.q 20 (.ex (.t 11) 1)),.m (.s (.st 3 (.t 7) (.t 19))),.rc (.q 20 (.ex (.t 11) 1)),.m (.v 8 20)]) (IB))
def aBO:List RV:=[.mv (.t 6)]
theorem aKX:aN Tryz.prog true ⟨fun _ _=>.own [],fun r=>[2,5].contains r⟩ Tryz.f58=some (aCP,aBO):=by kernel_rfl
def GD:PC:=.gh (.ord  [.q (.q 34 (.fa 1 (.t 6))),.q (.l 35 (.ld1 (.t 34))),.q (.v 36 0),.q (.q 37 (.nc (.t 36))),.q (.q 38 (.fa 3 (.t 37))),.q (.l 39 (.ld1 (.t 38))),.m (.a 40 (.cl 30 [(.t 39)] [1])),.rc (.q 34 (.fa 1 (.t 6))),.rc (.l 35 (.ld1 (.t 34))),.q (.q 41 (.fld1 1 (.t 40))),.m (.a 42 (.cq 99 [(.t 35),(.t 41)])),.m (.v 8 42)])
@[go_sem ↓] theorem aOD:aT GD:=aU _
def o6:PC:=.seq (.gh (.reg [.l 54 (.ldn 5 (.t 5)),.s (.st 5 (.t 4) (.t 54))])) .ret
@[go_sem ↓] theorem aN1:aT o6:=aU _
def oJ:PC:=.seq (.gh (.reg [.v 52 0,.a 53 (.cl 31 [(.t 52)] [0,1])])) (o6)
@[go_sem ↓] theorem aN9:aT oJ:=aU _
def AR:PC:=.seq (.gh (.reg [.l 66 (.ldn 5 (.t 5)),.s (.st 5 (.t 4) (.t 66))])) .ret
@[go_sem ↓] theorem aJB:aT AR:=aU _
def A8:PC:=.seq (.gh (.reg [.q 60 (.fa 2 (.t 6)),.l 61 (.ld1 (.t 60)),.v 62 8,.l 63 (.ia 1 (.t 61) (.t 62)),.l 64 (.ld1 (.t 63)),.q 65 (.fa 1 (.t 5)),.s (.st 1 (.t 65) (.t 64))])) (AR)
@[go_sem ↓] theorem aIS:aT A8:=aU _
def F2:PC:=.seq (.gh (.reg [.v 55 0,.q 56 (.nc (.t 55)),.q 57 (.fa 3 (.t 56)),.l 58 (.ld1 (.t 57)),.a 59 (.cl 100 [(.t 58)] [1])])) (A8)
@[go_sem ↓] theorem aND:aT F2:=aU _
def nD:PC:=.seq (.seq (.gh (.reg [.v 43 8,.q 44 (.bin .lss true (.t 43) (.i 0)),.v 45 44,⟨some 46,(some (45,false)),.q (.mv (.t 8))⟩,⟨some 47,(some (45,false)),.q (.fa 2 (.t 6))⟩,⟨some 48,(some (45,false)),.l (.ld1 (.t 47))⟩,⟨some 49,(some (45,false)),.q (.lnL (.t 48))⟩,⟨some 50,(some (45,false)),.q (.bin .geq true (.t 46) (.t 49))⟩,.a 51 (.pick (.t 45) (.k (.bool true)) (.t 50))])) (.cond (.t 51) (oJ) .skip)) (F2)
@[go_sem ↓] theorem aMV:aT nD:=aU _
def yM:PC:=.seq (.gh (.reg [.q 8 (.mv (.i (-1)))])) (.seq (.seq (.reg [.v 20 0,.q 21 (.nc (.t 20)),.q 22 (.fa 4 (.t 21)),.l 23 (.ld1 (.t 22)),.q 24 (.not (.t 23)),.v 25 24,⟨some 26,(some (25,true)),.q (.mv (.t 0))⟩,⟨some 27,(some (25,true)),.q (.nc (.t 26))⟩,⟨some 28,(some (25,true)),.q (.fa 3 (.t 27))⟩,⟨some 29,(some (25,true)),.l (.ld1 (.t 28))⟩,⟨some 30,(some (25,true)),.cl 30 [(.t 29)] [1]⟩,⟨some 31,(some (25,true)),.q (.fld1 0 (.t 30))⟩,⟨some 32,(some (25,true)),.q (.bin .eql true (.t 31) (.i 1))⟩,.a 33 (.pick (.t 25) (.t 32) (.k (.bool false)))]) (.cond (.t 33) (GD) .skip)) (nD))
@[go_sem ↓] theorem aKO:aT yM:=aU _
def aDH:PC:=.seq (.reg [.e 3 (.bx 28 (.t 1)),.e 4 (.al (.agg #[(.int .i64 0),(.int .i64 0),(.string (mk [])),(.slice none 0 0),(.slice none 0 0)]) 32)]) (.seq (.reg [.q 9 (.bd [(.int .i64 0),(.int .i64 0),(.string (mk [])),(.slice none 0 0),(.slice none 0 0)] [(0,1,(.i 7))]),.e 5 (.al (.agg #[(.int .i64 0),(.int .i64 0),(.string (mk [])),(.slice none 0 0),(.slice none 0 0)]) 32),.s (.st 5 (.t 5) (.t 9))]) (.seq (.ord  [.q (.v 11 0),.q (.q 12 (.nc (.t 11))),.q (.q 13 (.fa 0 (.t 12))),.q (.l 14 (.ldn 3 (.t 13))),.q (.q 15 (.fa 2 (.t 3))),.q (.l 16 (.ld1 (.t 15))),.m (.a 17 (.cl 98 [(.t 14),(.t 16)] [])),.q (.v 10 17),.q (.q 18 (.ex (.t 10) 0)),.q (.q 19 (.ex (.t 10) 1)),.m (.e 6 (.al (.agg #[(.string (mk [])),(.slice none 0 0),(.slice none 0 0)]) 92)),.rc (.v 10 17),.rc (.q 18 (.ex (.t 10) 0)),.rc (.q 19 (.ex (.t 10) 1)),.m (.s (.st 3 (.t 6) (.t 18))),.rc (.q 19 (.ex (.t 10) 1)),.m (.v 7 19)]) (yM)))
def aBG:List RV:=[.ld (.ldn 5 (.t 4))]
theorem aML:aN Tryz.prog true ⟨fun r k=>if r=4/\k=10 then .own [1] else if r=5/\k=6 then .own [1] else if r=5/\k=8 then .q else if r=7/\k=1 then .own [0,1] else if r=9/\k=4 then .own [1] else .own [],fun r=>[3,6,7,8,9,10,11,5].contains r⟩ Tryz.f59=some (aDH,aBG):=by kernel_rfl
def xY:PC:=.gh (.ord  [.q (.v 22 7),.q (.q 23 (.fa 3 (.t 4))),.q (.l 24 (.ld1 (.t 23))),.q (.l 25 (.ia 4 (.t 24) (.i 0))),.q (.q 26 (.fa 0 (.t 25))),.q (.l 27 (.ld1 (.t 26))),.q (.v 30 0),.q (.q 31 (.fa 3 (.t 4))),.q (.l 32 (.ld1 (.t 31))),.q (.l 33 (.ia 4 (.t 32) (.i 0))),.q (.l 34 (.ldn 4 (.t 33))),.q (.l 35 (.ldn 5 (.t 9))),.m (.a 28 (.cl 24 [(.t 27)] [])),.rc (.v 22 7),.rc (.v 30 0),.rc (.q 31 (.fa 3 (.t 4))),.rc (.l 32 (.ld1 (.t 31))),.rc (.l 33 (.ia 4 (.t 32) (.i 0))),.rc (.l 34 (.ldn 4 (.t 33))),.rc (.l 35 (.ldn 5 (.t 9))),.q (.q 29 (.fld1 0 (.t 28))),.m (.a 36 (.ca (.t 29) [(.t 30),(.t 34),(.t 35)] [0])),.rc (.v 22 7),.q (.q 37 (.bin .add true (.t 22) (.t 36))),.m (.v 7 37)])
@[go_sem ↓] theorem aL6:aT xY:=aU _
def aEC:PC:=.seq (.reg [.e 4 (.bx 28 (.t 1)),.e 5 (.bx 32 (.t 2)),.q 6 (.mv (.k (.string (mk []))))]) (.seq (.reg [.q 7 (.mv (.k (.string (mk [91]))))]) (.seq (.seq (.reg [.q 10 (.fa 3 (.t 5)),.l 11 (.ld1 (.t 10)),.q 12 (.lnL (.t 11)),.q 13 (.mv (.i 0))]) (.block 0 (.loop (.seq (.reg [.q 14 (.bin .lss true (.t 13) (.t 12))]) (.seq (.cond (.t 14) .skip (.exit 0)) (.seq (.block 1 (.seq (.reg [.v 15 13,.l 16 (.ia 5 (.t 11) (.t 13)),.l 17 (.ldn 5 (.t 16)),.e 9 (.al (.agg #[(.int .i64 0),(.int .i64 0),(.string (mk [])),(.slice none 0 0),(.slice none 0 0)]) 32),.v 8 15,.s (.st 5 (.t 9) (.t 17))]) (.seq (.seq (.reg [.v 18 8,.q 19 (.bin .gtr true (.t 18) (.i 0))]) (.cond (.t 19) (.reg [.v 20 7,.q 21 (.bin .add true (.t 20) (.k (.string (mk [44,32])))),.v 7 21]) .skip)) (xY)))) (.reg [.q 38 (.bin .add true (.t 13) (.i 1)),.v 13 38]))))))) (.seq (.reg [.v 39 7,.q 40 (.bin .add true (.t 39) (.k (.string (mk [93])))),.v 6 40]) .ret)))
def aEV:List RV:=[.mv (.t 6)]
theorem aLL:aN Tryz.prog true ⟨fun r k=>if r=7/\k=14 then .own [0] else .own [],fun r=>[7].contains r⟩ Tryz.f60=some (aEC,aEV):=by kernel_rfl
def HP:PC:=.seq (.gh (.reg [.l 10 (.ldn 5 (.t 5)),.s (.st 5 (.t 4) (.t 10))])) .ret
@[go_sem ↓] theorem aN0:aT HP:=aU _
def EZ:PC:=.seq (.gh (.reg [.l 7 (.ld1 (.t 2)),.q 8 (.mf 102 [(.t 5),(.t 3),(.t 2)]),.a 9 (.cl 101 [(.t 7),(.k (.string (mk [91]))),(.k (.string (mk [93]))),(.t 8)] [0,1,2,3,5,6])])) (HP)
@[go_sem ↓] theorem aOO:aT EZ:=aU _
def aA6:PC:=.seq (.reg [.e 2 (.bx 59 (.t 0)),.e 3 (.bx 28 (.t 1)),.e 4 (.al (.agg #[(.int .i64 0),(.int .i64 0),(.string (mk [])),(.slice none 0 0),(.slice none 0 0)]) 32)]) (.seq (.reg [.q 6 (.bd [(.int .i64 0),(.int .i64 0),(.string (mk [])),(.slice none 0 0),(.slice none 0 0)] [(0,1,(.i 5))]),.e 5 (.al (.agg #[(.int .i64 0),(.int .i64 0),(.string (mk [])),(.slice none 0 0),(.slice none 0 0)]) 32),.s (.st 5 (.t 5) (.t 6))]) (EZ))
def aAF:List RV:=[.ld (.ldn 5 (.t 4))]
theorem aNH:aN Tryz.prog true ⟨fun r k=>if r=2/\k=2 then .own [0,1,2,3,5,6] else .own [],fun r=>[2,3].contains r⟩ Tryz.f61=some (aA6,aAF):=by kernel_rfl
def zD:PC:=.gh (.ord  [.q (.v 43 9),.q (.q 44 (.fa 1 (.t 12))),.q (.l 45 (.ld1 (.t 44))),.q (.q 46 (.bin .add true (.t 45) (.k (.string (mk [32,61,32]))))),.q (.q 47 (.fa 2 (.t 12))),.q (.q 48 (.fa 0 (.t 47))),.q (.l 49 (.ld1 (.t 48))),.q (.v 52 0),.q (.q 53 (.fa 2 (.t 12))),.q (.l 54 (.ldn 4 (.t 53))),.q (.q 55 (.fa 1 (.t 11))),.q (.l 56 (.ldn 5 (.t 55))),.m (.a 50 (.cl 24 [(.t 49)] [])),.rc (.v 43 9),.rc (.q 44 (.fa 1 (.t 12))),.rc (.l 45 (.ld1 (.t 44))),.rc (.q 46 (.bin .add true (.t 45) (.k (.string (mk [32,61,32]))))),.rc (.v 52 0),.rc (.q 53 (.fa 2 (.t 12))),.rc (.l 54 (.ldn 4 (.t 53))),.rc (.q 55 (.fa 1 (.t 11))),.rc (.l 56 (.ldn 5 (.t 55))),.q (.q 51 (.fld1 0 (.t 50))),.m (.a 57 (.ca (.t 51) [(.t 52),(.t 54),(.t 56)] [0])),.rc (.v 43 9),.rc (.q 44 (.fa 1 (.t 12))),.rc (.l 45 (.ld1 (.t 44))),.rc (.q 46 (.bin .add true (.t 45) (.k (.string (mk [32,61,32]))))),.q (.q 58 (.bin .add true (.t 46) (.t 57))),.q (.q 59 (.bin .add true (.t 43) (.t 58))),.m (.v 9 59)])
@[go_sem ↓] theorem aOA:aT zD:=aU _
def yA:PC:=.seq (.gh (.reg [.l 37 (.ldn 2 (.t 7)),.q 38 (.fa 0 (.t 11)),.l 39 (.ld1 (.t 38)),.a 40 (.cl 104 [(.t 37),(.t 39)] []),.v 36 40,.q 41 (.ex (.t 36) 0),.q 42 (.ex (.t 36) 1),.e 12 (.al (.agg #[(.int .i64 0),(.string (mk [])),(.int .i64 0),(.int .i64 0),(.string (mk [])),(.slice none 0 0),(.bool false)]) 97),.s (.st 7 (.t 12) (.t 41)),.v 13 42])) (zD)
@[go_sem ↓] theorem aMD:aT yA:=aU _
def yK:PC:=.seq (.seq (.gh (.reg [.v 32 10,.q 33 (.bin .gtr true (.t 32) (.i 0))])) (.cond (.t 33) (.reg [.v 34 9,.q 35 (.bin .add true (.t 34) (.k (.string (mk [44,32])))),.v 9 35]) .skip)) (yA)
@[go_sem ↓] theorem aKS:aT yK:=aU _
def FE:PC:=.seq (.gh (.reg [.q 9 (.mv (.k (.string (mk [123]))))])) (.seq (.seq (.reg [.q 24 (.fa 4 (.t 5)),.l 25 (.ld1 (.t 24)),.q 26 (.lnL (.t 25)),.q 27 (.mv (.i 0))]) (.block 0 (.loop (.seq (.reg [.q 28 (.bin .lss true (.t 27) (.t 26))]) (.seq (.cond (.t 28) .skip (.exit 0)) (.seq (.block 1 (.seq (.reg [.v 29 27,.l 30 (.ia 6 (.t 25) (.t 27)),.l 31 (.ldn 6 (.t 30)),.e 11 (.al (.agg #[(.int .i64 0),(.int .i64 0),(.int .i64 0),(.string (mk [])),(.slice none 0 0),(.slice none 0 0)]) 57),.v 10 29,.s (.st 6 (.t 11) (.t 31))]) (yK))) (.reg [.q 60 (.bin .add true (.t 27) (.i 1)),.v 27 60]))))))) (.seq (.reg [.v 61 9,.q 62 (.bin .add true (.t 61) (.k (.string (mk [125])))),.v 6 62]) .ret))
@[go_sem ↓] theorem aKT:aT FE:=aU _
def aBI:PC:=.seq (.reg [.e 4 (.bx 28 (.t 1)),.e 5 (.bx 32 (.t 2)),.q 6 (.mv (.k (.string (mk []))))]) (.seq (.ord  [.q (.v 15 0),.q (.q 16 (.nc (.t 15))),.q (.q 17 (.fa 0 (.t 16))),.q (.l 18 (.ldn 3 (.t 17))),.q (.q 19 (.fa 2 (.t 4))),.q (.l 20 (.ld1 (.t 19))),.m (.a 21 (.cl 103 [(.t 18),(.t 20)] [])),.q (.v 14 21),.q (.q 22 (.ex (.t 14) 0)),.q (.q 23 (.ex (.t 14) 1)),.m (.e 7 (.al (.agg #[(.string (mk [])),(.slice none 0 0)]) 95)),.rc (.v 14 21),.rc (.q 22 (.ex (.t 14) 0)),.rc (.q 23 (.ex (.t 14) 1)),.m (.s (.st 2 (.t 7) (.t 22))),.rc (.q 23 (.ex (.t 14) 1)),.m (.v 8 23)]) (FE))
def aCF:List RV:=[.mv (.t 6)]
theorem aNG:aN Tryz.prog true ⟨fun r k=>if r=9/\k=14 then .own [0] else .own [],fun r=>[2,6,8,9].contains r⟩ Tryz.f62=some (aBI,aCF):=by kernel_rfl
def FN:PC:=.seq (.gh (.reg [.l 23 (.ldn 5 (.t 5)),.s (.st 5 (.t 4) (.t 23))])) .ret
@[go_sem ↓] theorem aM7:aT FN:=aU _
def IN:PC:=.seq (.gh (.reg [.l 20 (.ld1 (.t 2)),.q 21 (.mf 105 [(.t 2),(.t 6),(.t 8),(.t 5)]),.a 22 (.cl 101 [(.t 20),(.k (.string (mk [123]))),(.k (.string (mk [125]))),(.t 21)] [0,1,2,5,6,7,8])])) (FN)
@[go_sem ↓] theorem aKV:aT IN:=aU _
def FL:PC:=.seq (.gh (.reg [.e 8 (.al (.int .i64 0) 3),.s (.st 1 (.t 8) (.i 0))])) (IN)
@[go_sem ↓] theorem aLT:aT FL:=aU _
def aC6:PC:=.seq (.reg [.e 2 (.bx 59 (.t 0)),.e 3 (.bx 28 (.t 1)),.e 4 (.al (.agg #[(.int .i64 0),(.int .i64 0),(.string (mk [])),(.slice none 0 0),(.slice none 0 0)]) 32)]) (.seq (.reg [.q 9 (.bd [(.int .i64 0),(.int .i64 0),(.string (mk [])),(.slice none 0 0),(.slice none 0 0)] [(0,1,(.i 6))]),.e 5 (.al (.agg #[(.int .i64 0),(.int .i64 0),(.string (mk [])),(.slice none 0 0),(.slice none 0 0)]) 32),.s (.st 5 (.t 5) (.t 9))]) (.seq (.ord  [.q (.l 11 (.ld1 (.t 2))),.q (.q 12 (.nc (.t 11))),.q (.q 13 (.fa 0 (.t 12))),.q (.l 14 (.ldn 3 (.t 13))),.q (.q 15 (.fa 2 (.t 3))),.q (.l 16 (.ld1 (.t 15))),.m (.a 17 (.cl 103 [(.t 14),(.t 16)] [])),.q (.v 10 17),.q (.q 18 (.ex (.t 10) 0)),.q (.q 19 (.ex (.t 10) 1)),.m (.e 6 (.al (.agg #[(.string (mk [])),(.slice none 0 0)]) 95)),.rc (.v 10 17),.rc (.q 18 (.ex (.t 10) 0)),.rc (.q 19 (.ex (.t 10) 1)),.m (.s (.st 2 (.t 6) (.t 18))),.rc (.q 19 (.ex (.t 10) 1)),.m (.v 7 19)]) (FL)))
def aE6:List RV:=[.ld (.ldn 5 (.t 4))]
theorem aJ8:aN Tryz.prog true ⟨fun r k=>if r=4/\k=2 then .own [0,1,2,5,6,7,8] else .own [],fun r=>[3,4,5].contains r⟩ Tryz.f63=some (aC6,aE6):=by kernel_rfl
def aEW:PC:=.seq (.reg [.e 4 (.bx 28 (.t 1)),.e 5 (.bx 32 (.t 2)),.q 6 (.mv (.k (.string (mk []))))]) (.seq (.reg [.q 7 (.fa 1 (.t 5)),.l 8 (.ld1 (.t 7)),.a 9 (.cq 109 [(.t 8),(.i 10)]),.v 6 9]) .ret)
def aA5:List RV:=[.mv (.t 6)]
theorem aLE:aN Tryz.prog true ⟨fun r k=>if r=1/\k=2 then .q else .own [],fun _=>false⟩ Tryz.f64=some (aEW,aA5):=by kernel_rfl
def aBW:PC:=.seq (.reg [.e 3 (.bx 28 (.t 1)),.e 4 (.al (.agg #[(.int .i64 0),(.int .i64 0),(.string (mk [])),(.slice none 0 0),(.slice none 0 0)]) 32)]) (.seq (.ord  [.q (.q 5 (.fa 0 (.t 3))),.q (.l 6 (.ld1 (.t 5))),.q (.v 7 0),.m (.a 8 (.cl 97 [(.t 7),(.i 2)] [0,1])),.rc (.q 5 (.fa 0 (.t 3))),.rc (.l 6 (.ld1 (.t 5))),.q (.q 9 (.fld1 2 (.t 8))),.q (.q 10 (.bd [(.int .i64 0),(.int .i64 0),(.string (mk [])),(.slice none 0 0),(.slice none 0 0)] [(0,1,(.t 6)),(1,1,(.t 9))])),.m (.s (.st 5 (.t 4) (.t 10)))]) .ret)
def Z1:List RV:=[.ld (.ldn 5 (.t 4))]
theorem aLF:aN Tryz.prog true ⟨fun r k=>if r=1/\k=3 then .own [0,1] else .own [],fun _=>false⟩ Tryz.f65=some (aBW,Z1):=by kernel_rfl
def zU:PC:=.seq (.gh (.reg [.v 19 0,.a 20 (.cl 31 [(.t 19)] [0,1])])) (.seq (.reg [.q 21 (.bd [(.int .i64 0),(.string (mk [])),(.int .i64 0),(.int .i64 0)] []),.s (.st 4 (.t 4) (.t 21))]) .ret)
@[go_sem ↓] theorem aK4:aT zU:=aU _
def G4:PC:=.seq (.gh (.reg [.v 22 0,.q 23 (.nc (.t 22)),.q 24 (.fa 3 (.t 23)),.l 25 (.ld1 (.t 24)),.a 26 (.cl 100 [(.t 25)] [1]),.s (.st 4 (.t 4) (.t 26))])) .ret
@[go_sem ↓] theorem aLS:aT G4:=aU _
def TL:PC:=.seq (.reg [.e 4 (.al (.agg #[(.int .i64 0),(.string (mk [])),(.int .i64 0),(.int .i64 0)]) 71)]) (.seq (.seq (.reg [.v 5 0,.q 6 (.nc (.t 5)),.q 7 (.fa 4 (.t 6)),.l 8 (.ld1 (.t 7)),.v 9 8,⟨some 10,(some (9,false)),.q (.mv (.t 0))⟩,⟨some 11,(some (9,false)),.q (.nc (.t 10))⟩,⟨some 12,(some (9,false)),.q (.fa 3 (.t 11))⟩,⟨some 13,(some (9,false)),.l (.ld1 (.t 12))⟩,⟨some 14,(some (9,false)),.cl 30 [(.t 13)] [1]⟩,⟨some 15,(some (9,false)),.q (.fld1 0 (.t 14))⟩,⟨some 16,(some (9,false)),.q (.mv (.t 1))⟩,⟨some 17,(some (9,false)),.q (.bin .neq true (.t 15) (.t 16))⟩,.a 18 (.pick (.t 9) (.k (.bool true)) (.t 17))]) (.cond (.t 18) (zU) .skip)) (G4))
def SS:List RV:=[.ld (.ldn 4 (.t 4))]
theorem aLU:aN Tryz.prog true ⟨fun r k=>if r=1/\k=9 then .own [1] else if r=2/\k=1 then .own [0,1] else if r=4/\k=4 then .own [1] else .own [],fun r=>[2,4].contains r⟩ Tryz.f97=some (TL,SS):=by kernel_rfl
def BV:PC:=.gh (.reg [.v 23 0,.a 24 (.cl 128 [(.t 23),(.k (.string (mk [44])))] [0,1]),.v 8 24])
@[go_sem ↓] theorem aJM:aT BV:=aU _
def tO:PC:=.gh (.reg [.v 27 0,.v 28 2,.a 29 (.cl 108 [(.t 27),(.t 28)] [0,1])])
@[go_sem ↓] theorem aJU:aT tO:=aU _
def BJ:PC:=.seq (.seq (.gh (.reg [.q 8 (.mv (.k (.bool true)))])) (.block 0 (.loop (.seq (.seq (.reg [.v 15 8,.v 16 15,⟨some 17,(some (16,true)),.q (.mv (.t 0))⟩,⟨some 18,(some (16,true)),.q (.nc (.t 17))⟩,⟨some 19,(some (16,true)),.q (.fa 4 (.t 18))⟩,⟨some 20,(some (16,true)),.l (.ld1 (.t 19))⟩,⟨some 21,(some (16,true)),.q (.not (.t 20))⟩,.a 22 (.pick (.t 16) (.t 21) (.k (.bool false)))]) (.cond (.t 22) .skip (.exit 0))) (.seq (.block 1 (.reg [.v 25 3,.a 26 (.ca (.t 25) [] [0,1,2,3,4,5])])) (BV)))))) (tO)
@[go_sem ↓] theorem aIT:aT BJ:=aU _
def BM:PC:=.seq (.seq (.gh (.reg [.v 12 0,.v 13 2,.a 14 (.cl 128 [(.t 12),(.t 13)] [0,1])])) (.cond (.t 14) .ret .skip)) (BJ)
@[go_sem ↓] theorem aIZ:aT BM:=aU _
def VB:PC:=.seq (.reg [.v 9 0,.v 10 1,.a 11 (.cl 108 [(.t 9),(.t 10)] [0,1])]) (BM)
def UA:List RV:=[]
theorem aHB:aN Tryz.prog true ⟨fun r k=>if r=0/\k=2 then .own [0,1] else if r=1/\k=2 then .own [0,1] else if r=5/\k=1 then .own [0,1,2,3,4,5] else if r=4/\k=1 then .own [0,1] else if r=6/\k=2 then .own [0,1] else .own [],fun r=>[1,2,4,6].contains r⟩ Tryz.f101=some (VB,UA):=by kernel_rfl
def XJ:PC:=.ord  [.q (.q 3 (.fa 3 (.t 0))),.q (.l 4 (.ld1 (.t 3))),.q (.q 5 (.fa 3 (.t 1))),.q (.l 6 (.ld1 (.t 5))),.q (.l 7 (.ia 4 (.t 6) (.i 0))),.q (.q 8 (.fa 0 (.t 7))),.q (.l 9 (.ld1 (.t 8))),.q (.l 12 (.ld1 (.t 2))),.q (.q 13 (.fa 3 (.t 1))),.q (.l 14 (.ld1 (.t 13))),.q (.l 15 (.ia 4 (.t 14) (.i 0))),.q (.l 16 (.ldn 4 (.t 15))),.q (.q 18 (.lnL (.t 4))),.m (.a 10 (.cl 24 [(.t 9)] [])),.rc (.q 3 (.fa 3 (.t 0))),.rc (.l 4 (.ld1 (.t 3))),.rc (.l 12 (.ld1 (.t 2))),.rc (.q 13 (.fa 3 (.t 1))),.rc (.l 14 (.ld1 (.t 13))),.rc (.l 15 (.ia 4 (.t 14) (.i 0))),.rc (.l 16 (.ldn 4 (.t 15))),.rc (.q 18 (.lnL (.t 4))),.q (.q 11 (.fld1 1 (.t 10))),.m (.a 17 (.ca (.t 11) [(.t 12),(.t 16)] [0,1])),.rc (.q 3 (.fa 3 (.t 0))),.rc (.l 4 (.ld1 (.t 3))),.rc (.q 18 (.lnL (.t 4))),.m (.e 19 (.bsl 32 5 [(.k (.agg #[(.int .i64 0),(.int .i64 0),(.string (mk [])),(.slice none 0 0),(.slice none 0 0)]))])),.rc (.q 3 (.fa 3 (.t 0))),.rc (.l 4 (.ld1 (.t 3))),.rc (.q 18 (.lnL (.t 4))),.m (.e 20 (.ap 32 5 80 (.t 4) (.t 19))),.q (.l 21 (.ia 5 (.t 20) (.t 18))),.q (.q 22 (.fa 3 (.t 0))),.fk (.s (.st 5 (.t 21) (.t 17))) (.s (.st 1 (.t 22) (.t 20))) [.q 22 (.fa 3 (.t 0))] [.l 21 (.ia 5 (.t 20) (.t 18))]]
def UM:List RV:=[]
theorem aFU:aN Tryz.prog true ⟨fun r k=>if r=0/\k=14 then .own [0,1] else .own [],fun _=>false⟩ Tryz.f102=some (XJ,UM):=by kernel_rfl
def oW:PC:=.seq (.gh (.reg [.l 33 (.ld1 (.t 0)),.a 34 (.cl 31 [(.t 33)] [0,1])])) .ret
@[go_sem ↓] theorem aJG:aT oW:=aU _
def BL:PC:=.gh (.ord  [.q (.q 49 (.fa 4 (.t 3))),.q (.l 50 (.ld1 (.t 49))),.q (.q 51 (.fa 0 (.t 6))),.q (.l 52 (.ld1 (.t 51))),.q (.q 53 (.fa 2 (.t 6))),.q (.q 54 (.fa 0 (.t 53))),.q (.l 55 (.ld1 (.t 54))),.q (.l 58 (.ld1 (.t 0))),.q (.q 59 (.fa 2 (.t 6))),.q (.l 60 (.ldn 4 (.t 59))),.q (.q 63 (.lnL (.t 50))),.m (.a 56 (.cl 24 [(.t 55)] [])),.rc (.q 49 (.fa 4 (.t 3))),.rc (.l 50 (.ld1 (.t 49))),.rc (.q 51 (.fa 0 (.t 6))),.rc (.l 52 (.ld1 (.t 51))),.rc (.l 58 (.ld1 (.t 0))),.rc (.q 59 (.fa 2 (.t 6))),.rc (.l 60 (.ldn 4 (.t 59))),.rc (.q 63 (.lnL (.t 50))),.q (.q 57 (.fld1 1 (.t 56))),.m (.a 61 (.ca (.t 57) [(.t 58),(.t 60)] [0,1])),.rc (.q 49 (.fa 4 (.t 3))),.rc (.l 50 (.ld1 (.t 49))),.rc (.q 51 (.fa 0 (.t 6))),.rc (.l 52 (.ld1 (.t 51))),.rc (.q 63 (.lnL (.t 50))),.q (.q 62 (.bd [(.int .i64 0),(.int .i64 0),(.int .i64 0),(.string (mk [])),(.slice none 0 0),(.slice none 0 0)] [(0,1,(.t 52)),(1,5,(.t 61))])),.m (.e 64 (.bsl 57 6 [(.k (.agg #[(.int .i64 0),(.int .i64 0),(.int .i64 0),(.string (mk [])),(.slice none 0 0),(.slice none 0 0)]))])),.rc (.q 49 (.fa 4 (.t 3))),.rc (.l 50 (.ld1 (.t 49))),.rc (.q 51 (.fa 0 (.t 6))),.rc (.l 52 (.ld1 (.t 51))),.rc (.q 63 (.lnL (.t 50))),.rc (.q 62 (.bd [(.int .i64 0),(.int .i64 0),(.int .i64 0),(.string (mk [])),(.slice none 0 0),(.slice none 0 0)] [(0,1,(.t 52)),(1,5,(.t 61))])),.m (.e 65 (.ap 57 6 88 (.t 50) (.t 64))),.q (.l 66 (.ia 6 (.t 65) (.t 63))),.q (.q 67 (.fa 4 (.t 3))),.fk (.s (.st 6 (.t 66) (.t 62))) (.s (.st 1 (.t 67) (.t 65))) [.q 67 (.fa 4 (.t 3))] [.l 66 (.ia 6 (.t 65) (.t 63))]])
@[go_sem ↓] theorem aI1:aT BL:=aU _
def AX:PC:=.seq (.gh (.reg [.q 47 (.fa 0 (.t 6)),.l 48 (.ld1 (.t 47)),.s (.st 1 (.t 2) (.t 48))])) (BL)
@[go_sem ↓] theorem aJJ:aT AX:=aU _
def AC:PC:=.seq (.gh (.reg [.q 42 (.fa 1 (.t 1)),.l 43 (.ld1 (.t 42)),.v 44 5,.l 45 (.ia 7 (.t 43) (.t 44)),.l 46 (.ldn 7 (.t 45)),.e 6 (.al (.agg #[(.int .i64 0),(.string (mk [])),(.int .i64 0),(.int .i64 0),(.string (mk [])),(.slice none 0 0),(.bool false)]) 97),.s (.st 7 (.t 6) (.t 46))])) (AX)
@[go_sem ↓] theorem aJW:aT AC:=aU _
def AK:PC:=.seq (.gh (.reg [.l 40 (.ld1 (.t 0)),.a 41 (.cl 108 [(.t 40),(.k (.string (mk [61])))] [0,1])])) (AC)
@[go_sem ↓] theorem aJD:aT AK:=aU _
def BI:PC:=.seq (.gh (.reg [.l 35 (.ld1 (.t 0)),.q 36 (.nc (.t 35)),.q 37 (.fa 3 (.t 36)),.l 38 (.ld1 (.t 37)),.a 39 (.cl 100 [(.t 38)] [1])])) (AK)
@[go_sem ↓] theorem aI2:aT BI:=aU _
def mN:PC:=.seq (.seq (.gh (.reg [.q 16 (.fa 0 (.t 4)),.l 17 (.ld1 (.t 16)),.q 18 (.bin .neq true (.t 17) (.i 1)),.v 19 18,⟨some 20,(some (19,false)),.q (.mv (.t 5))⟩,⟨some 21,(some (19,false)),.q (.bin .lss true (.t 20) (.i 0))⟩,.a 22 (.pick (.t 19) (.k (.bool true)) (.t 21)),.v 23 22,⟨some 24,(some (23,false)),.q (.fa 1 (.t 1))⟩,⟨some 25,(some (23,false)),.l (.ld1 (.t 24))⟩,⟨some 26,(some (23,false)),.q (.mv (.t 5))⟩,⟨some 27,(some (23,false)),.l (.ia 7 (.t 25) (.t 26))⟩,⟨some 28,(some (23,false)),.q (.fa 0 (.t 27))⟩,⟨some 29,(some (23,false)),.l (.ld1 (.t 28))⟩,⟨some 30,(some (23,false)),.l (.ld1 (.t 2))⟩,⟨some 31,(some (23,false)),.q (.bin .leq true (.t 29) (.t 30))⟩,.a 32 (.pick (.t 23) (.k (.bool true)) (.t 31))])) (.cond (.t 32) (oW) .skip)) (BI)
@[go_sem ↓] theorem aIV:aT mN:=aU _
def AT:PC:=.seq (.gh (.reg [.q 12 (.fa 1 (.t 1)),.l 13 (.ld1 (.t 12)),.q 14 (.mf 107 [(.t 4)]),.a 15 (.cl 106 [(.t 13),(.t 14)] [7]),.v 5 15])) (mN)
@[go_sem ↓] theorem aJ4:aT AT:=aU _
def TY:PC:=.seq (.reg [.l 7 (.ld1 (.t 0)),.q 8 (.nc (.t 7)),.q 9 (.fa 3 (.t 8)),.l 10 (.ld1 (.t 9)),.a 11 (.cl 30 [(.t 10)] [1]),.e 4 (.al (.agg #[(.int .i64 0),(.string (mk [])),(.int .i64 0),(.int .i64 0)]) 71),.s (.st 4 (.t 4) (.t 11))]) (AT)
def U2:List RV:=[]
theorem aIM:aN Tryz.prog true ⟨fun r k=>if r=0/\k=4 then .own [1] else if r=1/\k=3 then .own [7] else if r=3/\k=1 then .own [0,1] else if r=4/\k=4 then .own [1] else if r=5/\k=1 then .own [0,1] else if r=8/\k=12 then .own [0,1] else .own [],fun r=>[1,2,3,4,5,6,7,8].contains r⟩ Tryz.f105=some (TY,U2):=by kernel_rfl
def UG:PC:=.seq (.reg [.e 2 (.bx 97 (.t 0)),.q 3 (.mv (.k (.bool false)))]) (.seq (.reg [.q 4 (.fa 1 (.t 2)),.l 5 (.ld1 (.t 4)),.q 6 (.fa 1 (.t 1)),.l 7 (.ld1 (.t 6)),.q 8 (.bin .eql true (.t 5) (.t 7)),.v 3 8]) .ret)
def XC:List RV:=[.mv (.t 3)]
theorem aHO:aN Tryz.prog true ⟨fun _ _=>.own [],fun _=>false⟩ Tryz.f107=some (UG,XC):=by kernel_rfl
def WO:PC:=.seq (.reg [.v 4 0,.v 5 1,.a 6 (.cl 128 [(.t 4),(.t 5)] [0,1]),.q 7 (.not (.t 6))]) (.cond (.t 7) (.reg [.v 8 0,.a 9 (.cl 31 [(.t 8)] [0,1])]) .skip)
def XM:List RV:=[]
theorem aGV:aN Tryz.prog true ⟨fun r k=>if r=0/\k=2 then .own [0,1] else if r=1/\k=1 then .own [0,1] else .own [],fun _=>false⟩ Tryz.f108=some (WO,XM):=by kernel_rfl
def MX:PC:=.seq (.reg [.q 4 (.mv (.k (.bool false)))]) (.seq (.reg [.v 5 0,.q 6 (.nc (.t 5)),.q 7 (.fa 4 (.t 6)),.l 8 (.ld1 (.t 7)),.q 9 (.not (.t 8)),.v 10 9,⟨some 11,(some (10,true)),.q (.mv (.t 0))⟩,⟨some 12,(some (10,true)),.q (.nc (.t 11))⟩,⟨some 13,(some (10,true)),.q (.fa 3 (.t 12))⟩,⟨some 14,(some (10,true)),.l (.ld1 (.t 13))⟩,⟨some 15,(some (10,true)),.q (.mv (.t 1))⟩,⟨some 16,(some (10,true)),.cl 148 [(.t 14),(.t 15)] [1]⟩,.a 17 (.pick (.t 10) (.t 16) (.k (.bool false))),.v 4 17]) .ret)
def NE:List RV:=[.mv (.t 4)]
theorem aGC:aN Tryz.prog true ⟨fun r k=>if r=1/\k=11 then .own [1] else .own [],fun _=>false⟩ Tryz.f128=some (MX,NE):=by kernel_rfl
end Go.Proofs.YtkpohmhenegkiaaGreatDoor
namespace Go.Proofs
open Go.Shelf
def Tryz.laysM173_ren:Go.Shelf.Ren:=⟨fun | 173=>109 | 246=>131 | 283=>150 | 284=>151 | 285=>152 | 286=>153 | 129=>160 | 317=>159 | 318=>161 | 319=>162 | 320=>163 | 337=>165 | 338=>166 | n=>n,fun | 2=>2 | 3=>3 | 9=>9 | 4=>4 | 171=>169 | 0=>0 | 53=>139 | 37=>43 | 5=>5 | 173=>172 | 212=>184 | 51=>185 | 20=>20 | 213=>186 | 46=>187 | 232=>190 | 233=>191 | n=>n,fun | 17=>0 | 18=>1 | 19=>2 | n=>n⟩
theorem Tryz.lays173:Go.Proofs.Lays.n173 Tryz.prog Tryz.laysM173_ren:={
  mixed:=by kernel_rfl
  f129:=Tryz.func160.trans (congrArg some (by kernel_rfl))
  f173:=Tryz.func109.trans (congrArg some (by kernel_rfl))
  f246:=Tryz.func131.trans (congrArg some (by kernel_rfl))
  f283:=Tryz.func150.trans (congrArg some (by kernel_rfl))
  f284:=Tryz.func151.trans (congrArg some (by kernel_rfl))
  f285:=Tryz.func152.trans (congrArg some (by kernel_rfl))
  f286:=Tryz.func153.trans (congrArg some (by kernel_rfl))
  f317:=Tryz.func159.trans (congrArg some (by kernel_rfl))
  f318:=Tryz.func161.trans (congrArg some (by kernel_rfl))
  f319:=Tryz.func162.trans (congrArg some (by kernel_rfl))
  f320:=Tryz.func163.trans (congrArg some (by kernel_rfl))
  f337:=Tryz.func165.trans (congrArg some (by kernel_rfl))
  f338:=Tryz.func166.trans (congrArg some (by kernel_rfl))
  t0:=Tryz.underlying0
  a0:=Tryz.isAgg0
  z0:=Tryz.sizeOf0
  v0:=Tryz.zeroValue0
  t2:=Tryz.underlying2
  a2:=Tryz.isAgg2
  z2:=Tryz.sizeOf2
  v2:=Tryz.zeroValue2
  t3:=Tryz.underlying3
  a3:=Tryz.isAgg3
  z3:=Tryz.sizeOf3
  v3:=Tryz.zeroValue3
  t4:=Tryz.underlying4
  a4:=Tryz.isAgg4
  z4:=Tryz.sizeOf4
  v4:=Tryz.zeroValue4
  t5:=Tryz.underlying5
  a5:=Tryz.isAgg5
  z5:=Tryz.sizeOf5
  v5:=Tryz.zeroValue5
  t9:=Tryz.underlying9
  a9:=Tryz.isAgg9
  z9:=Tryz.sizeOf9
  v9:=Tryz.zeroValue9
  t20:=Tryz.underlying20
  a20:=Tryz.isAgg20
  z20:=Tryz.sizeOf20
  v20:=Tryz.zeroValue20
  t37:=Tryz.underlying43
  a37:=Tryz.isAgg43
  z37:=Tryz.sizeOf43
  v37:=Tryz.zeroValue43
  t46:=Tryz.underlying187
  a46:=Tryz.isAgg187
  z46:=Tryz.sizeOf187
  v46:=Tryz.zeroValue187
  t51:=Tryz.underlying185
  a51:=Tryz.isAgg185
  z51:=Tryz.sizeOf185
  v51:=Tryz.zeroValue185
  t53:=Tryz.underlying139
  a53:=Tryz.isAgg139
  z53:=Tryz.sizeOf139
  v53:=Tryz.zeroValue139
  t171:=Tryz.underlying169
  a171:=Tryz.isAgg169
  z171:=Tryz.sizeOf169
  v171:=Tryz.zeroValue169
  t173:=Tryz.underlying172
  a173:=Tryz.isAgg172
  z173:=Tryz.sizeOf172
  v173:=Tryz.zeroValue172
  t212:=Tryz.underlying184
  a212:=Tryz.isAgg184
  z212:=Tryz.sizeOf184
  v212:=Tryz.zeroValue184
  t213:=Tryz.underlying186
  a213:=Tryz.isAgg186
  z213:=Tryz.sizeOf186
  t232:=Tryz.underlying190
  a232:=Tryz.isAgg190
  z232:=Tryz.sizeOf190
  v232:=Tryz.zeroValue190
  t233:=Tryz.underlying191
  a233:=Tryz.isAgg191
  z233:=Tryz.sizeOf191
  v233:=Tryz.zeroValue191
  g17:=by kernel_rfl
  g18:=by kernel_rfl
  g19:=by kernel_rfl }
theorem Tryz.laysM173:Go.Proofs.LaysM.n173 Tryz.prog Tryz.laysM173_ren:={ Tryz.lays173 with
  i0:=by kernel_rfl
  i2:=by kernel_rfl
  i3:=by kernel_rfl
  i4:=by kernel_rfl
  i5:=by kernel_rfl
  i9:=by kernel_rfl
  i20:=by kernel_rfl
  i37:=by kernel_rfl
  i46:=by kernel_rfl
  i51:=by kernel_rfl
  i53:=by kernel_rfl
  i171:=by kernel_rfl
  i173:=by kernel_rfl
  i212:=by kernel_rfl
  i232:=by kernel_rfl
  i233:=by kernel_rfl
  m17:=by kernel_rfl
  m18:=by kernel_rfl
  m19:=by kernel_rfl }
open Go.RowKit Go.Sort Go.Lib in
theorem Tryz.strconv_FormatInt_10 (n:Int) (h0:-9223372036854775808<=n) (h1:n<=9223372036854775807) (w:World) (htab:Lib.TabIs Tryz.prog w "internal/strconv.uint64pow10" .u64 Lib.pow10Tab) :
    Calls Tryz.prog 109 #[.int .i64 n,.int .i64 10] w fun e w'=>e=.returned (.string ⟨(Lib.itoa n).toArray⟩)/\∃ k os,w'=grow (w.drewN k) os:=Any.strconv_FormatInt_10 Tryz.laysM173 n h0 h1 w htab
end Go.Proofs
namespace Go.Proofs.YtkpohmhenegkiaaGreatDoor
open Go.W
theorem C1:∀ n:Nat,Lib.decDigits n=digs n:=fun n=>by
  induction n using Nat.strongRecOn with
  | _ n ih=>
    rw [Lib.decDigits,digs]
    by_cases h:n < 10
    · have e:n % 10=n:=Nat.mod_eq_of_lt h
      simp [h,e,Nat.toUInt8]
    · rw [dif_neg h,dif_neg h,ih (n / 10) (by omega)]
theorem NT (n:Int):Lib.itoa n=gG n:=by
  unfold Lib.itoa gG
  by_cases h:n < 0
  · rw [if_pos h,decide_eq_true h,C1]; rfl
  · rw [if_neg h,decide_eq_false h,C1,show n.toNat=n.natAbs by omega]; rfl
def EK:List S->Prop:=fun av=>match av with
  | [.va (.c1 (.vl (.int .i64 n))),.va (.c1 (.vl (.int .i64 b)))]=>b=10/\-9223372036854775808<=n/\n<=9223372036854775807
  | _=>False
theorem w6 {av:List S} (h:EK av):∃ n:Int,av=[iS .i64 n,iS .i64 10]/\-9223372036854775808<=n/\n<=9223372036854775807:=by
  unfold EK at h
  split at h
  · obtain ⟨rfl,h⟩:=h; exact ⟨_,rfl,h⟩
  · exact h.elim
def TZ:List S->A:=fun av=>match av with
  | [.va (.c1 (.vl (.int .i64 n))),.va (.c1 (.vl (.int .i64 _)))]=>tA (mk (gG n))
  | _=>.gs []
def fiFn:Fun:=⟨EK,TZ,fun av h=>by obtain ⟨_,rfl,_⟩:=w6 h; trivial⟩
attribute [go_sem ↓] EK TZ fiFn
theorem aDW {ro:RO} {w:World} (h:GR Tryz.prog ro w):Lib.TabIs Tryz.prog w "internal/strconv.uint64pow10" .u64 Lib.pow10Tab:=by
  have:=(h _ (List.mem_singleton.2 rfl) _ Tryz.laysM173.m17).2
  unfold Lib.TabIs
  rw [this,Lib.pow10Tab,List.map_map]
  rfl
theorem MJ:Meets Tryz.prog 109 fiFn.sp:=by
  refine ⟨by kernel_rfl,?_⟩
  rintro xs vs E ro w K hl hrel hr ⟨⟨h,hE⟩,hK⟩ hG
  obtain ⟨n,rfl,h0,h1⟩:=w6 h
  obtain ⟨v0,v1,rfl⟩:∃ v0 v1,vs=[v0,v1]:=by
    match vs,hl with
    | [v0,v1],_=>exact ⟨v0,v1,rfl⟩
  have e0:v0=.int .i64 n:=hrel 0 _ _ rfl rfl
  have e1:v1=.int .i64 10:=hrel 1 _ _ rfl rfl
  subst e0 e1
  refine (Tryz.strconv_FormatInt_10 n h0 h1 w (aDW hG)).mono ?_
  rintro e w' ⟨rfl,k,os,rfl⟩
  refine ⟨tS (mk (gG n)),_,E,ro,rfl,by rw [NT]; rfl,by rw [hE]; exact hK,?_⟩
  have hk:∀ j,j < w.heap.size->(Sort.grow (w.drewN k) os).heap[j]? = w.heap[j]?:=fun j hj=>by
    simp [Sort.grow,World.drewN,Array.getElem?_append_left hj]
  exact hr.grown hk (by simp [Sort.grow,World.drewN]) rfl rfl rfl
def f5 (k:Int):FuncId:=bif k == 1 then 54 else bif k == 4 then 56 else bif k == 7 then 58 else bif k == 5 then 60 else bif k == 6 then 62 else 64
def f4 (k:Int):FuncId:=bif k == 1 then 55 else bif k == 4 then 57 else bif k == 7 then 59 else bif k == 5 then 61 else bif k == 6 then 63 else 65
def lH:W.Spec:=fun av H K=>match av with
  | [.va (.c1 (.vl (.int .i64 k)))]=>H=[]/\K (.va (.gs [.fn (f5 k) [],.fn (f4 k) []])) []
  | _=>False
attribute [go_sem ↓] lH
theorem mOf:Meets Tryz.prog 24 lH:=by
  refine aF Tryz.func24 aMI 1 (by rw [Tryz.ntmps24]; decide) (aA _) (fun av H K h=>by
    unfold lH at h
    split at h
    · rfl
    · exact h.elim) ?_
  intro av H K h
  unfold lH at h
  split at h
  · rename_i k
    obtain ⟨rfl,hK⟩:=h
    unfold f5 f4 at hK
    have fin:∀ (f g:FuncId) (R:Hp),K (.va (.gs [.fn f [],.fn g []])) []->W.Fin 0 K (.va (.gs [.fn f [],.fn g []])) R:=fun f g R h=>.sel [] (by simp) (by simp) rfl (.done (by simpa [go_sem] using h))
    cases h1:k == 1 with
    | true=>rw [h1] at hK; simp -dsimp only [go_sem,vS,wJ,h1]; exact fin _ _ _ hK
    | false=>
    cases h2:k == 4 with
    | true=>rw [h1,h2] at hK; simp -dsimp only [go_sem,vS,wJ,h1,h2]; exact fin _ _ _ hK
    | false=>
    cases h3:k == 7 with
    | true=>rw [h1,h2,h3] at hK; simp -dsimp only [go_sem,vS,wJ,h1,h2,h3]; exact fin _ _ _ hK
    | false=>
    cases h4:k == 5 with
    | true=>rw [h1,h2,h3,h4] at hK; simp -dsimp only [go_sem,vS,wJ,h1,h2,h3,h4]; exact fin _ _ _ hK
    | false=>
    cases h5:k == 6 with
    | true=>rw [h1,h2,h3,h4,h5] at hK; simp -dsimp only [go_sem,vS,wJ,h1,h2,h3,h4,h5]; exact fin _ _ _ hK
    | false=>rw [h1,h2,h3,h4,h5] at hK; simp -dsimp only [go_sem,vS,wJ,h1,h2,h3,h4,h5]; exact fin _ _ _ hK
  · exact h.elim
structure Fs where
  bad:Bool
  off:Int
  n:Nat
instance:Inhabited Tk:=⟨⟨0,[],0,0⟩⟩
def bP (ts:List Tk) (n:Nat):Tk:=ts.getD n default
abbrev P1 (s:Sc) (b:Bool) (o:Int):B:=.cells [.vl (.int .i64 s.ver),.fz (s.es.map aX),.fz (s.ss.map aL),.pt 1 0,.vl (.bool b),.vl (.int .i64 o)] 62
abbrev gS (s:Sc) (ts:List Tk) (z:Fs):Hp:=[P1 s z.bad z.off,gQ 114 ts z.n]
structure Tks (ts:List Tk):Prop where
  e:Ends ts
  n:∀ t ∈ ts,bJ t.n
  x:∀ t ∈ ts,t.x.length<=4000
  a:∀ t ∈ ts,t.a<=4000
def fA (ts:List Tk) (z:Fs):Fs:=bif z.bad then z else ⟨true,(bP ts z.n).a,z.n⟩
def d8 (w:List UInt8) (ts:List Tk) (z:Fs):Bool:=!z.bad && fC 4 w (bP ts z.n)
def cA (w:List UInt8) (ts:List Tk) (z:Fs):Fs:=bif d8 w ts z then ⟨false,z.off,b8 ts z.n⟩ else z
def fJ (w:List UInt8) (ts:List Tk) (z:Fs):Fs:=bif d8 w ts z then ⟨false,z.off,b8 ts z.n⟩ else fA ts z
def iR (k:Int) (ts:List Tk) (z:Fs):Bool:=!z.bad && (bP ts z.n).k == k
def jJ (k:Int) (ts:List Tk) (z:Fs):Tk:=bif iR k ts z then bP ts z.n else default
def nY (k:Int) (ts:List Tk) (z:Fs):Fs:=bif iR k ts z then ⟨false,z.off,b8 ts z.n⟩ else fA ts z
theorem mT {ts:List Tk} {n:Nat} (h:n < ts.length):ts[n]? = some (bP ts n):=by simp [bP,List.getD_eq_getElem?_getD,List.getElem?_eq_getElem h]
theorem jW {T:TypeId} {ts:List Tk} {n:Nat} {K:S->Hp->Prop} (he:Ends ts) (h:n < ts.length) (hK:K (.va (.gs (cW (bP ts n)))) [gQ T ts n]):bT T [.va (.c1 (.pt 0 0))] [gQ T ts n] K:=
  ⟨rfl,ts,n,rfl,rfl,he,h,fun t ht=>by rw [mT h] at ht; cases ht; exact hK⟩
theorem wS {T:TypeId} {ts:List Tk} {n:Nat} {K:S->Hp->Prop} (he:Ends ts) (h:n < ts.length) (hK:K (.va (.gs (cW (bP ts n)))) [gQ T ts (b8 ts n)]):b9 T [.va (.c1 (.pt 0 0))] [gQ T ts n] K:=
  ⟨rfl,ts,n,rfl,rfl,he,h,fun t ht=>by rw [mT h] at ht; cases ht; exact hK⟩
theorem sF {k:Int} {T:TypeId} {w:ByteArray} {ts:List Tk} {n:Nat} {K:S->Hp->Prop} (he:Ends ts) (h:n < ts.length) (hK:K (bS (fC k (bl w) (bP ts n))) [gQ T ts (sE k (bl w) ts n (bP ts n))]):bR k T [.va (.c1 (.pt 0 0)),tS w] [gQ T ts n] K:=
  ⟨rfl,ts,n,rfl,rfl,he,h,fun t ht=>by rw [mT h] at ht; cases ht; exact hK⟩
def mC:W.Spec:=fun av H K=>∃ s ts z,av=[.va (.c1 (.pt 0 0))]/\H=gS s ts z/\Ends ts/\z.n < ts.length/\K (.tu []) (gS s ts (fA ts z))
theorem dO {s:Sc} {ts:List Tk} {z:Fs} {K:S->Hp->Prop} (h1:Ends ts) (h2:z.n < ts.length) (hK:K (.tu []) (gS s ts (fA ts z))):mC [.va (.c1 (.pt 0 0))] (gS s ts z) K:=⟨s,ts,z,rfl,rfl,h1,h2,hK⟩
attribute [-go_sem] bT b9 bR eC
theorem pB:Meets Tryz.prog 31 mC:=by
  refine aF Tryz.func31 aLQ 1 (by rw [Tryz.ntmps31]; decide) (aB pS (aA _)) (fun av H K h=>by obtain ⟨_,_,_,rfl,_⟩:=h; rfl) ?_
  rintro av H K ⟨s,ts,⟨b,o,n⟩,rfl,rfl,he,hn,hK⟩
  unfold fA at hK
  cases b with
  | true=>
    simp (maxSteps:=1000000) -dsimp only [go_sem,TG,QK]
    exact .done hK
  | false=>
    simp (maxSteps:=1000000) -dsimp only [go_sem,TG,QK]
    refine jW he hn ?_
    simp (maxSteps:=1000000) -dsimp only [go_sem]
    exact .done hK
end Go.Proofs.YtkpohmhenegkiaaGreatDoor
namespace Go.Proofs.YtkpohmhenegkiaaGreatDoor
open Go.W
attribute [-go_sem] bT b9 bR eC cC
theorem AF (k:Int) (w:List UInt8) (ts:List Tk) (n:Nat) (t:Tk):sE k w ts n t=bif fC k w t then b8 ts n else n:=rfl
def PR:W.Spec:=fun av H K=>∃ s ts z w,av=[.va (.c1 (.pt 0 0)),tS w]/\H=gS s ts z/\Ends ts/\z.n < ts.length/\K (bS (d8 (bl w) ts z)) (gS s ts (cA (bl w) ts z))
theorem oQ {s:Sc} {ts:List Tk} {z:Fs} {w:ByteArray} {K:S->Hp->Prop} (h1:Ends ts) (h2:z.n < ts.length) (hK:K (bS (d8 (bl w) ts z)) (gS s ts (cA (bl w) ts z))):PR [.va (.c1 (.pt 0 0)),tS w] (gS s ts z) K:=⟨s,ts,z,w,rfl,rfl,h1,h2,hK⟩
theorem MC:Meets Tryz.prog 128 PR:=by
  refine aF Tryz.func128 aGC 2 (by rw [Tryz.ntmps128]; decide) (aB aE1 (aA _)) (fun av H K h=>by obtain ⟨_,_,_,_,rfl,_⟩:=h; rfl) ?_
  rintro av H K ⟨s,ts,⟨b,o,n⟩,w,rfl,rfl,he,hn,hK⟩
  unfold cA d8 at hK
  cases b with
  | true=>
    simp (maxSteps:=1000000) -dsimp only [go_sem,MX,NE]
    exact .done hK
  | false=>
    simp (maxSteps:=1000000) -dsimp only [go_sem,MX,NE]
    refine sF he hn ?_
    rw [AF]
    cases ht:fC 4 (bl w) (bP ts n)<;>rw [ht] at hK<;>(simp (maxSteps:=1000000) -dsimp only [go_sem]; exact .done hK)
def sT:W.Spec:=fun av H K=>∃ s ts z w,av=[.va (.c1 (.pt 0 0)),tS w]/\H=gS s ts z/\Ends ts/\z.n < ts.length/\K (.tu []) (gS s ts (fJ (bl w) ts z))
theorem gW {s:Sc} {ts:List Tk} {z:Fs} {w:ByteArray} {K:S->Hp->Prop} (h1:Ends ts) (h2:z.n < ts.length) (hK:K (.tu []) (gS s ts (fJ (bl w) ts z))):sT [.va (.c1 (.pt 0 0)),tS w] (gS s ts z) K:=⟨s,ts,z,w,rfl,rfl,h1,h2,hK⟩
theorem F6:Meets Tryz.prog 108 sT:=by
  refine aF Tryz.func108 aGV 2 (by rw [Tryz.ntmps108]; decide) (aB MC (aB pB (aA _))) (fun av H K h=>by obtain ⟨_,_,_,_,rfl,_⟩:=h; rfl) ?_
  rintro av H K ⟨s,ts,z,w,rfl,rfl,he,hn,hK⟩
  simp (maxSteps:=1000000) -dsimp only [go_sem,WO,XM]
  refine oQ he hn ?_
  unfold fJ at hK
  cases ht:d8 (bl w) ts z with
  | true=>
    have e:cA (bl w) ts z=⟨false,z.off,b8 ts z.n⟩:=by unfold cA; rw [ht]; rfl
    rw [ht] at hK
    rw [e]
    simp (maxSteps:=1000000) -dsimp only [go_sem]
    exact .done hK
  | false=>
    have e:cA (bl w) ts z=z:=by unfold cA; rw [ht]; rfl
    rw [ht] at hK
    rw [e]
    simp (maxSteps:=1000000) -dsimp only [go_sem]
    refine dO he hn ?_
    simp (maxSteps:=1000000) -dsimp only [go_sem]
    exact .done hK
def JQ:W.Spec:=fun av H K=>∃ s ts z k,av=[.va (.c1 (.pt 0 0)),iS .i64 k]/\H=gS s ts z/\Ends ts/\z.n < ts.length/\K (.va (.gs (cW (jJ k ts z)))) (gS s ts (nY k ts z))
theorem CZ {s:Sc} {ts:List Tk} {z:Fs} {k:Int} {K:S->Hp->Prop} (h1:Ends ts) (h2:z.n < ts.length) (hK:K (.va (.gs (cW (jJ k ts z)))) (gS s ts (nY k ts z))):JQ [.va (.c1 (.pt 0 0)),iS .i64 k] (gS s ts z) K:=⟨s,ts,z,k,rfl,rfl,h1,h2,hK⟩
theorem N4:Meets Tryz.prog 97 JQ:=by
  refine aF Tryz.func97 aLU 2 (by rw [Tryz.ntmps97]; decide) (aB pS (aB D6 (aB pB (aA _)))) (fun av H K h=>by obtain ⟨_,_,_,_,rfl,_⟩:=h; rfl) ?_
  rintro av H K ⟨s,ts,⟨b,o,n⟩,k,rfl,rfl,he,hn,hK⟩
  unfold jJ nY iR at hK
  cases b with
  | true=>
    simp (maxSteps:=1000000) -dsimp only [go_sem,TL,SS]
    refine aD rfl (.done ?_)
    simp (maxSteps:=1000000) -dsimp only [go_sem,zU]
    refine dO (z:=⟨true,o,n⟩) he hn ?_
    simp (maxSteps:=1000000) -dsimp only [go_sem]
    refine .sel [0,1] (by simp) (by simp) rfl (.done ?_)
    simp (maxSteps:=1000000) -dsimp only [go_sem]
    exact hK
  | false=>
    simp (maxSteps:=1000000) -dsimp only [go_sem,TL,SS]
    refine jW he hn ?_
    cases ht:(bP ts n).k == k with
    | true=>
      have ht':((bP ts n).k != k)=false:=by rw [bne,ht]; rfl
      rw [ht] at hK
      simp (maxSteps:=1000000) -dsimp only [go_sem,cW,ht']
      refine aD rfl (.done ?_)
      simp (maxSteps:=1000000) -dsimp only [go_sem,G4]
      refine wS he hn ?_
      simp (maxSteps:=1000000) -dsimp only [go_sem]
      refine .sel [0,1] (by simp) (by simp) rfl (.done ?_)
      simp (maxSteps:=1000000) -dsimp only [go_sem]
      exact hK
    | false=>
      have ht':((bP ts n).k != k)=true:=by rw [bne,ht]; rfl
      rw [ht] at hK
      simp (maxSteps:=1000000) -dsimp only [go_sem,cW,ht']
      refine aD rfl (.done ?_)
      simp (maxSteps:=1000000) -dsimp only [go_sem,zU]
      refine dO (z:=⟨false,o,n⟩) he hn ?_
      simp (maxSteps:=1000000) -dsimp only [go_sem]
      refine .sel [0,1] (by simp) (by simp) rfl (.done ?_)
      simp (maxSteps:=1000000) -dsimp only [go_sem]
      exact hK
end Go.Proofs.YtkpohmhenegkiaaGreatDoor
namespace Go.Proofs.YtkpohmhenegkiaaGreatDoor
open Go.W
attribute [-go_sem] bT b9 bR eC cC
def sZ:List UInt8:=[116,114,117,101]
def oS:List UInt8:=[102,97,108,115,101]
def iF (ts:List Tk) (z:Fs):Vl × Fs:=
  bif !z.bad && fC 1 sZ (bP ts z.n) then (.mk 1 1 (mk []) [] [],⟨false,z.off,b8 ts z.n⟩)
  else bif !z.bad && fC 1 oS (bP ts z.n) then (.mk 1 0 (mk []) [] [],⟨false,z.off,b8 ts z.n⟩)
  else (.mk 1 0 (mk []) [] [],fA ts z)
def SA (k:Int) (ts:List Tk) (z:Fs):Vl × Fs:=(.mk k (jJ 2 ts z).n (mk []) [] [],nY 2 ts z)
def MP (ts:List Tk) (z:Fs):Vl × Fs:=(.mk 4 0 (mk (jJ 3 ts z).x) [] [],nY 3 ts z)
def lJ (e:En) (ts:List Tk) (z:Fs):Int:=bif !z.bad && (bP ts z.n).k == 1 then jE e.ns (mk (bP ts z.n).x) 0 else -1
def iG (e:En) (ts:List Tk) (z:Fs):Vl × Fs:=
  bif decide (lJ e ts z < 0) || decide ((e.vs.length:Int)<=lJ e ts z) then (.mk 7 0 (mk []) [] [],fA ts z)
  else (.mk 7 (e.vs.getD (lJ e ts z).toNat 0) (mk []) [] [],⟨false,z.off,b8 ts z.n⟩)
def n4 (D:Sc->Ty->Prop) (P:Sc->List Tk->Ty->Fs->Vl × Fs):W.Spec:=fun av H K=>∃ s ts t z,av=[.va (.c1 (.pt 0 0)),.va (.gs (aM t))]/\H=gS s ts z/\s.fit/\TyOk t/\Tks ts/\z.n < ts.length/\D s t/\K (.va (.gs (aV (P s ts t z).1))) (gS s ts (P s ts t z).2)
theorem pD {D:Sc->Ty->Prop} {P:Sc->List Tk->Ty->Fs->Vl × Fs}:∀ av H K,n4 D P av H K->av.length=2:=fun av H K h=>by obtain ⟨_,_,_,_,rfl,_⟩:=h; rfl
theorem HY:Meets Tryz.prog 65 (n4 (fun _ _=>True) fun _ ts t z=>SA t.k ts z):=by
  refine aF Tryz.func65 aLF 2 (by rw [Tryz.ntmps65]; decide) (aB N4 (aA _)) pD ?_
  rintro av H K ⟨s,ts,t,z,rfl,rfl,hs,ht,hts,hn,_,hK⟩
  simp (maxSteps:=1000000) -dsimp only [go_sem,aH t,aBW,Z1]
  refine CZ hts.e hn ?_
  simp (maxSteps:=1000000) -dsimp only [go_sem,cW]
  refine .sel [0,1] (by simp) (by simp) rfl (.done ?_)
  simp (maxSteps:=1000000) -dsimp only [go_sem]
  exact hK
theorem LU:Meets Tryz.prog 57 (n4 (fun _ _=>True) fun _ ts _ z=>MP ts z):=by
  refine aF Tryz.func57 aMG 2 (by rw [Tryz.ntmps57]; decide) (aB N4 (aA _)) pD ?_
  rintro av H K ⟨s,ts,t,z,rfl,rfl,hs,ht,hts,hn,_,hK⟩
  simp (maxSteps:=1000000) -dsimp only [go_sem,aH t,aC8,aDD]
  refine CZ hts.e hn ?_
  simp (maxSteps:=1000000) -dsimp only [go_sem,cW]
  refine .sel [0,1] (by simp) (by simp) rfl (.done ?_)
  simp (maxSteps:=1000000) -dsimp only [go_sem]
  exact hK
theorem LT:Meets Tryz.prog 55 (n4 (fun _ _=>True) fun _ ts _ z=>iF ts z):=by
  refine aF Tryz.func55 aON 2 (by rw [Tryz.ntmps55]; decide) (aB aD3 (aB pB (aA _))) pD ?_
  rintro av H K ⟨s,ts,t,⟨b,o,n⟩,rfl,rfl,hs,ht,hts,hn,_,hK⟩
  have hK:K (.va (.gs (aV (iF ts ⟨b,o,n⟩).1))) (gS s ts (iF ts ⟨b,o,n⟩).2):=hK
  cases b with
  | true=>
    simp (maxSteps:=1000000) -dsimp only [go_sem,aH t,TF,TK]
    refine aD rfl (.done ?_)
    simp (maxSteps:=1000000) -dsimp only [go_sem,xI]
    refine aD rfl (.done ?_)
    simp (maxSteps:=1000000) -dsimp only [go_sem,yW]
    refine dO (z:=⟨true,o,n⟩) hts.e hn ?_
    simp (maxSteps:=1000000) -dsimp only [go_sem]
    refine aD rfl (.done ?_)
    simp (maxSteps:=1000000) -dsimp only [go_sem,oX]
    refine .sel [0,1] (by simp) (by simp) rfl (.done ?_)
    simp (maxSteps:=1000000) -dsimp only [go_sem]
    exact hK
  | false=>
    simp (maxSteps:=1000000) -dsimp only [go_sem,aH t,TF,TK]
    refine sF hts.e hn ?_
    rw [AF]
    rw [show bl (mk [116,114,117,101])=sZ from rfl]
    cases h1:fC 1 sZ (bP ts n) with
    | true=>
      rw [show iF ts ⟨false,o,n⟩=(.mk 1 1 (mk []) [] [],⟨false,o,b8 ts n⟩) by simp [iF,h1]] at hK
      simp (maxSteps:=1000000) -dsimp only [go_sem]
      refine aD rfl (.done ?_)
      simp (maxSteps:=1000000) -dsimp only [go_sem,E9]
      refine aD rfl (.done ?_)
      simp (maxSteps:=1000000) -dsimp only [go_sem,oX]
      refine .sel [0,1] (by simp) (by simp) rfl (.done ?_)
      simp (maxSteps:=1000000) -dsimp only [go_sem]
      exact hK
    | false=>
      simp (maxSteps:=1000000) -dsimp only [go_sem]
      refine aD rfl (.done ?_)
      simp (maxSteps:=1000000) -dsimp only [go_sem,xI]
      refine sF hts.e hn ?_
      rw [AF]
      rw [show bl (mk [102,97,108,115,101])=oS from rfl]
      cases h2:fC 1 oS (bP ts n) with
      | true=>
        rw [show iF ts ⟨false,o,n⟩=(.mk 1 0 (mk []) [] [],⟨false,o,b8 ts n⟩) by simp [iF,h1,h2]] at hK
        simp (maxSteps:=1000000) -dsimp only [go_sem]
        refine aD rfl (.done ?_)
        simp (maxSteps:=1000000) -dsimp only [go_sem,oX]
        refine .sel [0,1] (by simp) (by simp) rfl (.done ?_)
        simp (maxSteps:=1000000) -dsimp only [go_sem]
        exact hK
      | false=>
        rw [show iF ts ⟨false,o,n⟩=(.mk 1 0 (mk []) [] [],fA ts ⟨false,o,n⟩) by simp [iF,h1,h2]] at hK
        simp (maxSteps:=1000000) -dsimp only [go_sem]
        refine aD rfl (.done ?_)
        simp (maxSteps:=1000000) -dsimp only [go_sem,yW]
        refine dO (z:=⟨false,o,n⟩) hts.e hn ?_
        simp (maxSteps:=1000000) -dsimp only [go_sem]
        refine aD rfl (.done ?_)
        simp (maxSteps:=1000000) -dsimp only [go_sem,oX]
        refine .sel [0,1] (by simp) (by simp) rfl (.done ?_)
        simp (maxSteps:=1000000) -dsimp only [go_sem]
        exact hK
theorem NW:∀ (l:List ByteArray) (x:ByteArray) (i:Nat),-1<=jE l x i/\jE l x i < (l.length:Int) + i
  | [],_,_=>⟨by simp [jE],by simp only [jE,List.length_nil]; omega⟩
  | y :: l,x,i=>by
    have:=NW l x (i + 1)
    rw [jE]
    cases decide (x=y) with
    | true=>exact ⟨by simp only [Bool.cond_true]; omega,by simp only [Bool.cond_true,List.length_cons]; omega⟩
    | false=>exact ⟨by simp only [Bool.cond_false]; omega,by simp only [Bool.cond_false,List.length_cons]; omega⟩
theorem ME:Meets Tryz.prog 59 (n4 (fun _ _=>True) fun s ts t z=>iG ((bX s.es t.n).getD default) ts z):=by
  refine aF Tryz.func59 aML 2 (by rw [Tryz.ntmps59]; decide) (aB y9 (aB pS (aB D6 (aG ZH (aB pB (aA _)))))) pD ?_
  rintro av H K ⟨s,ts,t,⟨b,o,n⟩,rfl,rfl,hs,ht,hts,hn,_,hK0⟩
  obtain ⟨e,hE⟩:∃ e,(bX s.es t.n).getD default=e:=⟨_,rfl⟩
  have he:e.ok:=by
    rw [<-hE]
    cases h:bX s.es t.n with
    | none=>exact ⟨by decide,by decide,by decide,fun _ h=>(by cases h),fun _ h=>(by cases h)⟩
    | some e=>exact hs.ok.es e (List.mem_of_find?_eq_some h)
  have hK:K (.va (.gs (aV (iG e ts ⟨b,o,n⟩).1))) (gS s ts (iG e ts ⟨b,o,n⟩).2):=by
    have:=hK0; simp only [hE] at this; exact this
  clear hK0
  have hlv:=he.lv
  have hln:=he.ln
  have hvs:=he.vs
  simp (maxSteps:=1000000) -dsimp only [go_sem,aH t,aDH,aBG]
  refine jA hs ?_
  rw [hE]
  simp (maxSteps:=1000000) -dsimp only [go_sem,aX]
  refine aD rfl (.done ?_)
  have g0:decide ((-1:Int) < 0)=true:=rfl
  cases b with
  | true=>
    simp (maxSteps:=1000000) -dsimp only [go_sem,yM]
    refine aD rfl (.done ?_)
    simp (maxSteps:=1000000) -dsimp only [go_sem,nD,g0]
    refine aD rfl (.done ?_)
    simp (maxSteps:=1000000) -dsimp only [go_sem,oJ]
    refine dO (z:=⟨true,o,n⟩) hts.e hn ?_
    simp (maxSteps:=1000000) -dsimp only [go_sem]
    refine aD rfl (.done ?_)
    simp (maxSteps:=1000000) -dsimp only [go_sem,o6]
    refine .sel [0,1] (by simp) (by simp) rfl (.done ?_)
    simp (maxSteps:=1000000) -dsimp only [go_sem]
    rw [show iG e ts ⟨true,o,n⟩=(.mk 7 0 (mk []) [] [],fA ts ⟨true,o,n⟩) by simp [iG,lJ]] at hK
    exact hK
  | false=>
    simp (maxSteps:=1000000) -dsimp only [go_sem,yM]
    refine jW hts.e hn ?_
    cases hk:(bP ts n).k == 1 with
    | false=>
      simp (maxSteps:=1000000) -dsimp only [go_sem,cW,hk]
      refine aD rfl (.done ?_)
      simp (maxSteps:=1000000) -dsimp only [go_sem,nD,g0]
      refine aD rfl (.done ?_)
      simp (maxSteps:=1000000) -dsimp only [go_sem,oJ]
      refine dO (z:=⟨false,o,n⟩) hts.e hn ?_
      simp (maxSteps:=1000000) -dsimp only [go_sem]
      refine aD rfl (.done ?_)
      simp (maxSteps:=1000000) -dsimp only [go_sem,o6]
      refine .sel [0,1] (by simp) (by simp) rfl (.done ?_)
      simp (maxSteps:=1000000) -dsimp only [go_sem]
      rw [show iG e ts ⟨false,o,n⟩=(.mk 7 0 (mk []) [] [],fA ts ⟨false,o,n⟩) by simp [iG,lJ,hk]] at hK
      exact hK
    | true=>
      simp (maxSteps:=1000000) -dsimp only [go_sem,cW,hk]
      refine aD rfl (.done ?_)
      simp (maxSteps:=1000000) -dsimp only [go_sem,GD]
      refine jW hts.e hn ?_
      simp (maxSteps:=1000000) -dsimp only [go_sem,cW,sS hln]
      have hi:lJ e ts ⟨false,o,n⟩=jE e.ns (mk (bP ts n).x) 0:=by simp [lJ,hk]
      have hlo:=(NW e.ns (mk (bP ts n).x) 0).1
      have hpE:iG e ts ⟨false,o,n⟩=bif decide (jE e.ns (mk (bP ts n).x) 0 < 0) || decide ((e.vs.length:Int)<=jE e.ns (mk (bP ts n).x) 0) then (.mk 7 0 (mk []) [] [],fA ts ⟨false,o,n⟩)
          else (.mk 7 (e.vs.getD (jE e.ns (mk (bP ts n).x) 0).toNat 0) (mk []) [] [],⟨false,o,b8 ts n⟩):=by unfold iG; rw [hi]
      rw [hpE] at hK
      clear hpE hi
      obtain ⟨k,hkk⟩:∃ k,jE e.ns (mk (bP ts n).x) 0=k:=⟨_,rfl⟩
      rw [hkk] at hK hlo
      cases h1:decide (k < 0) with
      | true=>
        rw [h1] at hK
        refine aD rfl (.done ?_)
        simp (maxSteps:=1000000) -dsimp only [go_sem,nD,hkk,h1]
        refine aD rfl (.done ?_)
        simp (maxSteps:=1000000) -dsimp only [go_sem,oJ]
        refine dO (z:=⟨false,o,n⟩) hts.e hn ?_
        simp (maxSteps:=1000000) -dsimp only [go_sem]
        refine aD rfl (.done ?_)
        simp (maxSteps:=1000000) -dsimp only [go_sem,o6]
        refine .sel [0,1] (by simp) (by simp) rfl (.done ?_)
        simp (maxSteps:=1000000) -dsimp only [go_sem]
        rw [Bool.true_or] at hK
        exact hK
      | false=>
      rw [h1] at hK
      cases h2:decide ((e.vs.length:Int)<=k) with
      | true=>
        rw [h2] at hK
        refine aD rfl (.done ?_)
        simp (maxSteps:=1000000) -dsimp only [go_sem,nD,hkk,h1,h2]
        refine aD rfl (.done ?_)
        simp (maxSteps:=1000000) -dsimp only [go_sem,oJ]
        refine dO (z:=⟨false,o,n⟩) hts.e hn ?_
        simp (maxSteps:=1000000) -dsimp only [go_sem]
        refine aD rfl (.done ?_)
        simp (maxSteps:=1000000) -dsimp only [go_sem,o6]
        refine .sel [0,1] (by simp) (by simp) rfl (.done ?_)
        simp (maxSteps:=1000000) -dsimp only [go_sem]
        rw [Bool.or_true] at hK
        exact hK
      | false=>
      rw [h2] at hK
      have h1':0<=k:=by simpa using h1
      have h2':k < (e.vs.length:Int):=by simpa using h2
      obtain ⟨m,rfl⟩:∃ m:Nat,k=m:=⟨k.toNat,by omega⟩
      have hm:m < e.vs.length:=by omega
      have hx:e.vs[m]? = some e.vs[m]:=List.getElem?_eq_getElem hm
      have q2:=aO (row:=bU) hx
      have hv:e.vs.getD ((m:Int)).toNat 0=e.vs[m]:=by simp [List.getD_eq_getElem?_getD,hx]
      rw [hv] at hK
      have hin:=hvs _ (List.getElem_mem hm)
      generalize e.vs[m]=y at *
      refine aD rfl (.done ?_)
      simp (maxSteps:=1000000) -dsimp only [go_sem,nD,hkk,h1,h2]
      refine aD rfl (.done ?_)
      simp (maxSteps:=1000000) -dsimp only [go_sem,F2]
      refine wS hts.e hn ?_
      simp (maxSteps:=1000000) -dsimp only [go_sem]
      refine aD rfl (.done ?_)
      simp (maxSteps:=1000000) -dsimp only [go_sem,A8,↓q2]
      refine ⟨⟨by omega,by omega⟩,aD rfl (.done ?_)⟩
      simp (maxSteps:=1000000) -dsimp only [go_sem,AR]
      refine .sel [0,1] (by simp) (by simp) rfl (.done ?_)
      simp (maxSteps:=1000000) -dsimp only [go_sem]
      exact hK
end Go.Proofs.YtkpohmhenegkiaaGreatDoor
namespace Go.Proofs.YtkpohmhenegkiaaGreatDoor
open Go.W
attribute [-go_sem] bT b9 bR eC cC
abbrev Prs:Type:=Sc->List Tk->Ty->Fs->Vl × Fs
def hU (D:Sc->Ty->Prop) (P:Prs) (f:FuncId):W.Spec:=n4 (fun s t=>D s t/\f4 t.k=f) P
def y7 (D:Sc->Ty->Prop) (P:Prs):bY:=[(24,.s lH),(55,.s (hU D P 55)),(57,.s (hU D P 57)),(59,.s (hU D P 59)),
  (61,.s (hU D P 61)),(63,.s (hU D P 63)),(65,.s (hU D P 65))]
structure ParsM (D:Sc->Ty->Prop) (P:Prs):Prop where
  b:Meets Tryz.prog 55 (hU D P 55)
  t:Meets Tryz.prog 57 (hU D P 57)
  e:Meets Tryz.prog 59 (hU D P 59)
  l:Meets Tryz.prog 61 (hU D P 61)
  s:Meets Tryz.prog 63 (hU D P 63)
  n:Meets Tryz.prog 65 (hU D P 65)
theorem oE {D:Sc->Ty->Prop} {P:Prs} (h:ParsM D P):c8 Tryz.prog (y7 D P):=
  aB mOf (aB h.b (aB h.t (aB h.e (aB h.l (aB h.s (aB h.n (aA _)))))))
theorem RN (D:Sc->Ty->Prop) (P:Prs):sp (y7 D P) 24=lH:=rfl
theorem OH (D:Sc->Ty->Prop) (P:Prs) (k:Int):sp (y7 D P) (f4 k)=hU D P (f4 k):=by
  unfold f4
  cases k == 1<;>cases k == 4<;>cases k == 7<;>cases k == 5<;>cases k == 6<;>rfl
theorem IS {D:Sc->Ty->Prop} {P:Prs} {s:Sc} {ts:List Tk} {t:Ty} {z:Fs} {K:S->Hp->Prop} (h1:s.fit) (h2:TyOk t) (h3:Tks ts) (h4:z.n < ts.length) (h5:D s t) (hK:K (.va (.gs (aV (P s ts t z).1))) (gS s ts (P s ts t z).2)):hU D P (f4 t.k) [.va (.c1 (.pt 0 0)),.va (.gs [.vl (.int .i64 t.k),.vl (.int .i64 t.s),.vl (.string t.n),.fz (t.e.map aM)])] (gS s ts z) K:=⟨s,ts,t,z,by rw [aH],rfl,h1,h2,h3,h4,⟨h5,rfl⟩,hK⟩
abbrev uB (s:Sc) (ts:List Tk) (t:Ty) (l:List Vl) (z:Fs):Hp:=[P1 s z.bad z.off,gQ 114 ts z.n,.cells [.pt 0 0] 59,.cells [.vl (.int .i64 t.k),.vl (.int .i64 t.s),.vl (.string t.n),.fz (t.e.map aM)] 28,
  .cells [.vl (.int .i64 5),.vl (.int .i64 0),.vl (.string (mk [])),.sl 5 l.length,.vl (.slice none 0 0)] 32,.row (l.map aV) 32 5]
def VS (D:Sc->Ty->Prop) (P:Prs):W.Spec:=fun av H K=>∃ s ts t u l z,av=[.va (.c1 (.pt 4 0)),.va (.c1 (.pt 3 0)),.va (.c1 (.pt 2 0))]/\H=uB s ts t l z/\s.fit/\TyOk u/\Tks ts/\z.n < ts.length/\t.e=[u]/\D s u/\(l.length + 1) * 80<=140737488355328/\
  K (.tu []) (uB s ts t (l ++ [(P s ts u z).1]) (P s ts u z).2)
theorem YJ {D:Sc->Ty->Prop} {P:Prs} {s:Sc} {ts:List Tk} {t u:Ty} {l:List Vl} {z:Fs} {K:S->Hp->Prop} (h1:s.fit) (h2:TyOk u) (h3:Tks ts) (h4:z.n < ts.length) (h5:t.e=[u]) (h6:D s u) (h7:(l.length + 1) * 80<=140737488355328)
    (hK:K (.tu []) (uB s ts t (l ++ [(P s ts u z).1]) (P s ts u z).2)):VS D P [.va (.c1 (.pt 4 0)),.va (.c1 (.pt 3 0)),.va (.c1 (.pt 2 0))] (uB s ts t l z) K:=⟨s,ts,t,u,l,z,rfl,rfl,h1,h2,h3,h4,h5,h6,h7,hK⟩
theorem aGZ {D:Sc->Ty->Prop} {P:Prs} (hP:ParsM D P):Meets Tryz.prog 102 (VS D P):=by
  refine aF Tryz.func102 aFU 3 (by rw [Tryz.ntmps102]; decide) (oE hP) (fun av H K h=>by obtain ⟨_,_,_,_,_,_,rfl,_⟩:=h; rfl) ?_
  rintro av H K ⟨s,ts,t,u,l,z,rfl,rfl,hs,hu,hts,hn,he,hD,hl,hK⟩
  have z0:(0:Int) < ((1:Nat):Int):=by decide
  have z1:(0:Int)<=0:=by decide
  simp (maxSteps:=1000000) -dsimp only [go_sem,he,aH u,XJ,UM,RN,OH,forall_eq',z0,z1,List.length_cons,List.length_nil,List.take_succ_cons,List.take_zero]
  refine IS hs hu hts hn hD ?_
  generalize P s ts u z=r at *
  obtain ⟨v,z'⟩:=r
  have ha:∀ {x r:List C},(l.map aV ++ [x])[l.length]? = some r->r=x:=fun {x r} h=>by
    have h0:l.length=(l.map aV).length:=by simp
    rw [h0,List.getElem?_concat_length] at h
    exact (Option.some.inj h).symm
  have hb:∀ x:List C,(l.map aV ++ [x]).set l.length (aV v)=(l ++ [v]).map aV:=fun x=>by
    rw [List.set_append_right _ _ (by simp)]
    simp
  rw [aI] at hb
  simp (maxSteps:=1000000) -dsimp only [go_sem,aI v]
  have fin:∀ {r x:List C} (y:B),r=[.vl (.int .i64 0),.vl (.int .i64 0),.vl (.string (mk [])),.vl (.slice none 0 0),.vl (.slice none 0 0)]->W.Fin 6 K (.tu []) [P1 s z'.bad z'.off,gQ 114 ts z'.n,.cells [.pt 0 0] 59,.cells [.vl (.int .i64 t.k),.vl (.int .i64 t.s),.vl (.string t.n),.fz [[.vl (.int .i64 u.k),.vl (.int .i64 u.s),.vl (.string u.n),.fz (u.e.map aM)]]] 28,
      .cells [.vl (.int .i64 5),.vl (.int .i64 0),.vl (.string (mk [])),.sl 5 (l.length + 1),.vl (.slice none 0 0)] 32,.row ((l.map aV ++ [x]).set l.length (.vl (.int .i64 v.k) :: .vl (.int .i64 v.n) :: .vl (.string v.s) :: .fz (v.l.map aV) :: .fz (v.f.map aY) :: List.drop 5 r)) 32 5,y]:=fun {r x} y hr=>by
    subst hr
    refine .sel [0,1,2,3,4,5] (by simp) (by simp) rfl (.done ?_)
    rw [show List.drop 5 [C.vl (.int .i64 0),C.vl (.int .i64 0),C.vl (.string (mk [])),C.vl (.slice none 0 0),C.vl (.slice none 0 0)]=[] from rfl,hb x]
    simp (maxSteps:=1000000) -dsimp only [go_sem]
    have e:(l ++ [v]).length=l.length + 1:=by simp
    rw [<-e]
    have:=hK
    unfold uB at this
    rw [he] at this
    simp only [aH u,List.map_cons,List.map_nil,List.map_append] at this
    exact this
  exact ⟨hl,⟨by omega,by omega⟩,⟨by omega,fun r hr=>fin _ (ha hr)⟩,⟨by omega,by omega⟩,by omega,fun r hr=>fin _ (ha hr)⟩
end Go.Proofs.YtkpohmhenegkiaaGreatDoor
namespace Go.Proofs.YtkpohmhenegkiaaGreatDoor
open Go.W
attribute [-go_sem] bT b9 bR eC cC
def lI {α:Type} (one:α->Fs->α × Fs) (ts:List Tk):Nat->α->Fs->α × Fs
  | 0,a,z=>(a,z)
  | f + 1,a,z=>bif z.bad then (a,z) else bif d8 [44] ts (one a z).2 then lI one ts f (one a z).1 (cA [44] ts (one a z).2) else one a z
theorem nJ {α:Type} (one:α->Fs->α × Fs) (ts:List Tk) (f:Nat) (a:α) (z:Fs):lI one ts (f + 1) a z=bif z.bad then (a,z) else bif d8 [44] ts (one a z).2 then lI one ts f (one a z).1 (cA [44] ts (one a z).2) else one a z:=rfl
def fQ {α:Type} (one:α->Fs->α × Fs) (op sh:List UInt8) (ts:List Tk) (a:α) (z:Fs):α × Fs:=
  bif d8 sh ts (fJ op ts z) then (a,cA sh ts (fJ op ts z))
  else ((lI one ts (ts.length + 1) a (fJ op ts z)).1,fJ sh ts (lI one ts (ts.length + 1) a (fJ op ts z)).2)
theorem KP {w:List UInt8} {ts:List Tk} {z:Fs} (he:Ends ts) (hn:z.n < ts.length) (h:d8 w ts z=true):b8 ts z.n=z.n + 1/\z.n + 1 < ts.length/\z.bad=false:=by
  unfold d8 at h
  rw [Bool.and_eq_true] at h
  obtain ⟨h1,h2⟩:=h
  have hb:z.bad=false:=by cases hb:z.bad with
    | false=>rfl
    | true=>rw [hb] at h1; cases h1
  have hk:(bP ts z.n).k=4:=by
    unfold fC at h2
    rw [Bool.and_eq_true] at h2
    exact eq_of_beq h2.1
  have hne:¬ (z.n + 1=ts.length):=fun e=>by
    have:=(he.last _ _ (mT hn)).2 e
    rw [hk] at this; cases this
  have hlt:z.n + 1 < ts.length:=by omega
  exact ⟨if_pos hlt,hlt,hb⟩
theorem lD {ts:List Tk} {n:Nat} (h:n < ts.length):n<=b8 ts n/\b8 ts n < ts.length:=by
  unfold b8; split<;>omega
theorem tQ (ts:List Tk) (z:Fs):(fA ts z).n=z.n:=by unfold fA; cases z.bad<;>rfl
theorem jB {w:List UInt8} {ts:List Tk} {z:Fs} (h:z.n < ts.length):z.n<=(fJ w ts z).n/\(fJ w ts z).n < ts.length:=by
  unfold fJ
  cases d8 w ts z
  · rw [Bool.cond_false,tQ]; exact ⟨Nat.le_refl _,h⟩
  · exact lD h
theorem A0 {w:List UInt8} {ts:List Tk} {z:Fs} (h:z.n < ts.length):z.n<=(cA w ts z).n/\(cA w ts z).n < ts.length:=by
  unfold cA
  cases d8 w ts z
  · exact ⟨Nat.le_refl _,h⟩
  · exact lD h
def IP {α:Type} (one:α->Fs->α × Fs) (ts:List Tk):Prop:=∀ a z,z.n < ts.length->z.n<=(one a z).2.n/\(one a z).2.n < ts.length
theorem NK {α:Type} {one:α->Fs->α × Fs} {ts:List Tk} (ho:IP one ts):∀ (f:Nat) (a:α) (z:Fs),z.n < ts.length->z.n<=(lI one ts f a z).2.n/\(lI one ts f a z).2.n < ts.length
  | 0,a,z,h=>⟨Nat.le_refl _,h⟩
  | f + 1,a,z,h=>by
    rw [nJ]
    cases z.bad
    · have h1:=ho a z h
      cases d8 [44] ts (one a z).2
      · exact h1
      · have h2:=A0 (w:=[44]) h1.2
        have h3:=NK ho f (one a z).1 _ h2.2
        exact ⟨Nat.le_trans h1.1 (Nat.le_trans h2.1 h3.1),h3.2⟩
    · exact ⟨Nat.le_refl _,h⟩
theorem OZ {α:Type} {one:α->Fs->α × Fs} {ts:List Tk} (ho:IP one ts) (op sh:List UInt8) (a:α) (z:Fs) (h:z.n < ts.length):z.n<=(fQ one op sh ts a z).2.n/\(fQ one op sh ts a z).2.n < ts.length:=by
  unfold fQ
  have h1:=jB (w:=op) h
  cases d8 sh ts (fJ op ts z)
  · have h2:=NK ho (ts.length + 1) a _ h1.2
    have h3:=jB (w:=sh) h2.2
    exact ⟨Nat.le_trans h1.1 (Nat.le_trans h2.1 h3.1),h3.2⟩
  · have h2:=A0 (w:=sh) h1.2
    exact ⟨Nat.le_trans h1.1 h2.1,h2.2⟩
def jQ (P:Prs) (s:Sc) (ts:List Tk) (u:Ty):List Vl->Fs->List Vl × Fs:=fun l z=>(l ++ [(P s ts u z).1],(P s ts u z).2)
abbrev RD:S:=.va (.c1 (.fn 102 [(false,[.pt 4 0]),(false,[.pt 3 0]),(false,[.pt 2 0])]))
def W1 (D:Sc->Ty->Prop) (P:Prs):W.Spec:=fun av H K=>∃ s ts t u z op sh,av=[.va (.c1 (.pt 0 0)),tS op,tS sh,RD]/\H=uB s ts t [] z/\s.fit/\TyOk u/\Tks ts/\z.n < ts.length/\t.e=[u]/\D s u/\
  K (.tu []) (uB s ts t (fQ (jQ P s ts u) (bl op) (bl sh) ts [] z).1 (fQ (jQ P s ts u) (bl op) (bl sh) ts [] z).2)
theorem ZW {D:Sc->Ty->Prop} {P:Prs} {s:Sc} {ts:List Tk} {t u:Ty} {z:Fs} {op sh:ByteArray} {K:S->Hp->Prop} (h1:s.fit) (h2:TyOk u) (h3:Tks ts) (h4:z.n < ts.length) (h5:t.e=[u]) (h6:D s u)
    (hK:K (.tu []) (uB s ts t (fQ (jQ P s ts u) (bl op) (bl sh) ts [] z).1 (fQ (jQ P s ts u) (bl op) (bl sh) ts [] z).2)):W1 D P [.va (.c1 (.pt 0 0)),tS op,tS sh,RD] (uB s ts t [] z) K:=⟨s,ts,t,u,z,op,sh,rfl,rfl,h1,h2,h3,h4,h5,h6,hK⟩
def Prs.onw (P:Prs):Prop:=∀ s ts t z,z.n < ts.length->z.n<=(P s ts t z).2.n/\(P s ts t z).2.n < ts.length
theorem ZO {D:Sc->Ty->Prop} {P:Prs} (hP:ParsM D P) (hO:P.onw):Meets Tryz.prog 101 (W1 D P):=by
  refine aF Tryz.func101 aHB 4 (by rw [Tryz.ntmps101]; decide) (aB F6 (aB MC (aB (aGZ hP) (aA _)))) (fun av H K h=>by obtain ⟨_,_,_,_,_,_,_,rfl,_⟩:=h; rfl) ?_
  rintro av H K ⟨s,ts,t,u,z,op,sh,rfl,rfl,hs,hu,hts,hn,he,hD,hK⟩
  have onw:IP (jQ P s ts u) ts:=fun a z h=>hO s ts u z h
  have hl0:=hts.e.le
  unfold fQ at hK
  simp (maxSteps:=1000000) -dsimp only [go_sem,VB,UA]
  refine gW hts.e hn ?_
  have hn1:=(jB (w:=bl op) hn).2
  generalize fJ (bl op) ts z=z1 at *
  simp (maxSteps:=1000000) -dsimp only [go_sem]
  refine aD rfl (.done ?_)
  simp (maxSteps:=1000000) -dsimp only [go_sem,BM]
  refine oQ hts.e hn1 ?_
  cases hh:d8 (bl sh) ts z1 with
  | true=>
    rw [hh] at hK
    simp (maxSteps:=1000000) -dsimp only [go_sem]
    refine .sel [0,1,2,3,4,5] (by simp) (by simp) rfl (.done ?_)
    simp (maxSteps:=1000000) -dsimp only [go_sem]
    exact hK
  | false=>
  rw [hh] at hK
  rw [show cA (bl sh) ts z1=z1 by unfold cA; rw [hh]; rfl]
  simp (maxSteps:=1000000) -dsimp only [go_sem]
  refine aD rfl (.done ?_)
  simp (maxSteps:=1000000) -dsimp only [go_sem,BJ]
  refine aK (α:=Nat × Bool × List Vl × Fs) (fun x=>[(0,.va (.c1 (.pt 0 0))),(2,tS sh),(3,RD),(8,bS x.2.1)]) (fun x=>uB s ts t x.2.2.1 x.2.2.2)
    (fun x=>x.2.2.2.n < ts.length/\x.2.2.1.length + x.1<=ts.length + 1/\(x.2.1=true->ts.length < x.2.2.2.n + x.1)/\(bif x.2.1 then lI (jQ P s ts u) ts x.1 x.2.2.1 x.2.2.2 else (x.2.2.1,x.2.2.2))=lI (jQ P s ts u) ts (ts.length + 1) [] z1)
    (fun x=>x.1) (ts.length + 1,true,[],z1) 6 ⟨hn1,by simp,fun _=>by omega,rfl⟩ ?_ ?_ ?_
  · simp -dsimp only [go_sem]<;>simp
  · simp -dsimp only [go_sem]<;>simp
  rintro ⟨f,m,l,z⟩ ⟨h1,h2,h3,h4⟩
  simp only at h1 h2 h3 h4
  cases m with
  | false=>
    rw [Bool.cond_false] at h4
    rw [<-h4] at hK
    simp (maxSteps:=1000000) -dsimp only [go_sem]
    refine aD rfl (.done ?_)
    simp (maxSteps:=1000000) -dsimp only [go_sem,tO]
    refine gW (z:=z) hts.e h1 ?_
    simp (maxSteps:=1000000) -dsimp only [go_sem]
    refine .sel [0,1,2,3,4,5] (by simp) (by simp) rfl (.done ?_)
    simp (maxSteps:=1000000) -dsimp only [go_sem]
    exact hK
  | true=>
    rw [Bool.cond_true] at h4
    have h3:=h3 rfl
    obtain ⟨f,rfl⟩:∃ g,f=g + 1:=⟨f - 1,by omega⟩
    rw [nJ] at h4
    obtain ⟨b,o,n⟩:=z
    cases b with
    | true=>
      rw [Bool.cond_true] at h4
      rw [<-h4] at hK
      simp (maxSteps:=1000000) -dsimp only [go_sem]
      refine aD rfl (.done ?_)
      simp (maxSteps:=1000000) -dsimp only [go_sem,tO]
      refine gW (z:=⟨true,o,n⟩) hts.e h1 ?_
      simp (maxSteps:=1000000) -dsimp only [go_sem]
      refine .sel [0,1,2,3,4,5] (by simp) (by simp) rfl (.done ?_)
      simp (maxSteps:=1000000) -dsimp only [go_sem]
      exact hK
    | false=>
      rw [Bool.cond_false] at h4
      simp (maxSteps:=1000000) -dsimp only [go_sem]
      refine YJ (z:=⟨false,o,n⟩) hs hu hts h1 he hD (by omega) ?_
      have h5:=onw l ⟨false,o,n⟩ h1
      have e1:jQ P s ts u l ⟨false,o,n⟩=(l ++ [(P s ts u ⟨false,o,n⟩).1],(P s ts u ⟨false,o,n⟩).2):=rfl
      rw [e1] at h4 h5
      generalize P s ts u ⟨false,o,n⟩=r at *
      obtain ⟨v,z'⟩:=r
      simp only at h4 h5
      simp (maxSteps:=1000000) -dsimp only [go_sem]
      refine aD rfl (.done ?_)
      simp (maxSteps:=1000000) -dsimp only [go_sem,BV]
      refine oQ (z:=z') hts.e h5.2 ?_
      cases hc:d8 (bl (mk [44])) ts z' with
      | true=>
        obtain ⟨g1,g2,g3⟩:=KP hts.e h5.2 hc
        have hc':d8 [44] ts z'=true:=hc
        rw [hc',Bool.cond_true] at h4
        have e2:cA (bl (mk [44])) ts z'=⟨false,z'.off,b8 ts z'.n⟩:=by unfold cA; rw [hc]; rfl
        have e3:cA [44] ts z'=⟨false,z'.off,b8 ts z'.n⟩:=e2
        rw [e3] at h4
        rw [e2]
        simp (maxSteps:=1000000) -dsimp only [go_sem]
        refine aC (f,true,l ++ [v],⟨false,z'.off,b8 ts z'.n⟩) 6 ⟨?_,?_,?_,h4⟩ (by simp) ?_ ?_
        · simp only [g1]; exact g2
        · simp only [List.length_append,List.length_singleton]; omega
        · intro _
          have h6:=h5.1
          simp only at h6 h3 ⊢
          omega
        · simp -dsimp only [go_sem]<;>simp
        · simp -dsimp only [go_sem]<;>simp
      | false=>
        have hc':d8 [44] ts z'=false:=hc
        rw [hc',Bool.cond_false] at h4
        rw [show cA (bl (mk [44])) ts z'=z' by unfold cA; rw [hc]; rfl]
        simp (maxSteps:=1000000) -dsimp only [go_sem]
        refine aC (f,false,l ++ [v],z') 6 ⟨h5.2,?_,fun h=>(by cases h),h4⟩ (by simp) ?_ ?_
        · simp only [List.length_append,List.length_singleton]; omega
        · simp -dsimp only [go_sem]<;>simp
        · simp -dsimp only [go_sem]<;>simp
end Go.Proofs.YtkpohmhenegkiaaGreatDoor
namespace Go.Proofs.YtkpohmhenegkiaaGreatDoor
open Go.W
attribute [-go_sem] bT b9 bR eC cC
def tB (P:Prs) (s:Sc) (ts:List Tk) (u:Ty) (z:Fs):Vl × Fs:=(.mk 5 0 (mk []) (fQ (jQ P s ts u) [91] [93] ts [] z).1 [],(fQ (jQ P s ts u) [91] [93] ts [] z).2)
theorem MO {D:Sc->Ty->Prop} {P:Prs} (hP:ParsM D P) (hO:P.onw):Meets Tryz.prog 61 (n4 (fun s t=>∃ u,t.e=[u]/\TyOk u/\D s u) fun s ts t z=>tB P s ts (t.e.headD default) z):=by
  refine aF Tryz.func61 aNH 2 (by rw [Tryz.ntmps61]; decide) (aB (ZO hP hO) (aA _)) pD ?_
  rintro av H K ⟨s,ts,t,z,rfl,rfl,hs,ht,hts,hn,⟨u,he,hu,hD⟩,hK⟩
  have hK:K (.va (.gs (aV (tB P s ts u z).1))) (gS s ts (tB P s ts u z).2):=by
    have:=hK; simp only [he,List.headD_cons] at this; exact this
  unfold tB at hK
  simp (maxSteps:=1000000) -dsimp only [go_sem,aH t,aA6,aAF]
  refine aD rfl (.nilc 5 3 32 5 _ _ rfl rfl (.done ?_))
  simp (maxSteps:=1000000) -dsimp only [go_sem,EZ]
  refine ZW (t:=t) hs hu hts hn he hD ?_
  rw [show bl (mk [91])=[91] from rfl,show bl (mk [93])=[93] from rfl]
  generalize fQ (jQ P s ts u) [91] [93] ts [] z=r at *
  obtain ⟨l,z'⟩:=r
  simp (maxSteps:=1000000) -dsimp only [go_sem]
  refine aD rfl (.done ?_)
  simp (maxSteps:=1000000) -dsimp only [go_sem,HP]
  refine .pub 6 _ _ _ rfl (.sel [0,1] (by simp) (by simp [cF]) rfl (.done ?_))
  simp (maxSteps:=1000000) -dsimp only [go_sem,cF]
  rw [aI] at hK
  exact hK
end Go.Proofs.YtkpohmhenegkiaaGreatDoor
namespace Go.Proofs.YtkpohmhenegkiaaGreatDoor
open Go.W
attribute [-go_sem] bT b9 bR eC cC
abbrev nmV:S:=.va (.c1 (.fn 107 [(false,[.pt 0 0])]))
def aAP:W.Spec:=fun av H K=>∃ (f:Fl) (t:Tk),av=[.va (.gs (aR f)),.va (.c1 (.pt 0 0))]/\H=[.cells (cW t) 71]/\K (bS (bl f.nm == t.x)) [.cells (cW t) 71]
theorem aAO {f:Fl} {t:Tk} {K:S->Hp->Prop} (hK:K (bS (bl f.nm == t.x)) [.cells (cW t) 71]):aAP [.va (.gs (aR f)),.va (.c1 (.pt 0 0))] [.cells (cW t) 71] K:=⟨f,t,rfl,rfl,hK⟩
theorem aDA:Meets Tryz.prog 107 aAP:=by
  refine aF Tryz.func107 aHO 2 (by rw [Tryz.ntmps107]; decide) (aA _) (fun av H K h=>by obtain ⟨_,_,rfl,_⟩:=h; rfl) ?_
  rintro av H K ⟨f,t,rfl,rfl,hK⟩
  simp -dsimp only [go_sem,aR,cW,UG,XC]
  exact .sel [0] (by simp) (by simp) rfl (.done (by simpa [go_sem,cW] using hK))
def jP (n:List UInt8):List Fl->Nat->Int
  | [],_=>-1
  | x :: l,i=>bif bl x.nm == n then (i:Int) else jP n l (i + 1)
def NB:W.Spec:=fun av H K=>∃ (l:List Fl) (t:Tk),av=[.va (.c1 (.fz (l.map aR))),nmV]/\H=[.cells (cW t) 71]/\l.length<=9223372036854775807/\K (iS .i64 (jP t.x l 0)) [.cells (cW t) 71]
theorem aDJ {l:List Fl} {t:Tk} {K:S->Hp->Prop} (h:l.length<=9223372036854775807) (hK:K (iS .i64 (jP t.x l 0)) [.cells (cW t) 71]):NB [.va (.c1 (.fz (l.map aR))),nmV] [.cells (cW t) 71] K:=⟨l,t,rfl,rfl,h,hK⟩
theorem QN:Meets Tryz.prog 106 NB:=by
  refine aF Tryz.func106 aG6 2 (by rw [Tryz.ntmps106]; decide) (aB aDA (aA _)) (fun av H K h=>by obtain ⟨_,_,rfl,_⟩:=h; rfl) ?_
  rintro av H K ⟨l,t,rfl,rfl,hl,hK⟩
  simp -dsimp only [go_sem,TX,U0]
  refine aK (α:=Nat) (fun i=>[(0,.va (.c1 (.fz (l.map aR)))),(1,nmV),(7,iS .i64 l.length),(8,iS .i64 i)]) (fun _=>[.cells (cW t) 71])
    (fun i=>i<=l.length/\jP t.x (l.drop i) i=jP t.x l 0) (fun i=>l.length - i) 0 1 ⟨Nat.zero_le _,rfl⟩ ?_ ?_ ?_
  · simp -dsimp only [go_sem]<;>simp
  · simp -dsimp only [go_sem,cW]<;>simp
  rintro i ⟨hi,ho⟩
  rcases Nat.lt_or_ge i l.length with hlt | hge
  · have hg:decide ((i:Int) < (l.length:Int))=true:=by simp; omega
    have hx:l[i]? = some l[i]:=List.getElem?_eq_getElem hlt
    have q2:=aO (row:=aR) hx
    rw [List.drop_eq_getElem_cons hlt,jP] at ho
    generalize l[i]=y at *
    simp -dsimp only [go_sem,hg,↓q2,aR,List.take_succ_cons,List.take_zero,List.length_cons]
    refine ⟨by omega,aAO ?_⟩
    cases hc:bl y.nm == t.x with
    | true=>
      rw [hc,Bool.cond_true] at ho
      simp -dsimp only [go_sem]
      exact .sel [0] (by simp) (by simp) rfl (.done (by simpa [go_sem,cW,ho] using hK))
    | false=>
      rw [hc,Bool.cond_false] at ho
      simp -dsimp only [go_sem]
      refine ⟨by omega,aC (i + 1) 1 ⟨by omega,ho⟩ (by omega) ?_ ?_⟩
      · simp -dsimp only [go_sem]<;>simp
      · simp -dsimp only [go_sem,cW]<;>simp [cW]
  · have hg:decide ((i:Int) < (l.length:Int))=false:=by simp; omega
    have:l.drop i=[]:=List.drop_eq_nil_iff.2 (by omega)
    rw [this] at ho
    simp -dsimp only [go_sem,hg]
    exact .sel [0] (by simp) (by simp) rfl (.done (by rw [show jP t.x l 0=-1 from ho.symm] at hK; simpa [go_sem,cW] using hK))
theorem BC (n:List UInt8):∀ (l:List Fl) (i:Nat),-1<=jP n l i/\jP n l i < (l.length:Int) + i
  | [],_=>⟨by simp [jP],by simp only [jP,List.length_nil]; omega⟩
  | y :: l,i=>by
    have:=BC n l (i + 1)
    rw [jP]
    cases bl y.nm == n with
    | true=>exact ⟨by simp only [Bool.cond_true]; omega,by simp only [Bool.cond_true,List.length_cons]; omega⟩
    | false=>exact ⟨by simp only [Bool.cond_false]; omega,by simp only [Bool.cond_false,List.length_cons]; omega⟩
end Go.Proofs.YtkpohmhenegkiaaGreatDoor
namespace Go.Proofs.YtkpohmhenegkiaaGreatDoor
open Go.W
attribute [-go_sem] bT b9 bR eC cC
def nX (D:Sc->Ty->Prop) (P:Prs):bY:=(30,.s (bT 114)) :: (100,.s (b9 114)) :: (31,.s mC) :: (108,.s sT) :: (106,.s NB) :: y7 D P
theorem I6 {D:Sc->Ty->Prop} {P:Prs} (h:ParsM D P):c8 Tryz.prog (nX D P):=aB pS (aB D6 (aB pB (aB F6 (aB QN (oE h)))))
theorem SK (D:Sc->Ty->Prop) (P:Prs):sp (nX D P) 24=lH:=rfl
theorem ST (D:Sc->Ty->Prop) (P:Prs):sp (nX D P) 30=bT 114:=rfl
theorem R5 (D:Sc->Ty->Prop) (P:Prs):sp (nX D P) 100=b9 114:=rfl
theorem wA (D:Sc->Ty->Prop) (P:Prs):sp (nX D P) 31=mC:=rfl
theorem QF (D:Sc->Ty->Prop) (P:Prs):sp (nX D P) 108=sT:=rfl
theorem Q0 (D:Sc->Ty->Prop) (P:Prs):sp (nX D P) 106=NB:=rfl
theorem OF (D:Sc->Ty->Prop) (P:Prs) (k:Int):sp (nX D P) (f4 k)=hU D P (f4 k):=by
  unfold f4
  cases k == 1<;>cases k == 4<;>cases k == 7<;>cases k == 5<;>cases k == 6<;>rfl
abbrev JT:Type:=Int × List (Int × Vl)
abbrev uK (s:Sc) (ts:List Tk) (u:St) (a:JT) (z:Fs):Hp:=[P1 s z.bad z.off,gQ 114 ts z.n,.cells [.pt 0 0] 59,
  .cells [.vl (.int .i64 6),.vl (.int .i64 0),.vl (.string (mk [])),.vl (.slice none 0 0),.sl 6 a.2.length] 32,.cells [.vl (.string u.nm),.fz (u.fs.map aR)] 95,.cells [.vl (.int .i64 a.1)] 3,.row (a.2.map aY) 57 6]
def e7 (ts:List Tk) (u:St) (z:Fs):Int:=jP (bP ts z.n).x u.fs 0
def pE (ts:List Tk) (u:St) (last:Int) (z:Fs):Bool:=(bP ts z.n).k != 1 || decide (e7 ts u z < 0) || decide ((u.fs.getD (e7 ts u z).toNat default).num<=last)
def qF (ts:List Tk) (z:Fs):Fs:=fJ [61] ts ⟨z.bad,z.off,b8 ts z.n⟩
def eW (P:Prs) (s:Sc) (ts:List Tk) (u:St):JT->Fs->JT × Fs:=fun a z=>
  bif pE ts u a.1 z then (a,fA ts z)
  else (((u.fs.getD (e7 ts u z).toNat default).num,a.2 ++ [((u.fs.getD (e7 ts u z).toNat default).num,(P s ts (u.fs.getD (e7 ts u z).toNat default).ty (qF ts z)).1)]),(P s ts (u.fs.getD (e7 ts u z).toNat default).ty (qF ts z)).2)
def NX (D:Sc->Ty->Prop) (P:Prs):W.Spec:=fun av H K=>∃ s ts u a z,av=[.va (.c1 (.pt 2 0)),.va (.c1 (.pt 4 0)),.va (.c1 (.pt 5 0)),.va (.c1 (.pt 3 0))]/\H=uK s ts u a z/\s.fit/\Tks ts/\z.n < ts.length/\u.fs.length<=9223372036854775807/\(∀ f ∈ u.fs,TyOk f.ty/\D s f.ty)/\(a.2.length + 1) * 88<=140737488355328/\
  K (.tu []) (uK s ts u (eW P s ts u a z).1 (eW P s ts u a z).2)
theorem R6 {D:Sc->Ty->Prop} {P:Prs} {s:Sc} {ts:List Tk} {u:St} {a:JT} {z:Fs} {K:S->Hp->Prop} (h1:s.fit) (h3:Tks ts) (h4:z.n < ts.length) (h5:u.fs.length<=9223372036854775807) (h6:∀ f ∈ u.fs,TyOk f.ty/\D s f.ty) (h7:(a.2.length + 1) * 88<=140737488355328)
    (hK:K (.tu []) (uK s ts u (eW P s ts u a z).1 (eW P s ts u a z).2)):NX D P [.va (.c1 (.pt 2 0)),.va (.c1 (.pt 4 0)),.va (.c1 (.pt 5 0)),.va (.c1 (.pt 3 0))] (uK s ts u a z) K:=⟨s,ts,u,a,z,rfl,rfl,h1,h3,h4,h5,h6,h7,hK⟩
theorem aIH {D:Sc->Ty->Prop} {P:Prs} (hP:ParsM D P):Meets Tryz.prog 105 (NX D P):=by
  refine aF Tryz.func105 aIM 4 (by rw [Tryz.ntmps105]; decide) (I6 hP) (fun av H K h=>by obtain ⟨_,_,_,_,_,rfl,_⟩:=h; rfl) ?_
  rintro av H K ⟨s,ts,u,⟨last,F⟩,z,rfl,rfl,hs,hts,hn,hul,hD,hl,hK⟩
  unfold eW at hK
  simp only at hK hl
  simp (maxSteps:=1000000) -dsimp only [go_sem,TY,U2,ST]
  refine jW hts.e hn ?_
  simp (maxSteps:=1000000) -dsimp only [go_sem,cW]
  refine aD rfl (.done ?_)
  simp (maxSteps:=1000000) -dsimp only [go_sem,AT,Q0]
  refine aDJ (t:=bP ts z.n) hul ?_
  simp (maxSteps:=1000000) -dsimp only [go_sem]
  refine aD rfl (.done ?_)
  rw [show jP (bP ts z.n).x u.fs 0=e7 ts u z from rfl]
  have hlo:-1<=e7 ts u z/\e7 ts u z < (u.fs.length:Int) + (0:Nat):=BC _ _ _
  have hbad:pE ts u last z=((bP ts z.n).k != 1 || decide (e7 ts u z < 0) || decide ((u.fs.getD (e7 ts u z).toNat default).num<=last)):=rfl
  obtain ⟨k,hk⟩:∃ k,e7 ts u z=k:=⟨_,rfl⟩
  rw [hk] at hK hlo hbad
  have hlt:=hlo.2
  cases h1:(bP ts z.n).k != 1 with
  | true=>
    rw [h1,Bool.true_or,Bool.true_or] at hbad
    rw [hbad,Bool.cond_true] at hK
    simp (maxSteps:=1000000) -dsimp only [go_sem,mN,h1]
    refine aD rfl (.done ?_)
    simp (maxSteps:=1000000) -dsimp only [go_sem,oW,wA]
    refine dO hts.e hn ?_
    simp (maxSteps:=1000000) -dsimp only [go_sem]
    refine .sel [0,1,2,3,4,5,6] (by simp) (by simp) rfl (.done ?_)
    simp (maxSteps:=1000000) -dsimp only [go_sem]
    exact hK
  | false=>
    cases h2:decide (k < 0) with
    | true=>
      rw [h1,h2,Bool.or_true,Bool.true_or] at hbad
      rw [hbad,Bool.cond_true] at hK
      simp (maxSteps:=1000000) -dsimp only [go_sem,mN,h1,hk,h2]
      refine aD rfl (.done ?_)
      simp (maxSteps:=1000000) -dsimp only [go_sem,oW,wA]
      refine dO hts.e hn ?_
      simp (maxSteps:=1000000) -dsimp only [go_sem]
      refine .sel [0,1,2,3,4,5,6] (by simp) (by simp) rfl (.done ?_)
      simp (maxSteps:=1000000) -dsimp only [go_sem]
      exact hK
    | false=>
    have h2':0<=k:=by simpa using h2
    obtain ⟨m,rfl⟩:∃ m:Nat,k=m:=⟨k.toNat,by omega⟩
    have hm:m < u.fs.length:=by omega
    have hx:u.fs[m]? = some u.fs[m]:=List.getElem?_eq_getElem hm
    have q1:=o8 (row:=aR) hx
    have q2:=aO (row:=aR) hx
    have hv:u.fs.getD ((m:Int)).toNat default=u.fs[m]:=by simp [List.getD_eq_getElem?_getD,hx]
    rw [hv] at hK hbad
    obtain ⟨hto,hDf⟩:=hD _ (List.getElem_mem hm)
    generalize u.fs[m]=d at *
    rw [h1,h2,Bool.false_or,Bool.false_or] at hbad
    cases h3:decide (d.num<=last) with
    | true=>
      rw [h3] at hbad
      rw [hbad,Bool.cond_true] at hK
      simp (maxSteps:=1000000) -dsimp only [go_sem,mN,h1,hk,h2,↓q2,aR,h3]
      refine ⟨⟨by omega,by omega⟩,aD rfl (.done ?_)⟩
      simp (maxSteps:=1000000) -dsimp only [go_sem,oW,wA]
      refine dO hts.e hn ?_
      simp (maxSteps:=1000000) -dsimp only [go_sem]
      refine .sel [0,1,2,3,4,5,6] (by simp) (by simp) rfl (.done ?_)
      simp (maxSteps:=1000000) -dsimp only [go_sem]
      exact hK
    | false=>
      rw [h3] at hbad
      rw [hbad,Bool.cond_false] at hK
      simp (maxSteps:=1000000) -dsimp only [go_sem,mN,h1,hk,h2,↓q2,aR,h3]
      refine ⟨⟨by omega,by omega⟩,aD rfl (.done ?_)⟩
      simp (maxSteps:=1000000) -dsimp only [go_sem,BI,R5]
      refine wS hts.e hn ?_
      simp (maxSteps:=1000000) -dsimp only [go_sem]
      refine aD rfl (.done ?_)
      simp (maxSteps:=1000000) -dsimp only [go_sem,AK,QF]
      refine gW (z:=⟨z.bad,z.off,b8 ts z.n⟩) hts.e (lD hn).2 ?_
      rw [show fJ (bl (mk [61])) ts ⟨z.bad,z.off,b8 ts z.n⟩=qF ts z from rfl]
      have hn2:(qF ts z).n < ts.length:=(jB (w:=[61]) (z:=⟨z.bad,z.off,b8 ts z.n⟩) (lD hn).2).2
      generalize qF ts z=z1 at *
      simp (maxSteps:=1000000) -dsimp only [go_sem]
      refine aD rfl (.done ?_)
      simp (maxSteps:=1000000) -dsimp only [go_sem,AC,↓q2,aR,List.take_succ_cons,List.take_zero,List.length_cons]
      refine ⟨⟨by omega,by omega⟩,?_⟩
      refine aD rfl (.done ?_)
      simp (maxSteps:=1000000) -dsimp only [go_sem,AX]
      refine aD rfl (.done ?_)
      simp (maxSteps:=1000000) -dsimp only [go_sem,BL,SK,OF]
      refine IS hs hto hts hn2 hDf ?_
      generalize P s ts d.ty z1=r at *
      obtain ⟨v,z'⟩:=r
      have ha:∀ {x r:List C},(F.map aY ++ [x])[F.length]? = some r->r=x:=fun {x r} h=>by
        have h0:F.length=(F.map aY).length:=by simp
        rw [h0,List.getElem?_concat_length] at h
        exact (Option.some.inj h).symm
      have hb:∀ x:List C,(F.map aY ++ [x]).set F.length (aY (d.num,v))=(F ++ [(d.num,v)]).map aY:=fun x=>by
        rw [List.set_append_right _ _ (by simp)]
        simp
      unfold aY at hb
      rw [aI] at hb
      simp (maxSteps:=1000000) -dsimp only [go_sem,aI v]
      have fin:∀ {r x:List C} (y1 y2 y3:B),r=[.vl (.int .i64 0),.vl (.int .i64 0),.vl (.int .i64 0),.vl (.string (mk [])),.vl (.slice none 0 0),.vl (.slice none 0 0)]->W.Fin 7 K (.tu []) [P1 s z'.bad z'.off,gQ 114 ts z'.n,.cells [.pt 0 0] 59,
          .cells [.vl (.int .i64 6),.vl (.int .i64 0),.vl (.string (mk [])),.vl (.slice none 0 0),.sl 6 (F.length + 1)] 32,.cells [.vl (.string u.nm),.fz (u.fs.map aR)] 95,.cells [.vl (.int .i64 d.num)] 3,
          .row ((F.map aY ++ [x]).set F.length (.vl (.int .i64 d.num) :: .vl (.int .i64 v.k) :: .vl (.int .i64 v.n) :: .vl (.string v.s) :: .fz (v.l.map aV) :: .fz (v.f.map aY) :: List.drop 6 r)) 57 6,y1,y2,y3]:=fun {r x} y1 y2 y3 hr=>by
        subst hr
        refine .sel [0,1,2,3,4,5,6] (by simp) (by simp) rfl (.done ?_)
        rw [show List.drop 6 [C.vl (.int .i64 0),C.vl (.int .i64 0),C.vl (.int .i64 0),C.vl (.string (mk [])),C.vl (.slice none 0 0),C.vl (.slice none 0 0)]=[] from rfl]
        have hb:=hb x
        simp (maxSteps:=1000000) -dsimp only [go_sem]
        have e:(F ++ [(d.num,v)]).length=F.length + 1:=by simp
        have:=hK
        unfold uK at this
        simp only [e] at this
        unfold aY at hb this ⊢
        rw [<-hb] at this
        exact this
      exact ⟨hl,⟨by omega,by omega⟩,⟨by omega,fun r hr=>fin _ _ _ (ha hr)⟩,⟨by omega,by omega⟩,by omega,fun r hr=>fin _ _ _ (ha hr)⟩
end Go.Proofs.YtkpohmhenegkiaaGreatDoor
namespace Go.Proofs.YtkpohmhenegkiaaGreatDoor
open Go.W
def wQ:PC:=.gh (.reg [.v 23 0,.a 24 (.cl 128 [(.t 23),(.k (.string (mk [44])))] [0,1]),.v 8 24])
@[go_sem ↓] theorem aHD:aT wQ:=aU _
def p8:PC:=.gh (.reg [.v 27 0,.v 28 2,.a 29 (.cl 108 [(.t 27),(.t 28)] [0,1])])
@[go_sem ↓] theorem aF8:aT p8:=aU _
def vT:PC:=.seq (.seq (.gh (.reg [.q 8 (.mv (.k (.bool true)))])) (.block 0 (.loop (.seq (.seq (.reg [.v 15 8,.v 16 15,⟨some 17,(some (16,true)),.q (.mv (.t 0))⟩,⟨some 18,(some (16,true)),.q (.nc (.t 17))⟩,⟨some 19,(some (16,true)),.q (.fa 4 (.t 18))⟩,⟨some 20,(some (16,true)),.l (.ld1 (.t 19))⟩,⟨some 21,(some (16,true)),.q (.not (.t 20))⟩,.a 22 (.pick (.t 16) (.t 21) (.k (.bool false)))]) (.cond (.t 22) .skip (.exit 0))) (.seq (.block 1 (.reg [.v 25 3,.a 26 (.ca (.t 25) [] [0,1,2,3,4,5,6])])) (wQ)))))) (p8)
@[go_sem ↓] theorem aHW:aT vT:=aU _
def vV:PC:=.seq (.seq (.gh (.reg [.v 12 0,.v 13 2,.a 14 (.cl 128 [(.t 12),(.t 13)] [0,1])])) (.cond (.t 14) .ret .skip)) (vT)
@[go_sem ↓] theorem aH3:aT vV:=aU _
def QD:PC:=.seq (.reg [.v 9 0,.v 10 1,.a 11 (.cl 108 [(.t 9),(.t 10)] [0,1])]) (vV)
def N1:List RV:=[]
theorem aBU:aN Tryz.prog true ⟨fun r k=>if r=0/\k=2 then .own [0,1] else if r=1/\k=2 then .own [0,1] else if r=5/\k=1 then .own [0,1,2,3,4,5,6] else if r=4/\k=1 then .own [0,1] else if r=6/\k=2 then .own [0,1] else .own [],fun r=>[1,2,4,6].contains r⟩ Tryz.f101=some (QD,N1):=by kernel_rfl
end Go.Proofs.YtkpohmhenegkiaaGreatDoor
namespace Go.Proofs.YtkpohmhenegkiaaGreatDoor
open Go.W
attribute [-go_sem] bT b9 bR eC cC
abbrev NH:S:=.va (.c1 (.fn 105 [(false,[.pt 2 0]),(false,[.pt 4 0]),(false,[.pt 5 0]),(false,[.pt 3 0])]))
theorem EY {P:Prs} (hO:P.onw) {s:Sc} {ts:List Tk} {u:St}:IP (eW P s ts u) ts:=fun a z h=>by
  unfold eW
  cases pE ts u a.1 z
  · have h1:z.n<=(qF ts z).n/\(qF ts z).n < ts.length:=by
      have h2:=lD h
      have h3:=jB (w:=[61]) (ts:=ts) (z:=⟨z.bad,z.off,b8 ts z.n⟩) h2.2
      exact ⟨Nat.le_trans h2.1 h3.1,h3.2⟩
    have h2:=hO s ts (u.fs.getD (e7 ts u z).toNat default).ty (qF ts z) h1.2
    exact ⟨Nat.le_trans h1.1 h2.1,h2.2⟩
  · rw [Bool.cond_true,tQ]; exact ⟨Nat.le_refl _,h⟩
theorem aAT (P:Prs) (s:Sc) (ts:List Tk) (u:St) (a:JT) (z:Fs):(eW P s ts u a z).1.2.length<=a.2.length + 1:=by
  unfold eW
  cases pE ts u a.1 z
  · rw [Bool.cond_false]; simp
  · rw [Bool.cond_true]; exact Nat.le_succ _
def OW (D:Sc->Ty->Prop) (P:Prs):W.Spec:=fun av H K=>∃ s ts u z op sh,av=[.va (.c1 (.pt 0 0)),tS op,tS sh,NH]/\H=uK s ts u (0,[]) z/\s.fit/\Tks ts/\z.n < ts.length/\u.fs.length<=9223372036854775807/\(∀ f ∈ u.fs,TyOk f.ty/\D s f.ty)/\
  K (.tu []) (uK s ts u (fQ (eW P s ts u) (bl op) (bl sh) ts (0,[]) z).1 (fQ (eW P s ts u) (bl op) (bl sh) ts (0,[]) z).2)
theorem SM {D:Sc->Ty->Prop} {P:Prs} {s:Sc} {ts:List Tk} {u:St} {z:Fs} {op sh:ByteArray} {K:S->Hp->Prop} (h1:s.fit) (h3:Tks ts) (h4:z.n < ts.length) (h5:u.fs.length<=9223372036854775807) (h6:∀ f ∈ u.fs,TyOk f.ty/\D s f.ty)
    (hK:K (.tu []) (uK s ts u (fQ (eW P s ts u) (bl op) (bl sh) ts (0,[]) z).1 (fQ (eW P s ts u) (bl op) (bl sh) ts (0,[]) z).2)):OW D P [.va (.c1 (.pt 0 0)),tS op,tS sh,NH] (uK s ts u (0,[]) z) K:=⟨s,ts,u,z,op,sh,rfl,rfl,h1,h3,h4,h5,h6,hK⟩
theorem S1 {D:Sc->Ty->Prop} {P:Prs} (hP:ParsM D P) (hO:P.onw):Meets Tryz.prog 101 (OW D P):=by
  refine aF Tryz.func101 aBU 4 (by rw [Tryz.ntmps101]; decide) (aB F6 (aB MC (aB (aIH hP) (aA _)))) (fun av H K h=>by obtain ⟨_,_,_,_,_,_,rfl,_⟩:=h; rfl) ?_
  rintro av H K ⟨s,ts,u,z,op,sh,rfl,rfl,hs,hts,hn,hul,hD,hK⟩
  have onw:IP (eW P s ts u) ts:=EY hO
  have hl0:=hts.e.le
  unfold fQ at hK
  simp (maxSteps:=1000000) -dsimp only [go_sem,QD,N1]
  refine gW hts.e hn ?_
  have hn1:=(jB (w:=bl op) hn).2
  generalize fJ (bl op) ts z=z1 at *
  simp (maxSteps:=1000000) -dsimp only [go_sem]
  refine aD rfl (.done ?_)
  simp (maxSteps:=1000000) -dsimp only [go_sem,vV]
  refine oQ hts.e hn1 ?_
  cases hh:d8 (bl sh) ts z1 with
  | true=>
    rw [hh] at hK
    simp (maxSteps:=1000000) -dsimp only [go_sem]
    refine .sel [0,1,2,3,4,5,6] (by simp) (by simp) rfl (.done ?_)
    simp (maxSteps:=1000000) -dsimp only [go_sem]
    exact hK
  | false=>
  rw [hh] at hK
  rw [show cA (bl sh) ts z1=z1 by unfold cA; rw [hh]; rfl]
  simp (maxSteps:=1000000) -dsimp only [go_sem]
  refine aD rfl (.done ?_)
  simp (maxSteps:=1000000) -dsimp only [go_sem,vT]
  refine aK (α:=Nat × Bool × JT × Fs) (fun x=>[(0,.va (.c1 (.pt 0 0))),(2,tS sh),(3,NH),(8,bS x.2.1)]) (fun x=>uK s ts u x.2.2.1 x.2.2.2)
    (fun x=>x.2.2.2.n < ts.length/\x.2.2.1.2.length + x.1<=ts.length + 1/\(x.2.1=true->ts.length < x.2.2.2.n + x.1)/\(bif x.2.1 then lI (eW P s ts u) ts x.1 x.2.2.1 x.2.2.2 else (x.2.2.1,x.2.2.2))=lI (eW P s ts u) ts (ts.length + 1) (0,[]) z1)
    (fun x=>x.1) (ts.length + 1,true,(0,[]),z1) 7 ⟨hn1,by simp,fun _=>by omega,rfl⟩ ?_ ?_ ?_
  · simp -dsimp only [go_sem]<;>simp
  · simp -dsimp only [go_sem]<;>simp
  rintro ⟨f,m,l,z⟩ ⟨h1,h2,h3,h4⟩
  simp only at h1 h2 h3 h4
  cases m with
  | false=>
    rw [Bool.cond_false] at h4
    rw [<-h4] at hK
    simp (maxSteps:=1000000) -dsimp only [go_sem]
    refine aD rfl (.done ?_)
    simp (maxSteps:=1000000) -dsimp only [go_sem,p8]
    refine gW (z:=z) hts.e h1 ?_
    simp (maxSteps:=1000000) -dsimp only [go_sem]
    refine .sel [0,1,2,3,4,5,6] (by simp) (by simp) rfl (.done ?_)
    simp (maxSteps:=1000000) -dsimp only [go_sem]
    exact hK
  | true=>
    rw [Bool.cond_true] at h4
    have h3:=h3 rfl
    obtain ⟨f,rfl⟩:∃ g,f=g + 1:=⟨f - 1,by omega⟩
    rw [nJ] at h4
    obtain ⟨b,o,n⟩:=z
    cases b with
    | true=>
      rw [Bool.cond_true] at h4
      rw [<-h4] at hK
      simp (maxSteps:=1000000) -dsimp only [go_sem]
      refine aD rfl (.done ?_)
      simp (maxSteps:=1000000) -dsimp only [go_sem,p8]
      refine gW (z:=⟨true,o,n⟩) hts.e h1 ?_
      simp (maxSteps:=1000000) -dsimp only [go_sem]
      refine .sel [0,1,2,3,4,5,6] (by simp) (by simp) rfl (.done ?_)
      simp (maxSteps:=1000000) -dsimp only [go_sem]
      exact hK
    | false=>
      rw [Bool.cond_false] at h4
      simp (maxSteps:=1000000) -dsimp only [go_sem]
      refine R6 (z:=⟨false,o,n⟩) hs hts h1 hul hD (by omega) ?_
      have h5:=onw l ⟨false,o,n⟩ h1
      have h7:=aAT P s ts u l ⟨false,o,n⟩
      generalize eW P s ts u l ⟨false,o,n⟩=r at *
      obtain ⟨l',z'⟩:=r
      simp only at h7
      simp only at h4 h5
      simp (maxSteps:=1000000) -dsimp only [go_sem]
      refine aD rfl (.done ?_)
      simp (maxSteps:=1000000) -dsimp only [go_sem,wQ]
      refine oQ (z:=z') hts.e h5.2 ?_
      cases hc:d8 (bl (mk [44])) ts z' with
      | true=>
        obtain ⟨g1,g2,g3⟩:=KP hts.e h5.2 hc
        have hc':d8 [44] ts z'=true:=hc
        rw [hc',Bool.cond_true] at h4
        have e2:cA (bl (mk [44])) ts z'=⟨false,z'.off,b8 ts z'.n⟩:=by unfold cA; rw [hc]; rfl
        have e3:cA [44] ts z'=⟨false,z'.off,b8 ts z'.n⟩:=e2
        rw [e3] at h4
        rw [e2]
        simp (maxSteps:=1000000) -dsimp only [go_sem]
        refine aC (f,true,l',⟨false,z'.off,b8 ts z'.n⟩) 7 ⟨?_,?_,?_,h4⟩ (by simp) ?_ ?_
        · simp only [g1]; exact g2
        · simp only; omega
        · intro _
          have h6:=h5.1
          simp only at h6 h3 ⊢
          omega
        · simp -dsimp only [go_sem]<;>simp
        · simp -dsimp only [go_sem]<;>simp
      | false=>
        have hc':d8 [44] ts z'=false:=hc
        rw [hc',Bool.cond_false] at h4
        rw [show cA (bl (mk [44])) ts z'=z' by unfold cA; rw [hc]; rfl]
        simp (maxSteps:=1000000) -dsimp only [go_sem]
        refine aC (f,false,l',z') 7 ⟨h5.2,?_,fun h=>(by cases h),h4⟩ (by simp) ?_ ?_
        · simp only; omega
        · simp -dsimp only [go_sem]<;>simp
        · simp -dsimp only [go_sem]<;>simp
end Go.Proofs.YtkpohmhenegkiaaGreatDoor
namespace Go.Proofs.YtkpohmhenegkiaaGreatDoor
open Go.W
attribute [-go_sem] bT b9 bR eC cC
def stOf (s:Sc) (t:Ty):St:=(fS s.ss t.n).getD default
def mO (P:Prs) (s:Sc) (ts:List Tk) (u:St) (z:Fs):Vl × Fs:=(.mk 6 0 (mk []) [] (fQ (eW P s ts u) [123] [125] ts (0,[]) z).1.2,(fQ (eW P s ts u) [123] [125] ts (0,[]) z).2)
theorem iZ {s:Sc} (hs:s.fit) (t:Ty):(stOf s t).ok:=by
  unfold stOf
  cases h:fS s.ss t.n with
  | none=>exact ⟨by decide,by decide,fun _ h=>(by cases h)⟩
  | some u=>exact hs.ok.ss u (List.mem_of_find?_eq_some h)
theorem IA {D:Sc->Ty->Prop} {P:Prs} (hP:ParsM D P) (hO:P.onw):Meets Tryz.prog 63 (n4 (fun s t=>∀ f ∈ (stOf s t).fs,D s f.ty) fun s ts t z=>mO P s ts (stOf s t) z):=by
  refine aF Tryz.func63 aJ8 2 (by rw [Tryz.ntmps63]; decide) (aB mY (aB (S1 hP hO) (aA _))) pD ?_
  rintro av H K ⟨s,ts,t,z,rfl,rfl,hs,ht,hts,hn,hD,hK⟩
  have hok:=iZ hs t
  have hK:K (.va (.gs (aV (mO P s ts (stOf s t) z).1))) (gS s ts (mO P s ts (stOf s t) z).2):=hK
  simp (maxSteps:=1000000) -dsimp only [go_sem,aH t,aC6,aE6]
  refine gP hs ?_
  rw [show (fS s.ss t.n).getD default=stOf s t from rfl]
  generalize stOf s t=u at *
  unfold mO at hK
  simp (maxSteps:=1000000) -dsimp only [go_sem,aL]
  refine aD rfl (.done ?_)
  simp (maxSteps:=1000000) -dsimp only [go_sem,FL]
  refine aD rfl (.nilc 5 4 57 6 _ _ rfl rfl (.done ?_))
  simp (maxSteps:=1000000) -dsimp only [go_sem,IN]
  refine SM (u:=u) hs hts hn hok.len (fun f hf=>⟨(hok.fs f hf).ty,hD f hf⟩) ?_
  rw [show bl (mk [123])=[123] from rfl,show bl (mk [125])=[125] from rfl]
  generalize fQ (eW P s ts u) [123] [125] ts (0,[]) z=r at *
  obtain ⟨⟨last,F⟩,z'⟩:=r
  simp (maxSteps:=1000000) -dsimp only [go_sem]
  refine aD rfl (.done ?_)
  simp (maxSteps:=1000000) -dsimp only [go_sem,FN]
  refine .pub 8 _ _ _ rfl (.sel [0,1] (by simp) (by simp [cF]) rfl (.done ?_))
  simp (maxSteps:=1000000) -dsimp only [go_sem,cF]
  rw [aI] at hK
  exact hK
end Go.Proofs.YtkpohmhenegkiaaGreatDoor
namespace Go.Proofs.YtkpohmhenegkiaaGreatDoor
open Go.W
def dP:Nat->Sc->Ty->Prop
  | 0,_,_=>False
  | N + 1,s,t=>((t.k == 5)=true->∃ u,t.e=[u]/\TyOk u/\dP N s u)/\((t.k == 6)=true->∀ f ∈ (stOf s t).fs,dP N s f.ty)
def pP:Nat->Prs
  | 0=>fun _ _ _ z=>(default,z)
  | N + 1=>fun s ts t z=>bif t.k == 1 then iF ts z else bif t.k == 4 then MP ts z else bif t.k == 7 then iG ((bX s.es t.n).getD default) ts z
      else bif t.k == 5 then tB (pP N) s ts (t.e.headD default) z else bif t.k == 6 then mO (pP N) s ts (stOf s t) z else SA t.k ts z
theorem jD (N:Nat) (s:Sc) (ts:List Tk) (t:Ty) (z:Fs):pP (N + 1) s ts t z=bif t.k == 1 then iF ts z else bif t.k == 4 then MP ts z else bif t.k == 7 then iG ((bX s.es t.n).getD default) ts z
      else bif t.k == 5 then tB (pP N) s ts (t.e.headD default) z else bif t.k == 6 then mO (pP N) s ts (stOf s t) z else SA t.k ts z:=rfl
theorem KQ {k:Int} {ts:List Tk} {z:Fs} (h:z.n < ts.length):z.n<=(nY k ts z).n/\(nY k ts z).n < ts.length:=by
  unfold nY
  cases iR k ts z
  · rw [Bool.cond_false,tQ]; exact ⟨Nat.le_refl _,h⟩
  · exact lD h
theorem AP:∀ N,(pP N).onw
  | 0=>fun s ts t z h=>⟨Nat.le_refl _,h⟩
  | N + 1=>fun s ts t z h=>by
    have hf:z.n<=(fA ts z).n/\(fA ts z).n < ts.length:=by rw [tQ]; exact ⟨Nat.le_refl _,h⟩
    have hx:=lD h
    rw [jD]
    cases t.k == 1 with
    | true=>
      rw [Bool.cond_true]; unfold iF
      cases (!z.bad && fC 1 sZ (bP ts z.n))<;>cases (!z.bad && fC 1 oS (bP ts z.n))<;>first | exact hx | exact hf
    | false=>
    cases t.k == 4 with
    | true=>exact KQ h
    | false=>
    cases t.k == 7 with
    | true=>
      rw [Bool.cond_false,Bool.cond_false,Bool.cond_true]; unfold iG
      cases (decide (lJ ((bX s.es t.n).getD default) ts z < 0) || decide ((((bX s.es t.n).getD default).vs.length:Int)<=lJ ((bX s.es t.n).getD default) ts z))<;>first | exact hx | exact hf
    | false=>
    cases t.k == 5 with
    | true=>exact OZ (one:=jQ (pP N) s ts (t.e.headD default)) (fun a z h=>AP N s ts _ z h) [91] [93] [] z h
    | false=>
    cases t.k == 6 with
    | true=>exact OZ (one:=eW (pP N) s ts (stOf s t)) (EY (AP N)) [123] [125] (0,[]) z h
    | false=>exact KQ h
theorem mR {f:FuncId} {D D':Sc->Ty->Prop} {P P':Prs} (h:Meets Tryz.prog f (n4 D P)) (hd:∀ s t,D' s t->D s t/\∀ ts z,P s ts t z=P' s ts t z):Meets Tryz.prog f (n4 D' P'):=
  eM (0:Nat) (fun (_:Nat)=>h) fun av H K ⟨s,ts,t,z,h1,h2,h3,h4,h5,h6,h7,h8⟩=>⟨0,s,ts,t,z,h1,h2,h3,h4,h5,h6,(hd s t h7).1,by rw [(hd s t h7).2]; exact h8⟩
theorem mP (k:Int):(f4 k=55->(k == 1)=true)/\(f4 k=57->(k == 1)=false/\(k == 4)=true)/\(f4 k=59->(k == 1)=false/\(k == 4)=false/\(k == 7)=true)/\
    (f4 k=61->(k == 1)=false/\(k == 4)=false/\(k == 7)=false/\(k == 5)=true)/\(f4 k=63->(k == 1)=false/\(k == 4)=false/\(k == 7)=false/\(k == 5)=false/\(k == 6)=true)/\
    (f4 k=65->(k == 1)=false/\(k == 4)=false/\(k == 7)=false/\(k == 5)=false/\(k == 6)=false):=by
  unfold f4
  cases k == 1<;>cases k == 4<;>cases k == 7<;>cases k == 5<;>cases k == 6<;>refine ⟨?_,?_,?_,?_,?_,?_⟩<;>intro h<;>first | (exact absurd h (by decide)) | simp
theorem mK {f:FuncId} {P:Prs} {g:FuncId} (h:m9 Tryz.prog f=true):Meets Tryz.prog f (hU (dP 0) P g):=⟨h,by rintro xs vs E ro w K _ _ _ ⟨_,_,_,_,_,_,_,_,_,_,⟨h,_⟩,_⟩; exact h.elim⟩
theorem WC:∀ N,ParsM (dP N) (pP N)
  | 0=>⟨mK (by kernel_rfl),mK (by kernel_rfl),mK (by kernel_rfl),mK (by kernel_rfl),mK (by kernel_rfl),mK (by kernel_rfl)⟩
  | N + 1=>by
    have ih:=WC N
    have hN:=AP N
    refine ⟨mR LT ?_,mR LU ?_,mR ME ?_,mR (MO ih hN) ?_,mR (IA ih hN) ?_,mR HY ?_⟩
    · rintro s t ⟨hD,hk⟩
      have h1:=(mP t.k).1 hk
      exact ⟨trivial,fun ts z=>by rw [jD,h1,Bool.cond_true]⟩
    · rintro s t ⟨hD,hk⟩
      obtain ⟨h1,h2⟩:=(mP t.k).2.1 hk
      exact ⟨trivial,fun ts z=>by rw [jD,h1,h2]; rfl⟩
    · rintro s t ⟨hD,hk⟩
      obtain ⟨h1,h2,h3⟩:=(mP t.k).2.2.1 hk
      exact ⟨trivial,fun ts z=>by rw [jD,h1,h2,h3]; rfl⟩
    · rintro s t ⟨hD,hk⟩
      obtain ⟨h1,h2,h3,h4⟩:=(mP t.k).2.2.2.1 hk
      exact ⟨hD.1 h4,fun ts z=>by rw [jD,h1,h2,h3,h4]; rfl⟩
    · rintro s t ⟨hD,hk⟩
      obtain ⟨h1,h2,h3,h4,h5⟩:=(mP t.k).2.2.2.2.1 hk
      exact ⟨hD.2 h5,fun ts z=>by rw [jD,h1,h2,h3,h4,h5]; rfl⟩
    · rintro s t ⟨hD,hk⟩
      obtain ⟨h1,h2,h3,h4,h5⟩:=(mP t.k).2.2.2.2.2 hk
      exact ⟨trivial,fun ts z=>by rw [jD,h1,h2,h3,h4,h5]; rfl⟩
end Go.Proofs.YtkpohmhenegkiaaGreatDoor
namespace Go.Proofs.YtkpohmhenegkiaaGreatDoor
open Go.W
attribute [-go_sem] bT b9 bR eC cC
def zF (s:Sc):Nat->Ty->Vl
  | 0,_=>.mk 0 0 (mk []) [] []
  | n + 1,t=>bif valF s.ss s.es t then (bif t.k == 6 then .mk 6 0 (mk []) [] (((stOf s t).fs.filter fun f=>!f.opt).map fun f=>(f.num,zF s n f.ty)) else .mk t.k 0 (mk []) [] []) else .mk 0 0 (mk []) [] []
def zE (s:Sc) (n:Nat) (l:List Fl):List (Int × Vl):=(l.filter fun f=>!f.opt).map fun f=>(f.num,zF s n f.ty)
theorem AV (s:Sc) (n:Nat) (t:Ty):zF s (n + 1) t=bif valF s.ss s.es t then (bif t.k == 6 then .mk 6 0 (mk []) [] (zE s n (stOf s t).fs) else .mk t.k 0 (mk []) [] []) else .mk 0 0 (mk []) [] []:=rfl
theorem ZB {s:Sc} {n i:Nat} {l:List Fl} {f:Fl} (h:l[i]? = some f):zE s n (l.take (i + 1))=bif f.opt then zE s n (l.take i) else zE s n (l.take i) ++ [(f.num,zF s n f.ty)]:=by
  unfold zE
  rw [List.take_add_one,h,List.filter_append,List.map_append]
  cases hf:f.opt<;>simp [hf]
theorem P5 (s:Sc) (n:Nat) (l:List Fl):(zE s n l).length<=l.length:=by
  unfold zE; rw [List.length_map]; exact List.length_filter_le _ _
theorem LE {s:Sc} (hs:s.fit) (t:Ty):(stOf s t).fs.length<=1000000000:=by
  unfold stOf
  cases h:fS s.ss t.n with
  | none=>exact Nat.zero_le _
  | some u=>exact (hs.sm u (List.mem_of_find?_eq_some h)).1
def aCC (N:Nat):W.Spec:=fun av H K=>∃ (s:Sc) (t:Ty) (n:Nat),av=[.va (.gs (aE s)),.va (.gs (aM t)),iS .i64 ((n:Int) - 1)]/\H=[]/\s.fit/\TyOk t/\n < N/\N<=100/\K (.va (.gs (aV (zF s n t)))) []
theorem PB {N:Nat} {s:Sc} {t:Ty} {n:Nat} {K:S->Hp->Prop} (h1:s.fit) (h2:TyOk t) (h3:n < N) (h4:N<=100) (hK:K (.va (.gs (aV (zF s n t)))) []):aCC N [.va (.gs [.vl (.int .i64 s.ver),.fz (s.es.map aX),.fz (s.ss.map aL)]),.va (.gs [.vl (.int .i64 t.k),.vl (.int .i64 t.s),.vl (.string t.n),.fz (t.e.map aM)]),iS .i64 ((n:Int) - 1)] [] K:=⟨s,t,n,by rw [aH]; rfl,rfl,h1,h2,h3,h4,hK⟩
theorem O0:∀ N,Meets Tryz.prog 114 (aCC N)
  | 0=>⟨by kernel_rfl,by rintro xs vs E ro w K _ _ _ ⟨_,_,n,_,_,_,_,h,_⟩; exact absurd h (Nat.not_lt_zero n)⟩
  | N + 1=>by
    refine aF Tryz.func114 aHQ 3 (by rw [Tryz.ntmps114]; decide) (aG uI (aB mY (aB (O0 N) (aA _)))) (fun av H K h=>by obtain ⟨_,_,_,rfl,_⟩:=h; rfl) ?_
    rintro av H K ⟨s,t,n,rfl,rfl,hs,ht,hn,hN,hK⟩
    have k4:=cL ht
    have k5:=fN t
    have k6:=dV hs
    have k7:=hM s
    have fin:∀ {v:Vl} (R:Hp),zF s n t=v->W.Fin 0 K (.va (.gs (aV v))) R:=fun {v} R h=>by
      rw [h] at hK; refine .sel [] (by simp) (by simp) rfl (.done ?_)
      rw [aI] at hK ⊢
      simpa [go_sem] using hK
    cases n with
    | zero=>
      have g:decide (((0:Nat):Int) - 1 < 0)=true:=rfl
      simp (maxSteps:=1000000) -dsimp only [go_sem,aE,aH t,xZ,y5,g,k4,k5,k6,k7]
      exact fin (v:=.mk 0 0 (mk []) [] []) _ rfl
    | succ n=>
      have g:decide (((n + 1:Nat):Int) - 1 < 0)=false:=by rw [decide_eq_false_iff_not]; omega
      have g':((n + 1:Nat):Int) - 1=n:=by omega
      rw [g'] at g ⊢
      rw [AV] at fin
      cases h1:valF s.ss s.es t with
      | false=>
        rw [h1,Bool.cond_false] at fin
        simp (maxSteps:=1000000) -dsimp only [go_sem,aE,aH t,xZ,y5,g,k4,k5,k6,k7,h1]
        exact fin _ rfl
      | true=>
      rw [h1,Bool.cond_true] at fin
      cases h2:t.k == 6 with
      | false=>
        have h2':(t.k != 6)=true:=by rw [bne,h2]; rfl
        rw [h2,Bool.cond_false] at fin
        simp (maxSteps:=1000000) -dsimp only [go_sem,aE,aH t,xZ,y5,g,k4,k5,k6,k7,h1,h2']
        exact fin _ rfl
      | true=>
      have h2':(t.k != 6)=false:=by rw [bne,h2]; rfl
      rw [h2,Bool.cond_true] at fin
      simp (maxSteps:=1000000) -dsimp only [go_sem,aE,aH t,xZ,y5,g,k4,k5,k6,k7,h1,h2']
      refine gP hs ?_
      rw [show (fS s.ss t.n).getD default=stOf s t from rfl]
      have hok:=iZ hs t
      have hsm:=LE hs t
      have hz6:zF s (n + 1) t=.mk 6 0 (mk []) [] (zE s n (stOf s t).fs):=by rw [AV,h1,h2]; rfl
      rw [hz6,aI] at hK
      clear hz6 fin
      generalize stOf s t=u at *
      simp (maxSteps:=1000000) -dsimp only [go_sem,aL]
      have hlen:=fun i=>Nat.le_trans (P5 s n (u.fs.take i)) (Nat.le_trans (List.length_take_le' i u.fs) hsm)
      refine dT (α:=Nat) (fun i=>[(2,iS .i64 n),(3,.va (.c1 (.pt 0 0))),(4,.va (.c1 (.pt 1 0))),(6,.va (.c1 (.pt 2 0))),(7,.va (.c1 (.pt 3 0))),(37,.va (.c1 (.fz (u.fs.map aR)))),(38,iS .i64 u.fs.length),(39,iS .i64 i)])
        (fun i=>[.cells [.vl (.int .i64 s.ver),.fz (s.es.map aX),.fz (s.ss.map aL)] 105,.cells [.vl (.int .i64 t.k),.vl (.int .i64 t.s),.vl (.string t.n),.fz (t.e.map aM)] 28,.cells [.vl (.int .i64 0),.vl (.int .i64 0),.vl (.string (mk [])),.vl (.slice none 0 0),.vl (.slice none 0 0)] 32,
          .cells [.vl (.int .i64 t.k),.vl (.int .i64 0),.vl (.string (mk [])),.vl (.slice none 0 0),.sl 5 (zE s n (u.fs.take i)).length] 32,.cells [.vl (.string u.nm),.fz (u.fs.map aR)] 95,.row ((zE s n (u.fs.take i)).map aY) 57 6])
        (fun i=>i<=u.fs.length) (fun i=>u.fs.length - i) (.nilc 3 4 57 6 _ _ rfl rfl (l9 0 6 (Nat.zero_le _) ?_ ?_)) ?_
      · simp -dsimp only [go_sem]<;>simp
      · simp -dsimp only [go_sem]<;>simp [zE]
      intro i hi
      have hli:=hlen i
      rcases Nat.lt_or_ge i u.fs.length with hlt | hge
      · have hg:decide ((i:Int) < (u.fs.length:Int))=true:=by simp; omega
        have hx:u.fs[i]? = some u.fs[i]:=List.getElem?_eq_getElem hlt
        have q2:=aO (row:=aR) hx
        have hfo:=(hok.fs _ (List.getElem_mem hlt)).ty
        generalize u.fs[i]=f at *
        have hz:=ZB (s:=s) (n:=n) hx
        cases ho:f.opt with
        | true=>
          rw [ho,Bool.cond_true] at hz
          simp (maxSteps:=1000000) -dsimp only [go_sem,hg,↓q2,aR,ho,List.take_succ_cons,List.take_zero,List.length_cons]
          refine ⟨by omega,by omega,aC (i + 1) 6 (by omega) (by omega) ?_ ?_⟩
          · simp -dsimp only [go_sem]<;>simp
          · simp -dsimp only [go_sem,hz]<;>simp
        | false=>
          rw [ho,Bool.cond_false] at hz
          simp (maxSteps:=1000000) -dsimp only [go_sem,hg,↓q2,aR,ho,List.take_succ_cons,List.take_zero,List.length_cons]
          refine ⟨⟨by omega,by omega⟩,⟨by omega,by omega⟩,PB hs hfo (by omega) (by omega) ?_⟩
          generalize zF s n f.ty=v at *
          simp (maxSteps:=1000000) -dsimp only [go_sem,aI v]
          refine ⟨by omega,by omega,aC (i + 1) 6 (by omega) (by omega) ?_ ?_⟩
          · simp -dsimp only [go_sem]<;>simp
          · simp -dsimp only [go_sem,hz]<;>simp [aY,aI v]
      · have hg:decide ((i:Int) < (u.fs.length:Int))=false:=by simp; omega
        rw [List.take_of_length_le hge] at *
        have h6:t.k=6:=eq_of_beq h2
        simp (maxSteps:=1000000) -dsimp only [go_sem,hg,h6]
        refine .pub 5 _ _ _ rfl (.sel [] (by simp) (by simp [cF]) rfl (.done ?_))
        simp -dsimp only [go_sem,cF]
        exact hK
def aC7:W.Spec:=fun av H K=>∃ (s:Sc) (t:Ty),av=[.va (.gs (aE s)),.va (.gs (aM t))]/\H=[]/\s.fit/\TyOk t/\K (.va (.gs (aV (zF s 23 t)))) []
theorem ZF {s:Sc} {t:Ty} {K:S->Hp->Prop} (h1:s.fit) (h2:TyOk t) (hK:K (.va (.gs (aV (zF s 23 t)))) []):aC7 [.va (.gs [.vl (.int .i64 s.ver),.fz (s.es.map aX),.fz (s.ss.map aL)]),.va (.gs [.vl (.int .i64 t.k),.vl (.int .i64 t.s),.vl (.string t.n),.fz (t.e.map aM)])] [] K:=⟨s,t,by rw [aH]; rfl,rfl,h1,h2,hK⟩
theorem aFR:Meets Tryz.prog 71 aC7:=by
  refine aF Tryz.func71 aLO 2 (by rw [Tryz.ntmps71]; decide) (aB (O0 24) (aA _)) (fun av H K h=>by obtain ⟨_,_,rfl,_⟩:=h; rfl) ?_
  rintro av H K ⟨s,t,rfl,rfl,hs,ht,hK⟩
  simp (maxSteps:=1000000) -dsimp only [go_sem,aE,aH t,aDR,aAE]
  refine PB (n:=23) hs ht (by decide) (by decide) ?_
  rw [aI] at hK ⊢
  simp (maxSteps:=1000000) -dsimp only [go_sem]
  refine .sel [] (by simp) (by simp) rfl (.done ?_)
  simp -dsimp only [go_sem]
  exact hK
end Go.Proofs.YtkpohmhenegkiaaGreatDoor
namespace Go.Proofs.YtkpohmhenegkiaaGreatDoor
open Go.W
attribute [-go_sem] bT b9 bR eC cC
theorem U7 {s:Sc} (hs:s.fit):∀ (n:Nat) (t:Ty),TyOk t->VlOk (zF s n t)
  | 0,t,ht=>.mk ⟨by decide,by decide⟩ ⟨by decide,by decide⟩ (by decide) (by simp) (by simp) (by simp) (by simp) (by simp)
  | n + 1,t,ht=>by
    have hok:=iZ hs t
    have hsm:=LE hs t
    rw [AV]
    cases valF s.ss s.es t with
    | false=>exact .mk ⟨by decide,by decide⟩ ⟨by decide,by decide⟩ (by decide) (by simp) (by simp) (by simp) (by simp) (by simp)
    | true=>
      cases t.k == 6 with
      | false=>exact .mk ht.k ⟨by decide,by decide⟩ (by decide) (by simp) (by simp) (by simp) (by simp) (by simp)
      | true=>
        have hl:=P5 s n (stOf s t).fs
        have hm:∀ x ∈ zE s n (stOf s t).fs,∃ f ∈ (stOf s t).fs,x=(f.num,zF s n f.ty):=fun x hx=>by
          unfold zE at hx
          obtain ⟨f,hf,rfl⟩:=List.mem_map.1 hx
          exact ⟨f,(List.mem_filter.1 hf).1,rfl⟩
        refine .mk ⟨by decide,by decide⟩ ⟨by decide,by decide⟩ (by decide) (by simp) (by omega) (by simp) (fun x hx=>?_) (fun x hx=>?_)
        · obtain ⟨f,hf,rfl⟩:=hm x hx; exact (hok.fs f hf).num
        · obtain ⟨f,hf,rfl⟩:=hm x hx; exact U7 hs n f.ty (hok.fs f hf).ty
def ES:List S->Prop:=fun av=>match av with
  | [.va (.gs r),.va (.gs q)]=>iU r/\eK q
  | _=>False
theorem pI {av:List S} (h:ES av):∃ s t,av=[.va (.gs (aE s)),.va (.gs (aM t))]/\s.fit/\TyOk t:=by
  unfold ES at h
  split at h
  · obtain ⟨⟨s,rfl,hs⟩,⟨t,rfl,ht⟩⟩:=h
    exact ⟨s,t,rfl,hs,ht⟩
  · exact h.elim
noncomputable def U9 (f:Sc->Ty->Value):List S->A:=fun av=>match av with
  | [.va (.gs r),.va (.gs q)]=>.c1 (.vl (f (C.sc r) (C.ty q)))
  | _=>.gs []
noncomputable def vN (f:Sc->Ty->Value):Fun:=⟨ES,U9 f,fun av h=>by obtain ⟨_,_,rfl,_⟩:=pI h; trivial⟩
theorem S9 {f:Sc->Ty->Value}:∀ av H K,(vN f).sp av H K->av.length=2:=fun av H K h=>by obtain ⟨_,_,rfl,_⟩:=pI h.1.1; rfl
attribute [go_sem] vN ES U9
theorem XU {f:Sc->Ty->Value} {av:List S} {H:Hp} {K:S->Hp->Prop} (h:(vN f).sp av H K):∃ s t,av=[.va (.gs (aE s)),.va (.gs (aM t))]/\H=[]/\s.fit/\TyOk t/\K (.va (.c1 (.vl (f s t)))) []:=by
  obtain ⟨⟨h,rfl⟩,hK⟩:=h
  obtain ⟨s,t,rfl,hs,ht⟩:=pI h
  have:(vN f).val [.va (.gs (aE s)),.va (.gs (aM t))]=.c1 (.vl (f s t)):=by
    show A.c1 (.vl (f (C.sc (aE s)) (C.ty (aM t))))=_
    rw [dW,eH]
  rw [this] at hK
  exact ⟨s,t,rfl,rfl,hs,ht,hK⟩
def HK (s:Sc) (t:Ty):Bool:=dQ s t (zF s 23 t) == 0
theorem I9:Meets Tryz.prog 28 (vN fun s t=>.bool (HK s t)).sp:=by
  refine aF Tryz.func28 aOI 2 (by rw [Tryz.ntmps28]; decide) (aB aFR (aG BW (aA _))) S9 ?_
  intro av H K h
  obtain ⟨s,t,rfl,rfl,hs,ht,hK⟩:=XU h
  clear h
  have k4:=cL ht
  have k5:=fN t
  have k6:=dV hs
  have k7:=hM s
  have hv:=U7 hs 23 t ht
  have hK:K (bS (dQ s t (zF s 23 t) == 0)) []:=hK
  simp (maxSteps:=1000000) -dsimp only [go_sem,aE,aH t,aDQ,aED]
  refine ZF hs ht ?_
  generalize zF s 23 t=v at *
  have k1:=cE hv
  have k2:=eR v
  simp (maxSteps:=1000000) -dsimp only [go_sem,aI v,k1,k2,k4,k5,k6,k7]
  exact .sel [] (by simp) (by simp) rfl (.done (by simpa [go_sem] using hK))
end Go.Proofs.YtkpohmhenegkiaaGreatDoor
namespace Go.Proofs.YtkpohmhenegkiaaGreatDoor
open Go.W
theorem EW {α:Type} {one:α->Fs->α × Fs} {ts:List Tk} (ho:IP one ts) (I:Nat->α->Prop) (hs:∀ k a z,z.n < ts.length->I k a->I (k + 1) (one a z).1):∀ (f k:Nat) (a:α) (z:Fs),z.n < ts.length->I k a->∃ k',k'<=k + f/\I k' (lI one ts f a z).1
  | 0,k,a,z,_,h=>⟨k,Nat.le_refl _,h⟩
  | f + 1,k,a,z,hn,h=>by
    rw [nJ]
    cases z.bad
    · have h1:=hs k a z hn h
      have h2:=ho a z hn
      cases d8 [44] ts (one a z).2
      · exact ⟨k + 1,by omega,h1⟩
      · obtain ⟨k',h3,h4⟩:=EW ho I hs f (k + 1) (one a z).1 (cA [44] ts (one a z).2) (A0 h2.2).2 h1
        exact ⟨k',by omega,h4⟩
    · exact ⟨k,by omega,h⟩
theorem GI {α:Type} {one:α->Fs->α × Fs} {ts:List Tk} (ho:IP one ts) (I:Nat->α->Prop) (hs:∀ k a z,z.n < ts.length->I k a->I (k + 1) (one a z).1) (op sh:List UInt8) (a:α) (z:Fs) (hn:z.n < ts.length) (h:I 0 a):∃ k',k'<=ts.length + 1/\I k' (fQ one op sh ts a z).1:=by
  unfold fQ
  have h1:=jB (w:=op) hn
  cases d8 sh ts (fJ op ts z)
  · obtain ⟨k,h2,h3⟩:=EW ho I hs (ts.length + 1) 0 a _ h1.2 h
    exact ⟨k,by omega,h3⟩
  · exact ⟨0,Nat.zero_le _,h⟩
theorem wF {k n:Int} {s:ByteArray} (hk:bJ k) (hn:bJ n) (hs:s.size<=9223372036854775807):VlOk (.mk k n s [] []):=.mk hk hn hs (by simp) (by simp) (by simp) (by simp) (by simp)
theorem PL {ts:List Tk} (h:Tks ts) (k:Int) (z:Fs) (hn:z.n < ts.length):bJ (jJ k ts z).n/\(jJ k ts z).x.length<=4000:=by
  have hm:bP ts z.n ∈ ts:=List.mem_of_getElem? (mT hn)
  unfold jJ
  cases iR k ts z
  · rw [Bool.cond_false]; exact ⟨⟨by decide,by decide⟩,by decide⟩
  · exact ⟨h.n _ hm,h.x _ hm⟩
theorem MI {s:Sc} (hs:s.fit) {ts:List Tk} (hts:Tks ts):∀ (N:Nat) (t:Ty) (z:Fs),TyOk t->dP N s t->z.n < ts.length->VlOk (pP N s ts t z).1
  | 0,t,z,_,h,_=>h.elim
  | N + 1,t,z,ht,hd,hn=>by
    have hle:=hts.e.le
    have c0:bJ 0:=⟨by decide,by decide⟩
    have c1:bJ 1:=⟨by decide,by decide⟩
    have c4:bJ 4:=⟨by decide,by decide⟩
    have c5:bJ 5:=⟨by decide,by decide⟩
    have c6:bJ 6:=⟨by decide,by decide⟩
    have c7:bJ 7:=⟨by decide,by decide⟩
    rw [jD]
    cases t.k == 1 with
    | true=>
      rw [Bool.cond_true]; unfold iF
      cases (!z.bad && fC 1 sZ (bP ts z.n))<;>cases (!z.bad && fC 1 oS (bP ts z.n))<;>first | exact wF c1 c1 (by decide) | exact wF c1 c0 (by decide)
    | false=>
    cases t.k == 4 with
    | true=>
      refine wF c4 c0 ?_
      have:=(PL hts 3 z hn).2
      show (mk (jJ 3 ts z).x).size<=_
      have e:(mk (jJ 3 ts z).x).size=(jJ 3 ts z).x.length:=by simp [mk,ByteArray.size]
      omega
    | false=>
    cases t.k == 7 with
    | true=>
      have he:((bX s.es t.n).getD default).ok:=by
        cases h:bX s.es t.n with
        | none=>exact ⟨by decide,by decide,by decide,fun _ h=>(by cases h),fun _ h=>(by cases h)⟩
        | some e=>exact hs.ok.es e (List.mem_of_find?_eq_some h)
      generalize (bX s.es t.n).getD default=e at he ⊢
      rw [Bool.cond_false,Bool.cond_false,Bool.cond_true]; unfold iG
      cases hc:(decide (lJ e ts z < 0) || decide ((e.vs.length:Int)<=lJ e ts z)) with
      | true=>exact wF c7 c0 (by decide)
      | false=>
        refine wF c7 ?_ (by decide)
        rw [List.getD_eq_getElem?_getD]
        cases hx:e.vs[(lJ e ts z).toNat]? with
        | none=>exact c0
        | some y=>exact he.vs _ (List.mem_of_getElem? hx)
    | false=>
    cases h5:t.k == 5 with
    | true=>
      obtain ⟨u,he,hu,hD⟩:=hd.1 h5
      rw [he,List.headD_cons]
      obtain ⟨k,hk,h1,h2⟩:=GI (one:=jQ (pP N) s ts u) (fun a z h=>AP N s ts u z h) (fun k l=>l.length<=k/\∀ v ∈ l,VlOk v) (fun k l z hz ⟨h1,h2⟩=>⟨by simp [jQ]; omega,fun v hv=>by
        rcases List.mem_append.1 hv with hv | hv
        · exact h2 v hv
        · rw [List.mem_singleton.1 hv]; exact MI hs hts N u z hu hD hz⟩) [91] [93] [] z hn ⟨Nat.le_refl _,by simp⟩
      exact .mk c5 c0 (by decide) (by omega) (by simp) h2 (by simp) (by simp)
    | false=>
    cases h6:t.k == 6 with
    | true=>
      have hD:=hd.2 h6
      have hok:=iZ hs t
      obtain ⟨k,hk,h1,h2⟩:=GI (one:=eW (pP N) s ts (stOf s t)) (EY (AP N)) (fun k a=>a.2.length<=k/\∀ x ∈ a.2,bJ x.1/\VlOk x.2) (fun k a z hz ⟨h1,h2⟩=>by
        unfold eW
        cases hb:pE ts (stOf s t) a.1 z with
        | true=>exact ⟨by rw [Bool.cond_true]; exact Nat.le_succ_of_le h1,h2⟩
        | false=>
          rw [Bool.cond_false]
          refine ⟨by simp; omega,fun x hx=>?_⟩
          rcases List.mem_append.1 hx with hx | hx
          · exact h2 x hx
          · rw [List.mem_singleton.1 hx]
            have hz1:(qF ts z).n < ts.length:=(jB (w:=[61]) (z:=⟨z.bad,z.off,b8 ts z.n⟩) (lD hz).2).2
            have hlt:e7 ts (stOf s t) z < ((stOf s t).fs.length:Int):=by have:=(BC (bP ts z.n).x (stOf s t).fs 0).2; unfold e7; omega
            have hge:¬ (e7 ts (stOf s t) z < 0):=fun h=>by unfold pE at hb; rw [decide_eq_true h] at hb; simp at hb
            have hm:(stOf s t).fs.getD (e7 ts (stOf s t) z).toNat default ∈ (stOf s t).fs:=by
              have hl:(e7 ts (stOf s t) z).toNat < (stOf s t).fs.length:=by omega
              rw [List.getD_eq_getElem?_getD,List.getElem?_eq_getElem hl]
              exact List.getElem_mem hl
            exact ⟨(hok.fs _ hm).num,MI hs hts N _ _ (hok.fs _ hm).ty (hD _ hm) hz1⟩) [123] [125] (0,[]) z hn ⟨Nat.le_refl _,by simp⟩
      exact .mk c6 c0 (by decide) (by simp) (by show List.length _ * 88<=_; omega) (by simp) (fun x hx=>(h2 x hx).1) (fun x hx=>(h2 x hx).2)
    | false=>exact wF ht.k (PL hts 2 z hn).1 (by decide)
end Go.Proofs.YtkpohmhenegkiaaGreatDoor
namespace Go.Proofs.YtkpohmhenegkiaaGreatDoor
open Go.W
attribute [-go_sem] bT b9 bR eC cC gI
noncomputable def nR (D:Sc->Ty->Prop) (P:Prs):bY:=(28,.f (vN fun s t=>.bool (HK s t))) :: (23,.f (cQ (fun _ _ _=>True) fun s t v=>.int .i64 (dQ s t v))) :: (29,.s gI) :: (30,.s (bT 114)) :: (31,.s mC) :: y7 D P
theorem I7 {D:Sc->Ty->Prop} {P:Prs} (h:ParsM D P):c8 Tryz.prog (nR D P):=aG I9 (aG BW (aB aKQ (aB pS (aB pB (oE h)))))
theorem FV (D:Sc->Ty->Prop) (P:Prs):eV (nR D P) 28=some (vN fun s t=>.bool (HK s t)):=rfl
theorem GB (D:Sc->Ty->Prop) (P:Prs):eV (nR D P) 23=some (cQ (fun _ _ _=>True) fun s t v=>.int .i64 (dQ s t v)):=rfl
theorem RH (D:Sc->Ty->Prop) (P:Prs):sp (nR D P) 29=gI:=rfl
theorem Q7 (D:Sc->Ty->Prop) (P:Prs):sp (nR D P) 30=bT 114:=rfl
theorem SW (D:Sc->Ty->Prop) (P:Prs):sp (nR D P) 31=mC:=rfl
theorem RP (D:Sc->Ty->Prop) (P:Prs):sp (nR D P) 24=lH:=rfl
theorem O2 (D:Sc->Ty->Prop) (P:Prs) (k:Int):sp (nR D P) (f4 k)=hU D P (f4 k):=by
  unfold f4
  cases k == 1<;>cases k == 4<;>cases k == 7<;>cases k == 5<;>cases k == 6<;>rfl
theorem aBQ {x:ByteArray} {K:S->Hp->Prop} (h:(a7 (bl x)).err=0) (hK:K (.tu [.c1 (.pt 0 0),iA .i64 0,iA .i64 0]) [gQ 114 (a7 (bl x)).toks 0]):gI [tS x] [] K:=⟨fun _=>hK,fun h'=>absurd h h'⟩
theorem XV {x:ByteArray} {K:S->Hp->Prop} (h:(a7 (bl x)).err ≠ 0) (hK:K (.tu [.c1 (.vl (.pointer none)),iA .i64 (a7 (bl x)).err,iA .i64 (a7 (bl x)).off]) []):gI [tS x] [] K:=⟨fun h'=>absurd h' h,fun _=>hK⟩
def v0:Vl:=.mk 0 0 (mk []) [] []
def SP (ts:List Tk) (z:Fs):Fs:=bif (bP ts z.n).k != 0 then fA ts z else z
def aB0 (s:Sc) (t:Ty) (ts:List Tk) (r:Vl × Fs):Vl × Int × Int:=
  bif (SP ts r.2).bad then (v0,2,(SP ts r.2).off) else bif dQ s t r.1 != 0 then (v0,dQ s t r.1,0) else (r.1,0,0)
def kC (P:Prs) (s:Sc) (t:Ty) (x:List UInt8):Vl × Int × Int:=
  bif !HK s t then (v0,13,0) else bif (a7 x).err != 0 then (v0,(a7 x).err,(a7 x).off) else aB0 s t (a7 x).toks (P s (a7 x).toks t ⟨false,0,0⟩)
def BO (D:Sc->Ty->Prop) (P:Prs):W.Spec:=fun av H K=>∃ s t x,av=[.va (.gs (aE s)),.va (.gs (aM t)),tS x]/\H=[]/\s.fit/\TyOk t/\(HK s t=true->D s t)/\((a7 (bl x)).err=0->Tks (a7 (bl x)).toks)/\
  K (.tu [.gs (aV (kC P s t (bl x)).1),iA .i64 (kC P s t (bl x)).2.1,iA .i64 (kC P s t (bl x)).2.2]) []
theorem aEX {D:Sc->Ty->Prop} {P:Prs} (hP:ParsM D P) (hO:P.onw) (hv:∀ s ts t z,s.fit->Tks ts->TyOk t->D s t->z.n < ts.length->VlOk (P s ts t z).1):Meets Tryz.prog 13 (BO D P):=by
  refine aF Tryz.func13 aNL 3 (by rw [Tryz.ntmps13]; decide) (I7 hP) (fun av H K h=>by obtain ⟨_,_,_,rfl,_⟩:=h; rfl) ?_
  rintro av H K ⟨s,t,x,rfl,rfl,hs,ht,hD,hT,hK⟩
  have k4:=cL ht
  have k5:=fN t
  have k6:=dV hs
  have k7:=hM s
  have fin:∀ (v:Vl) (e a:Int) (R:Hp),kC P s t (bl x)=(v,e,a)->W.Fin 0 K (.tu [.gs (aV v),iA .i64 e,iA .i64 a]) R:=fun v e a R h=>by
    rw [h] at hK
    refine .sel [] (by simp) (by simp) rfl (.done ?_)
    rw [aI] at hK ⊢
    simpa [go_sem] using hK
  clear hK
  unfold kC at fin
  cases h1:HK s t with
  | false=>
    rw [h1] at fin
    simp (maxSteps:=1000000) -dsimp only [go_sem,aE,aH t,S8,Q4,FV,k4,k5,k6,k7,h1]
    exact fin v0 13 0 _ rfl
  | true=>
  rw [h1] at fin
  simp (maxSteps:=1000000) -dsimp only [go_sem,aE,aH t,S8,Q4,FV,k4,k5,k6,k7,h1]
  refine aD rfl (.done ?_)
  simp (maxSteps:=1000000) -dsimp only [go_sem,HU,RH]
  cases h2:(a7 (bl x)).err != 0 with
  | true=>
    rw [h2] at fin
    refine XV (by simpa using h2) ?_
    simp (maxSteps:=1000000) -dsimp only [go_sem]
    refine aD rfl (.done ?_)
    simp (maxSteps:=1000000) -dsimp only [go_sem,w4,h2]
    exact fin v0 _ _ _ rfl
  | false=>
  rw [h2] at fin
  have h2':(a7 (bl x)).err=0:=by simpa using h2
  have hts:=hT h2'
  refine aBQ h2' ?_
  have hn0:(⟨false,0,0⟩:Fs).n < (a7 (bl x)).toks.length:=hts.e.pos
  generalize (a7 (bl x)).toks=ts at *
  simp (maxSteps:=1000000) -dsimp only [go_sem]
  refine aD rfl (.done ?_)
  have g0:((0:Int) != 0)=false:=rfl
  simp (maxSteps:=1000000) -dsimp only [go_sem,w4,g0]
  refine aD rfl (.done ?_)
  simp (maxSteps:=1000000) -dsimp only [go_sem,IG]
  refine aD rfl (.done ?_)
  simp (maxSteps:=1000000) -dsimp only [go_sem,GA,RP,O2]
  refine IS (z:=⟨false,0,0⟩) hs ht hts hn0 (hD h1) ?_
  have hvk:=hv s ts t ⟨false,0,0⟩ hs hts ht (hD h1) hn0
  have hn1:=(hO s ts t ⟨false,0,0⟩ hn0).2
  generalize P s ts t ⟨false,0,0⟩=r at *
  obtain ⟨v,z⟩:=r
  simp only at hvk hn1
  have k1:=cE hvk
  have k2:=eR v
  simp (maxSteps:=1000000) -dsimp only [go_sem,aI v]
  refine aD rfl (.done ?_)
  simp (maxSteps:=1000000) -dsimp only [go_sem,GN,Q7]
  refine jW hts.e hn1 ?_
  simp only [Bool.not_true,Bool.cond_false,aB0,SP] at fin
  cases hk:(bP ts z.n).k != 0 with
  | true=>
    rw [hk,Bool.cond_true] at fin
    simp (maxSteps:=1000000) -dsimp only [go_sem,cW,hk]
    refine aD rfl (.done ?_)
    simp (maxSteps:=1000000) -dsimp only [go_sem,HI,SW]
    refine dO (z:=z) hts.e hn1 ?_
    generalize fA ts z=z2 at *
    simp (maxSteps:=1000000) -dsimp only [go_sem]
    refine aD rfl (.done ?_)
    cases hb:z2.bad with
    | true=>
      rw [hb] at fin
      simp (maxSteps:=1000000) -dsimp only [go_sem,mH]
      exact fin v0 2 z2.off _ rfl
    | false=>
      rw [hb] at fin
      simp (maxSteps:=1000000) -dsimp only [go_sem,mH]
      refine aD rfl (.done ?_)
      simp (maxSteps:=1000000) -dsimp only [go_sem,s3,GB,k1,k2,k4,k5,k6,k7]
      refine aD rfl (.done ?_)
      cases hc:dQ s t v != 0 with
      | true=>
        rw [hc] at fin
        simp (maxSteps:=1000000) -dsimp only [go_sem,mE,hc]
        exact fin v0 (dQ s t v) 0 _ rfl
      | false=>
        rw [hc] at fin
        simp (maxSteps:=1000000) -dsimp only [go_sem,mE,hc]
        have:=fin v 0 0
        rw [aI] at this
        exact this _ rfl
  | false=>
    rw [hk,Bool.cond_false] at fin
    simp (maxSteps:=1000000) -dsimp only [go_sem,cW,hk]
    have z2:=z
    clear z2
    generalize hz2:z=z2 at *
    refine aD rfl (.done ?_)
    cases hb:z2.bad with
    | true=>
      rw [hb] at fin
      simp (maxSteps:=1000000) -dsimp only [go_sem,mH]
      exact fin v0 2 z2.off _ rfl
    | false=>
      rw [hb] at fin
      simp (maxSteps:=1000000) -dsimp only [go_sem,mH]
      refine aD rfl (.done ?_)
      simp (maxSteps:=1000000) -dsimp only [go_sem,s3,GB,k1,k2,k4,k5,k6,k7]
      refine aD rfl (.done ?_)
      cases hc:dQ s t v != 0 with
      | true=>
        rw [hc] at fin
        simp (maxSteps:=1000000) -dsimp only [go_sem,mE,hc]
        exact fin v0 (dQ s t v) 0 _ rfl
      | false=>
        rw [hc] at fin
        simp (maxSteps:=1000000) -dsimp only [go_sem,mE,hc]
        have:=fin v 0 0
        rw [aI] at this
        exact this _ rfl
end Go.Proofs.YtkpohmhenegkiaaGreatDoor
namespace Go.Proofs.YtkpohmhenegkiaaGreatDoor
open Go.W
attribute [-go_sem] bT b9 bR eC cC gI
abbrev r9 (s:Sc) (b:Bool):B:=.cells [.vl (.int .i64 s.ver),.fz (s.es.map aX),.fz (s.ss.map aL),.vl (.pointer none),.vl (.bool b),.vl (.int .i64 0)] 62
abbrev eT:Type:=Sc->Ty->Vl->List UInt8 × Bool
def oD (D:Sc->Ty->Vl->Prop) (F:eT):W.Spec:=fun av H K=>∃ s t v b,av=[.va (.c1 (.pt 0 0)),.va (.gs (aM t)),.va (.gs (aV v))]/\H=[r9 s b]/\s.fit/\TyOk t/\VlOk v/\D s t v/\K (tS (mk (F s t v).1)) [r9 s (b || (F s t v).2)]
theorem oM {D:Sc->Ty->Vl->Prop} {F:eT}:∀ av H K,oD D F av H K->av.length=3:=fun av H K h=>by obtain ⟨_,_,_,_,rfl,_⟩:=h; rfl
def CG (n:Int):List UInt8:=bif n == 1 then sZ else oS
theorem JB:Meets Tryz.prog 54 (oD (fun _ _ _=>True) fun _ _ v=>(CG v.n,false)):=by
  refine aF Tryz.func54 aNA 3 (by rw [Tryz.ntmps54]; decide) (aA _) oM ?_
  rintro av H K ⟨s,t,v,b,rfl,rfl,hs,ht,hv,_,hK⟩
  unfold CG at hK
  rw [Bool.or_false] at hK
  cases h:v.n == 1<;>simp only [h,Bool.cond_true,Bool.cond_false] at hK <;>
  · simp (maxSteps:=1000000) -dsimp only [go_sem,aH t,aI v,aFF,aCB,h]
    refine .sel [0] (by simp) (by simp) rfl (.done ?_)
    simp (maxSteps:=1000000) -dsimp only [go_sem]
    exact hK
theorem DQ:Meets Tryz.prog 64 (oD (fun _ _ _=>True) fun _ _ v=>(gG v.n,false)):=by
  refine aF Tryz.func64 aLE 3 (by rw [Tryz.ntmps64]; decide) (aG MJ (aA _)) oM ?_
  rintro av H K ⟨s,t,v,b,rfl,rfl,hs,ht,hv,_,hK⟩
  rw [Bool.or_false] at hK
  have hn:=hv.n
  have hn1:=hn.1
  have hn2:=hn.2
  simp (maxSteps:=1000000) -dsimp only [go_sem,aH t,aI v,aEW,aA5]
  refine ⟨⟨hn1,hn2⟩,.sel [0] (by simp) (by simp) rfl (.done ?_)⟩
  simp (maxSteps:=1000000) -dsimp only [go_sem]
  exact hK
def lU (x:List UInt8):List UInt8:=bif decide (x.length<=200) && x.all gB then lK x else []
theorem aA2 (x:List UInt8):kU [⟨3,x,0,0⟩]=lU x:=by
  unfold kU lU rY m3 lL
  cases h:(decide (x.length<=200) && x.all gB)<;>simp [h]
theorem IZ:Meets Tryz.prog 56 (oD (fun _ _ v=>(bl v.s).length<=100000) fun _ _ v=>(lU (bl v.s),lU (bl v.s) == [])):=by
  refine aF Tryz.func56 aKB 3 (by rw [Tryz.ntmps56]; decide) (aG aEN (aA _)) oM ?_
  rintro av H K ⟨s,t,v,b,rfl,rfl,hs,ht,hv,hD,hK⟩
  have hK:K (tS (mk (lU (bl v.s)))) [r9 s (b || (lU (bl v.s) == []))]:=hK
  have e:[C.vl (.int .i64 3),.vl (.string v.s),.vl (.int .i64 0),.vl (.int .i64 0)]=DD ⟨3,bl v.s,0,0⟩:=by show _=[_,C.vl (.string (mk (bl v.s))),_,_]; rw [kD]
  have p1:prtFn.val [.va (.c1 (.fz [[.vl (.int .i64 3),.vl (.string v.s),.vl (.int .i64 0),.vl (.int .i64 0)]]))]=tA (mk (lU (bl v.s))):=by
    rw [e,<-aA2]; exact qZ [⟨3,bl v.s,0,0⟩]
  have p2:prtFn.pre [.va (.c1 (.fz [[.vl (.int .i64 3),.vl (.string v.s),.vl (.int .i64 0),.vl (.int .i64 0)]]))]:=by
    rw [e]
    exact ⟨[⟨3,bl v.s,0,0⟩],rfl,by simp,fun t ht=>by rw [List.mem_singleton.1 ht]; exact ⟨show (-9223372036854775808:Int)<=0 by decide,show (0:Int)<=9223372036854775807 by decide,hD⟩⟩
  cases b <;>
  · simp (maxSteps:=1000000) -dsimp only [go_sem,aH t,aI v,aBK,aEI,p1,p2]
    refine .sel [0] (by simp) (by simp) rfl (.done ?_)
    simp (maxSteps:=1000000) -dsimp only [go_sem]
    exact hK
end Go.Proofs.YtkpohmhenegkiaaGreatDoor
namespace Go.Proofs.YtkpohmhenegkiaaGreatDoor
open Go.W
attribute [-go_sem] bT b9 bR eC cC gI
def iI (ns:List ByteArray) (n:Int):List Int->Nat->ByteArray
  | [],_=>mk []
  | m :: l,i=>bif m == n && decide ((i:Int) < (ns.length:Int)) then ns.getD i (mk []) else iI ns n l (i + 1)
def enOf (s:Sc) (t:Ty):En:=(bX s.es t.n).getD default
theorem JK {s:Sc} (hs:s.fit) (t:Ty):(enOf s t).ok:=by
  unfold enOf
  cases h:bX s.es t.n with
  | none=>exact ⟨by decide,by decide,by decide,fun _ h=>(by cases h),fun _ h=>(by cases h)⟩
  | some e=>exact hs.ok.es e (List.mem_of_find?_eq_some h)
theorem I4:Meets Tryz.prog 58 (oD (fun _ _ _=>True) fun s t v=>(bl (iI (enOf s t).ns v.n (enOf s t).vs 0),false)):=by
  refine aF Tryz.func58 aKX 3 (by rw [Tryz.ntmps58]; decide) (aB y9 (aA _)) oM ?_
  rintro av H K ⟨s,t,v,b,rfl,rfl,hs,ht,hv,_,hK⟩
  have he:=JK hs t
  rw [Bool.or_false] at hK
  have hK:K (tS (iI (enOf s t).ns v.n (enOf s t).vs 0)) [r9 s b]:=by have:=hK; rw [kD] at this; exact this
  simp (maxSteps:=1000000) -dsimp only [go_sem,aH t,aI v,aCP,aBO]
  refine jA hs ?_
  rw [show (bX s.es t.n).getD default=enOf s t from rfl]
  generalize enOf s t=e at *
  have hlv:=he.lv
  have hln:=he.ln
  simp (maxSteps:=1000000) -dsimp only [go_sem,aX]
  refine aD rfl (.done ?_)
  simp (maxSteps:=1000000) -dsimp only [go_sem,IB]
  refine aK (α:=Nat) (fun i=>[(5,.va (.c1 (.pt 2 0))),(7,.va (.c1 (.pt 3 0))),(22,.va (.c1 (.fz (e.vs.map bU)))),(23,iS .i64 e.vs.length),(24,iS .i64 i)])
    (fun _=>[r9 s b,.cells [.vl (.int .i64 t.k),.vl (.int .i64 t.s),.vl (.string t.n),.fz (t.e.map aM)] 28,.cells [.vl (.int .i64 v.k),.vl (.int .i64 v.n),.vl (.string v.s),.fz (v.l.map aV),.fz (v.f.map aY)] 32,.cells [.vl (.string e.nm),.fz (e.ns.map bB),.fz (e.vs.map bU)] 92])
    (fun i=>i<=e.vs.length/\iI e.ns v.n (e.vs.drop i) i=iI e.ns v.n e.vs 0) (fun i=>e.vs.length - i) 0 4 ⟨Nat.zero_le _,rfl⟩ ?_ ?_ ?_
  · simp -dsimp only [go_sem]<;>simp
  · simp -dsimp only [go_sem]<;>simp
  rintro i ⟨hi,ho⟩
  rcases Nat.lt_or_ge i e.vs.length with hlt | hge
  · have hg:decide ((i:Int) < (e.vs.length:Int))=true:=by simp; omega
    have hx:e.vs[i]? = some e.vs[i]:=List.getElem?_eq_getElem hlt
    have q2:=aO (row:=bU) hx
    rw [List.drop_eq_getElem_cons hlt,iI] at ho
    generalize e.vs[i]=m at *
    simp (maxSteps:=1000000) -dsimp only [go_sem,hg,↓q2]
    refine ⟨⟨by omega,by omega⟩,aD rfl (.done ?_)⟩
    cases hc1:m == v.n with
    | false=>
      rw [hc1,Bool.false_and,Bool.cond_false] at ho
      simp (maxSteps:=1000000) -dsimp only [go_sem,rX,hc1]
      refine ⟨by omega,aC (i + 1) 4 ⟨by omega,ho⟩ (by omega) ?_ ?_⟩
      · simp -dsimp only [go_sem]<;>simp
      · simp -dsimp only [go_sem]<;>simp
    | true=>
      cases hc2:decide ((i:Int) < (e.ns.length:Int)) with
      | false=>
        rw [hc1,hc2,Bool.true_and,Bool.cond_false] at ho
        simp (maxSteps:=1000000) -dsimp only [go_sem,rX,hc1,hc2]
        refine ⟨by omega,aC (i + 1) 4 ⟨by omega,ho⟩ (by omega) ?_ ?_⟩
        · simp -dsimp only [go_sem]<;>simp
        · simp -dsimp only [go_sem]<;>simp
      | true=>
        rw [hc1,hc2,Bool.true_and,Bool.cond_true] at ho
        have hlt2:i < e.ns.length:=by simpa using hc2
        have hx2:e.ns[i]? = some e.ns[i]:=List.getElem?_eq_getElem hlt2
        have q3:=aO (row:=bB) hx2
        rw [List.getD_eq_getElem?_getD,hx2,Option.getD_some] at ho
        rw [<-ho] at hK
        generalize e.ns[i]=w at *
        simp (maxSteps:=1000000) -dsimp only [go_sem,rX,hc1,hc2,↓q3]
        refine ⟨⟨by omega,by omega⟩,.sel [0] (by simp) (by simp) rfl (.done ?_)⟩
        simp (maxSteps:=1000000) -dsimp only [go_sem]
        exact hK
  · have hg:decide ((i:Int) < (e.vs.length:Int))=false:=by simp; omega
    have:e.vs.drop i=[]:=List.drop_eq_nil_iff.2 (by omega)
    rw [this,iI] at ho
    rw [<-ho] at hK
    simp (maxSteps:=1000000) -dsimp only [go_sem,hg]
    refine .sel [0] (by simp) (by simp) rfl (.done ?_)
    simp (maxSteps:=1000000) -dsimp only [go_sem]
    exact hK
end Go.Proofs.YtkpohmhenegkiaaGreatDoor
namespace Go.Proofs.YtkpohmhenegkiaaGreatDoor
open Go.W
attribute [-go_sem] bT b9 bR eC cC gI
def gV (D:Sc->Ty->Vl->Prop) (F:eT) (f:FuncId):W.Spec:=oD (fun s t v=>D s t v/\f5 t.k=f) F
def HG (D:Sc->Ty->Vl->Prop) (F:eT):bY:=[(24,.s lH),(54,.s (gV D F 54)),(56,.s (gV D F 56)),(58,.s (gV D F 58)),
  (60,.s (gV D F 60)),(62,.s (gV D F 62)),(64,.s (gV D F 64))]
structure FmtM (D:Sc->Ty->Vl->Prop) (F:eT):Prop where
  b:Meets Tryz.prog 54 (gV D F 54)
  t:Meets Tryz.prog 56 (gV D F 56)
  e:Meets Tryz.prog 58 (gV D F 58)
  l:Meets Tryz.prog 60 (gV D F 60)
  s:Meets Tryz.prog 62 (gV D F 62)
  n:Meets Tryz.prog 64 (gV D F 64)
theorem pO {D:Sc->Ty->Vl->Prop} {F:eT} (h:FmtM D F):c8 Tryz.prog (HG D F):=
  aB mOf (aB h.b (aB h.t (aB h.e (aB h.l (aB h.s (aB h.n (aA _)))))))
theorem KV (D:Sc->Ty->Vl->Prop) (F:eT):sp (HG D F) 24=lH:=rfl
theorem GC (D:Sc->Ty->Vl->Prop) (F:eT) (k:Int):sp (HG D F) (f5 k)=gV D F (f5 k):=by
  unfold f5
  cases k == 1<;>cases k == 4<;>cases k == 7<;>cases k == 5<;>cases k == 6<;>rfl
theorem q9 {D:Sc->Ty->Vl->Prop} {F:eT} {s:Sc} {t:Ty} {v:Vl} {b:Bool} {K:S->Hp->Prop} (h1:s.fit) (h2:TyOk t) (h3:VlOk v) (h4:D s t v) (hK:K (tS (mk (F s t v).1)) [r9 s (b || (F s t v).2)]) :
    gV D F (f5 t.k) [.va (.c1 (.pt 0 0)),.va (.gs [.vl (.int .i64 t.k),.vl (.int .i64 t.s),.vl (.string t.n),.fz (t.e.map aM)]),.va (.gs [.vl (.int .i64 v.k),.vl (.int .i64 v.n),.vl (.string v.s),.fz (v.l.map aV),.fz (v.f.map aY)])] [r9 s b] K:=
  ⟨s,t,v,b,by rw [aH,aI],rfl,h1,h2,h3,⟨h4,rfl⟩,hK⟩
def cX:Bool->List (List UInt8)->List UInt8
  | _,[]=>[]
  | c,x :: r=>(bif c then [44,32] else []) ++ x ++ cX true r
theorem wL:∀ (c:Bool) (xs ys:List (List UInt8)),cX c (xs ++ ys)=cX c xs ++ cX (c || !xs.isEmpty) ys
  | c,[],ys=>by simp [cX]
  | c,x :: r,ys=>by
    rw [List.cons_append,cX,cX,wL true r ys]
    simp [List.append_assoc]
theorem gA {α:Type} (f:α->List UInt8) (l:List α) (i:Nat):(cX false ((l.take i).map f)).length<=(cX false (l.map f)).length:=by
  have h:l.map f=(l.take i).map f ++ (l.drop i).map f:=by rw [<-List.map_append,List.take_append_drop]
  rw [h,wL,List.length_append]; omega
theorem nS {α:Type} (f:α->List UInt8) {l:List α} {i:Nat} {x:α} (h:l[i]? = some x):cX false ((l.take (i + 1)).map f)=cX false ((l.take i).map f) ++ (bif decide (0 < (i:Int)) then [44,32] else []) ++ f x:=by
  have hl:=(List.getElem?_eq_some_iff.1 h).1
  rw [List.take_add_one,h,List.map_append,wL]
  have e:(false || !((l.take i).map f).isEmpty)=decide (0 < (i:Int)):=by
    cases i with
    | zero=>simp
    | succ i=>
      have:decide (0 < ((i + 1:Nat):Int))=true:=decide_eq_true (by omega)
      rw [this]
      cases l with
      | nil=>simp at hl
      | cons y l=>simp
  rw [e]
  simp [cX,List.append_assoc]
def mA (F:eT) (s:Sc) (u:Ty) (l:List Vl):List UInt8 × Bool:=([91] ++ cX false (l.map fun x=>(F s u x).1) ++ [93],l.any fun x=>(F s u x).2)
theorem JE {D:Sc->Ty->Vl->Prop} {F:eT} (hF:FmtM D F):Meets Tryz.prog 60 (oD (fun s t v=>∃ u,t.e=[u]/\TyOk u/\(∀ x ∈ v.l,D s u x)/\(mA F s u v.l).1.length<=100000000000000) fun s t v=>mA F s (t.e.headD default) v.l):=by
  refine aF Tryz.func60 aLL 3 (by rw [Tryz.ntmps60]; decide) (pO hF) oM ?_
  rintro av H K ⟨s,t,v,b,rfl,rfl,hs,ht,hv,⟨u,he,hu,hD,hlen⟩,hK⟩
  have hK:K (tS (mk (mA F s u v.l).1)) [r9 s (b || (mA F s u v.l).2)]:=by have:=hK; simp only [he,List.headD_cons] at this; exact this
  have hll:=hv.ll
  have hvl:=hv.l
  unfold mA at hK hlen
  simp only [List.length_append,List.length_singleton] at hlen
  simp (maxSteps:=1000000) -dsimp only [go_sem,aH t,aI v,aEC,aEV]
  refine aK (α:=Nat) (fun i=>[(0,.va (.c1 (.pt 0 0))),(4,.va (.c1 (.pt 1 0))),(7,tS (mk ([91] ++ cX false ((v.l.take i).map fun x=>(F s u x).1)))),(11,.va (.c1 (.fz (v.l.map aV)))),(12,iS .i64 v.l.length),(13,iS .i64 i)])
    (fun i=>[r9 s (b || (v.l.take i).any fun x=>(F s u x).2),.cells [.vl (.int .i64 t.k),.vl (.int .i64 t.s),.vl (.string t.n),.fz (t.e.map aM)] 28,.cells [.vl (.int .i64 v.k),.vl (.int .i64 v.n),.vl (.string v.s),.fz (v.l.map aV),.fz (v.f.map aY)] 32])
    (fun i=>i<=v.l.length) (fun i=>v.l.length - i) 0 3 (Nat.zero_le _) ?_ ?_ ?_
  · simp -dsimp only [go_sem]<;>simp [cX]
  · simp -dsimp only [go_sem]<;>simp
  intro i hi
  have hci:=gA (fun x=>(F s u x).1) v.l i
  rcases Nat.lt_or_ge i v.l.length with hlt | hge
  · have hg:decide ((i:Int) < (v.l.length:Int))=true:=by simp; omega
    have hx:v.l[i]? = some v.l[i]:=List.getElem?_eq_getElem hlt
    have q2:=aO (row:=aV) hx
    have hxo:=hvl _ (List.getElem_mem hlt)
    have hxD:=hD _ (List.getElem_mem hlt)
    have hcn:=nS (fun x=>(F s u x).1) hx
    have han:(v.l.take (i + 1)).any (fun x=>(F s u x).2)=((v.l.take i).any (fun x=>(F s u x).2) || (F s u v.l[i]).2):=by rw [List.take_add_one,hx,List.any_append]; simp
    have hc1:=gA (fun x=>(F s u x).1) v.l (i + 1)
    generalize v.l[i]=x at *
    have z0:(0:Int) < ((1:Nat):Int):=by decide
    have z1:(0:Int)<=0:=by decide
    cases hc:decide (0 < (i:Int)) with
    | true=>
      rw [hc,Bool.cond_true] at hcn
      rw [hcn] at hc1
      simp only [List.length_append] at hc1
      simp (maxSteps:=1000000) -dsimp only [go_sem,hg,↓q2,aI x,hc,List.take_succ_cons,List.take_zero,List.length_cons]
      refine ⟨⟨by omega,by omega⟩,by omega,aD rfl (.done ?_)⟩
      simp (maxSteps:=1000000) -dsimp only [go_sem,xY,he,aH u,KV,GC,forall_eq',z0,z1,List.length_cons,List.length_nil,List.take_succ_cons,List.take_zero]
      refine q9 hs hu hxo hxD ?_
      simp (maxSteps:=1000000) -dsimp only [go_sem]
      refine ⟨by simp only [List.length_cons,List.length_nil] at hc1; omega,⟨by omega,by omega⟩,aC (i + 1) 3 (by omega) (by omega) ?_ ?_⟩
      · simp -dsimp only [go_sem,hcn]<;>simp
      · simp -dsimp only [go_sem,han]<;>simp [he,aH u,Bool.or_assoc]
    | false=>
      rw [hc,Bool.cond_false] at hcn
      rw [hcn] at hc1
      simp only [List.length_append] at hc1
      simp (maxSteps:=1000000) -dsimp only [go_sem,hg,↓q2,aI x,hc,List.take_succ_cons,List.take_zero,List.length_cons]
      refine ⟨⟨by omega,by omega⟩,aD rfl (.done ?_)⟩
      simp (maxSteps:=1000000) -dsimp only [go_sem,xY,he,aH u,KV,GC,forall_eq',z0,z1,List.length_cons,List.length_nil,List.take_succ_cons,List.take_zero]
      refine q9 hs hu hxo hxD ?_
      simp (maxSteps:=1000000) -dsimp only [go_sem]
      refine ⟨by simp only [List.length_nil] at hc1; omega,⟨by omega,by omega⟩,aC (i + 1) 3 (by omega) (by omega) ?_ ?_⟩
      · simp -dsimp only [go_sem,hcn]<;>simp
      · simp -dsimp only [go_sem,han]<;>simp [he,aH u,Bool.or_assoc]
  · have hg:decide ((i:Int) < (v.l.length:Int))=false:=by simp; omega
    rw [List.take_of_length_le hge] at hci ⊢
    simp (maxSteps:=1000000) -dsimp only [go_sem,hg]
    refine ⟨by omega,.sel [0] (by simp) (by simp) rfl (.done ?_)⟩
    simp (maxSteps:=1000000) -dsimp only [go_sem]
    simpa using hK
end Go.Proofs.YtkpohmhenegkiaaGreatDoor
namespace Go.Proofs.YtkpohmhenegkiaaGreatDoor
open Go.W
attribute [-go_sem] bT b9 bR eC cC gI
def IY (D:Sc->Ty->Vl->Prop) (F:eT):bY:=(103,.s jK) :: (104,.s kM) :: HG D F
theorem LO {D:Sc->Ty->Vl->Prop} {F:eT} (h:FmtM D F):c8 Tryz.prog (IY D F):=aB mY (aB sI (pO h))
theorem JP (D:Sc->Ty->Vl->Prop) (F:eT):sp (IY D F) 24=lH:=rfl
theorem Y9 (D:Sc->Ty->Vl->Prop) (F:eT):sp (IY D F) 103=jK:=rfl
theorem LC (D:Sc->Ty->Vl->Prop) (F:eT):sp (IY D F) 104=kM:=rfl
theorem FR (D:Sc->Ty->Vl->Prop) (F:eT) (k:Int):sp (IY D F) (f5 k)=gV D F (f5 k):=by
  unfold f5
  cases k == 1<;>cases k == 4<;>cases k == 7<;>cases k == 5<;>cases k == 6<;>rfl
def cK (u:St) (n:Int):Fl:=(fF u.fs n).getD default
def nK (F:eT) (s:Sc) (u:St) (x:Int × Vl):List UInt8:=bl (cK u x.1).nm ++ [32,61,32] ++ (F s (cK u x.1).ty x.2).1
def iD (F:eT) (s:Sc) (u:St) (l:List (Int × Vl)):List UInt8 × Bool:=([123] ++ cX false (l.map (nK F s u)) ++ [125],l.any fun x=>(F s (cK u x.1).ty x.2).2)
theorem s0 {u:St} (hu:u.ok) (n:Int):(cK u n).ok:=by
  unfold cK
  cases h:fF u.fs n with
  | none=>exact ⟨⟨by decide,by decide⟩,by decide,.mk ⟨by decide,by decide⟩ ⟨by decide,by decide⟩ (by decide) (by decide) (fun _ h=>by cases h)⟩
  | some d=>exact hu.fs d (List.mem_of_find?_eq_some h)
theorem uY {s:Sc} (hs:s.fit) (t:Ty):∀ f ∈ (stOf s t).fs,TySm f.ty:=by
  unfold stOf
  cases h:fS s.ss t.n with
  | none=>exact fun _ h=>(by cases h)
  | some u=>exact (hs.sm u (List.mem_of_find?_eq_some h)).2
theorem jZ {t:St} {k:Int} {K:S->Hp->Prop} (h:t.ok) (h2:∀ f ∈ t.fs,TySm f.ty) (hK:K (.tu [.gs (aR (cK t k)),bA (fF t.fs k).isSome]) []):kM [.va (.gs [.vl (.string t.nm),.fz (t.fs.map aR)]),iS .i64 k] [] K:=⟨t,k,rfl,rfl,h,h2,hK⟩
theorem DT {D:Sc->Ty->Vl->Prop} {F:eT} (hF:FmtM D F):Meets Tryz.prog 62 (oD (fun s t v=>(∀ x ∈ v.f,D s (cK (stOf s t) x.1).ty x.2)/\(iD F s (stOf s t) v.f).1.length<=100000000000000) fun s t v=>iD F s (stOf s t) v.f):=by
  refine aF Tryz.func62 aNG 3 (by rw [Tryz.ntmps62]; decide) (LO hF) oM ?_
  rintro av H K ⟨s,t,v,b,rfl,rfl,hs,ht,hv,⟨hD,hlen⟩,hK⟩
  have hK:K (tS (mk (iD F s (stOf s t) v.f).1)) [r9 s (b || (iD F s (stOf s t) v.f).2)]:=hK
  have hok:=iZ hs t
  have hll:=hv.lf
  have hvl:=hv.f
  have hvn:=hv.fn
  simp (maxSteps:=1000000) -dsimp only [go_sem,aH t,aI v,aBI,aCF,Y9]
  refine gP hs ?_
  rw [show (fS s.ss t.n).getD default=stOf s t from rfl]
  have hsu:=uY hs t
  generalize stOf s t=u at *
  unfold iD at hK hlen
  simp only [List.length_append,List.length_singleton] at hlen
  simp (maxSteps:=1000000) -dsimp only [go_sem,aL]
  refine aD rfl (.done ?_)
  simp (maxSteps:=1000000) -dsimp only [go_sem,FE]
  refine aK (α:=Nat) (fun i=>[(0,.va (.c1 (.pt 0 0))),(7,.va (.c1 (.pt 3 0))),(9,tS (mk ([123] ++ cX false ((v.f.take i).map (nK F s u))))),(25,.va (.c1 (.fz (v.f.map aY)))),(26,iS .i64 v.f.length),(27,iS .i64 i)])
    (fun i=>[r9 s (b || (v.f.take i).any fun x=>(F s (cK u x.1).ty x.2).2),.cells [.vl (.int .i64 t.k),.vl (.int .i64 t.s),.vl (.string t.n),.fz (t.e.map aM)] 28,.cells [.vl (.int .i64 v.k),.vl (.int .i64 v.n),.vl (.string v.s),.fz (v.l.map aV),.fz (v.f.map aY)] 32,.cells [.vl (.string u.nm),.fz (u.fs.map aR)] 95])
    (fun i=>i<=v.f.length) (fun i=>v.f.length - i) 0 4 (Nat.zero_le _) ?_ ?_ ?_
  · simp -dsimp only [go_sem]<;>simp [cX]
  · simp -dsimp only [go_sem]<;>simp
  intro i hi
  have hci:=gA (nK F s u) v.f i
  rcases Nat.lt_or_ge i v.f.length with hlt | hge
  · have hg:decide ((i:Int) < (v.f.length:Int))=true:=by simp; omega
    have hx:v.f[i]? = some v.f[i]:=List.getElem?_eq_getElem hlt
    have q2:=aO (row:=aY) hx
    have hxo:=hvl _ (List.getElem_mem hlt)
    have hxD:=hD _ (List.getElem_mem hlt)
    have hcn:=nS (nK F s u) hx
    have han:(v.f.take (i + 1)).any (fun x=>(F s (cK u x.1).ty x.2).2)=((v.f.take i).any (fun x=>(F s (cK u x.1).ty x.2).2) || (F s (cK u v.f[i].1).ty v.f[i].2).2):=by rw [List.take_add_one,hx,List.any_append]; simp
    have hc1:=gA (nK F s u) v.f (i + 1)
    generalize v.f[i]=x at *
    obtain ⟨n,x⟩:=x
    have hdo:=s0 hok n
    have hit:nK F s u (n,x)=bl (cK u n).nm ++ [32,61,32] ++ (F s (cK u n).ty x).1:=rfl
    simp only at hxo hxD han
    simp (maxSteps:=1000000) -dsimp only [go_sem,hg,↓q2,aY,aI x,List.take_succ_cons,List.take_zero,List.length_cons]
    refine ⟨⟨by omega,by omega⟩,aD rfl (.done ?_)⟩
    cases hc:decide (0 < (i:Int)) with
    | true=>
      rw [hc,Bool.cond_true] at hcn
      rw [hcn,hit] at hc1
      rw [hit] at hcn
      simp only [List.length_append,List.length_cons,List.length_nil] at hc1
      simp (maxSteps:=1000000) -dsimp only [go_sem,yK,hc]
      refine ⟨by omega,aD rfl (.done ?_)⟩
      simp (maxSteps:=1000000) -dsimp only [go_sem,yA,LC]
      refine jZ hok hsu ?_
      generalize cK u n=d at *
      simp (maxSteps:=1000000) -dsimp only [go_sem,aR]
      refine aD rfl (.done ?_)
      simp (maxSteps:=1000000) -dsimp only [go_sem,zD,JP,FR,List.length_cons,List.length_nil,List.take_succ_cons,List.take_zero]
      have hnm:(bl d.nm).length<=9223372036854775804:=by omega
      refine ⟨hnm,hnm,q9 hs hdo.ty hxo hxD ?_⟩
      simp (maxSteps:=1000000) -dsimp only [go_sem]
      refine ⟨hnm,by omega,by omega,⟨by omega,by omega⟩,aC (i + 1) 4 (by omega) (by omega) ?_ ?_⟩
      · simp -dsimp only [go_sem,hcn]<;>simp
      · simp -dsimp only [go_sem,han]<;>simp [Bool.or_assoc]
    | false=>
      rw [hc,Bool.cond_false] at hcn
      rw [hcn,hit] at hc1
      rw [hit] at hcn
      simp only [List.length_append,List.length_cons,List.length_nil] at hc1
      simp (maxSteps:=1000000) -dsimp only [go_sem,yK,hc]
      refine aD rfl (.done ?_)
      simp (maxSteps:=1000000) -dsimp only [go_sem,yA,LC]
      refine jZ hok hsu ?_
      generalize cK u n=d at *
      simp (maxSteps:=1000000) -dsimp only [go_sem,aR]
      refine aD rfl (.done ?_)
      simp (maxSteps:=1000000) -dsimp only [go_sem,zD,JP,FR,List.length_cons,List.length_nil,List.take_succ_cons,List.take_zero]
      have hnm:(bl d.nm).length<=9223372036854775804:=by omega
      refine ⟨hnm,hnm,q9 hs hdo.ty hxo hxD ?_⟩
      simp (maxSteps:=1000000) -dsimp only [go_sem]
      refine ⟨hnm,by omega,by omega,⟨by omega,by omega⟩,aC (i + 1) 4 (by omega) (by omega) ?_ ?_⟩
      · simp -dsimp only [go_sem,hcn]<;>simp
      · simp -dsimp only [go_sem,han]<;>simp [Bool.or_assoc]
  · have hg:decide ((i:Int) < (v.f.length:Int))=false:=by simp; omega
    rw [List.take_of_length_le hge] at hci ⊢
    simp (maxSteps:=1000000) -dsimp only [go_sem,hg]
    refine ⟨by omega,.sel [0] (by simp) (by simp) rfl (.done ?_)⟩
    simp (maxSteps:=1000000) -dsimp only [go_sem]
    simpa using hK
end Go.Proofs.YtkpohmhenegkiaaGreatDoor
namespace Go.Proofs.YtkpohmhenegkiaaGreatDoor
open Go.W
attribute [-go_sem] bT b9 bR eC cC gI
def fP:Nat->eT
  | 0=>fun _ _ _=>([],false)
  | N + 1=>fun s t v=>bif t.k == 1 then (CG v.n,false) else bif t.k == 4 then (lU (bl v.s),lU (bl v.s) == []) else bif t.k == 7 then (bl (iI (enOf s t).ns v.n (enOf s t).vs 0),false)
      else bif t.k == 5 then mA (fP N) s (t.e.headD default) v.l else bif t.k == 6 then iD (fP N) s (stOf s t) v.f else (gG v.n,false)
theorem iC (N:Nat) (s:Sc) (t:Ty) (v:Vl):fP (N + 1) s t v=bif t.k == 1 then (CG v.n,false) else bif t.k == 4 then (lU (bl v.s),lU (bl v.s) == []) else bif t.k == 7 then (bl (iI (enOf s t).ns v.n (enOf s t).vs 0),false)
      else bif t.k == 5 then mA (fP N) s (t.e.headD default) v.l else bif t.k == 6 then iD (fP N) s (stOf s t) v.f else (gG v.n,false):=rfl
def dF:Nat->Sc->Ty->Vl->Prop
  | 0,_,_,_=>False
  | N + 1,s,t,v=>((t.k == 4)=true->(bl v.s).length<=100000)/\((t.k == 5)=true->∃ u,t.e=[u]/\TyOk u/\∀ x ∈ v.l,dF N s u x)/\((t.k == 6)=true->∀ x ∈ v.f,dF N s (cK (stOf s t) x.1).ty x.2)/\(fP (N + 1) s t v).1.length<=100000000000000
theorem mI {f:FuncId} {D D':Sc->Ty->Vl->Prop} {F F':eT} (h:Meets Tryz.prog f (oD D F)) (hd:∀ s t v,D' s t v->D s t v/\F s t v=F' s t v):Meets Tryz.prog f (oD D' F'):=
  eM (0:Nat) (fun (_:Nat)=>h) fun av H K ⟨s,t,v,b,h1,h2,h3,h4,h5,h6,h7⟩=>⟨0,s,t,v,b,h1,h2,h3,h4,h5,(hd s t v h6).1,by rw [(hd s t v h6).2]; exact h7⟩
theorem mS (k:Int):(f5 k=54->(k == 1)=true)/\(f5 k=56->(k == 1)=false/\(k == 4)=true)/\(f5 k=58->(k == 1)=false/\(k == 4)=false/\(k == 7)=true)/\
    (f5 k=60->(k == 1)=false/\(k == 4)=false/\(k == 7)=false/\(k == 5)=true)/\(f5 k=62->(k == 1)=false/\(k == 4)=false/\(k == 7)=false/\(k == 5)=false/\(k == 6)=true)/\
    (f5 k=64->(k == 1)=false/\(k == 4)=false/\(k == 7)=false/\(k == 5)=false/\(k == 6)=false):=by
  unfold f5
  cases k == 1<;>cases k == 4<;>cases k == 7<;>cases k == 5<;>cases k == 6<;>refine ⟨?_,?_,?_,?_,?_,?_⟩<;>intro h<;>first | (exact absurd h (by decide)) | simp
theorem mJ {f:FuncId} {F:eT} {g:FuncId} (h:m9 Tryz.prog f=true):Meets Tryz.prog f (gV (dF 0) F g):=⟨h,by rintro xs vs E ro w K _ _ _ ⟨_,_,_,_,_,_,_,_,_,⟨h,_⟩,_⟩; exact h.elim⟩
theorem aAJ:∀ N,FmtM (dF N) (fP N)
  | 0=>⟨mJ (by kernel_rfl),mJ (by kernel_rfl),mJ (by kernel_rfl),mJ (by kernel_rfl),mJ (by kernel_rfl),mJ (by kernel_rfl)⟩
  | N + 1=>by
    have ih:=aAJ N
    refine ⟨mI JB ?_,mI IZ ?_,mI I4 ?_,mI (JE ih) ?_,mI (DT ih) ?_,mI DQ ?_⟩
    · rintro s t v ⟨hD,hk⟩
      have h1:=(mS t.k).1 hk
      exact ⟨trivial,by rw [iC,h1,Bool.cond_true]⟩
    · rintro s t v ⟨hD,hk⟩
      obtain ⟨h1,h2⟩:=(mS t.k).2.1 hk
      exact ⟨hD.1 h2,by rw [iC,h1,h2]; rfl⟩
    · rintro s t v ⟨hD,hk⟩
      obtain ⟨h1,h2,h3⟩:=(mS t.k).2.2.1 hk
      exact ⟨trivial,by rw [iC,h1,h2,h3]; rfl⟩
    · rintro s t v ⟨hD,hk⟩
      obtain ⟨h1,h2,h3,h4⟩:=(mS t.k).2.2.2.1 hk
      have e:fP (N + 1) s t v=mA (fP N) s (t.e.headD default) v.l:=by rw [iC,h1,h2,h3,h4]; rfl
      obtain ⟨u,he,hu,hD1⟩:=hD.2.1 h4
      have hl:=hD.2.2.2
      rw [e,he,List.headD_cons] at hl
      exact ⟨⟨u,he,hu,hD1,hl⟩,e.symm⟩
    · rintro s t v ⟨hD,hk⟩
      obtain ⟨h1,h2,h3,h4,h5⟩:=(mS t.k).2.2.2.2.1 hk
      have e:fP (N + 1) s t v=iD (fP N) s (stOf s t) v.f:=by rw [iC,h1,h2,h3,h4,h5]; rfl
      have hl:=hD.2.2.2
      rw [e] at hl
      exact ⟨⟨hD.2.2.1 h5,hl⟩,e.symm⟩
    · rintro s t v ⟨hD,hk⟩
      obtain ⟨h1,h2,h3,h4,h5⟩:=(mS t.k).2.2.2.2.2 hk
      exact ⟨trivial,by rw [iC,h1,h2,h3,h4,h5]; rfl⟩
end Go.Proofs.YtkpohmhenegkiaaGreatDoor
namespace Go.Proofs.YtkpohmhenegkiaaGreatDoor
open Go.W
attribute [-go_sem] bT b9 bR eC cC gI
noncomputable def MA (D:Sc->Ty->Vl->Prop) (F:eT):bY:=(23,.f (cQ (fun _ _ _=>True) fun s t v=>.int .i64 (dQ s t v))) :: HG D F
theorem L8 {D:Sc->Ty->Vl->Prop} {F:eT} (h:FmtM D F):c8 Tryz.prog (MA D F):=aG BW (pO h)
theorem YB (D:Sc->Ty->Vl->Prop) (F:eT):sp (MA D F) 24=lH:=rfl
theorem J7 (D:Sc->Ty->Vl->Prop) (F:eT):eV (MA D F) 23=some (cQ (fun _ _ _=>True) fun s t v=>.int .i64 (dQ s t v)):=rfl
theorem S4 (D:Sc->Ty->Vl->Prop) (F:eT) (k:Int):sp (MA D F) (f5 k)=gV D F (f5 k):=by
  unfold f5
  cases k == 1<;>cases k == 4<;>cases k == 7<;>cases k == 5<;>cases k == 6<;>rfl
def vB (F:eT) (s:Sc) (t:Ty) (v:Vl):List UInt8:=bif dQ s t v != 0 then [] else bif (F s t v).2 || decide (4000 < ((F s t v).1.length:Int)) then [] else (F s t v).1
def aMM (D:Sc->Ty->Vl->Prop) (F:eT):W.Spec:=fun av H K=>∃ s t v,av=[.va (.gs (aE s)),.va (.gs (aM t)),.va (.gs (aV v))]/\H=[]/\s.fit/\TyOk t/\VlOk v/\(dQ s t v=0->D s t v)/\K (tS (mk (vB F s t v))) []
theorem Y6 {D:Sc->Ty->Vl->Prop} {F:eT} (hF:FmtM D F):Meets Tryz.prog 11 (aMM D F):=by
  refine aF Tryz.func11 aK6 3 (by rw [Tryz.ntmps11]; decide) (L8 hF) (fun av H K h=>by obtain ⟨_,_,_,rfl,_⟩:=h; rfl) ?_
  rintro av H K ⟨s,t,v,rfl,rfl,hs,ht,hv,hD,hK⟩
  have k1:=cE hv
  have k2:=eR v
  have k4:=cL ht
  have k5:=fN t
  have k6:=dV hs
  have k7:=hM s
  have fin:∀ (x:List UInt8) (R:Hp),vB F s t v=x->W.Fin 0 K (tS (mk x)) R:=fun x R h=>by
    rw [h] at hK
    exact .sel [] (by simp) (by simp) rfl (.done (by simpa [go_sem] using hK))
  clear hK
  unfold vB at fin
  cases h1:dQ s t v != 0 with
  | true=>
    rw [h1] at fin
    simp (maxSteps:=1000000) -dsimp only [go_sem,aE,aH t,aI v,R8,RT,J7,k1,k2,k4,k5,k6,k7,h1]
    exact fin [] _ rfl
  | false=>
  rw [h1,Bool.cond_false] at fin
  have hD:=hD (by simpa using h1)
  simp (maxSteps:=1000000) -dsimp only [go_sem,aE,aH t,aI v,R8,RT,J7,k1,k2,k4,k5,k6,k7,h1]
  refine aD rfl (.done ?_)
  simp (maxSteps:=1000000) -dsimp only [go_sem,GK,YB,S4]
  refine q9 hs ht hv hD ?_
  generalize F s t v=r at *
  obtain ⟨x,b⟩:=r
  simp only at fin
  simp (maxSteps:=1000000) -dsimp only [go_sem]
  refine aD rfl (.done ?_)
  cases b with
  | true=>
    rw [Bool.true_or,Bool.cond_true] at fin
    simp (maxSteps:=1000000) -dsimp only [go_sem,sO,Bool.or_true]
    exact fin [] _ rfl
  | false=>
    rw [Bool.false_or] at fin
    cases h2:decide (4000 < (x.length:Int)) with
    | true=>
      rw [h2,Bool.cond_true] at fin
      simp (maxSteps:=1000000) -dsimp only [go_sem,sO,Bool.or_false,h2]
      exact fin [] _ rfl
    | false=>
      rw [h2,Bool.cond_false] at fin
      simp (maxSteps:=1000000) -dsimp only [go_sem,sO,Bool.or_false,h2]
      exact fin x _ rfl
end Go.Proofs.YtkpohmhenegkiaaGreatDoor
namespace Go.Proofs.YtkpohmhenegkiaaGreatDoor
open Go.W
theorem FI:Meets Tryz.prog 112 jK:=by
  refine aF Tryz.func112 aID 2 (by rw [Tryz.ntmps112]; decide) (aA _) (fun av H K h=>by obtain ⟨_,_,rfl,_⟩:=h; rfl) ?_
  rintro av H K ⟨s,n,rfl,rfl,hs,hK⟩
  rw [<-zZ] at hK
  have hl:=hs.ok.ls
  simp -dsimp only [go_sem,aE,UB,V3]
  refine aK (α:=Nat) (fun i=>[(1,tS n),(2,.va (.c1 (.pt 0 0))),(4,.va (.c1 (.pt 1 0))),(6,iS .i64 i)]) (fun _=>[.cells (aE s) 25,.cells [.vl (.string (mk [])),.vl (.slice none 0 0)] 95])
    (fun i=>i<=s.ss.length/\fS (s.ss.drop i) n=fS s.ss n) (fun i=>s.ss.length - i) 0 2 ⟨Nat.zero_le _,rfl⟩ ?_ ?_ ?_
  · simp [go_sem]
  · simp [go_sem,aE]
  rintro i ⟨hi,ho⟩
  rcases Nat.lt_or_ge i s.ss.length with hlt | hge
  · have hg:decide ((i:Int) < (s.ss.length:Int))=true:=by simp; omega
    obtain ⟨t,hx⟩:∃ e,s.ss[i]? = some e:=⟨_,List.getElem?_eq_getElem hlt⟩
    have q2:=aO (row:=aL) hx
    rw [fS,fT hx] at ho
    cases hc:decide (t.nm=n) with
    | true=>
      rw [hc,Bool.cond_true] at ho
      rw [<-ho] at hK
      simp (maxSteps:=1000000) -dsimp only [go_sem,hg,↓q2,aL,aE,cM,hc]
      refine ⟨by omega,by omega,.sel [] (by simp) (by simp) rfl (.done (by simpa [go_sem,aL] using hK))⟩
    | false=>
      rw [hc,Bool.cond_false] at ho
      simp (maxSteps:=1000000) -dsimp only [go_sem,hg,↓q2,aL,aE,cM,hc]
      refine ⟨by omega,by omega,aC (i + 1) 2 ⟨by omega,ho⟩ (by omega) ?_ ?_⟩
      · simp [go_sem]
      · simp [go_sem,aE]
  · have hg:decide ((i:Int) < (s.ss.length:Int))=false:=by simp; omega
    obtain rfl:i=s.ss.length:=by omega
    rw [List.drop_length] at ho
    rw [<-ho] at hK
    simp -dsimp only [go_sem,hg,aE]
    exact .sel [] (by simp) (by simp) rfl (.done (by simpa [go_sem,fS,AY] using hK))
theorem aD9:Meets Tryz.prog 133 wX:=by
  refine aF Tryz.func133 aG4 2 (by rw [Tryz.ntmps133]; decide) (aA _) (fun av H K h=>by obtain ⟨_,_,rfl,_⟩:=h; rfl) ?_
  rintro av H K ⟨s,n,rfl,rfl,hs,hK⟩
  rw [<-AB] at hK
  have hl:=hs.ok.le
  simp -dsimp only [go_sem,aE,XH,WN]
  refine aK (α:=Nat) (fun i=>[(1,tS n),(2,.va (.c1 (.pt 0 0))),(4,.va (.c1 (.pt 1 0))),(6,iS .i64 i)]) (fun _=>[.cells (aE s) 25,.cells [.vl (.string (mk [])),.vl (.slice none 0 0),.vl (.slice none 0 0)] 92])
    (fun i=>i<=s.es.length/\bX (s.es.drop i) n=bX s.es n) (fun i=>s.es.length - i) 0 2 ⟨Nat.zero_le _,rfl⟩ ?_ ?_ ?_
  · simp [go_sem]
  · simp [go_sem,aE]
  rintro i ⟨hi,ho⟩
  rcases Nat.lt_or_ge i s.es.length with hlt | hge
  · have hg:decide ((i:Int) < (s.es.length:Int))=true:=by simp; omega
    obtain ⟨t,hx⟩:∃ e,s.es[i]? = some e:=⟨_,List.getElem?_eq_getElem hlt⟩
    have q2:=aO (row:=aX) hx
    rw [bX,fT hx] at ho
    cases hc:decide (t.nm=n) with
    | true=>
      rw [hc,Bool.cond_true] at ho
      rw [<-ho] at hK
      simp (maxSteps:=1000000) -dsimp only [go_sem,hg,↓q2,aX,aE,cM,hc]
      refine ⟨by omega,by omega,.sel [] (by simp) (by simp) rfl (.done (by simpa [go_sem,aX] using hK))⟩
    | false=>
      rw [hc,Bool.cond_false] at ho
      simp (maxSteps:=1000000) -dsimp only [go_sem,hg,↓q2,aX,aE,cM,hc]
      refine ⟨by omega,by omega,aC (i + 1) 2 ⟨by omega,ho⟩ (by omega) ?_ ?_⟩
      · simp [go_sem]
      · simp [go_sem,aE]
  · have hg:decide ((i:Int) < (s.es.length:Int))=false:=by simp; omega
    obtain rfl:i=s.es.length:=by omega
    rw [List.drop_length] at ho
    rw [<-ho] at hK
    simp -dsimp only [go_sem,hg,aE]
    exact .sel [] (by simp) (by simp) rfl (.done (by simpa [go_sem,bX,BK] using hK))
theorem J1:Meets Tryz.prog 113 kM:=by
  refine aF Tryz.func113 aGR 2 (by rw [Tryz.ntmps113]; decide) (aA _) (fun av H K h=>by obtain ⟨_,_,rfl,_⟩:=h; rfl) ?_
  rintro av H K ⟨s,n,rfl,rfl,hs,hsm,hK⟩
  have hl:=hs.len
  simp -dsimp only [go_sem,aL,V9,WF]
  refine aK (α:=Nat) (fun i=>[(1,iS .i64 n),(2,.va (.c1 (.pt 0 0))),(4,.va (.c1 (.pt 1 0))),(6,iS .i64 i)]) (fun _=>[.cells (aL s) 95,.cells [.vl (.int .i64 0),.vl (.string (mk [])),.vl (.int .i64 0),.vl (.int .i64 0),.vl (.string (mk [])),.vl (.slice none 0 0),.vl (.bool false)] 97])
    (fun i=>i<=s.fs.length/\fF (s.fs.drop i) n=fF s.fs n) (fun i=>s.fs.length - i) 0 2 ⟨Nat.zero_le _,rfl⟩ ?_ ?_ ?_
  · simp [go_sem]
  · simp [go_sem,aL]
  rintro i ⟨hi,ho⟩
  rcases Nat.lt_or_ge i s.fs.length with hlt | hge
  · have hg:decide ((i:Int) < (s.fs.length:Int))=true:=by simp; omega
    obtain ⟨t,hx⟩:∃ e,s.fs[i]? = some e:=⟨_,List.getElem?_eq_getElem hlt⟩
    have q2:=aO (row:=aR) hx
    rw [fF,fT hx] at ho
    have hq:(t.num == n)=decide (t.num=n):=rfl
    cases hc:decide (t.num=n) with
    | true=>
      rw [hc,Bool.cond_true] at ho
      rw [<-ho] at hK
      simp (maxSteps:=1000000) -dsimp only [go_sem,hg,↓q2,aR,aL,hq,hc]
      refine ⟨by omega,by omega,.sel [] (by simp) (by simp) rfl (.done (by simpa [go_sem,aR] using hK))⟩
    | false=>
      rw [hc,Bool.cond_false] at ho
      simp (maxSteps:=1000000) -dsimp only [go_sem,hg,↓q2,aR,aL,hq,hc]
      refine ⟨by omega,by omega,aC (i + 1) 2 ⟨by omega,ho⟩ (by omega) ?_ ?_⟩
      · simp [go_sem]
      · simp [go_sem,aL]
  · have hg:decide ((i:Int) < (s.fs.length:Int))=false:=by simp; omega
    obtain rfl:i=s.fs.length:=by omega
    rw [List.drop_length] at ho
    rw [<-ho] at hK
    simp -dsimp only [go_sem,hg,aL]
    exact .sel [] (by simp) (by simp) rfl (.done (by simpa [go_sem,fF,tP] using hK))
def qV (l:List (Int × Vl)) (k:Int):Option (Int × Vl):=l.find? fun x=>decide (x.1=k)
def aB1:W.Spec:=fun av H K=>∃ (v:Vl) (k:Int),av=[.va (.gs (aV v)),iS .i64 k]/\H=[]/\VlOk v/\v.k=6/\K (.tu [.gs (aV (((qV v.f k).map (·.2)).getD default)),bA (qV v.f k).isSome]) []
theorem aAY {v:Vl} {k:Int} {K:S->Hp->Prop} (h:VlOk v) (h6:v.k=6) (hK:K (.tu [.gs (aV (((qV v.f k).map (·.2)).getD default)),bA (qV v.f k).isSome]) []):aB1 [.va (.gs [.vl (.int .i64 v.k),.vl (.int .i64 v.n),.vl (.string v.s),.fz (v.l.map aV),.fz (v.f.map aY)]),iS .i64 k] [] K:=⟨v,k,by rw [aI],rfl,h,h6,hK⟩
theorem X7:aV default=[.vl (.int .i64 0),.vl (.int .i64 0),.vl (.string (mk [])),.fz [],.fz []]:=rfl
theorem X6:Meets Tryz.prog 154 aB1:=by
  refine aF Tryz.func154 aGF 2 (by rw [Tryz.ntmps154]; decide) (aA _) (fun av H K h=>by obtain ⟨_,_,rfl,_⟩:=h; rfl) ?_
  rintro av H K ⟨v,k,rfl,rfl,hv,h6,hK⟩
  have hl:=hv.lf
  simp -dsimp only [go_sem,aI v,T3,XF]
  refine aK (α:=Nat) (fun i=>[(1,iS .i64 k),(2,.va (.c1 (.pt 0 0))),(4,.va (.c1 (.pt 1 0))),(6,iS .i64 i)]) (fun _=>[.cells [.vl (.int .i64 v.k),.vl (.int .i64 v.n),.vl (.string v.s),.fz (v.l.map aV),.fz (v.f.map aY)] 32,.cells [.vl (.int .i64 0),.vl (.int .i64 0),.vl (.string (mk [])),.vl (.slice none 0 0),.vl (.slice none 0 0)] 32])
    (fun i=>i<=v.f.length/\qV (v.f.drop i) k=qV v.f k) (fun i=>v.f.length - i) 0 2 ⟨Nat.zero_le _,rfl⟩ ?_ ?_ ?_
  · simp -dsimp only [go_sem]<;>simp
  · simp -dsimp only [go_sem]<;>simp
  rintro i ⟨hi,ho⟩
  rcases Nat.lt_or_ge i v.f.length with hlt | hge
  · have hg:decide ((i:Int) < (v.f.length:Int))=true:=by simp; omega
    have g6:(v.k == 6)=true:=by rw [h6]; rfl
    obtain ⟨x,hx⟩:∃ x,v.f[i]? = some x:=⟨_,List.getElem?_eq_getElem hlt⟩
    have q2:=aO (row:=aY) hx
    rw [qV,fT hx] at ho
    obtain ⟨n,w⟩:=x
    cases hc:decide (n=k) with
    | true=>
      simp only [hc,Bool.cond_true] at ho
      rw [<-ho] at hK
      have hc':(n == k)=true:=by simpa using hc
      simp (maxSteps:=1000000) -dsimp only [go_sem,hg,g6,↓q2,aY,aI w,hc',List.take_succ_cons,List.take_zero,List.length_cons]
      exact ⟨⟨by omega,by omega⟩,⟨by omega,by omega⟩,.sel [] (by simp) (by simp) rfl (.done (by simpa [go_sem,aI w] using hK))⟩
    | false=>
      simp only [hc,Bool.cond_false] at ho
      have hc':(n == k)=false:=by simpa using hc
      simp (maxSteps:=1000000) -dsimp only [go_sem,hg,g6,↓q2,aY,aI w,hc']
      refine ⟨⟨by omega,by omega⟩,⟨by omega,by omega⟩,aC (i + 1) 2 ⟨by omega,ho⟩ (by omega) ?_ ?_⟩
      · simp -dsimp only [go_sem]<;>simp
      · simp -dsimp only [go_sem]<;>simp
  · have hg:decide ((i:Int) < (v.f.length:Int))=false:=by simp; omega
    obtain rfl:i=v.f.length:=by omega
    rw [List.drop_length] at ho
    rw [<-ho] at hK
    simp (maxSteps:=1000000) -dsimp only [go_sem,hg]
    exact .sel [] (by simp) (by simp) rfl (.done (by simpa [go_sem,qV,X7] using hK))
end Go.Proofs.YtkpohmhenegkiaaGreatDoor
namespace Go.Proofs.YtkpohmhenegkiaaGreatDoor
open Go.W
def uV:PC:=.seq (.gh (.reg [.l 80 (.ldn 2 (.t 7)),.l 81 (.ldn 5 (.t 5)),.a 82 (.cq 132 [(.t 80),(.t 81)]),.v 6 82])) .ret
@[go_sem ↓] theorem aG3:aT uV:=aU _
def pcN110_7:PC:=.seq (.gh (.reg [.l 74 (.ldn 3 (.t 3)),.q 75 (.fa 2 (.t 4)),.l 76 (.ld1 (.t 75)),.a 77 (.cl 112 [(.t 74),(.t 76)] []),.v 73 77,.q 78 (.ex (.t 73) 0),.q 79 (.ex (.t 73) 1),.e 7 (.al (.agg #[(.string (mk [])),(.slice none 0 0)]) 95),.s (.st 2 (.t 7) (.t 78)),.v 8 79])) (uV)
@[go_sem ↓] theorem aIO:aT pcN110_7:=aU _
def wB:PC:=.seq (.seq (.gh (.reg [.q 70 (.fa 0 (.t 5)),.l 71 (.ld1 (.t 70)),.q 72 (.bin .neq true (.t 71) (.i 6))])) (.cond (.t 72) (.seq (.reg [.q 6 (.mv (.k (.bool true)))]) .ret) .skip)) (pcN110_7)
@[go_sem ↓] theorem aGU:aT wB:=aU _
def pcN110_3:PC:=.seq (.seq (.gh (.reg [.q 52 (.fa 0 (.t 5)),.l 53 (.ld1 (.t 52)),.q 54 (.bin .eql true (.t 53) (.i 4)),.v 55 54,⟨some 56,(some (55,false)),.q (.fa 0 (.t 5))⟩,⟨some 57,(some (55,false)),.l (.ld1 (.t 56))⟩,⟨some 58,(some (55,false)),.q (.bin .eql true (.t 57) (.i 5))⟩,.a 59 (.pick (.t 55) (.k (.bool true)) (.t 58)),.v 60 59,⟨some 61,(some (60,false)),.q (.fa 0 (.t 5))⟩,⟨some 62,(some (60,false)),.l (.ld1 (.t 61))⟩,⟨some 63,(some (60,false)),.q (.bin .eql true (.t 62) (.i 6))⟩,.a 64 (.pick (.t 60) (.k (.bool true)) (.t 63)),.v 65 64,⟨some 66,(some (65,true)),.q (.fa 1 (.t 5))⟩,⟨some 67,(some (65,true)),.l (.ld1 (.t 66))⟩,⟨some 68,(some (65,true)),.q (.bin .neq true (.t 67) (.i 0))⟩,.a 69 (.pick (.t 65) (.t 68) (.k (.bool false)))])) (.cond (.t 69) (.seq (.reg [.q 6 (.mv (.k (.bool false)))]) .ret) .skip)) (wB)
@[go_sem ↓] theorem aGL:aT pcN110_3:=aU _
def rH:PC:=.seq (.reg [.e 3 (.bx 25 (.t 0)),.e 4 (.bx 28 (.t 1)),.e 5 (.bx 32 (.t 2)),.q 6 (.mv (.k (.bool false)))]) (.seq (.seq (.reg [.l 9 (.ldn 3 (.t 3)),.l 10 (.ldn 4 (.t 4)),.a 11 (.cq 32 [(.t 9),(.t 10)]),.q 12 (.not (.t 11)),.v 13 12,⟨some 14,(some (13,false)),.q (.fa 0 (.t 5))⟩,⟨some 15,(some (13,false)),.l (.ld1 (.t 14))⟩,⟨some 16,(some (13,false)),.q (.fa 0 (.t 4))⟩,⟨some 17,(some (13,false)),.l (.ld1 (.t 16))⟩,⟨some 18,(some (13,false)),.q (.bin .neq true (.t 15) (.t 17))⟩,.a 19 (.pick (.t 13) (.k (.bool true)) (.t 18)),.v 20 19,⟨some 21,(some (20,false)),.q (.fa 0 (.t 5))⟩,⟨some 22,(some (20,false)),.l (.ld1 (.t 21))⟩,⟨some 23,(some (20,false)),.q (.bin .neq true (.t 22) (.i 4))⟩,⟨some 24,(some (20,false)),.q (.mv (.t 23))⟩,⟨some 25,(some (24,true)),.q (.fa 2 (.t 5))⟩,⟨some 26,(some (24,true)),.l (.ld1 (.t 25))⟩,⟨some 27,(some (24,true)),.q (.bin .neq true (.t 26) (.k (.string (mk []))))⟩,⟨some 28,(some (20,false)),.pick (.t 24) (.t 27) (.k (.bool false))⟩,.a 29 (.pick (.t 20) (.k (.bool true)) (.t 28)),.v 30 29,⟨some 31,(some (30,false)),.q (.fa 0 (.t 5))⟩,⟨some 32,(some (30,false)),.l (.ld1 (.t 31))⟩,⟨some 33,(some (30,false)),.q (.bin .neq true (.t 32) (.i 5))⟩,⟨some 34,(some (30,false)),.q (.mv (.t 33))⟩,⟨some 35,(some (34,true)),.q (.fa 3 (.t 5))⟩,⟨some 36,(some (34,true)),.l (.ld1 (.t 35))⟩,⟨some 37,(some (34,true)),.q (.lnL (.t 36))⟩,⟨some 38,(some (34,true)),.q (.bin .gtr true (.t 37) (.i 0))⟩,⟨some 39,(some (30,false)),.pick (.t 34) (.t 38) (.k (.bool false))⟩,.a 40 (.pick (.t 30) (.k (.bool true)) (.t 39)),.v 41 40,⟨some 42,(some (41,false)),.q (.fa 0 (.t 5))⟩,⟨some 43,(some (41,false)),.l (.ld1 (.t 42))⟩,⟨some 44,(some (41,false)),.q (.bin .neq true (.t 43) (.i 6))⟩,⟨some 45,(some (41,false)),.q (.mv (.t 44))⟩,⟨some 46,(some (45,true)),.q (.fa 4 (.t 5))⟩,⟨some 47,(some (45,true)),.l (.ld1 (.t 46))⟩,⟨some 48,(some (45,true)),.q (.lnL (.t 47))⟩,⟨some 49,(some (45,true)),.q (.bin .gtr true (.t 48) (.i 0))⟩,⟨some 50,(some (41,false)),.pick (.t 45) (.t 49) (.k (.bool false))⟩,.a 51 (.pick (.t 41) (.k (.bool true)) (.t 50))]) (.cond (.t 51) (.seq (.reg [.q 6 (.mv (.k (.bool false)))]) .ret) .skip)) (pcN110_3))
def jN:List RV:=[.mv (.t 6)]
theorem aEG:aN Tryz.prog true ⟨fun r k=>if r=1/\k=2 then .q else if r=8/\k=2 then .q else .own [],fun r=>[3,5,7,8].contains r⟩ Tryz.f110=some (rH,jN):=by kernel_rfl
def j6:PC:=.seq (.gh (.reg [.v 29 7,.q 30 (.not (.t 29)),.v 31 30,⟨some 32,(some (31,false)),.q (.mv (.t 5))⟩,⟨some 33,(some (31,false)),.q (.bin .gtr true (.t 32) (.i 0))⟩,⟨some 34,(some (31,false)),.q (.mv (.t 33))⟩,⟨some 35,(some (34,true)),.q (.fa 4 (.t 3))⟩,⟨some 36,(some (34,true)),.l (.ld1 (.t 35))⟩,⟨some 37,(some (34,true)),.q (.mv (.t 5))⟩,⟨some 38,(some (34,true)),.l (.ia 6 (.t 36) (.t 37))⟩,⟨some 39,(some (34,true)),.q (.fa 0 (.t 38))⟩,⟨some 40,(some (34,true)),.l (.ld1 (.t 39))⟩,⟨some 41,(some (34,true)),.q (.fa 4 (.t 3))⟩,⟨some 42,(some (34,true)),.l (.ld1 (.t 41))⟩,⟨some 43,(some (34,true)),.q (.mv (.t 5))⟩,⟨some 44,(some (34,true)),.q (.bin .sub true (.t 43) (.i 1))⟩,⟨some 45,(some (34,true)),.l (.ia 6 (.t 42) (.t 44))⟩,⟨some 46,(some (34,true)),.q (.fa 0 (.t 45))⟩,⟨some 47,(some (34,true)),.l (.ld1 (.t 46))⟩,⟨some 48,(some (34,true)),.q (.bin .leq true (.t 40) (.t 47))⟩,⟨some 49,(some (31,false)),.pick (.t 34) (.t 48) (.k (.bool false))⟩,.a 50 (.pick (.t 31) (.k (.bool true)) (.t 49))])) (.cond (.t 50) (.seq (.reg [.q 4 (.mv (.k (.bool false)))]) .ret) .skip)
@[go_sem ↓] theorem aHG:aT j6:=aU _
def kP:PC:=.seq (.gh (.reg [.v 69 10,.q 70 (.not (.t 69)),.v 71 70,⟨some 72,(some (71,true)),.q (.fa 1 (.t 2))⟩,⟨some 73,(some (71,true)),.l (.ld1 (.t 72))⟩,⟨some 74,(some (71,true)),.q (.mv (.t 8))⟩,⟨some 75,(some (71,true)),.l (.ia 7 (.t 73) (.t 74))⟩,⟨some 76,(some (71,true)),.q (.fa 6 (.t 75))⟩,⟨some 77,(some (71,true)),.l (.ld1 (.t 76))⟩,⟨some 78,(some (71,true)),.q (.not (.t 77))⟩,.a 79 (.pick (.t 71) (.t 78) (.k (.bool false)))])) (.cond (.t 79) (.seq (.reg [.q 4 (.mv (.k (.bool false)))]) .ret) .skip)
@[go_sem ↓] theorem aFI:aT kP:=aU _
def PT:PC:=.seq (.reg [.e 2 (.bx 95 (.t 0)),.e 3 (.bx 32 (.t 1)),.q 4 (.mv (.k (.bool false)))]) (.seq (.seq (.reg [.q 5 (.mv (.i 0))]) (.block 0 (.loop (.seq (.seq (.reg [.v 11 5,.q 12 (.fa 4 (.t 3)),.l 13 (.ld1 (.t 12)),.q 14 (.lnL (.t 13)),.q 15 (.bin .lss true (.t 11) (.t 14))]) (.cond (.t 15) .skip (.exit 0))) (.seq (.block 1 (.seq (.ord  [.q (.l 19 (.ldn 2 (.t 2))),.q (.q 20 (.fa 4 (.t 3))),.q (.l 21 (.ld1 (.t 20))),.q (.v 22 5),.q (.l 23 (.ia 6 (.t 21) (.t 22))),.q (.q 24 (.fa 0 (.t 23))),.q (.l 25 (.ld1 (.t 24))),.m (.a 26 (.cl 113 [(.t 19),(.t 25)] [])),.q (.v 18 26),.q (.q 27 (.ex (.t 18) 0)),.q (.q 28 (.ex (.t 18) 1)),.m (.e 6 (.al (.agg #[(.int .i64 0),(.string (mk [])),(.int .i64 0),(.int .i64 0),(.string (mk [])),(.slice none 0 0),(.bool false)]) 97)),.rc (.v 18 26),.rc (.q 27 (.ex (.t 18) 0)),.rc (.q 28 (.ex (.t 18) 1)),.m (.s (.st 7 (.t 6) (.t 27))),.rc (.q 28 (.ex (.t 18) 1)),.m (.v 7 28)]) (j6))) (.reg [.v 16 5,.q 17 (.bin .add true (.t 16) (.i 1)),.v 5 17])))))) (.seq (.seq (.reg [.q 8 (.mv (.i 0))]) (.block 2 (.loop (.seq (.seq (.reg [.v 51 8,.q 52 (.fa 1 (.t 2)),.l 53 (.ld1 (.t 52)),.q 54 (.lnL (.t 53)),.q 55 (.bin .lss true (.t 51) (.t 54))]) (.cond (.t 55) .skip (.exit 2))) (.seq (.block 3 (.seq (.ord  [.q (.l 59 (.ldn 5 (.t 3))),.q (.q 60 (.fa 1 (.t 2))),.q (.l 61 (.ld1 (.t 60))),.q (.v 62 8),.q (.l 63 (.ia 7 (.t 61) (.t 62))),.q (.q 64 (.fa 0 (.t 63))),.q (.l 65 (.ld1 (.t 64))),.m (.a 66 (.cl 154 [(.t 59),(.t 65)] [])),.q (.v 58 66),.q (.q 67 (.ex (.t 58) 0)),.q (.q 68 (.ex (.t 58) 1)),.m (.e 9 (.al (.agg #[(.int .i64 0),(.int .i64 0),(.string (mk [])),(.slice none 0 0),(.slice none 0 0)]) 32)),.rc (.v 58 66),.rc (.q 67 (.ex (.t 58) 0)),.rc (.q 68 (.ex (.t 58) 1)),.m (.s (.st 5 (.t 9) (.t 67))),.rc (.q 68 (.ex (.t 58) 1)),.m (.v 10 68)]) (kP))) (.reg [.v 56 8,.q 57 (.bin .add true (.t 56) (.i 1)),.v 8 57])))))) (.seq (.reg [.q 4 (.mv (.k (.bool true)))]) .ret)))
def O9:List RV:=[.mv (.t 4)]
theorem aEB:aN Tryz.prog true ⟨fun _ _=>.own [],fun r=>[5,11].contains r⟩ Tryz.f132=some (PT,O9):=by kernel_rfl
end Go.Proofs.YtkpohmhenegkiaaGreatDoor
namespace Go.Proofs.YtkpohmhenegkiaaGreatDoor
open Go.W
theorem JA:Meets Tryz.prog 32 r0Fn.sp:=by
  refine aF Tryz.func32 aKF 2 (by rw [Tryz.ntmps32]; decide) (aG K0 (aA _)) (fun av H K h=>by obtain ⟨_,_,rfl,_⟩:=jO h.1.1; rfl) ?_
  rintro av H K ⟨⟨h,rfl⟩,hK⟩
  obtain ⟨s,t,rfl,hs,ht⟩:=jO h
  have k4:=cL ht
  have k5:=fN t
  have k6:=dV hs
  have k7:=hM s
  have e:r0Fn.val [.va (.gs (aE s)),.va (.gs (aM t))]=bA (valF s.ss s.es t):=by
    show bA (valF (C.sc (aE s)).ss (C.sc (aE s)).es (C.ty (aM t)))=_
    rw [dW,eH]
  rw [e] at hK
  simp (maxSteps:=1000000) -dsimp only [go_sem,aE,aH t,aBY,aBV,k4,k5,k6,k7]
  exact .sel [] (by simp) (by simp) rfl (.done (by simpa [go_sem] using hK))
def EH:List S->Prop:=fun av=>match av with
  | [.va (.gs r),.va (.gs q)]=>EP r/\qJ q/\(C.vv q).k=6
  | _=>False
theorem pW {av:List S} (h:EH av):∃ (u:St) (v:Vl),av=[.va (.gs (aL u)),.va (.gs (aV v))]/\u.ok/\(∀ f ∈ u.fs,TySm f.ty)/\VlOk v/\v.k=6:=by
  unfold EH at h
  split at h
  · obtain ⟨⟨u,rfl,h1,h2⟩,⟨v,rfl,h3⟩,h4⟩:=h
    rw [kY] at h4
    exact ⟨u,v,rfl,h1,h2,h3,h4⟩
  · exact h.elim
noncomputable def UL:List S->A:=fun av=>match av with
  | [.va (.gs r),.va (.gs q)]=>bA (cN (C.st r).fs (C.vv q).f)
  | _=>.gs []
noncomputable def s9Fn:Fun:=⟨EH,UL,fun av h=>by obtain ⟨_,_,rfl,_⟩:=pW h; trivial⟩
attribute [go_sem] s9Fn EH UL
theorem YY (l:List (Int × Vl)) (k:Int):(qV l k).isSome=lP l k:=by
  unfold qV lP
  rw [Bool.eq_iff_iff,List.find?_isSome,List.any_eq_true]
  simp
theorem EV {α:Type} {l:List α} {i:Nat} {x:α} (h:l[i]? = some x) (p:α->Bool):(l.drop i).all p=(p x && (l.drop (i + 1)).all p):=by
  obtain ⟨h1,h2⟩:=List.getElem?_eq_some_iff.1 h
  subst h2
  rw [List.drop_eq_getElem_cons h1,List.all_cons]
theorem QR:Meets Tryz.prog 132 s9Fn.sp:=by
  refine aF Tryz.func132 aEB 2 (by rw [Tryz.ntmps132]; decide) (aB J1 (aB X6 (aA _))) (fun av H K h=>by obtain ⟨_,_,rfl,_⟩:=pW h.1.1; rfl) ?_
  rintro av H K ⟨⟨h,rfl⟩,hK⟩
  obtain ⟨u,v,rfl,hu,hus,hv,hk6⟩:=pW h
  replace hK:K (bS (cN u.fs v.f)) []:=by
    have:s9Fn.val [.va (.gs (aL u)),.va (.gs (aV v))]=bA (cN u.fs v.f):=by simp -dsimp only [go_sem]
    rw [this] at hK; exact hK
  clear h
  have fin:∀ (b:Bool) (R:Hp),cN u.fs v.f=b->W.Fin 0 K (bS b) R:=fun b R h=>by
    rw [h] at hK; exact .sel [] (by simp) (by simp) rfl (.done (by simpa [go_sem] using hK))
  clear hK
  have hfl:=hu.len
  have hll:=hv.lf
  generalize hR:u.fs.all (fun f=>f.opt || lP v.f f.num)=R2
  have hF:cN u.fs v.f=(ftA u.fs none v.f && R2):=by rw [<-hR]; rfl
  rw [hF] at fin
  generalize hR0:(ftA u.fs none v.f && R2)=R0 at fin
  clear hF
  simp (maxSteps:=1000000) -dsimp only [go_sem,aL,aI v,PT,O9]
  refine aK (α:=Nat) (fun i=>[(2,.va (.c1 (.pt 0 0))),(3,.va (.c1 (.pt 1 0))),(5,iS .i64 i)]) (fun _=>[.cells [.vl (.string u.nm),.fz (u.fs.map aR)] 95,.cells [.vl (.int .i64 v.k),.vl (.int .i64 v.n),.vl (.string v.s),.fz (v.l.map aV),.fz (v.f.map aY)] 32])
    (fun i=>i<=v.f.length/\(ftA u.fs (uA v.f i) (v.f.drop i) && R2)=R0) (fun i=>v.f.length - i) 0 2 ⟨Nat.zero_le _,hR0⟩ ?_ ?_ ?_
  · simp -dsimp only [go_sem]<;>simp
  · simp -dsimp only [go_sem]<;>simp
  rintro i ⟨hi,ho⟩
  rcases Nat.lt_or_ge i v.f.length with hlt | hge
  · have hg:decide ((i:Int) < (v.f.length:Int))=true:=by simp; omega
    obtain ⟨x,hx⟩:∃ t,v.f[i]? = some t:=⟨_,List.getElem?_eq_getElem hlt⟩
    have q1:=kN hx
    have hdr:v.f.drop i=x :: v.f.drop (i + 1):=by
      obtain ⟨h,rfl⟩:=List.getElem?_eq_some_iff.1 hx
      exact List.drop_eq_getElem_cons h
    have hpv:uA v.f (i + 1)=some x.1:=by rw [uA,hx]; rfl
    rw [hdr,vH,<-hpv] at ho
    simp (maxSteps:=1000000) -dsimp only [go_sem,hg,↓q1]
    refine ⟨by omega,jZ hu hus ?_⟩
    cases hf:(fF u.fs x.1).isSome with
    | false=>
      rw [hf,Bool.false_and,Bool.false_and,Bool.false_and] at ho
      simp (maxSteps:=1000000) -dsimp only [go_sem,aR]
      refine aD rfl (.done ?_)
      simp (maxSteps:=1000000) -dsimp only [go_sem,j6,Bool.false_and]
      exact fin _ _ ho.symm
    | true=>
      rw [hf,Bool.true_and] at ho
      simp (maxSteps:=1000000) -dsimp only [go_sem,aR]
      refine aD rfl (.done ?_)
      cases hz:decide ((0:Int) < (i:Int)) with
      | false=>
        obtain rfl:i=0:=by have:=of_decide_eq_false hz; omega
        simp (maxSteps:=1000000) -dsimp only [go_sem,j6,hz]
        refine ⟨by omega,aC (0 + 1) 2 ⟨by omega,ho⟩ (by omega) ?_ ?_⟩
        · simp -dsimp only [go_sem]<;>simp
        · simp -dsimp only [go_sem]<;>simp
      | true=>
        have hz':=of_decide_eq_true hz
        obtain ⟨y,hy⟩:∃ t,v.f[i - 1]? = some t:=⟨_,List.getElem?_eq_getElem (by omega)⟩
        have hti:((i:Int) - 1).toNat=i - 1:=by omega
        have q2:=fun p=>HC (n:=(i:Int) - 1) (x:=y) (by rw [hti]; exact hy) p
        have hpi:uA v.f i=some y.1:=by
          match i,hz',hy with
          | j + 1,_,hy=>rw [uA]; rw [show j + 1 - 1=j by omega] at hy; rw [hy]; rfl
        rw [hpi,IJ] at ho
        have f1:(0<=(i:Int) - 1)=True:=eq_true (by omega)
        have f2:((i:Int) - 1 < (v.f.length:Int))=True:=eq_true (by omega)
        cases hc:decide (x.1<=y.1) with
        | true=>
          have:decide (y.1 < x.1)=false:=by have:=of_decide_eq_true hc; simp; omega
          rw [this] at ho
          simp (maxSteps:=1000000) -dsimp only [go_sem,j6,hz,↓q1,↓q2,hc,f1,f2]
          exact ⟨⟨by omega,by omega⟩,⟨by omega,by omega⟩,fin _ _ ho.symm⟩
        | false=>
          have:decide (y.1 < x.1)=true:=by have:=of_decide_eq_false hc; simp; omega
          rw [this,Bool.true_and] at ho
          simp (maxSteps:=1000000) -dsimp only [go_sem,j6,hz,↓q1,↓q2,hc,f1,f2]
          refine ⟨⟨by omega,by omega⟩,⟨by omega,by omega⟩,⟨by omega,by omega⟩,aC (i + 1) 2 ⟨by omega,ho⟩ (by omega) ?_ ?_⟩
          · simp -dsimp only [go_sem]<;>simp
          · simp -dsimp only [go_sem]<;>simp
  · have hg:decide ((i:Int) < (v.f.length:Int))=false:=by simp; omega
    obtain rfl:i=v.f.length:=by omega
    rw [List.drop_length,JN,Bool.true_and] at ho
    simp (maxSteps:=1000000) -dsimp only [go_sem,hg]
    clear hi hge hg hR0
    rw [<-hR] at ho
    refine aK (α:=Nat) (fun i=>[(2,.va (.c1 (.pt 0 0))),(3,.va (.c1 (.pt 1 0))),(8,iS .i64 i)]) (fun _=>[.cells [.vl (.string u.nm),.fz (u.fs.map aR)] 95,.cells [.vl (.int .i64 v.k),.vl (.int .i64 v.n),.vl (.string v.s),.fz (v.l.map aV),.fz (v.f.map aY)] 32])
      (fun i=>i<=u.fs.length/\((u.fs.drop i).all fun f=>f.opt || lP v.f f.num)=R0) (fun i=>u.fs.length - i) 0 2 ⟨Nat.zero_le _,ho⟩ ?_ ?_ ?_
    · simp -dsimp only [go_sem]<;>simp
    · simp -dsimp only [go_sem]<;>simp
    clear ho
    rintro i ⟨hi,ho⟩
    rcases Nat.lt_or_ge i u.fs.length with hlt | hge
    · have hg:decide ((i:Int) < (u.fs.length:Int))=true:=by simp; omega
      obtain ⟨f,hx⟩:∃ t,u.fs[i]? = some t:=⟨_,List.getElem?_eq_getElem hlt⟩
      have q1:=aO (row:=aR) hx
      rw [EV hx,<-YY] at ho
      simp (maxSteps:=1000000) -dsimp only [go_sem,hg,↓q1,aR]
      refine ⟨by omega,aAY hv hk6 ?_⟩
      generalize ((qV v.f f.num).map (·.2)).getD default=w
      cases h1:(qV v.f f.num).isSome with
      | true=>
        rw [h1,Bool.or_true,Bool.true_and] at ho
        simp (maxSteps:=1000000) -dsimp only [go_sem,aI w]
        refine aD rfl (.done ?_)
        simp (maxSteps:=1000000) -dsimp only [go_sem,kP]
        refine ⟨by omega,aC (i + 1) 2 ⟨by omega,ho⟩ (by omega) ?_ ?_⟩
        · simp -dsimp only [go_sem]<;>simp
        · simp -dsimp only [go_sem]<;>simp
      | false=>
        rw [h1,Bool.or_false] at ho
        cases h2:f.opt with
        | true=>
          rw [h2,Bool.true_and] at ho
          simp (maxSteps:=1000000) -dsimp only [go_sem,aI w]
          refine aD rfl (.done ?_)
          simp (maxSteps:=1000000) -dsimp only [go_sem,kP,↓q1,aR,h2]
          refine ⟨⟨by omega,by omega⟩,by omega,aC (i + 1) 2 ⟨by omega,ho⟩ (by omega) ?_ ?_⟩
          · simp -dsimp only [go_sem]<;>simp
          · simp -dsimp only [go_sem]<;>simp
        | false=>
          rw [h2,Bool.false_and] at ho
          simp (maxSteps:=1000000) -dsimp only [go_sem,aI w]
          refine aD rfl (.done ?_)
          simp (maxSteps:=1000000) -dsimp only [go_sem,kP,↓q1,aR,h2]
          exact ⟨⟨by omega,by omega⟩,fin _ _ ho.symm⟩
    · have hg:decide ((i:Int) < (u.fs.length:Int))=false:=by simp; omega
      obtain rfl:i=u.fs.length:=by omega
      rw [List.drop_length] at ho
      simp (maxSteps:=1000000) -dsimp only [go_sem,hg]
      exact fin _ _ ho.symm
end Go.Proofs.YtkpohmhenegkiaaGreatDoor
namespace Go.Proofs.YtkpohmhenegkiaaGreatDoor
open Go.W
def BS (v:Vl):Bool:=(v.k != 4 && !(bl v.s == [])) || (v.k != 5 && decide (0 < (v.l.length:Int))) || (v.k != 6 && decide (0 < (v.f.length:Int)))
def IQ (v:Vl):Bool:=(v.k == 4 || v.k == 5 || v.k == 6) && v.n != 0
def hJ (s:Sc) (t:Ty) (v:Vl):Bool:=bif !(valF s.ss s.es t) || v.k != t.k || BS v then false else bif IQ v then false else bif v.k != 6 then true else cN (stOf s t).fs v.f
theorem SN {s:Sc} (hs:s.fit) (t:Ty):EP (aL (stOf s t)):=FD hs t.n
theorem Y1:Meets Tryz.prog 110 (cQ (fun _ _ _=>True) fun s t v=>.bool (hJ s t v)).sp:=by
  refine aF Tryz.func110 aEG 3 (by rw [Tryz.ntmps110]; decide) (aG JA (aB FI (aG QR (aA _)))) eE ?_
  intro av H K h
  obtain ⟨s,t,v,rfl,rfl,hs,ht,hv,_,hK⟩:=dH h
  clear h
  have fin:∀ (b:Bool) (R:Hp),hJ s t v=b->W.Fin 0 K (bS b) R:=fun b R h=>by
    rw [h] at hK; exact .sel [] (by simp) (by simp) rfl (.done (by simpa [go_sem] using hK))
  clear hK
  unfold hJ at fin
  have k1:=cE hv
  have k2:=eR v
  have k4:=cL ht
  have k5:=fN t
  have k6:=dV hs
  have k7:=hM s
  have e:∀ (a b:Bool),(a=true->b=true)->True:=fun _ _ _=>trivial
  clear e
  have tail7:(v.k == 6)=true->(∀ (b:Bool) (R:Hp),cN (stOf s t).fs v.f=b->W.Fin 0 K (bS b) R)->vc [(32,.f r0Fn),(112,.s jK),(132,.f s9Fn)] 0 pcN110_7.ungh
      (eG [(3,.va (.c1 (.pt 0 0))),(4,.va (.c1 (.pt 1 0))),(5,.va (.c1 (.pt 2 0)))]) [.cells [.vl (.int .i64 s.ver),.fz (s.es.map aX),.fz (s.ss.map aL)] 25,.cells [.vl (.int .i64 t.k),.vl (.int .i64 t.s),.vl (.string t.n),.fz (t.e.map aM)] 28,.cells [.vl (.int .i64 v.k),.vl (.int .i64 v.n),.vl (.string v.s),.fz (v.l.map aV),.fz (v.f.map aY)] 32] (jL 0 jN K):=fun h6 fin=>by
    have hk6:v.k=6:=eq_of_beq h6
    have u1:=SN hs t
    have u2:C.st (aL (stOf s t))=stOf s t:=QB _
    simp (maxSteps:=1000000) -dsimp only [go_sem,pcN110_7,jN]
    refine gP hs ?_
    rw [show (fS s.ss t.n).getD default=stOf s t from rfl]
    generalize stOf s t=u at *
    unfold aL at u1 u2
    simp (maxSteps:=1000000) -dsimp only [go_sem,aL]
    refine aD rfl (.done ?_)
    simp (maxSteps:=1000000) -dsimp only [go_sem,uV,k1,k2,u1,u2]
    exact ⟨hk6,fin _ _ rfl⟩
  have tail3:(∀ (b:Bool) (R:Hp),(bif IQ v then false else bif v.k != 6 then true else cN (stOf s t).fs v.f)=b->W.Fin 0 K (bS b) R)->vc [(32,.f r0Fn),(112,.s jK),(132,.f s9Fn)] 0 pcN110_3.ungh
      (eG [(3,.va (.c1 (.pt 0 0))),(4,.va (.c1 (.pt 1 0))),(5,.va (.c1 (.pt 2 0)))]) [.cells [.vl (.int .i64 s.ver),.fz (s.es.map aX),.fz (s.ss.map aL)] 25,.cells [.vl (.int .i64 t.k),.vl (.int .i64 t.s),.vl (.string t.n),.fz (t.e.map aM)] 28,.cells [.vl (.int .i64 v.k),.vl (.int .i64 v.n),.vl (.string v.s),.fz (v.l.map aV),.fz (v.f.map aY)] 32] (jL 0 jN K):=fun fin=>by
    unfold IQ at fin
    cases b4:v.k == 4<;>cases b5:v.k == 5<;>cases b6:v.k == 6<;>cases bn:v.n != 0<;>rw [b4,b5,b6,bn] at fin <;>
    · simp (maxSteps:=1000000) -dsimp only [go_sem,pcN110_3,jN,b4,b5,b6,bn]
      first
        | exact fin false _ rfl
        | (refine aD rfl (.done ?_)
           have c6:(v.k != 6)=!(v.k == 6):=rfl
           rw [b6] at c6
           simp (maxSteps:=1000000) -dsimp only [go_sem,wB,c6,Bool.not_false,Bool.not_true]
           first
             | exact fin true _ (by rw [c6]; rfl)
             | (refine dY 3 (tail7 b6 fun b R h=>fin b R (by rw [c6]; exact h)) ?_ ?_
                · simp -dsimp only [go_sem]<;>simp
                · simp -dsimp only [go_sem]<;>simp))
  cases h1:valF s.ss s.es t with
  | false=>
    rw [h1] at fin
    simp (maxSteps:=1000000) -dsimp only [go_sem,aE,aH t,aI v,rH,jN,k4,k5,k6,k7,h1,Bool.not_false]
    exact fin false _ rfl
  | true=>
  cases h2:v.k != t.k with
  | true=>
    rw [h1,h2] at fin
    simp (maxSteps:=1000000) -dsimp only [go_sem,aE,aH t,aI v,rH,jN,k4,k5,k6,k7,h1,h2,Bool.not_true]
    exact fin false _ rfl
  | false=>
  rw [h1,h2,Bool.not_true,Bool.false_or,Bool.false_or] at fin
  have hA:∀ b:Bool,BS v=b->((v.k != 4 && !(bl v.s == [])) || (v.k != 5 && decide (0 < (v.l.length:Int))) || (v.k != 6 && decide (0 < (v.f.length:Int))))=b:=fun b h=>h
  cases hA':BS v with
  | true=>
    have hA:=hA true hA'
    rw [hA'] at fin
    cases a1:v.k != 4<;>cases a2:bl v.s == []<;>cases a3:v.k != 5<;>cases a4:decide (0 < (v.l.length:Int))<;>cases a5:v.k != 6<;>cases a6:decide (0 < (v.f.length:Int)) <;>
    first
      | (exfalso; rw [a1,a2,a3,a4,a5,a6] at hA; exact absurd hA (by decide))
      | (simp (maxSteps:=1000000) -dsimp only [go_sem,aE,aH t,aI v,rH,jN,k4,k5,k6,k7,h1,h2,a1,a2,a3,a4,a5,a6,Bool.not_true,Bool.false_and]
         exact fin false _ rfl)
  | false=>
    have hA:=hA false hA'
    rw [hA',Bool.cond_false] at fin
    cases a1:v.k != 4<;>cases a2:bl v.s == []<;>cases a3:v.k != 5<;>cases a4:decide (0 < (v.l.length:Int))<;>cases a5:v.k != 6<;>cases a6:decide (0 < (v.f.length:Int)) <;>
    first
      | (exfalso; rw [a1,a2,a3,a4,a5,a6] at hA; exact absurd hA (by decide))
      | (simp (maxSteps:=1000000) -dsimp only [go_sem,aE,aH t,aI v,rH,jN,k4,k5,k6,k7,h1,h2,a1,a2,a3,a4,a5,a6,Bool.not_true,Bool.not_false,Bool.true_and,Bool.and_false]
         refine dY 3 (tail3 fin) ?_ ?_
         · simp -dsimp only [go_sem]<;>simp
         · simp -dsimp only [go_sem]<;>simp)
end Go.Proofs.YtkpohmhenegkiaaGreatDoor
namespace Go.Proofs.YtkpohmhenegkiaaGreatDoor
open Go.W
def qH:PC:=.seq (.gh (.reg [.v 105 14,.q 106 (.bin .neq true (.t 105) (.i 0))])) (.cond (.t 106) (.seq (.reg [.v 107 14,.v 6 107]) .ret) .skip)
@[go_sem ↓] theorem aF6:aT qH:=aU _
def qK:PC:=.seq (.gh (.reg [.l 95 (.ldn 3 (.t 3)),.q 96 (.fa 2 (.t 12)),.l 97 (.ldn 4 (.t 96)),.q 98 (.fa 4 (.t 5)),.l 99 (.ld1 (.t 98)),.v 100 11,.l 101 (.ia 6 (.t 99) (.t 100)),.q 102 (.fa 1 (.t 101)),.l 103 (.ldn 5 (.t 102)),.a 104 (.cq 67 [(.t 95),(.t 97),(.t 103)]),.v 14 104])) (qH)
@[go_sem ↓] theorem aFP:aT qK:=aU _
def uW:PC:=.seq (.seq (.gh (.reg [.q 11 (.mv (.i 0))])) (.block 2 (.loop (.seq (.seq (.reg [.v 77 11,.q 78 (.fa 4 (.t 5)),.l 79 (.ld1 (.t 78)),.q 80 (.lnL (.t 79)),.q 81 (.bin .lss true (.t 77) (.t 80))]) (.cond (.t 81) .skip (.exit 2))) (.seq (.block 3 (.seq (.ord  [.q (.l 85 (.ldn 2 (.t 9))),.q (.q 86 (.fa 4 (.t 5))),.q (.l 87 (.ld1 (.t 86))),.q (.v 88 11),.q (.l 89 (.ia 6 (.t 87) (.t 88))),.q (.q 90 (.fa 0 (.t 89))),.q (.l 91 (.ld1 (.t 90))),.m (.a 92 (.cl 113 [(.t 85),(.t 91)] [])),.q (.v 84 92),.q (.q 93 (.ex (.t 84) 0)),.q (.q 94 (.ex (.t 84) 1)),.m (.e 12 (.al (.agg #[(.int .i64 0),(.string (mk [])),(.int .i64 0),(.int .i64 0),(.string (mk [])),(.slice none 0 0),(.bool false)]) 97)),.rc (.v 84 92),.rc (.q 93 (.ex (.t 84) 0)),.rc (.q 94 (.ex (.t 84) 1)),.m (.s (.st 7 (.t 12) (.t 93))),.rc (.q 94 (.ex (.t 84) 1)),.m (.v 13 94)]) (qK))) (.reg [.v 82 11,.q 83 (.bin .add true (.t 82) (.i 1)),.v 11 83])))))) (.seq (.reg [.q 6 (.mv (.i 0))]) .ret)
@[go_sem ↓] theorem aGJ:aT uW:=aU _
def vP:PC:=.seq (.gh (.reg [.l 71 (.ldn 3 (.t 3)),.q 72 (.fa 2 (.t 4)),.l 73 (.ld1 (.t 72)),.a 74 (.cl 112 [(.t 71),(.t 73)] []),.v 70 74,.q 75 (.ex (.t 70) 0),.q 76 (.ex (.t 70) 1),.e 9 (.al (.agg #[(.string (mk [])),(.slice none 0 0)]) 95),.s (.st 2 (.t 9) (.t 75)),.v 10 76])) (uW)
@[go_sem ↓] theorem aGH:aT vP:=aU _
def pcM67_7:PC:=.seq (.seq (.gh (.reg [.q 7 (.mv (.i 0))])) (.block 0 (.loop (.seq (.seq (.reg [.v 49 7,.q 50 (.fa 3 (.t 5)),.l 51 (.ld1 (.t 50)),.q 52 (.lnL (.t 51)),.q 53 (.bin .lss true (.t 49) (.t 52))]) (.cond (.t 53) .skip (.exit 0))) (.seq (.block 1 (.seq (.reg [.l 56 (.ldn 3 (.t 3)),.q 57 (.fa 3 (.t 4)),.l 58 (.ld1 (.t 57)),.l 59 (.ia 4 (.t 58) (.i 0)),.l 60 (.ldn 4 (.t 59)),.q 61 (.fa 3 (.t 5)),.l 62 (.ld1 (.t 61)),.v 63 7,.l 64 (.ia 5 (.t 62) (.t 63)),.l 65 (.ldn 5 (.t 64)),.a 66 (.cq 67 [(.t 56),(.t 60),(.t 65)]),.v 8 66]) (.seq (.reg [.v 67 8,.q 68 (.bin .neq true (.t 67) (.i 0))]) (.cond (.t 68) (.seq (.reg [.v 69 8,.v 6 69]) .ret) .skip)))) (.reg [.v 54 7,.q 55 (.bin .add true (.t 54) (.i 1)),.v 7 55])))))) (vP)
@[go_sem ↓] theorem aJX:aT pcM67_7:=aU _
def tN:PC:=.seq (.seq (.gh (.reg [.q 25 (.fa 0 (.t 4)),.l 26 (.ld1 (.t 25)),.q 27 (.bin .eql true (.t 26) (.i 4)),.v 28 27,⟨some 29,(some (28,true)),.q (.fa 2 (.t 5))⟩,⟨some 30,(some (28,true)),.l (.ld1 (.t 29))⟩,⟨some 31,(some (28,true)),.q (.lnS (.t 30))⟩,⟨some 32,(some (28,true)),.q (.fa 1 (.t 4))⟩,⟨some 33,(some (28,true)),.l (.ld1 (.t 32))⟩,⟨some 34,(some (28,true)),.q (.bin .gtr true (.t 31) (.t 33))⟩,.a 35 (.pick (.t 28) (.t 34) (.k (.bool false))),.v 36 35,⟨some 37,(some (36,false)),.q (.fa 0 (.t 4))⟩,⟨some 38,(some (36,false)),.l (.ld1 (.t 37))⟩,⟨some 39,(some (36,false)),.q (.bin .eql true (.t 38) (.i 5))⟩,⟨some 40,(some (36,false)),.q (.mv (.t 39))⟩,⟨some 41,(some (40,true)),.q (.fa 3 (.t 5))⟩,⟨some 42,(some (40,true)),.l (.ld1 (.t 41))⟩,⟨some 43,(some (40,true)),.q (.lnL (.t 42))⟩,⟨some 44,(some (40,true)),.q (.fa 1 (.t 4))⟩,⟨some 45,(some (40,true)),.l (.ld1 (.t 44))⟩,⟨some 46,(some (40,true)),.q (.bin .gtr true (.t 43) (.t 45))⟩,⟨some 47,(some (36,false)),.pick (.t 40) (.t 46) (.k (.bool false))⟩,.a 48 (.pick (.t 36) (.k (.bool true)) (.t 47))])) (.cond (.t 48) (.seq (.reg [.q 6 (.mv (.i 3))]) .ret) .skip)) (pcM67_7)
@[go_sem ↓] theorem aJC:aT tN:=aU _
def sP:PC:=.seq (.seq (.gh (.reg [.l 20 (.ldn 3 (.t 3)),.l 21 (.ldn 4 (.t 4)),.l 22 (.ldn 5 (.t 5)),.a 23 (.cq 111 [(.t 20),(.t 21),(.t 22)]),.q 24 (.not (.t 23))])) (.cond (.t 24) (.seq (.reg [.q 6 (.mv (.i 4))]) .ret) .skip)) (tN)
@[go_sem ↓] theorem aI4:aT sP:=aU _
def M4:PC:=.seq (.reg [.e 3 (.bx 25 (.t 0)),.e 4 (.bx 28 (.t 1)),.e 5 (.bx 32 (.t 2)),.q 6 (.mv (.i 0))]) (.seq (.seq (.reg [.l 15 (.ldn 3 (.t 3)),.l 16 (.ldn 4 (.t 4)),.l 17 (.ldn 5 (.t 5)),.a 18 (.cq 110 [(.t 15),(.t 16),(.t 17)]),.q 19 (.not (.t 18))]) (.cond (.t 19) (.seq (.reg [.q 6 (.mv (.i 13))]) .ret) .skip)) (sP))
def xP:List RV:=[.mv (.t 6)]
theorem aGO:aN Tryz.prog true ⟨fun r k=>if r=1/\k=3 then .q else if r=3/\k=3 then .q else if r=10/\k=10 then .q else if r=18/\k=9 then .q else .own [],fun r=>[3,5,7,13,14,18,19].contains r⟩ Tryz.f67=some (M4,xP):=by kernel_rfl
def wI:PC:=.seq (.gh (.reg [.q 28 (.fa 1 (.t 5)),.l 29 (.ld1 (.t 28)),.q 30 (.bin .eql true (.t 29) (.i 0)),.v 31 30,⟨some 32,(some (31,false)),.q (.fa 1 (.t 5))⟩,⟨some 33,(some (31,false)),.l (.ld1 (.t 32))⟩,⟨some 34,(some (31,false)),.q (.bin .eql true (.t 33) (.i 1))⟩,.a 35 (.pick (.t 31) (.k (.bool true)) (.t 34)),.v 6 35])) .ret
@[go_sem ↓] theorem aII:aT wI:=aU _
def nP:PC:=.seq (.gh (.reg [.q 38 (.fa 1 (.t 4)),.l 39 (.ld1 (.t 38)),.q 40 (.bin .eql true (.t 39) (.i 64)),.v 41 40,⟨some 42,(some (41,false)),.q (.fa 1 (.t 5))⟩,⟨some 43,(some (41,false)),.l (.ld1 (.t 42))⟩,⟨some 44,(some (41,false)),.q (.mv (.t 7))⟩,⟨some 45,(some (41,false)),.q (.bin .sub true (.i 0) (.t 44))⟩,⟨some 46,(some (41,false)),.q (.bin .geq true (.t 43) (.t 45))⟩,⟨some 47,(some (41,false)),.q (.mv (.t 46))⟩,⟨some 48,(some (47,true)),.q (.fa 1 (.t 5))⟩,⟨some 49,(some (47,true)),.l (.ld1 (.t 48))⟩,⟨some 50,(some (47,true)),.q (.mv (.t 7))⟩,⟨some 51,(some (47,true)),.q (.bin .lss true (.t 49) (.t 50))⟩,⟨some 52,(some (41,false)),.pick (.t 47) (.t 51) (.k (.bool false))⟩,.a 53 (.pick (.t 41) (.k (.bool true)) (.t 52)),.v 6 53])) .ret
@[go_sem ↓] theorem aFH:aT nP:=aU _
def r8:PC:=.seq (.gh (.reg [.q 56 (.fa 1 (.t 5)),.l 57 (.ld1 (.t 56)),.q 58 (.bin .geq true (.t 57) (.i 0)),.v 59 58,⟨some 60,(some (59,true)),.q (.fa 1 (.t 5))⟩,⟨some 61,(some (59,true)),.l (.ld1 (.t 60))⟩,⟨some 62,(some (59,true)),.q (.mv (.t 7))⟩,⟨some 63,(some (59,true)),.q (.bin .mul true (.i 2) (.t 62))⟩,⟨some 64,(some (59,true)),.q (.bin .lss true (.t 61) (.t 63))⟩,.a 65 (.pick (.t 59) (.t 64) (.k (.bool false))),.v 6 65])) .ret
@[go_sem ↓] theorem aFL:aT r8:=aU _
def sJ:PC:=.seq (.gh (.reg [.l 69 (.ldn 3 (.t 3)),.q 70 (.fa 2 (.t 4)),.l 71 (.ld1 (.t 70)),.a 72 (.cl 133 [(.t 69),(.t 71)] []),.v 68 72,.q 73 (.ex (.t 68) 0),.q 74 (.ex (.t 68) 1),.e 9 (.al (.agg #[(.string (mk [])),(.slice none 0 0),(.slice none 0 0)]) 92),.s (.st 3 (.t 9) (.t 73)),.v 10 74])) (.seq (.seq (.reg [.q 11 (.mv (.i 0))]) (.block 3 (.loop (.seq (.seq (.reg [.v 75 11,.q 76 (.fa 2 (.t 9)),.l 77 (.ld1 (.t 76)),.q 78 (.lnL (.t 77)),.q 79 (.bin .lss true (.t 75) (.t 78))]) (.cond (.t 79) .skip (.exit 3))) (.seq (.block 4 (.seq (.reg [.q 82 (.fa 2 (.t 9)),.l 83 (.ld1 (.t 82)),.v 84 11,.l 85 (.ia 1 (.t 83) (.t 84)),.l 86 (.ld1 (.t 85)),.q 87 (.fa 1 (.t 5)),.l 88 (.ld1 (.t 87)),.q 89 (.bin .eql true (.t 86) (.t 88))]) (.cond (.t 89) (.seq (.reg [.q 6 (.mv (.k (.bool true)))]) .ret) .skip))) (.reg [.v 80 11,.q 81 (.bin .add true (.t 80) (.i 1)),.v 11 81])))))) (.seq (.reg [.q 6 (.mv (.k (.bool false)))]) .ret))
@[go_sem ↓] theorem aFJ:aT sJ:=aU _
def pcM111_6:PC:=.seq (.seq (.gh (.reg [.q 24 (.fa 0 (.t 4)),.l 25 (.ld1 (.t 24))])) (.block 2 (.seq (.reg [.q 27 (.bin .eql true (.t 25) (.i 1)),.v 26 27]) (.cond (.t 26) (wI) (.seq (.reg [.q 37 (.bin .eql true (.t 25) (.i 2)),.v 36 37]) (.cond (.t 36) (nP) (.seq (.reg [.q 55 (.bin .eql true (.t 25) (.i 3)),.v 54 55]) (.cond (.t 54) (r8) (.seq (.reg [.q 67 (.bin .eql true (.t 25) (.i 7)),.v 66 67]) (.cond (.t 66) (sJ) .skip)))))))))) (.seq (.reg [.q 6 (.mv (.k (.bool true)))]) .ret)
@[go_sem ↓] theorem aHE:aT pcM111_6:=aU _
def ON:PC:=.seq (.reg [.e 3 (.bx 25 (.t 0)),.e 4 (.bx 28 (.t 1)),.e 5 (.bx 32 (.t 2)),.q 6 (.mv (.k (.bool false)))]) (.seq (.reg [.q 7 (.mv (.i 1))]) (.seq (.seq (.reg [.q 8 (.mv (.i 1))]) (.block 0 (.loop (.seq (.seq (.reg [.v 12 8,.q 13 (.fa 1 (.t 4)),.l 14 (.ld1 (.t 13)),.q 15 (.bin .lss true (.t 12) (.t 14)),.v 16 15,⟨some 17,(some (16,true)),.q (.mv (.t 8))⟩,⟨some 18,(some (16,true)),.q (.bin .lss true (.t 17) (.i 63))⟩,.a 19 (.pick (.t 16) (.t 18) (.k (.bool false)))]) (.cond (.t 19) .skip (.exit 0))) (.seq (.block 1 (.reg [.v 22 7,.q 23 (.bin .mul true (.i 2) (.t 22)),.v 7 23])) (.reg [.v 20 8,.q 21 (.bin .add true (.t 20) (.i 1)),.v 8 21])))))) (pcM111_6)))
def kT:List RV:=[.mv (.t 6)]
theorem aE0:aN Tryz.prog true ⟨fun _ _=>.own [],fun r=>[6,8,10,12,14].contains r⟩ Tryz.f111=some (ON,kT):=by kernel_rfl
end Go.Proofs.YtkpohmhenegkiaaGreatDoor
namespace Go.Proofs.YtkpohmhenegkiaaGreatDoor
open Go.W
def nI (i:Nat):Int:=2 ^ (i - 1)
theorem JV {i:Nat} (h:1<=i):2 * nI i=nI (i + 1):=by
  unfold nI
  obtain ⟨j,rfl⟩:∃ j,i=j + 1:=⟨i - 1,by omega⟩
  rw [Nat.add_sub_cancel,Nat.add_sub_cancel,Int.pow_succ,Int.mul_comm]
theorem L4 {i:Nat} (h:i<=63):1<=nI i/\nI i<=4611686018427387904:=by
  unfold nI
  have h1:(2:Nat) ^ (i - 1)<=2 ^ 62:=Nat.pow_le_pow_right (by decide) (by omega)
  have h2:1<=(2:Nat) ^ (i - 1):=Nat.one_le_two_pow
  have e:((2:Int) ^ (i - 1))=(((2:Nat) ^ (i - 1):Nat):Int):=by rw [Int.natCast_pow]; rfl
  rw [e]
  have:(2:Nat) ^ 62=4611686018427387904:=by decide
  omega
theorem va2 {ss:List St} {es:List En} {t:Ty} (h:valF ss es t=true) (hk:(t.k == 2)=true):t.s=8\/t.s=16\/t.s=32\/t.s=64:=by
  obtain ⟨k,s,n,e⟩:=t
  have hk:k=2:=eq_of_beq hk
  subst hk
  rw [valF] at h
  simp at h
  show s=8\/s=16\/s=32\/s=64
  omega
theorem va3 {ss:List St} {es:List En} {t:Ty} (h:valF ss es t=true) (hk:(t.k == 3)=true):t.s=8\/t.s=16\/t.s=32:=by
  obtain ⟨k,s,n,e⟩:=t
  have hk:k=3:=eq_of_beq hk
  subst hk
  rw [valF] at h
  simp at h
  show s=8\/s=16\/s=32
  omega
def m1 (s:Sc) (t:Ty) (n:Int):Bool:=
  bif t.k == 1 then n == 0 || n == 1
  else bif t.k == 2 then t.s == 64 || (decide (-(2 ^ (t.s.toNat - 1):Int)<=n) && decide (n < (2 ^ (t.s.toNat - 1):Int)))
  else bif t.k == 3 then decide (0<=n) && decide (n < (2 ^ t.s.toNat:Int))
  else bif t.k == 7 then (enOf s t).vs.any fun x=>x == n else true
theorem QM:Meets Tryz.prog 111 (cQ (fun s t _=>valF s.ss s.es t=true) fun s t v=>.bool (m1 s t v.n)).sp:=by
  refine aF Tryz.func111 aE0 3 (by rw [Tryz.ntmps111]; decide) (aB aD9 (aA _)) eE ?_
  intro av H K h
  obtain ⟨s,t,v,rfl,rfl,hs,ht,hv,hp,hK⟩:=dH h
  clear h
  have fin:∀ (b:Bool) (R:Hp),m1 s t v.n=b->W.Fin 0 K (bS b) R:=fun b R h=>by
    rw [h] at hK; exact .sel [] (by simp) (by simp) rfl (.done (by simpa [go_sem] using hK))
  clear hK
  unfold m1 at fin
  have hts:=ht.s
  have hts1:=hts.1
  have hts2:=hts.2
  have he:=JK hs t
  have tail:∀ i:Nat,i<=63->(i=1\/(i:Int)<=t.s)->(t.s<=(i:Int)\/i=63)->vc [(133,.s wX)] 0 pcM111_6.ungh
      (eG [(3,.va (.c1 (.pt 0 0))),(4,.va (.c1 (.pt 1 0))),(5,.va (.c1 (.pt 2 0))),(7,iS .i64 (nI i))]) [.cells [.vl (.int .i64 s.ver),.fz (s.es.map aX),.fz (s.ss.map aL)] 25,.cells [.vl (.int .i64 t.k),.vl (.int .i64 t.s),.vl (.string t.n),.fz (t.e.map aM)] 28,.cells [.vl (.int .i64 v.k),.vl (.int .i64 v.n),.vl (.string v.s),.fz (v.l.map aV),.fz (v.f.map aY)] 32] (jL 0 kT K):=fun i hi2 hi3 hi4=>by
    have hb:=L4 hi2
    have hsz:2<=t.s->t.s<=63->nI i=2 ^ (t.s.toNat - 1)/\2 * nI i=2 ^ t.s.toNat:=fun h1 h2=>by
      have e:i=t.s.toNat:=by omega
      refine ⟨by rw [e]; rfl,?_⟩
      rw [JV (by omega),e]; rfl
    cases h1:t.k == 1 with
    | true=>
      rw [h1,Bool.cond_true] at fin
      cases n0:v.n == 0<;>cases n1:v.n == 1<;>rw [n0,n1] at fin <;>
      · simp (maxSteps:=1000000) -dsimp only [go_sem,pcM111_6,kT,h1]
        refine aD rfl (.done ?_)
        simp (maxSteps:=1000000) -dsimp only [go_sem,wI,n0,n1]
        exact fin _ _ rfl
    | false=>
    cases h2:t.k == 2 with
    | true=>
      rw [h1,h2,Bool.cond_false,Bool.cond_true] at fin
      simp (maxSteps:=1000000) -dsimp only [go_sem,pcM111_6,kT,h1,h2]
      refine aD rfl (.done ?_)
      have hs:=va2 hp h2
      cases c64:t.s == 64 with
      | true=>
        rw [c64,Bool.true_or] at fin
        simp (maxSteps:=1000000) -dsimp only [go_sem,nP,c64]
        exact fin _ _ rfl
      | false=>
        have hne:t.s ≠ 64:=by simpa using c64
        rw [c64,Bool.false_or,<-(hsz (by omega) (by omega)).1] at fin
        generalize nI i=hh at *
        cases d1:decide (0 - hh<=v.n)<;>cases d2:decide (v.n < hh) <;>
        · have d1':decide (-hh<=v.n)=decide (0 - hh<=v.n):=by rw [Int.zero_sub]
          rw [d1',d1,d2] at fin
          simp (maxSteps:=1000000) -dsimp only [go_sem,nP,c64,d1,d2]
          exact ⟨⟨by omega,by omega⟩,fin _ _ rfl⟩
    | false=>
    cases h3:t.k == 3 with
    | true=>
      rw [h1,h2,h3,Bool.cond_false,Bool.cond_false,Bool.cond_true] at fin
      simp (maxSteps:=1000000) -dsimp only [go_sem,pcM111_6,kT,h1,h2,h3]
      refine aD rfl (.done ?_)
      have hs:=va3 hp h3
      have hb3:2 * nI i<=4294967296:=by rw [(hsz (by omega) (by omega)).2]; rcases hs with h | h | h<;>rw [h]<;>decide
      rw [<-(hsz (by omega) (by omega)).2] at fin
      generalize nI i=hh at *
      cases d1:decide (0<=v.n)<;>cases d2:decide (v.n < 2 * hh)<;>rw [d1,d2] at fin <;>
      · simp (maxSteps:=1000000) -dsimp only [go_sem,r8,d1,d2]
        first
          | exact fin _ _ rfl
          | exact ⟨⟨by omega,by omega⟩,fin _ _ rfl⟩
    | false=>
    cases h7:t.k == 7 with
    | false=>
      rw [h1,h2,h3,h7,Bool.cond_false,Bool.cond_false,Bool.cond_false,Bool.cond_false] at fin
      simp (maxSteps:=1000000) -dsimp only [go_sem,pcM111_6,kT,h1,h2,h3,h7]
      exact fin _ _ rfl
    | true=>
      rw [h1,h2,h3,h7,Bool.cond_false,Bool.cond_false,Bool.cond_false,Bool.cond_true] at fin
      simp (maxSteps:=1000000) -dsimp only [go_sem,pcM111_6,kT,h1,h2,h3,h7]
      refine aD rfl (.done ?_)
      simp (maxSteps:=1000000) -dsimp only [go_sem,sJ]
      refine jA hs ?_
      rw [show (bX s.es t.n).getD default=enOf s t from rfl]
      generalize enOf s t=e at *
      simp (maxSteps:=1000000) -dsimp only [go_sem,aX]
      have hel:=he.lv
      refine aK (α:=Nat) (fun i=>[(5,.va (.c1 (.pt 2 0))),(9,.va (.c1 (.pt 3 0))),(11,iS .i64 i)]) (fun _=>[.cells [.vl (.int .i64 s.ver),.fz (s.es.map aX),.fz (s.ss.map aL)] 25,.cells [.vl (.int .i64 t.k),.vl (.int .i64 t.s),.vl (.string t.n),.fz (t.e.map aM)] 28,.cells [.vl (.int .i64 v.k),.vl (.int .i64 v.n),.vl (.string v.s),.fz (v.l.map aV),.fz (v.f.map aY)] 32,.cells [.vl (.string e.nm),.fz (e.ns.map bB),.fz (e.vs.map bU)] 92])
        (fun i=>i<=e.vs.length/\((e.vs.drop i).any fun x=>x == v.n)=(e.vs.any fun x=>x == v.n)) (fun i=>e.vs.length - i) 0 4 ⟨Nat.zero_le _,rfl⟩ ?_ ?_ ?_
      · simp -dsimp only [go_sem]<;>simp
      · simp -dsimp only [go_sem]<;>simp
      rintro j ⟨hj,ho⟩
      rcases Nat.lt_or_ge j e.vs.length with hlt | hge
      · have hg:decide ((j:Int) < (e.vs.length:Int))=true:=by simp; omega
        have hx:e.vs[j]? = some e.vs[j]:=List.getElem?_eq_getElem hlt
        have q2:=aO (row:=bU) hx
        rw [List.drop_eq_getElem_cons hlt,List.any_cons] at ho
        generalize e.vs[j]=m at *
        cases hc:m == v.n with
        | true=>
          rw [hc,Bool.true_or] at ho
          simp (maxSteps:=1000000) -dsimp only [go_sem,hg,↓q2,hc]
          exact ⟨⟨by omega,by omega⟩,fin _ _ ho.symm⟩
        | false=>
          rw [hc,Bool.false_or] at ho
          simp (maxSteps:=1000000) -dsimp only [go_sem,hg,↓q2,hc]
          refine ⟨⟨by omega,by omega⟩,⟨by omega,by omega⟩,aC (j + 1) 4 ⟨by omega,ho⟩ (by omega) ?_ ?_⟩
          · simp -dsimp only [go_sem]<;>simp
          · simp -dsimp only [go_sem]<;>simp
      · have hg:decide ((j:Int) < (e.vs.length:Int))=false:=by simp; omega
        have:e.vs.drop j=[]:=List.drop_eq_nil_iff.2 (by omega)
        rw [this,List.any_nil] at ho
        simp (maxSteps:=1000000) -dsimp only [go_sem,hg]
        exact fin _ _ ho.symm
  simp (maxSteps:=1000000) -dsimp only [go_sem,aE,aH t,aI v,ON,kT]
  refine aK (α:=Nat) (fun i=>[(3,.va (.c1 (.pt 0 0))),(4,.va (.c1 (.pt 1 0))),(5,.va (.c1 (.pt 2 0))),(7,iS .i64 (nI i)),(8,iS .i64 i)]) (fun _=>[.cells [.vl (.int .i64 s.ver),.fz (s.es.map aX),.fz (s.ss.map aL)] 25,.cells [.vl (.int .i64 t.k),.vl (.int .i64 t.s),.vl (.string t.n),.fz (t.e.map aM)] 28,.cells [.vl (.int .i64 v.k),.vl (.int .i64 v.n),.vl (.string v.s),.fz (v.l.map aV),.fz (v.f.map aY)] 32])
    (fun i=>1<=i/\i<=63/\(i=1\/(i:Int)<=t.s)) (fun i=>63 - i) 1 3 ⟨by omega,by omega,.inl rfl⟩ ?_ ?_ ?_
  · simp -dsimp only [go_sem]<;>simp [nI]
  · simp -dsimp only [go_sem]<;>simp
  rintro i ⟨hi1,hi2,hi3⟩
  have hb:=L4 hi2
  cases hg:decide ((i:Int) < t.s) && decide ((i:Int) < 63) with
  | true=>
    obtain ⟨g1,g2⟩:decide ((i:Int) < t.s)=true/\decide ((i:Int) < 63)=true:=by simpa only [Bool.and_eq_true] using hg
    have hsu:=JV hi1
    have h1:=of_decide_eq_true g1
    have h2:=of_decide_eq_true g2
    have hb2:=L4 (i:=i + 1) (by omega)
    simp (maxSteps:=1000000) -dsimp only [go_sem,g1,g2]
    refine ⟨⟨by omega,by omega⟩,⟨by omega,by omega⟩,aC (i + 1) 3 ⟨by omega,by omega,.inr (by omega)⟩ (by omega) ?_ ?_⟩
    · simp -dsimp only [go_sem,hsu]<;>simp
    · simp -dsimp only [go_sem]<;>simp
  | false=>
    have hg':(decide ((i:Int) < t.s)=false)\/(decide ((i:Int) < t.s)=true/\decide ((i:Int) < 63)=false):=by
      cases h:decide ((i:Int) < t.s) with
      | false=>exact .inl rfl
      | true=>rw [h,Bool.true_and] at hg; exact .inr ⟨rfl,hg⟩
    rcases hg' with g1 | ⟨g1,g2⟩
    · simp (maxSteps:=1000000) -dsimp only [go_sem,g1]
      refine dY 3 (tail i hi2 hi3 (.inl (by have:=of_decide_eq_false g1; omega))) ?_ ?_
      · simp -dsimp only [go_sem]<;>simp
      · simp -dsimp only [go_sem]<;>simp
    · simp (maxSteps:=1000000) -dsimp only [go_sem,g1,g2]
      refine dY 3 (tail i hi2 hi3 (.inr (by have:=of_decide_eq_false g2; omega))) ?_ ?_
      · simp -dsimp only [go_sem]<;>simp
      · simp -dsimp only [go_sem]<;>simp
end Go.Proofs.YtkpohmhenegkiaaGreatDoor
namespace Go.Proofs.YtkpohmhenegkiaaGreatDoor
open Go.W
def FT (t:Ty) (a b:Int):Bool:=(t.k == 4 && decide (t.s < a)) || (t.k == 5 && decide (t.s < b))
mutual
def nO (s:Sc) (t:Ty):Vl->Int
  | .mk k n str l f=>bif !(hJ s t (.mk k n str l f)) then 13 else bif !(m1 s t n) then 4 else bif FT t (bl str).length l.length then 3
      else bif lC s (t.e.headD default) l != 0 then lC s (t.e.headD default) l else m0 s (stOf s t) f
def lC (s:Sc) (t:Ty):List Vl->Int
  | []=>0
  | v :: r=>bif nO s t v != 0 then nO s t v else lC s t r
def m0 (s:Sc) (u:St):List (Int × Vl)->Int
  | []=>0
  | (i,v) :: r=>bif nO s (cK u i).ty v != 0 then nO s (cK u i).ty v else m0 s u r
end
theorem oV {α:Type} {l:List α} (h:decide (0 < (l.length:Int))=false):l=[]:=by
  have:=of_decide_eq_false h
  exact List.length_eq_zero_iff.1 (by omega)
theorem aAM {s:Sc} {t:Ty} {n:Int} (hp:valF s.ss s.es t=true) (h4:(t.k == 4)=false) (h5:(t.k == 5)=false) (h6:(t.k == 6)=false):m1 s t n=FX s t n:=by
  unfold m1 FX
  cases h1:t.k == 1 with
  | true=>rfl
  | false=>
  cases h2:t.k == 2 with
  | true=>rfl
  | false=>
  cases h3:t.k == 3 with
  | true=>rfl
  | false=>
  cases h7:t.k == 7 with
  | true=>rfl
  | false=>
    exfalso
    obtain ⟨k,sz,nm,e⟩:=t
    have h1:(k == 1)=false:=h1
    have h2:(k == 2)=false:=h2
    have h3:(k == 3)=false:=h3
    have h4:(k == 4)=false:=h4
    have h5:(k == 5)=false:=h5
    have h6:(k == 6)=false:=h6
    have h7:(k == 7)=false:=h7
    rw [valF,h1,h2,h3,h4,h5,h6,h7] at hp
    cases hp
mutual
theorem H5 (s:Sc) (t:Ty):∀ v:Vl,nO s t v=fL s t v
  | .mk k n str l f=>by
    have hL:∀ u,lC s u l=jT s u l:=fun u=>PS s u l
    have hE:m0 s (stOf s t) f=jV s ((fS s.ss t.n).getD default).fs f:=P9 s (stOf s t) f
    rw [nO,fL,hL,hE]
    unfold hJ
    cases hp:valF s.ss s.es t with
    | false=>rfl
    | true=>
    show (bif !(bif !true || k != t.k || BS (.mk k n str l f) then false else bif IQ (.mk k n str l f) then false else bif k != 6 then true else cN (stOf s t).fs f) then 13 else _)=_
    cases hk:k != t.k with
    | true=>rfl
    | false=>
    have hk':k=t.k:=by simpa using hk
    subst hk'
    have eA:BS (.mk t.k n str l f)=((t.k != 4 && !(bl str == [])) || (t.k != 5 && decide (0 < (l.length:Int))) || (t.k != 6 && decide (0 < (f.length:Int)))):=rfl
    have eB:IQ (.mk t.k n str l f)=((t.k == 4 || t.k == 5 || t.k == 6) && n != 0):=rfl
    rw [eA,eB]
    unfold FT
    cases h4:t.k == 4 with
    | true=>
      have e4:t.k=4:=eq_of_beq h4
      have er:m1 s t n=true:=by unfold m1; rw [e4]; rfl
      rw [er,e4]
      unfold p5
      cases hn:n != 0<;>cases hl:decide (0 < (l.length:Int))<;>cases hf:decide (0 < (f.length:Int))<;>cases hs:decide (t.s < ((bl str).length:Int))<;>(try rw [oV hl])<;>(try rw [oV hf])<;>simp [jT,jV]
    | false=>
    cases h5:t.k == 5 with
    | true=>
      have e5:t.k=5:=eq_of_beq h5
      have er:m1 s t n=true:=by unfold m1; rw [e5]; rfl
      rw [er,e5]
      generalize jT s (t.e.headD default) l=q
      have hq:(bif q != 0 then q else 0)=q:=by
        cases hz:q != 0 with
        | true=>rfl
        | false=>
          have hq0:q=0:=by simpa using hz
          rw [hq0]; rfl
      cases hn:n != 0<;>cases hb:bl str == []<;>cases hf:decide (0 < (f.length:Int))<;>cases hs:decide (t.s < (l.length:Int))<;>(try rw [oV hf])<;>simp [jV,hq]
    | false=>
    cases h6:t.k == 6 with
    | true=>
      have e6:t.k=6:=eq_of_beq h6
      have er:m1 s t n=true:=by unfold m1; rw [e6]; rfl
      have ef:(stOf s t).fs=((fS s.ss t.n).getD default).fs:=rfl
      rw [er,e6,ef]
      cases hn:n != 0<;>cases hb:bl str == []<;>cases hl:decide (0 < (l.length:Int))<;>cases hs:cN ((fS s.ss t.n).getD default).fs f<;>(try rw [oV hl])<;>simp [jT]
    | false=>
      rw [aAM hp h4 h5 h6]
      have c4:(t.k != 4)=true:=by rw [bne,h4]; rfl
      have c5:(t.k != 5)=true:=by rw [bne,h5]; rfl
      have c6:(t.k != 6)=true:=by rw [bne,h6]; rfl
      rw [c4,c5,c6]
      unfold pL
      cases hb:bl str == []<;>cases hl:decide (0 < (l.length:Int))<;>cases hf:decide (0 < (f.length:Int))<;>cases hr:FX s t n<;>(try rw [oV hl])<;>(try rw [oV hf])<;>simp [jT,jV]
theorem PS (s:Sc) (t:Ty):∀ l:List Vl,lC s t l=jT s t l
  | []=>by rw [lC,jT]
  | v :: r=>by rw [lC,jT,H5 s t v,PS s t r]
theorem P9 (s:Sc) (u:St):∀ l:List (Int × Vl),m0 s u l=jV s u.fs l
  | []=>by rw [m0,jV]
  | (i,v) :: r=>by
    rw [m0,jV,H5 s (cK u i).ty v,P9 s u r]; rfl
end
end Go.Proofs.YtkpohmhenegkiaaGreatDoor
namespace Go.Proofs.YtkpohmhenegkiaaGreatDoor
open Go.W
theorem ZI (s:Sc) (t:Ty) (v:Vl):nO s t v=bif !(hJ s t v) then 13 else bif !(m1 s t v.n) then 4 else bif FT t (bl v.s).length v.l.length then 3
      else bif lC s (t.e.headD default) v.l != 0 then lC s (t.e.headD default) v.l else m0 s (stOf s t) v.f:=by cases v; rw [nO]; rfl
theorem JR:∀ N,Meets Tryz.prog 67 (cQ (qW N) fun s t v=>.int .i64 (nO s t v)).sp
  | 0=>⟨by kernel_rfl,by rintro xs vs E ro w K _ _ _ h; obtain ⟨_,_,v,_,_,_,_,_,h,_⟩:=dH h; have:=v.h_pos; have h:v.h<=0:=h; omega⟩
  | N + 1=>by
    refine aF Tryz.func67 aGO 3 (by rw [Tryz.ntmps67]; decide) (aG Y1 (aG QM (aG (JR N) (aB FI (aB J1 (aA _)))))) eE ?_
    intro av H K h
    obtain ⟨s,t,v,rfl,rfl,hs,ht,hv,hh,hK⟩:=dH h
    clear h
    have hh:v.h<=N + 1:=hh
    have fin:∀ (z:Int) (R:Hp),nO s t v=z->W.Fin 0 K (iS .i64 z) R:=fun z R h=>by
      have hK:K (iS .i64 (nO s t v)) []:=hK
      rw [h] at hK; exact .sel [] (by simp) (by simp) rfl (.done (by simpa [go_sem] using hK))
    clear hK
    rw [ZI] at fin
    have k1:=cE hv
    have k2:=eR v
    have k4:=cL ht
    have k5:=fN t
    have k6:=dV hs
    have k7:=hM s
    cases h1:hJ s t v with
    | false=>
      rw [h1] at fin
      simp (maxSteps:=1000000) -dsimp only [go_sem,aE,aH t,aI v,M4,xP,k1,k2,k4,k5,k6,k7,h1]
      exact fin 13 _ rfl
    | true=>
    have hp:valF s.ss s.es t=true:=by
      cases hp:valF s.ss s.es t with
      | true=>rfl
      | false=>unfold hJ at h1; rw [hp] at h1; cases h1
    rw [h1] at fin
    simp (maxSteps:=1000000) -dsimp only [go_sem,aE,aH t,aI v,M4,xP,k1,k2,k4,k5,k6,k7,h1]
    refine aD rfl (.done ?_)
    cases h2:m1 s t v.n with
    | false=>
      rw [h2] at fin
      simp (maxSteps:=1000000) -dsimp only [go_sem,sP,k1,k2,k4,k5,k6,k7,hp,h2]
      exact fin 4 _ rfl
    | true=>
    rw [h2] at fin
    simp (maxSteps:=1000000) -dsimp only [go_sem,sP,k1,k2,k4,k5,k6,k7,hp,h2]
    refine aD rfl (.done ?_)
    simp only [Bool.not_true,Bool.cond_false] at fin
    have hne:0 < v.l.length->∃ u,t.e=[u]/\TyOk u:=fun hl=>by
      have hk5:v.k=5:=by
        cases h5:v.k != 5 with
        | false=>simpa using h5
        | true=>
          unfold hJ BS at h1
          rw [h5,decide_eq_true (show (0:Int) < (v.l.length:Int) by omega)] at h1
          simp at h1
      have hkt:v.k=t.k:=by
        cases hkt:v.k != t.k with
        | false=>simpa using hkt
        | true=>unfold hJ at h1; rw [hkt] at h1; simp at h1
      obtain ⟨u,he,_⟩:=Q8 hp (by rw [<-hkt,hk5]; rfl)
      exact ⟨u,he,ht.e u (by rw [he]; simp)⟩
    have tail:(∀ (z:Int) (R:Hp),(bif lC s (t.e.headD default) v.l != 0 then lC s (t.e.headD default) v.l else m0 s (stOf s t) v.f)=z->W.Fin 0 K (iS .i64 z) R)->vc [(110,.f (cQ (fun _ _ _=>True) fun s t v=>.bool (hJ s t v))),(111,.f (cQ (fun s t _=>valF s.ss s.es t=true) fun s t v=>.bool (m1 s t v.n))),(67,.f (cQ (qW N) fun s t v=>.int .i64 (nO s t v))),(112,.s jK),(113,.s kM)] 0 pcM67_7.ungh
        (eG [(3,.va (.c1 (.pt 0 0))),(4,.va (.c1 (.pt 1 0))),(5,.va (.c1 (.pt 2 0)))]) [.cells [.vl (.int .i64 s.ver),.fz (s.es.map aX),.fz (s.ss.map aL)] 25,.cells [.vl (.int .i64 t.k),.vl (.int .i64 t.s),.vl (.string t.n),.fz (t.e.map aM)] 28,.cells [.vl (.int .i64 v.k),.vl (.int .i64 v.n),.vl (.string v.s),.fz (v.l.map aV),.fz (v.f.map aY)] 32] (jL 0 xP K):=fun fin=>by
      have hll:=hv.ll
      simp (maxSteps:=1000000) -dsimp only [go_sem,pcM67_7,xP]
      refine aK (α:=Nat) (fun i=>[(3,.va (.c1 (.pt 0 0))),(4,.va (.c1 (.pt 1 0))),(5,.va (.c1 (.pt 2 0))),(7,iS .i64 i)]) (fun _=>[.cells [.vl (.int .i64 s.ver),.fz (s.es.map aX),.fz (s.ss.map aL)] 25,.cells [.vl (.int .i64 t.k),.vl (.int .i64 t.s),.vl (.string t.n),.fz (t.e.map aM)] 28,.cells [.vl (.int .i64 v.k),.vl (.int .i64 v.n),.vl (.string v.s),.fz (v.l.map aV),.fz (v.f.map aY)] 32])
        (fun i=>i<=v.l.length/\(bif lC s (t.e.headD default) (v.l.drop i) != 0 then lC s (t.e.headD default) (v.l.drop i) else m0 s (stOf s t) v.f)=(bif lC s (t.e.headD default) v.l != 0 then lC s (t.e.headD default) v.l else m0 s (stOf s t) v.f)) (fun i=>v.l.length - i) 0 3 ⟨Nat.zero_le _,rfl⟩ ?_ ?_ ?_
      · simp -dsimp only [go_sem]<;>simp
      · simp -dsimp only [go_sem]<;>simp
      rintro i ⟨hi,ho⟩
      rcases Nat.lt_or_ge i v.l.length with hlt | hge
      · have hg:decide ((i:Int) < (v.l.length:Int))=true:=by simp; omega
        have hx:v.l[i]? = some v.l[i]:=List.getElem?_eq_getElem hlt
        have q2:=aO (row:=aV) hx
        obtain ⟨u,he,hu⟩:=hne (by omega)
        rw [he,List.headD_cons] at ho
        rw [List.drop_eq_getElem_cons hlt,lC] at ho
        have hxo:=hv.l _ (List.getElem_mem hlt)
        have hxh:=Vl.h_l (List.getElem_mem hlt)
        generalize v.l[i]=x at *
        have j1:=cE hxo
        have j2:=eR x
        have j4:=cL hu
        have j5:=fN u
        have j8:qW N s u x:=show x.h<=N by omega
        have z0:(0:Int) < ((1:Nat):Int):=by decide
        have z1:(0:Int)<=0:=by decide
        cases hz:nO s u x != 0 with
        | true=>
          rw [hz,Bool.cond_true,hz,Bool.cond_true] at ho
          simp (maxSteps:=1000000) -dsimp only [go_sem,hg,↓q2,he,aH u,aI x,forall_eq',z0,z1,List.length_cons,List.length_nil,List.take_succ_cons,List.take_zero,j1,j2,j4,j5,j8,k6,k7,hz]
          exact ⟨⟨by omega,by omega⟩,fin _ _ (by rw [he]; exact ho.symm)⟩
        | false=>
          rw [hz,Bool.cond_false] at ho
          simp (maxSteps:=1000000) -dsimp only [go_sem,hg,↓q2,he,aH u,aI x,forall_eq',z0,z1,List.length_cons,List.length_nil,List.take_succ_cons,List.take_zero,j1,j2,j4,j5,j8,k6,k7,hz]
          refine ⟨⟨by omega,by omega⟩,⟨by omega,by omega⟩,aC (i + 1) 3 ⟨by omega,by rw [he]; exact ho⟩ (by omega) ?_ ?_⟩
          · simp -dsimp only [go_sem]<;>simp
          · simp -dsimp only [go_sem]<;>simp [he,aH u]
      · have hg:decide ((i:Int) < (v.l.length:Int))=false:=by simp; omega
        have:v.l.drop i=[]:=List.drop_eq_nil_iff.2 (by omega)
        rw [this,lC] at ho
        have ho:m0 s (stOf s t) v.f=_:=ho
        rw [<-ho] at fin
        simp (maxSteps:=1000000) -dsimp only [go_sem,hg]
        refine aD rfl (.done ?_)
        simp (maxSteps:=1000000) -dsimp only [go_sem,vP]
        refine gP hs ?_
        rw [show (fS s.ss t.n).getD default=stOf s t from rfl]
        have hwo:=iZ hs t
        have hws:=uY hs t
        generalize stOf s t=w at *
        have hlf:=hv.lf
        simp (maxSteps:=1000000) -dsimp only [go_sem,aL]
        refine aD rfl (.done ?_)
        simp (maxSteps:=1000000) -dsimp only [go_sem,uW]
        clear ho this hg hge hi
        refine aK (α:=Nat) (fun i=>[(3,.va (.c1 (.pt 0 0))),(5,.va (.c1 (.pt 2 0))),(9,.va (.c1 (.pt 3 0))),(11,iS .i64 i)]) (fun _=>[.cells [.vl (.int .i64 s.ver),.fz (s.es.map aX),.fz (s.ss.map aL)] 25,.cells [.vl (.int .i64 t.k),.vl (.int .i64 t.s),.vl (.string t.n),.fz (t.e.map aM)] 28,.cells [.vl (.int .i64 v.k),.vl (.int .i64 v.n),.vl (.string v.s),.fz (v.l.map aV),.fz (v.f.map aY)] 32,.cells [.vl (.string w.nm),.fz (w.fs.map aR)] 95])
          (fun i=>i<=v.f.length/\m0 s w (v.f.drop i)=m0 s w v.f) (fun i=>v.f.length - i) 0 4 ⟨Nat.zero_le _,rfl⟩ ?_ ?_ ?_
        · simp -dsimp only [go_sem]<;>simp
        · simp -dsimp only [go_sem]<;>simp
        rintro j ⟨hj,ho⟩
        rcases Nat.lt_or_ge j v.f.length with hlt | hge
        · have hg:decide ((j:Int) < (v.f.length:Int))=true:=by simp; omega
          have hx:v.f[j]? = some v.f[j]:=List.getElem?_eq_getElem hlt
          have q2:=kN hx
          rw [List.drop_eq_getElem_cons hlt] at ho
          have hxo:=hv.f _ (List.getElem_mem hlt)
          have hxh:=Vl.h_f (List.getElem_mem hlt)
          generalize v.f[j]=x at *
          obtain ⟨n,x⟩:=x
          rw [m0] at ho
          have hdo:=s0 hwo n
          simp only at hxo hxh q2
          have j1:=cE hxo
          have j2:=eR x
          have j8:∀ d:Ty,qW N s d x:=fun d=>show x.h<=N by omega
          simp (maxSteps:=1000000) -dsimp only [go_sem,hg,↓q2]
          refine ⟨⟨by omega,by omega⟩,jZ hwo hws ?_⟩
          generalize cK w n=d at *
          have j4:=cL hdo.ty
          have j5:=fN d.ty
          have j8:=j8 d.ty
          simp (maxSteps:=1000000) -dsimp only [go_sem,aR]
          refine aD rfl (.done ?_)
          cases hz:nO s d.ty x != 0 with
          | true=>
            rw [hz,Bool.cond_true] at ho
            simp (maxSteps:=1000000) -dsimp only [go_sem,qK,↓q2,j1,j2,j4,j5,j8,k6,k7,List.take_succ_cons,List.take_zero,List.length_cons,List.length_nil]
            refine ⟨⟨by omega,by omega⟩,aD rfl (.done ?_)⟩
            simp (maxSteps:=1000000) -dsimp only [go_sem,qH,hz]
            exact fin _ _ ho.symm
          | false=>
            rw [hz,Bool.cond_false] at ho
            simp (maxSteps:=1000000) -dsimp only [go_sem,qK,↓q2,j1,j2,j4,j5,j8,k6,k7,List.take_succ_cons,List.take_zero,List.length_cons,List.length_nil]
            refine ⟨⟨by omega,by omega⟩,aD rfl (.done ?_)⟩
            simp (maxSteps:=1000000) -dsimp only [go_sem,qH,hz]
            refine ⟨⟨by omega,by omega⟩,aC (j + 1) 4 ⟨by omega,ho⟩ (by omega) ?_ ?_⟩
            · simp -dsimp only [go_sem]<;>simp
            · simp -dsimp only [go_sem]<;>simp
        · have hg:decide ((j:Int) < (v.f.length:Int))=false:=by simp; omega
          have:v.f.drop j=[]:=List.drop_eq_nil_iff.2 (by omega)
          rw [this,m0] at ho
          simp (maxSteps:=1000000) -dsimp only [go_sem,hg]
          exact fin _ _ ho.symm
    have hA:∀ b:Bool,FT t (bl v.s).length v.l.length=b->((t.k == 4 && decide (t.s < ((bl v.s).length:Int))) || (t.k == 5 && decide (t.s < (v.l.length:Int))))=b:=fun b h=>h
    cases h3:FT t (bl v.s).length v.l.length with
    | true=>
      have hA:=hA true h3
      rw [h3,Bool.cond_true] at fin
      cases a1:t.k == 4<;>cases a2:decide (t.s < ((bl v.s).length:Int))<;>cases a3:t.k == 5<;>cases a4:decide (t.s < (v.l.length:Int)) <;>
      first
        | (exfalso; rw [a1,a2,a3,a4] at hA; exact absurd hA (by decide))
        | (simp (maxSteps:=1000000) -dsimp only [go_sem,tN,a1,a2,a3,a4,Bool.false_and,Bool.true_and,Bool.and_false]
           exact fin 3 _ rfl)
    | false=>
      have hA:=hA false h3
      rw [h3,Bool.cond_false] at fin
      cases a1:t.k == 4<;>cases a2:decide (t.s < ((bl v.s).length:Int))<;>cases a3:t.k == 5<;>cases a4:decide (t.s < (v.l.length:Int)) <;>
      first
        | (exfalso; rw [a1,a2,a3,a4] at hA; exact absurd hA (by decide))
        | (simp (maxSteps:=1000000) -dsimp only [go_sem,tN,a1,a2,a3,a4,Bool.true_and,Bool.and_false]
           refine dY 3 (tail fin) ?_ ?_
           · simp -dsimp only [go_sem]<;>simp
           · simp -dsimp only [go_sem]<;>simp)
end Go.Proofs.YtkpohmhenegkiaaGreatDoor
namespace Go.Proofs.YtkpohmhenegkiaaGreatDoor
open Go.W
mutual
def b7:Vl->Int
  | .mk k n s l f=>bif kV (.mk k n s l f) then 0 else 1 + iL (fX 0 l) f
def fX (d:Int):List Vl->Int
  | []=>d
  | v :: r=>fX (max d (b7 v)) r
def iL (d:Int):List (Int × Vl)->Int
  | []=>d
  | (_,v) :: r=>iL (max d (b7 v)) r
end
theorem zB (v:Vl):b7 v=bif kV v then 0 else 1 + iL (fX 0 v.l) v.f:=by cases v; rw [b7]; rfl
theorem HL {g:Vl->Int} {n:Nat} (hg:∀ x,g x=min (b7 x) n) (D:Int) (x:Vl):kQ g ((n:Int) - 1) (min D n) x=min (max D (b7 x)) n:=by
  unfold kQ
  rw [hg x]
  cases h:decide (min D (n:Int)<=(n:Int) - 1) with
  | true=>have:=of_decide_eq_true h; rw [Bool.cond_true]; omega
  | false=>have:=of_decide_eq_false h; rw [Bool.cond_false]; omega
theorem UQ {g:Vl->Int} {n:Nat} (hg:∀ x,g x=min (b7 x) n):∀ (l:List Vl) (D:Int),l.foldl (kQ g ((n:Int) - 1)) (min D n)=min (fX D l) n
  | [],D=>by rw [fX]; rfl
  | x :: l,D=>by rw [List.foldl_cons,HL hg,UQ hg l,fX]
theorem UF {g:Vl->Int} {n:Nat} (hg:∀ x,g x=min (b7 x) n):∀ (l:List (Int × Vl)) (D:Int),l.foldl (oU g ((n:Int) - 1)) (min D n)=min (iL D l) n
  | [],D=>by rw [iL]; rfl
  | (i,x) :: l,D=>by
    rw [List.foldl_cons,show oU g ((n:Int) - 1) (min D n) (i,x)=kQ g ((n:Int) - 1) (min D n) x from rfl,HL hg,UF hg l,iL]
theorem TS {g:Vl->Int} {n:Nat} (hg:∀ x,g x=min (b7 x) n) (v:Vl):HD g ((n:Int) - 1) v=min (b7 v) ((n:Int) + 1):=by
  unfold HD
  rw [zB]
  cases kV v with
  | true=>rw [Bool.cond_true,Bool.cond_true]; omega
  | false=>
    rw [Bool.cond_false,Bool.cond_false]
    have h1:=UQ hg v.l 0
    rw [show min (0:Int) (n:Int)=0 by omega] at h1
    rw [h1,UF hg v.f]
    omega
mutual
theorem BB:∀ v:Vl,0<=b7 v
  | .mk k n s l f=>by
    rw [b7]
    have h1:=tL l 0
    have h2:=o7 f (fX 0 l)
    cases kV (.mk k n s l f) with
    | true=>exact Int.le_refl _
    | false=>rw [Bool.cond_false]; omega
theorem tL:∀ (l:List Vl) (d:Int),d<=fX d l
  | [],d=>by rw [fX]; exact Int.le_refl _
  | v :: r,d=>by
    rw [fX]
    have:=tL r (max d (b7 v))
    omega
theorem o7:∀ (l:List (Int × Vl)) (d:Int),d<=iL d l
  | [],d=>by rw [iL]; exact Int.le_refl _
  | (_,v) :: r,d=>by
    rw [iL]
    have:=o7 r (max d (b7 v))
    omega
end
theorem KH:∀ (n:Nat) (x:Vl),gX n x=min (b7 x) n
  | 0,x=>by have:=BB x; show (0:Int)=min (b7 x) 0; omega
  | n + 1,x=>by
    rw [gX,w7,TS (KH n) x]
    omega
theorem X1 (n:Nat) (v:Vl):qX n v=min (b7 v) ((n:Int) + 1):=by rw [w7,TS (KH n) v]
theorem KG (v:Vl):decide (6 < qX 7 v)=decide (6 < b7 v):=by
  rw [X1]
  rw [Bool.eq_iff_iff,decide_eq_true_iff,decide_eq_true_iff]
  omega
end Go.Proofs.YtkpohmhenegkiaaGreatDoor
namespace Go.Proofs.YtkpohmhenegkiaaGreatDoor
open Go.W
def pcL66_3:PC:=.seq (.gh (.reg [.q 3 (.mv (.i 0))])) (.seq (.seq (.reg [.q 4 (.mv (.i 0))]) (.block 0 (.loop (.seq (.seq (.reg [.v 28 4,.q 29 (.fa 3 (.t 1)),.l 30 (.ld1 (.t 29)),.q 31 (.lnL (.t 30)),.q 32 (.bin .lss true (.t 28) (.t 31))]) (.cond (.t 32) .skip (.exit 0))) (.seq (.block 1 (.seq (.reg [.q 35 (.fa 3 (.t 1)),.l 36 (.ld1 (.t 35)),.v 37 4,.l 38 (.ia 5 (.t 36) (.t 37)),.l 39 (.ldn 5 (.t 38)),.a 40 (.cq 66 [(.t 39)]),.v 5 40]) (.seq (.reg [.v 41 5,.v 42 3,.q 43 (.bin .gtr true (.t 41) (.t 42))]) (.cond (.t 43) (.reg [.v 44 5,.v 3 44]) .skip)))) (.reg [.v 33 4,.q 34 (.bin .add true (.t 33) (.i 1)),.v 4 34])))))) (.seq (.seq (.reg [.q 6 (.mv (.i 0))]) (.block 2 (.loop (.seq (.seq (.reg [.v 45 6,.q 46 (.fa 4 (.t 1)),.l 47 (.ld1 (.t 46)),.q 48 (.lnL (.t 47)),.q 49 (.bin .lss true (.t 45) (.t 48))]) (.cond (.t 49) .skip (.exit 2))) (.seq (.block 3 (.seq (.reg [.q 52 (.fa 4 (.t 1)),.l 53 (.ld1 (.t 52)),.v 54 6,.l 55 (.ia 6 (.t 53) (.t 54)),.q 56 (.fa 1 (.t 55)),.l 57 (.ldn 5 (.t 56)),.a 58 (.cq 66 [(.t 57)]),.v 7 58]) (.seq (.reg [.v 59 7,.v 60 3,.q 61 (.bin .gtr true (.t 59) (.t 60))]) (.cond (.t 61) (.reg [.v 62 7,.v 3 62]) .skip)))) (.reg [.v 50 6,.q 51 (.bin .add true (.t 50) (.i 1)),.v 6 51])))))) (.seq (.reg [.v 63 3,.q 64 (.bin .add true (.t 63) (.i 1)),.v 2 64]) .ret)))
@[go_sem ↓] theorem aJH:aT pcL66_3:=aU _
def L3:PC:=.seq (.reg [.e 1 (.bx 32 (.t 0)),.q 2 (.mv (.i 0))]) (.seq (.seq (.reg [.q 8 (.fa 0 (.t 1)),.l 9 (.ld1 (.t 8)),.q 10 (.bin .neq true (.t 9) (.i 5)),.v 11 10,⟨some 12,(some (11,true)),.q (.fa 0 (.t 1))⟩,⟨some 13,(some (11,true)),.l (.ld1 (.t 12))⟩,⟨some 14,(some (11,true)),.q (.bin .neq true (.t 13) (.i 6))⟩,.a 15 (.pick (.t 11) (.t 14) (.k (.bool false))),.v 16 15,⟨some 17,(some (16,true)),.q (.fa 3 (.t 1))⟩,⟨some 18,(some (16,true)),.l (.ld1 (.t 17))⟩,⟨some 19,(some (16,true)),.q (.lnL (.t 18))⟩,⟨some 20,(some (16,true)),.q (.bin .eql true (.t 19) (.i 0))⟩,.a 21 (.pick (.t 16) (.t 20) (.k (.bool false))),.v 22 21,⟨some 23,(some (22,true)),.q (.fa 4 (.t 1))⟩,⟨some 24,(some (22,true)),.l (.ld1 (.t 23))⟩,⟨some 25,(some (22,true)),.q (.lnL (.t 24))⟩,⟨some 26,(some (22,true)),.q (.bin .eql true (.t 25) (.i 0))⟩,.a 27 (.pick (.t 22) (.t 26) (.k (.bool false)))]) (.cond (.t 27) (.seq (.reg [.q 2 (.mv (.i 0))]) .ret) .skip)) (pcL66_3))
def xC:List RV:=[.mv (.t 2)]
theorem aHP:aN Tryz.prog true ⟨fun r k=>if r=7/\k=5 then .q else if r=13/\k=6 then .q else .own [],fun r=>[3].contains r⟩ Tryz.f66=some (L3,xC):=by kernel_rfl
end Go.Proofs.YtkpohmhenegkiaaGreatDoor
