/- Lemmas and walks for the proof. -/
import Derived.Test.YtkpohmhenegkiaaGreatDoorFd
import Derived.Test.YtkpohmhenegkiaaGreatDoorProg
import Derived.Shelf.Strconv.Itoa4
set_option maxRecDepth 100000
set_option maxHeartbeats 8000000
namespace Go.Proofs.YtkpohmhenegkiaaGreatDoor
open Go.W
def digs (n:Nat):List UInt8:=(if h:n < 10 then [] else digs (n / 10)) ++ [(48 + n % 10).toUInt8]
  termination_by n
  decreasing_by omega
theorem sR {n:Nat} (h:n < 10):digs n=[(48 + n).toUInt8]:=by
  rw [digs.eq_1,dif_pos h,Nat.mod_eq_of_lt h]; rfl
theorem AR {n:Nat} (h:10<=n):digs n=digs (n / 10) ++ [(48 + n % 10).toUInt8]:=by
  rw [digs.eq_1,dif_neg (by omega)]
theorem qJ:∀ (k n:Nat),n < 10 ^ (k + 1)->(digs n).length<=k + 1
  | 0,n,h=>by rw [sR (by omega)]; simp
  | k + 1,n,h=>by
    rcases Nat.lt_or_ge n 10 with h1 | h1
    · rw [sR h1]; simp
    · rw [AR h1,List.length_append]
      have:=qJ k (n / 10) (by rw [Nat.pow_succ] at h; omega)
      simp; omega
def gI (n:Int):List UInt8:=bif decide (n < 0) then 45 :: digs n.natAbs else digs n.natAbs
def qK (f:Bool) (u:Nat):List UInt8:=bif f || decide (0 < u) then digs u else []
theorem NA {f:Bool} {u:Nat} (h:(f || decide (0 < u))=true):qK f u=qK false (u / 10) ++ [(48 + u % 10).toUInt8]:=by
  unfold qK
  rw [h,Bool.cond_true,Bool.false_or]
  rcases Nat.lt_or_ge u 10 with h1 | h1
  · rw [sR h1,Nat.mod_eq_of_lt h1,show decide (0 < u / 10)=false by simp; omega]; rfl
  · rw [AR h1,show decide (0 < u / 10)=true by simp; omega]; rfl
def x9:List S->Prop:=fun xs=>match xs with
  | [.va (.c1 (.vl (.int .i64 n)))]=>-9223372036854775808<=n/\n<=9223372036854775807
  | _=>False
theorem kL {xs:List S} (h:x9 xs):∃ n:Int,xs=[iS .i64 n]/\-9223372036854775808<=n/\n<=9223372036854775807:=by
  unfold x9 at h
  split at h
  · exact ⟨_,rfl,h⟩
  · exact h.elim
def PX:List S->A:=fun xs=>match xs with
  | [.va (.c1 (.vl (.int .i64 n)))]=>tA (mk (gI n))
  | _=>.gs []
def decFn:Fun:=⟨x9,PX,fun xs h=>by obtain ⟨n,rfl,_⟩:=kL h; trivial⟩
theorem CL:∀ xs H K,decFn.sp xs H K->xs.length=1:=fun xs H K h=>by obtain ⟨n,rfl,_⟩:=kL h.1.1; rfl
attribute [go_sem ↓] x9 PX decFn
theorem QO:Meets Tryz.prog 144 decFn.sp:=by
  refine aF Tryz.func144 Pr.ok144 1 (by rw [Tryz.ntmps144]; decide) (aA _) CL ?_
  intro xs H K h
  obtain ⟨⟨hp,rfl⟩,hK⟩:=h
  obtain ⟨n,rfl,hn1,hn2⟩:=kL hp
  have hK':K (tS (mk (gI n))) []:=hK
  have rest:vc [] 0 Pr.pc144_4.ungh (d9 [(0,iS .i64 n),(3,iS .u64 n.natAbs)]) [] (jQ 0 Pr.rs144 K):=by
    simp -dsimp only [go_sem,Pr.pc144_4,Pr.rs144]
    refine aK (α:=Bool × Nat × List UInt8) (fun z=>[(0,iS .i64 n),(3,iS .u64 z.2.1),(4,tS (mk z.2.2)),(5,bS z.1)]) (fun _=>[]) (fun z=>z.2.1<=9223372036854775808/\qK z.1 z.2.1 ++ z.2.2=digs n.natAbs) (fun z=>2 * z.2.1 + (bif z.1 then 1 else 0)) (true,n.natAbs,[]) 0 ⟨by simp only; omega,by simp [qK]⟩ ?_ rfl ?_
    · simp [go_sem]
    rintro ⟨f,u,acc⟩ ⟨hu,hr⟩
    simp only at hu hr
    have hl:=qJ 19 n.natAbs (by omega)
    rw [<-hr,List.length_append] at hl
    simp -dsimp only [go_sem]
    have hu0:decide (0 < (u:Int))=decide (0 < u):=by rw [decide_eq_decide]; omega
    have ht:(u:Int).tmod 10=(u % 10:Nat):=by rw [Int.tmod_eq_emod_of_nonneg (by omega)]; omega
    have hd:(u:Int).tdiv 10=(u / 10:Nat):=by rw [Int.tdiv_eq_ediv_of_nonneg (by omega)]; omega
    have hm:=Nat.mod_lt u (show 0 < 10 by decide)
    have hw:IntKind.u8.wrap (48 + ((u % 10:Nat):Int))=48 + ((u % 10:Nat):Int):=nD (by simp [inr,IntKind.min,IntKind.max,IntKind.signed,IntKind.bits]; omega)
    rw [hu0,ht,hd,hw]
    have hb:jN [[C.vl (Value.int IntKind.u8 (48 + ((u % 10:Nat):Int)))]]=[(48 + u % 10).toUInt8]:=by
      show [UInt8.ofNat (48 + ((u % 10:Nat):Int)).toNat]=_
      rw [show (48 + ((u % 10:Nat):Int)).toNat=48 + u % 10 by omega]
    rw [hb]
    refine ⟨fun hf=>⟨by decide,by omega,rfl,by simp; omega,⟨by decide,by omega⟩,?_⟩,fun hf=>⟨fun h0=>⟨by omega,?_⟩,fun h0=>?_⟩⟩
    · rw [NA hf,List.append_assoc] at hr
      refine aC (false,u / 10,[(48 + u % 10).toUInt8] ++ acc) 0 ⟨by simp only; omega,hr⟩ ?_ ?_ rfl
      · cases f with
        | true=>simp only [Bool.cond_true,Bool.cond_false]; omega
        | false=>simp at hf; simp only [Bool.cond_false]; omega
      · simp [go_sem]
    · have:acc=digs n.natAbs:=by rw [<-hr]; simp [qK,hf]
      refine .done ?_
      rw [this]
      simpa [gI,h0] using hK'
    · have:acc=digs n.natAbs:=by rw [<-hr]; simp [qK,hf]
      refine .done ?_
      rw [this]
      simpa [gI,h0] using hK'
  simp -dsimp only [go_sem,Pr.pc144,Pr.rs144]
  have w:∀ m:Int,IntKind.u64.wrap m=m % 18446744073709551616:=fun m=>by simp [IntKind.wrap,IntKind.signed,IntKind.bits]
  refine ⟨fun h0=>dZ 0 rest ?_ rfl,fun h0=>dZ 0 rest ?_ rfl⟩
  · simp at h0
    simp [go_sem,w]
    omega
  · simp at h0
    simp [go_sem,w]
    omega
theorem MM:∀ d,d < 10->(([48,49,50,51,52,53,54,55,56,57]:List UInt8).take (d + 1)).drop d=[(48 + d).toUInt8]:=by decide
theorem PR:Meets Tryz.prog 43 decFn.sp:=by
  refine aF Tryz.func43 aMQ 1 (by rw [Tryz.ntmps43]; decide) (aA _) CL ?_
  intro xs H K h
  obtain ⟨⟨hp,rfl⟩,hK⟩:=h
  obtain ⟨n,rfl,hn1,hn2⟩:=kL hp
  have hK':K (tS (mk (gI n))) []:=hK
  simp -dsimp only [go_sem,aAN,aAH]
  refine aK (α:=Int × List UInt8) (fun z=>[(0,iS .i64 z.1),(3,tS (mk z.2)),(4,bS (decide (n < 0)))]) (fun _=>[]) (fun z=>z.1.natAbs<=9223372036854775808/\digs z.1.natAbs ++ z.2=digs n.natAbs) (fun z=>z.1.natAbs) (n,[]) 0 ⟨by simp only; omega,by simp⟩ ?_ rfl ?_
  · simp [go_sem]
  rintro ⟨m,acc⟩ ⟨hu,hr⟩
  simp only at hu hr
  have hl:=qJ 19 n.natAbs (by omega)
  rw [<-hr,List.length_append] at hl
  simp -dsimp only [go_sem]
  have ht:(m.tmod 10).natAbs=m.natAbs % 10:=Int.natAbs_tmod m 10
  have hq:(m.tdiv 10).natAbs=m.natAbs / 10:=Int.natAbs_tdiv m 10
  have hm:=Nat.mod_lt m.natAbs (show 0 < 10 by decide)
  have hn:decide (m.tmod 10 < 0)=true->0 - m.tmod 10=((m.natAbs % 10:Nat):Int):=fun h=>by simp at h; omega
  have hp:decide (m.tmod 10 < 0)=false->m.tmod 10=((m.natAbs % 10:Nat):Int):=fun h=>by simp at h; omega
  have hz:(m.tdiv 10 == 0)=decide (m.natAbs < 10):=by rw [Bool.eq_iff_iff]; simp; omega
  obtain ⟨d,hdd⟩:∃ d,d=m.natAbs % 10:=⟨_,rfl⟩
  rw [<-hdd] at ht hm hn hp
  have hd:∀ k:Int,k=(d:Int)->(([48,49,50,51,52,53,54,55,56,57]:List UInt8).take (k + 1).toNat).drop k.toNat=[(48 + d).toUInt8]:=fun k hk=>by
    subst hk
    rw [show ((d:Int) + 1).toNat=d + 1 by omega,show (d:Int).toNat=d by omega]
    exact MM d hm
  have hlast:decide (m.natAbs < 10)=true->[(48 + d).toUInt8] ++ acc=digs n.natAbs:=fun h=>by
    simp at h
    rw [sR h] at hr
    rw [<-hr,show m.natAbs=d by omega]
  have hnext:decide (m.natAbs < 10)=false->digs (m.tdiv 10).natAbs ++ ([(48 + d).toUInt8] ++ acc)=digs n.natAbs:=fun h=>by
    simp at h
    rw [AR h,List.append_assoc] at hr
    rw [hq,<-hr,show d=m.natAbs % 10 by omega]
  rw [hz]
  refine ⟨by decide,fun h=>?_,fun h=>?_⟩
  · have e:=hn h
    rw [hd _ e]
    refine ⟨by omega,by omega,by simp; omega,by simp; omega,⟨by decide,by omega⟩,fun h1=>⟨fun h0=>⟨by simp; omega,?_⟩,fun h0=>?_⟩,fun h1=>?_⟩
    · exact .done (by rw [hlast h1]; simpa [gI,h0] using hK')
    · exact .done (by rw [hlast h1]; simpa [gI,h0] using hK')
    · refine aC (m.tdiv 10,[(48 + d).toUInt8] ++ acc) 0 ⟨by simp only; omega,hnext h1⟩ (by simp at h1; simp only; omega) ?_ rfl
      simp [go_sem,<-e,hd _ e]
  · have e:=hp h
    rw [hd _ e]
    refine ⟨by omega,by simp; omega,by simp; omega,⟨by decide,by omega⟩,fun h1=>⟨fun h0=>⟨by simp; omega,?_⟩,fun h0=>?_⟩,fun h1=>?_⟩
    · exact .done (by rw [hlast h1]; simpa [gI,h0] using hK')
    · exact .done (by rw [hlast h1]; simpa [gI,h0] using hK')
    · refine aC (m.tdiv 10,[(48 + d).toUInt8] ++ acc) 0 ⟨by simp only; omega,hnext h1⟩ (by simp at h1; simp only; omega) ?_ rfl
      simp [go_sem,hd _ e]
def mW (c:UInt8):List UInt8:=bif c == 34 || c == 92 then [92,c] else [c]
def gD (l:List UInt8) (i:Nat):List UInt8:=34 :: (l.take i).flatMap mW
def lQ (l:List UInt8):List UInt8:=34 :: l.flatMap mW ++ [34]
theorem C0 {l:List UInt8} {i:Nat} {c:UInt8} (h:l[i]? = some c):gD l (i + 1)=gD l i ++ mW c:=by
  unfold gD
  rw [List.take_add_one,h]
  simp
theorem QZ (c:UInt8):(mW c).length<=2:=by unfold mW; cases c == 34 || c == 92<;>simp
theorem DB (l:List UInt8):(l.flatMap mW).length<=2 * l.length:=by
  induction l with
  | nil=>simp
  | cons c l ih=>have:=QZ c; simp only [List.flatMap_cons,List.length_append,List.length_cons]; omega
theorem HG (l:List UInt8) (i:Nat):(gD l i).length<=1 + 2 * l.length:=by
  have:=DB (l.take i)
  simp only [gD,List.length_cons]
  simp only [List.length_take] at this
  omega
theorem HQ (l:List UInt8):gD l l.length ++ [34]=lQ l:=by unfold gD lQ; rw [List.take_length]
def xJ:List S->Prop:=fun xs=>match xs with
  | [.va (.c1 (.vl (.string s)))]=>(bl s).length<=10000000
  | _=>False
theorem kH {xs:List S} (h:xJ xs):∃ s,xs=[tS s]/\(bl s).length<=10000000:=by
  unfold xJ at h
  split at h
  · exact ⟨_,rfl,h⟩
  · exact h.elim
def PE:List S->A:=fun xs=>match xs with
  | [.va (.c1 (.vl (.string s)))]=>tA (mk (lQ (bl s)))
  | _=>.gs []
def quoFn:Fun:=⟨xJ,PE,fun xs h=>by obtain ⟨s,rfl,_⟩:=kH h; trivial⟩
theorem DD:∀ xs H K,quoFn.sp xs H K->xs.length=1:=fun xs H K h=>by obtain ⟨s,rfl,_⟩:=kH h.1.1; rfl
attribute [go_sem ↓] xJ PE quoFn
theorem S5:Meets Tryz.prog 44 quoFn.sp:=by
  refine aF Tryz.func44 aNJ 1 (by rw [Tryz.ntmps44]; decide) (aA _) DD ?_
  intro xs H K h
  obtain ⟨⟨hp,rfl⟩,hK⟩:=h
  obtain ⟨s,rfl,hs⟩:=kH hp
  have hK':K (tS (mk (lQ (bl s)))) []:=hK
  have h34:∀ c:UInt8,((c.toNat:Int) == 34)=(c == 34):=fun c=>mX 34
  have h92:∀ c:UInt8,((c.toNat:Int) == 92)=(c == 92):=fun c=>mX 92
  simp -dsimp only [go_sem,aEH,aBX]
  refine aK (α:=Nat) (fun i=>[(0,tS s),(3,tS (mk (gD (bl s) i))),(4,iS .i64 i)]) (fun _=>[]) (fun i=>i<=(bl s).length) (fun i=>(bl s).length - i) 0 0 (by omega) ?_ rfl ?_
  · simp [go_sem,gD]
  intro i hi
  have hl:=HG (bl s) i
  simp -dsimp only [go_sem,h34,h92]
  have hi1:((i:Int) + 1).toNat=i + 1:=by omega
  have hsub:∀ c,(bl s)[i]? = some c->List.drop i (List.take ((i:Int) + 1).toNat (bl s))=[c]:=fun c hc=>by rw [hi1,List.drop_take,eC hc]; simp
  refine ⟨fun h1=>?_,fun h1=>?_⟩
  · simp at h1
    refine ⟨by omega,fun c hc=>⟨fun _=>by omega,fun d hd=>?_⟩⟩
    have hE:(c == 34 || d == 92)=(c == 34 || c == 92):=by
      cases h7:c == 34 with
      | true=>rfl
      | false=>
        have:=hd h7
        rw [hc] at this
        obtain rfl:=Option.some.inj this
        rfl
    have hst:=C0 hc
    rw [hE,hsub c hc]
    unfold mW at hst
    refine ⟨fun h2=>⟨by omega,by omega,by omega,by simp; omega,by omega,?_⟩,fun h2=>⟨by omega,by omega,by simp; omega,by omega,?_⟩⟩
    · rw [h2,Bool.cond_true] at hst
      refine aC (i + 1) 0 (by omega) (by omega) ?_ rfl
      simp -dsimp only [go_sem,hsub c hc]
      simp [hst]
    · rw [h2,Bool.cond_false] at hst
      refine aC (i + 1) 0 (by omega) (by omega) ?_ rfl
      simp -dsimp only [go_sem,hsub c hc]
      simp [hst]
  · simp at h1
    obtain rfl:i=(bl s).length:=by omega
    refine ⟨by omega,.done ?_⟩
    rw [HQ]
    exact hK'
theorem HU (l:List UInt8):jN (l.map gL)=l:=by
  simp only [jN,List.map_map]
  conv=>rhs; rw [<-List.map_id l]
  apply List.map_congr_left
  intro c _
  simp [C.gi,gL]
theorem YT:Meets Tryz.prog 145 quoFn.sp:=by
  refine aF Tryz.func145 aFY 1 (by rw [Tryz.ntmps145]; decide) (aA _) DD ?_
  intro xs H K h
  obtain ⟨⟨hp,rfl⟩,hK⟩:=h
  obtain ⟨s,rfl,hs⟩:=kH hp
  have hK':K (tS (mk (lQ (bl s)))) []:=hK
  have h34:∀ c:UInt8,((c.toNat:Int) == 34)=(c == 34):=fun c=>mX 34
  have h92:∀ c:UInt8,((c.toNat:Int) == 92)=(c == 92):=fun c=>mX 92
  simp -dsimp only [go_sem,WN,U9]
  refine aK (α:=Nat) (fun i=>[(0,tS s),(3,.va (.c1 (.sl 0 (gD (bl s) i).length))),(7,iS .i64 (bl s).length),(8,iS .i64 i)]) (fun i=>[.row ((gD (bl s) i).map gL) 5 1]) (fun i=>i<=(bl s).length) (fun i=>(bl s).length - i) 0 1 (by omega) ?_ (by simp [go_sem,gD]) ?_
  · simp [go_sem,gD]
  intro i hi
  have hl:=HG (bl s) i
  simp -dsimp only [go_sem,h34,h92]
  have hap:∀ (l:List UInt8) (c:UInt8),l.map gL ++ [[C.vl (.int .u8 c.toNat)]]=(l ++ [c]).map gL:=fun l c=>by rw [List.map_append]; rfl
  have hap34:(gD (bl s) i).map gL ++ [[C.vl (.int .u8 34)]]=(gD (bl s) i ++ [34]).map gL:=hap _ 34
  have hap92:(gD (bl s) i).map gL ++ [[C.vl (.int .u8 92)]]=(gD (bl s) i ++ [92]).map gL:=hap _ 92
  refine ⟨fun h1=>?_,fun h1=>?_⟩
  · simp at h1
    refine ⟨by omega,fun c hc=>⟨fun _=>by omega,fun d hd=>?_⟩⟩
    have hE:(c == 34 || d == 92)=(c == 34 || c == 92):=by
      cases h7:c == 34 with
      | true=>rfl
      | false=>
        have:=hd h7
        rw [hc] at this
        obtain rfl:=Option.some.inj this
        rfl
    have hst:=C0 hc
    rw [hE]
    unfold mW at hst
    refine ⟨fun h2=>⟨by omega,by omega,fun e he=>?_⟩,fun h2=>⟨by omega,fun e he=>?_⟩⟩
    · rw [hc] at he
      obtain rfl:=Option.some.inj he
      rw [h2,Bool.cond_true] at hst
      have hst':gD (bl s) (i + 1)=gD (bl s) i ++ [92] ++ [c]:=by rw [hst,List.append_assoc]; rfl
      refine ⟨by omega,by omega,?_⟩
      refine aC (i + 1) 1 (by omega) (by omega) ?_ ?_
      · simp -dsimp only [go_sem,hst']
        simp
      · simp -dsimp only [go_sem,hst',List.map_cons,List.map_nil]
        rfl
    · rw [hc] at he
      obtain rfl:=Option.some.inj he
      rw [h2,Bool.cond_false] at hst
      refine ⟨by omega,by omega,?_⟩
      refine aC (i + 1) 1 (by omega) (by omega) ?_ ?_
      · simp -dsimp only [go_sem,hst]
        simp
      · simp -dsimp only [go_sem,hst,List.map_cons,List.map_nil]
  · simp at h1
    obtain rfl:i=(bl s).length:=by omega
    rw [hap34,HU,HQ]
    refine ⟨by omega,fun r hr=>?_,.sel [] (by simp) (by simp) rfl (.done hK')⟩
    obtain ⟨c,_,rfl⟩:=List.mem_map.1 hr
    rfl
end Go.Proofs.YtkpohmhenegkiaaGreatDoor
namespace Go.Proofs.YtkpohmhenegkiaaGreatDoor
open Go.W
def NM:W.Spec:=fun av H K=>
  match av,H with
  | [.va (.c1 (.pt 0 0)),.va (.c1 (.vl (.string s)))],[.cells [p,.sl 1 n] 146,.row xs 5 1]=>(iT p n xs/\(bl s).length<=1000000000)/\
      K (.tu [iA .i64 (bl s).length,.c1 (.vl .nilIface)]) [.cells [.pt 0 0,.sl 1 (n + (bl s).length)] 146,.row (xs ++ (bl s).map gL) 5 1]
  | _,_=>False
theorem B8 {av:List S} {H:Hp} {K:S->Hp->Prop} (h:NM av H K):∃ p n xs s,av=[.va (.c1 (.pt 0 0)),tS s]/\H=[.cells [p,.sl 1 n] 146,.row xs 5 1]/\iT p n xs/\(bl s).length<=1000000000/\
    K (.tu [iA .i64 (bl s).length,.c1 (.vl .nilIface)]) [.cells [.pt 0 0,.sl 1 (n + (bl s).length)] 146,.row (xs ++ (bl s).map gL) 5 1]:=by
  unfold NM at h
  split at h
  · exact ⟨_,_,_,_,rfl,rfl,h.1.1,h.1.2,h.2⟩
  · exact h.elim
attribute [go_sem ↓] NM
theorem GF:Meets Tryz.prog 124 NM:=by
  refine aF Tryz.func124 Pr.ok124 2 (by rw [Tryz.ntmps124]; decide) (aB x7 (aA _)) (fun av H K h=>by obtain ⟨_,_,_,_,rfl,_⟩:=B8 h; rfl) ?_
  intro av H K h
  obtain ⟨p,n,xs,s,rfl,rfl,hp,hs,hK⟩:=B8 h
  obtain ⟨hp1,rfl,hp2,hp3⟩:=hp
  rcases hp1 with rfl | rfl
  all_goals
    simp -dsimp only [go_sem,Pr.pc124,Pr.rs124] at hK ⊢
    exact ⟨⟨by simp,rfl,hp2,hp3⟩,by omega,.done hK⟩
def gA (c:UInt8):Bool:=decide (32<=c) && decide (c<=126)
def lP (k:Int) (x:List UInt8) (n:Int):List UInt8:=bif k == 1 then x else bif k == 2 then gI n else bif k == 3 then lQ x else bif k == 4 then x else []
def m8 (k:Int) (x:List UInt8) (n:Int):Bool:=
  bif k == 1 then n == 0 && cF x else bif k == 2 then x == [] else bif k == 3 then n == 0 && (decide (x.length<=200) && x.all gA) else bif k == 4 then n == 0 && (match x with | [c]=>f0 c.toNat | _=>false) else false
def zX:W.Spec:=fun xs H K=>
  match xs with
  | [.va (.gs [.vl (.int .i64 k),.vl (.string x),.vl (.int .i64 n),.vl (.int .i64 _)])]=>(H=[]/\(-9223372036854775808<=n/\n<=9223372036854775807)/\(bl x).length<=10000000)/\K (.tu [tA (mk (lP k (bl x) n)),bA (m8 k (bl x) n)]) []
  | _=>False
theorem yF {xs:List S} {H:Hp} {K:S->Hp->Prop} (h:zX xs H K):∃ k x n a,xs=[.va (.gs (m7 k x n a))]/\H=[]/\(-9223372036854775808<=n/\n<=9223372036854775807)/\(bl x).length<=10000000/\K (.tu [tA (mk (lP k (bl x) n)),bA (m8 k (bl x) n)]) []:=by
  unfold zX at h
  split at h
  · exact ⟨_,_,_,_,rfl,h.1.1,h.1.2.1,h.1.2.2,h.2⟩
  · exact h.elim
theorem QL:∀ xs H K,zX xs H K->xs.length=1:=fun xs H K h=>by obtain ⟨_,_,_,_,rfl,_⟩:=yF h; rfl
attribute [go_sem ↓] zX
theorem SX:Meets Tryz.prog 121 zX:=by
  refine aF Tryz.func121 aID 1 (by rw [Tryz.ntmps121]; decide) (aG YH (aG QO (aG YT (aG F8 (aA _))))) QL ?_
  intro xs H K h
  obtain ⟨k,x,n,a,rfl,rfl,hn,hx,hK⟩:=yF h
  simp -dsimp only [go_sem,XO,UQ]
  have fin:∀ (H':Hp) (y:ByteArray) (b:Bool),y=mk (lP k (bl x) n)->b=m8 k (bl x) n->W.Fin 0 K (.tu [tA y,bA b]) H':=fun H' y b h1 h2=>by
    subst h1; subst h2
    exact .sel [] (by simp) (by simp) rfl (.done hK)
  refine ⟨fun h1=>fin _ _ _ (by simp [lP,h1]) (by simp [m8,h1]),fun h1=>⟨fun h2=>⟨hn,fin _ _ _ (by simp [lP,h1,h2]) (by simp [m8,h1,h2])⟩,fun h2=>⟨fun h3=>?_,fun h3=>⟨fun h4=>?_,fun h4=>fin _ _ _ (by simp [lP,h1,h2,h3,h4]) (by simp [m8,h1,h2,h3,h4])⟩⟩⟩⟩
  · refine aK (α:=Nat) (fun i=>[(1,.va (.c1 (.pt 0 0))),(4,bS (n == 0 && (decide ((bl x).length<=200) && ((bl x).take i).all gA))),(41,iS .i64 (bl x).length),(42,iS .i64 i)]) (fun _=>[.cells (m7 k x n a) 71]) (fun i=>i<=(bl x).length) (fun i=>(bl x).length - i) 0 1 (by omega) ?_ (by simp [go_sem]) ?_
    · simp [go_sem]
      congr 1
      rw [decide_eq_decide]; omega
    intro i hi
    simp -dsimp only [go_sem]
    refine ⟨fun h5=>⟨fun _=>by simp at h5; omega,fun c hc=>⟨fun _=>by simp at h5; omega,fun d hd=>⟨by omega,aC (i + 1) 1 (by simp at h5; omega) (by simp at h5; omega) ?_ (by simp [go_sem])⟩⟩⟩,fun h5=>?_⟩
    · have hE:(n == 0 && (decide ((bl x).length<=200) && (List.take i (bl x)).all gA) && decide (32<=(c.toNat:Int)) && decide ((d.toNat:Int)<=126))=(n == 0 && (decide ((bl x).length<=200) && (List.take (i + 1) (bl x)).all gA)):=by
        have hlt:i < (bl x).length:=by simp at h5; omega
        have hg:=List.getElem?_eq_getElem hlt
        rw [List.take_add_one,hg,List.all_append]
        generalize (bl x)[i]=e at hg
        simp only [Option.toList_some,List.all_cons,List.all_nil,Bool.and_true]
        have hb:∀ p q r s:Bool,(p && (q && (r && s)))=(p && (q && r) && s):=by decide
        rw [hb]
        generalize (n == 0 && (decide ((bl x).length<=200) && (List.take i (bl x)).all gA))=g at hc hd ⊢
        cases g with
        | false=>rfl
        | true=>
          obtain rfl:e=c:=by have:=hc rfl; rw [hg] at this; exact Option.some.inj this
          have e32:decide (32<=(e.toNat:Int))=decide (32<=e):=by rw [decide_eq_decide,UInt8.le_iff_toNat_le]; show _ ↔ 32<=e.toNat; omega
          have e126:∀ d:UInt8,decide ((d.toNat:Int)<=126)=decide (d<=126):=fun d=>by rw [decide_eq_decide,UInt8.le_iff_toNat_le]; show _ ↔ d.toNat<=126; omega
          rw [e32] at hd ⊢
          rw [e126]
          unfold gA
          cases h6:decide (32<=e) with
          | false=>rfl
          | true=>
            rw [h6] at hd
            obtain rfl:e=d:=by have:=hd rfl; rw [hg] at this; exact Option.some.inj this
            rfl
      rw [<-hE]
      simp [go_sem]
    · obtain rfl:i=(bl x).length:=by simp at h5; omega
      rw [List.take_length]
      exact ⟨hx,fin _ _ _ (by simp [lP,h1,h2,h3]) (by simp [m8,h1,h2,h3])⟩
  · refine ⟨fun h5=>by simp at h5; omega,fun c hc=>⟨fun _=>by have:=c.toNat_lt; omega,fin _ _ _ (by simp [lP,h1,h2,h3,h4]) ?_⟩⟩
    rw [aFJ]
    simp only [m8,h1,h2,h3,h4,Bool.cond_true,Bool.cond_false]
    cases h6:n == 0 with
    | false=>rfl
    | true=>
      rw [h6] at hc
      cases hb:bl x with
      | nil=>rfl
      | cons d r=>
        rw [hb] at hc
        cases r with
        | nil=>
          obtain rfl:d=c:=by simpa using hc
          rfl
        | cons e r=>
          have:((((d :: e :: r).length:Nat):Int) == 1)=false:=by simp; omega
          rw [this]; rfl
end Go.Proofs.YtkpohmhenegkiaaGreatDoor
namespace Go.Proofs.YtkpohmhenegkiaaGreatDoor
open Go.W
structure Tx where
  k:Int
  x:List UInt8
  n:Int
  a:Int
abbrev CX (t:Tx):List C:=m7 t.k (mk t.x) t.n t.a
structure TkFit (t:Tx):Prop where
  lo:-9223372036854775808<=t.n
  hi:t.n<=9223372036854775807
  len:t.x.length<=100000
def sI (acc:List UInt8) (t:Tx):List UInt8:=bif m8 t.k t.x t.n then acc ++ (bif (acc == []) then [] else [32]) ++ lP t.k t.x t.n else acc
def kX (ts:List Tx):List UInt8:=ts.foldl sI []
def dM (ts:List Tx) (i:Nat):List UInt8:=(ts.take i).foldl sI []
theorem uB {ts:List Tx} {i:Nat} {t:Tx} (h:ts[i]? = some t):dM ts (i + 1)=sI (dM ts i) t:=by
  unfold dM
  rw [List.take_add_one,h,List.foldl_append]; rfl
theorem xH (ts:List Tx):dM ts ts.length=kX ts:=by unfold dM kX; rw [List.take_length]
theorem FQ {n:Int} (h1:-9223372036854775808<=n) (h2:n<=9223372036854775807):(gI n).length<=21:=by
  have:=qJ 19 n.natAbs (by omega)
  unfold gI
  cases decide (n < 0)<;>simp<;>omega
theorem HZ {t:Tx} (h:TkFit t):(lP t.k t.x t.n).length<=200002:=by
  have h1:=FQ h.lo h.hi
  have h2:=DB t.x
  have h3:=h.len
  unfold lP lQ
  cases t.k == 1<;>cases t.k == 2<;>cases t.k == 3<;>cases t.k == 4<;>simp -dsimp only [Bool.cond_true,Bool.cond_false,List.length_append,List.length_cons,List.length_nil]<;>omega
theorem RK {acc:List UInt8} {t:Tx} (h:TkFit t):(sI acc t).length<=acc.length + 200003:=by
  have:=HZ h
  unfold sI
  cases m8 t.k t.x t.n<;>cases (acc == [])<;>simp<;>omega
theorem zS {ts:List Tx} (h:∀ t ∈ ts,TkFit t):∀ i,i<=ts.length->(dM ts i).length<=i * 200003
  | 0,_=>by simp [dM]
  | i + 1,hi=>by
    have h1:=zS h i (by omega)
    have hg:ts[i]? = some ts[i]:=List.getElem?_eq_getElem (by omega)
    rw [uB hg]
    have:=RK (acc:=dM ts i) (h _ (List.mem_of_getElem? hg))
    omega
def HR:List S->Prop:=fun xs=>match xs with
  | [.va (.c1 (.fz rs))]=>∃ ts:List Tx,rs=ts.map CX/\ts.length<=4001/\∀ t ∈ ts,TkFit t
  | _=>False
theorem n7 {xs:List S} (h:HR xs):∃ ts:List Tx,xs=[.va (.c1 (.fz (ts.map CX)))]/\ts.length<=4001/\∀ t ∈ ts,TkFit t:=by
  unfold HR at h
  split at h
  · obtain ⟨ts,rfl,h1,h2⟩:=h
    exact ⟨_,rfl,h1,h2⟩
  · exact h.elim
def C.tk (r:List C):Tx:=match r with
  | [.vl (.int .i64 k),.vl (.string x),.vl (.int .i64 n),.vl (.int .i64 a)]=>⟨k,bl x,n,a⟩
  | _=>⟨0,[],0,0⟩
theorem aEC (t:Tx):C.tk (CX t)=t:=rfl
def FD:List S->A:=fun xs=>match xs with
  | [.va (.c1 (.fz rs))]=>tA (mk (kX (rs.map C.tk)))
  | _=>.gs []
theorem rN (ts:List Tx):FD [.va (.c1 (.fz (ts.map CX)))]=tA (mk (kX ts)):=by
  show tA (mk (kX ((ts.map CX).map C.tk)))=_
  rw [List.map_map,show (C.tk ∘ CX)=id from funext aEC,List.map_id]
def prtFn:Fun:=⟨HR,FD,fun xs h=>by obtain ⟨ts,rfl,_⟩:=n7 h; rw [rN]; trivial⟩
theorem OR:∀ xs H K,prtFn.sp xs H K->xs.length=1:=fun xs H K h=>by obtain ⟨ts,rfl,_⟩:=n7 h.1.1; rfl
theorem aET:Meets Tryz.prog 96 prtFn.sp:=by
  refine aF Tryz.func96 Pr.ok96 1 (by rw [Tryz.ntmps96]; decide) (aB SX (aB aB8 (aB xG (aB GF (aB JP (aA _)))))) OR ?_
  intro xs H K h
  obtain ⟨⟨hp,rfl⟩,hK⟩:=h
  obtain ⟨ts,rfl,h60,hf⟩:=n7 hp
  have hK':K (tS (mk (kX ts))) []:=by have:=hK; rw [show prtFn.val=FD from rfl,rN] at this; exact this
  simp -dsimp only [go_sem,Pr.pc96,Pr.rs96]
  refine dT (α:=C × Nat) (fun z=>[(3,.va (.c1 (.pt 0 0))),(8,.va (.c1 (.fz (ts.map CX)))),(9,iS .i64 ts.length),(10,iS .i64 z.2)])
    (fun z=>[.cells [z.1,.sl 1 (dM ts z.2).length] 146,.row ((dM ts z.2).map gL) 5 1])
    (fun z=>(z.1=.vl (.pointer none)\/z.1=.pt 0 0)/\z.2<=ts.length) (fun z=>ts.length - z.2)
    (.nilc 0 1 5 1 _ _ rfl rfl (lX (.vl (.pointer none),0) 2 ⟨.inl rfl,by simp only; omega⟩ ?_ ?_)) ?_
  · simp [go_sem]
  · simp -dsimp only [go_sem]; simp [dM]
  rintro ⟨p,i⟩ ⟨hp,hi⟩
  simp only at hp hi
  have hl:=zS hf i hi
  have hby:∀ (l:List UInt8),∀ r ∈ l.map gL,∃ c:UInt8,r=gL c:=fun l r hr=>by obtain ⟨c,_,rfl⟩:=List.mem_map.1 hr; exact ⟨c,rfl⟩
  have hI:∀ (p:C) (l:List UInt8),(p=.vl (.pointer none)\/p=.pt 0 0)->l.length<=1000000000->iT p l.length (l.map gL):=fun p l h1 h2=>⟨h1,by simp,hby l,by simpa using h2⟩
  have hap:∀ (l:List UInt8),l.map gL ++ [[C.vl (.int .u8 32)]]=(l ++ [32]).map gL:=fun l=>by rw [List.map_append]; rfl
  rcases hp with rfl | rfl
  all_goals
    simp -dsimp only [go_sem,YQ]
    refine ⟨fun h1=>⟨by simp at h1; omega,fun t ht=>?_⟩,fun h1=>?_⟩
    · have hft:=hf t (List.mem_of_getElem? ht)
      have hlx:=hft.len
      have hxl:=HZ hft
      have hst:=uB ht
      have hlt:i < ts.length:=by simp at h1; omega
      refine ⟨⟨⟨hft.lo,hft.hi⟩,by omega⟩,fun h2=>⟨by omega,?_⟩,fun h2=>?_⟩
      · simp only [sI,h2,Bool.cond_false] at hst
        first
          | (refine aC (C.vl (.pointer none),i + 1) 2 ⟨.inl rfl,hlt⟩ (by simp only; omega) (by simp [go_sem]) ?_; simp -dsimp only [go_sem,hst]; done)
          | (refine aC (C.pt 0 0,i + 1) 2 ⟨.inr rfl,hlt⟩ (by simp only; omega) (by simp [go_sem]) ?_; simp -dsimp only [go_sem,hst]; done)
      · have h2':m8 t.k t.x t.n=true:=by simpa using h2
        simp only [sI,h2',Bool.cond_true] at hst
        refine ⟨hI _ _ (by simp) (by omega),fun h3=>?_,fun h3=>?_⟩
        · have hne:(dM ts i == [])=false:=by
            cases hq:dM ts i with
            | nil=>rw [hq] at h3; simp at h3
            | cons c l=>rfl
          rw [hne,Bool.cond_false] at hst
          have hB:iT (C.pt 0 0) ((dM ts i).length + 1) ((dM ts i).map gL ++ [[C.vl (.int .u8 32)]]):=by
            rw [hap]
            have:=hI (.pt 0 0) (dM ts i ++ [32]) (.inr rfl) (by simp; omega)
            simpa only [List.length_append,List.length_cons,List.length_nil] using this
          refine ⟨⟨hI _ _ (by simp) (by omega),by omega⟩,⟨hB,by omega⟩,by omega,aC (C.pt 0 0,i + 1) 2 ⟨.inr rfl,hlt⟩ (by simp only; omega) (by simp [go_sem]) ?_⟩
          simp -dsimp only [go_sem,hst,List.map_cons,List.map_nil]
          rfl
        · have hne:(dM ts i == [])=true:=by
            cases hq:dM ts i with
            | nil=>rfl
            | cons c l=>rw [hq] at h3; simp at h3
          rw [hne,Bool.cond_true,List.append_nil] at hst
          refine ⟨⟨hI _ _ (by simp) (by omega),by omega⟩,by omega,aC (C.pt 0 0,i + 1) 2 ⟨.inr rfl,hlt⟩ (by simp only; omega) (by simp [go_sem]) ?_⟩
          simp -dsimp only [go_sem,hst]
    · obtain rfl:i=ts.length:=by simp at h1; omega
      rw [HU,xH]
      exact ⟨hI _ _ (by simp) (by rw [xH] at hl; omega),.sel [] (by simp) (by simp) rfl (.done hK')⟩
end Go.Proofs.YtkpohmhenegkiaaGreatDoor
namespace Go.Proofs.YtkpohmhenegkiaaGreatDoor
open Go.W
def rW:PC:=.seq (.seq (.gh (.reg [.v 25 7,.q 26 (.nc (.t 25)),.q 27 (.fa 4 (.t 26)),.l 28 (.ld1 (.t 27)),.v 29 28,⟨some 30,(some (29,false)),.q (.mv (.t 8))⟩,⟨some 31,(some (29,false)),.q (.lnS (.t 30))⟩,⟨some 32,(some (29,false)),.q (.bin .gtr true (.t 31) (.i 4000))⟩,.a 33 (.pick (.t 29) (.k (.bool true)) (.t 32))])) (.cond (.t 33) (.seq (.reg [.q 6 (.mv (.k (.string (mk []))))]) .ret) .skip)) (.seq (.reg [.v 34 8,.v 6 34]) .ret)
@[go_sem ↓] theorem aMN:aT rW:=aU _
def IQ:PC:=.seq (.gh (.ord  [.q (.q 17 (.fa 0 (.t 4))),.q (.l 18 (.ld1 (.t 17))),.q (.v 21 7),.q (.l 22 (.ldn 4 (.t 4))),.q (.l 23 (.ldn 5 (.t 5))),.m (.a 19 (.cl 24 [(.t 18)] [])),.rc (.v 21 7),.rc (.l 22 (.ldn 4 (.t 4))),.rc (.l 23 (.ldn 5 (.t 5))),.q (.q 20 (.fld1 0 (.t 19))),.m (.a 24 (.ca (.t 20) [(.t 21),(.t 22),(.t 23)] [3])),.m (.v 8 24)])) (rW)
@[go_sem ↓] theorem aL0:aT IQ:=aU _
def QS:PC:=.seq (.reg [.e 3 (.bx 25 (.t 0)),.e 4 (.bx 28 (.t 1)),.e 5 (.bx 32 (.t 2)),.q 6 (.mv (.k (.string (mk []))))]) (.seq (.seq (.reg [.l 9 (.ldn 3 (.t 3)),.l 10 (.ldn 4 (.t 4)),.l 11 (.ldn 5 (.t 5)),.a 12 (.cq 23 [(.t 9),(.t 10),(.t 11)]),.q 13 (.bin .neq true (.t 12) (.i 0))]) (.cond (.t 13) (.seq (.reg [.q 6 (.mv (.k (.string (mk []))))]) .ret) .skip)) (.seq (.reg [.l 14 (.ldn 3 (.t 3)),.q 15 (.bd [(.int .i64 0),(.slice none 0 0),(.slice none 0 0),(.pointer none),(.bool false),(.int .i64 0)] [(0,3,(.t 14))]),.e 16 (.bx 62 (.t 15)),.v 7 16]) (IQ)))
def SG:List RV:=[.mv (.t 6)]
theorem aLM:aN Tryz.prog true ⟨fun r k=>if r=1/\k=3 then .q else if r=4/\k=7 then .own [3] else .own [],fun r=>[4,5].contains r⟩ Tryz.f11=some (QS,SG):=by kernel_rfl
def GQ:PC:=.gh (.reg [.v 46 12,.a 47 (.cl 31 [(.t 46)] [4,3])])
@[go_sem ↓] theorem aNM:aT GQ:=aU _
def mL:PC:=.seq (.gh (.reg [.v 61 14,.q 62 (.bin .neq true (.t 61) (.i 0))])) (.cond (.t 62) (.seq (.reg [.q 63 (.bd [(.int .i64 0),(.int .i64 0),(.string (mk [])),(.slice none 0 0),(.slice none 0 0)] []),.v 64 14,.s (.st 5 (.t 6) (.t 63)),.v 7 64,.q 8 (.mv (.i 0))]) .ret) .skip)
@[go_sem ↓] theorem aJA:aT mL:=aU _
def sX:PC:=.seq (.seq (.gh (.reg [.l 57 (.ldn 3 (.t 3)),.l 58 (.ldn 4 (.t 4)),.l 59 (.ldn 5 (.t 13)),.a 60 (.cq 23 [(.t 57),(.t 58),(.t 59)]),.v 14 60])) (mL)) (.seq (.reg [.l 65 (.ldn 5 (.t 13)),.s (.st 5 (.t 6) (.t 65)),.q 7 (.mv (.i 0)),.q 8 (.mv (.i 0))]) .ret)
@[go_sem ↓] theorem aJ2:aT sX:=aU _
def mD:PC:=.seq (.seq (.gh (.reg [.v 48 12,.q 49 (.nc (.t 48)),.q 50 (.fa 4 (.t 49)),.l 51 (.ld1 (.t 50))])) (.cond (.t 51) (.seq (.ord  [.q (.q 52 (.bd [(.int .i64 0),(.int .i64 0),(.string (mk [])),(.slice none 0 0),(.slice none 0 0)] [])),.q (.v 53 12),.q (.q 54 (.nc (.t 53))),.q (.q 55 (.fa 5 (.t 54))),.q (.l 56 (.ld1 (.t 55))),.m (.s (.st 5 (.t 6) (.t 52))),.rc (.v 53 12),.rc (.q 54 (.nc (.t 53))),.rc (.q 55 (.fa 5 (.t 54))),.rc (.l 56 (.ld1 (.t 55))),.m (.q 7 (.mv (.i 2))),.rc (.v 53 12),.rc (.q 54 (.nc (.t 53))),.rc (.q 55 (.fa 5 (.t 54))),.rc (.l 56 (.ld1 (.t 55))),.m (.v 8 56)]) .ret) .skip)) (sX)
@[go_sem ↓] theorem aJ3:aT mD:=aU _
def H8:PC:=.seq (.seq (.gh (.reg [.v 42 9,.a 43 (.cl 30 [(.t 42)] [3]),.q 44 (.fld1 0 (.t 43)),.q 45 (.bin .neq true (.t 44) (.i 0))])) (.cond (.t 45) (GQ) .skip)) (mD)
@[go_sem ↓] theorem aLC:aT H8:=aU _
def F3:PC:=.seq (.gh (.ord  [.q (.q 35 (.fa 0 (.t 4))),.q (.l 36 (.ld1 (.t 35))),.q (.v 39 12),.q (.l 40 (.ldn 4 (.t 4))),.m (.a 37 (.cl 24 [(.t 36)] [])),.rc (.v 39 12),.rc (.l 40 (.ldn 4 (.t 4))),.q (.q 38 (.fld1 1 (.t 37))),.m (.a 41 (.ca (.t 38) [(.t 39),(.t 40)] [4,3])),.m (.e 13 (.al (.agg #[(.int .i64 0),(.int .i64 0),(.string (mk [])),(.slice none 0 0),(.slice none 0 0)]) 32)),.m (.s (.st 5 (.t 13) (.t 41)))])) (H8)
@[go_sem ↓] theorem aLU:aT F3:=aU _
def F7:PC:=.seq (.gh (.reg [.l 31 (.ldn 3 (.t 3)),.v 32 9,.q 33 (.bd [(.int .i64 0),(.slice none 0 0),(.slice none 0 0),(.pointer none),(.bool false),(.int .i64 0)] [(0,3,(.t 31)),(3,1,(.t 32))]),.e 34 (.bx 62 (.t 33)),.v 12 34])) (F3)
@[go_sem ↓] theorem aNT:aT F7:=aU _
def yM:PC:=.seq (.seq (.gh (.reg [.v 26 10,.q 27 (.bin .neq true (.t 26) (.i 0))])) (.cond (.t 27) (.seq (.reg [.q 28 (.bd [(.int .i64 0),(.int .i64 0),(.string (mk [])),(.slice none 0 0),(.slice none 0 0)] []),.v 29 10,.v 30 11,.s (.st 5 (.t 6) (.t 28)),.v 7 29,.v 8 30]) .ret) .skip)) (F7)
@[go_sem ↓] theorem aMZ:aT yM:=aU _
def F0:PC:=.seq (.gh (.reg [.v 21 2,.a 22 (.cl 29 [(.t 21)] []),.v 20 22,.q 23 (.ex (.t 20) 0),.q 24 (.ex (.t 20) 1),.q 25 (.ex (.t 20) 2),.v 9 23,.v 10 24,.v 11 25])) (yM)
@[go_sem ↓] theorem aN1:aT F0:=aU _
def SB:PC:=.seq (.reg [.e 3 (.bx 25 (.t 0)),.e 4 (.bx 28 (.t 1)),.e 6 (.al (.agg #[(.int .i64 0),(.int .i64 0),(.string (mk [])),(.slice none 0 0),(.slice none 0 0)]) 32),.q 7 (.mv (.i 0)),.q 8 (.mv (.i 0))]) (.seq (.seq (.reg [.l 15 (.ldn 3 (.t 3)),.l 16 (.ldn 4 (.t 4)),.a 17 (.cq 28 [(.t 15),(.t 16)]),.q 18 (.not (.t 17))]) (.cond (.t 18) (.seq (.reg [.q 19 (.bd [(.int .i64 0),(.int .i64 0),(.string (mk [])),(.slice none 0 0),(.slice none 0 0)] []),.s (.st 5 (.t 6) (.t 19)),.q 7 (.mv (.i 13)),.q 8 (.mv (.i 0))]) .ret) .skip)) (F0))
def SU:List RV:=[.ld (.ldn 5 (.t 6)),.mv (.t 7),.mv (.t 8)]
theorem aMC:aN Tryz.prog true ⟨fun r k=>if r=1/\k=2 then .q else if r=7/\k=6 then .own [4,3] else if r=8/\k=1 then .own [3] else if r=9/\k=1 then .own [4,3] else if r=12/\k=3 then .q else .own [],fun r=>[3,4,6,7,8,10,12,13,9].contains r⟩ Tryz.f13=some (SB,SU):=by kernel_rfl
def vQ:PC:=.seq (.reg [.e 2 (.al (.agg #[.nilFunc,.nilFunc]) 66)]) (.seq (.seq (.reg [.v 3 0]) (.block 0 (.seq (.reg [.q 5 (.bin .eql true (.t 3) (.i 1)),.v 4 5]) (.cond (.t 4) (.seq (.reg [.q 6 (.bd [.nilFunc,.nilFunc] [(0,1,(.f 54)),(1,1,(.f 55))]),.s (.st 2 (.t 2) (.t 6))]) .ret) (.seq (.reg [.q 8 (.bin .eql true (.t 3) (.i 4)),.v 7 8]) (.cond (.t 7) (.seq (.reg [.q 9 (.bd [.nilFunc,.nilFunc] [(0,1,(.f 56)),(1,1,(.f 57))]),.s (.st 2 (.t 2) (.t 9))]) .ret) (.seq (.reg [.q 11 (.bin .eql true (.t 3) (.i 7)),.v 10 11]) (.cond (.t 10) (.seq (.reg [.q 12 (.bd [.nilFunc,.nilFunc] [(0,1,(.f 58)),(1,1,(.f 59))]),.s (.st 2 (.t 2) (.t 12))]) .ret) (.seq (.reg [.q 14 (.bin .eql true (.t 3) (.i 5)),.v 13 14]) (.cond (.t 13) (.seq (.reg [.q 15 (.bd [.nilFunc,.nilFunc] [(0,1,(.f 60)),(1,1,(.f 61))]),.s (.st 2 (.t 2) (.t 15))]) .ret) (.seq (.reg [.q 17 (.bin .eql true (.t 3) (.i 6)),.v 16 17]) (.cond (.t 16) (.seq (.reg [.q 18 (.bd [.nilFunc,.nilFunc] [(0,1,(.f 62)),(1,1,(.f 63))]),.s (.st 2 (.t 2) (.t 18))]) .ret) .skip)))))))))))) (.seq (.reg [.q 19 (.bd [.nilFunc,.nilFunc] [(0,1,(.f 64)),(1,1,(.f 65))]),.s (.st 2 (.t 2) (.t 19))]) .ret))
def uW:List RV:=[.ld (.ldn 2 (.t 2))]
theorem aKA:aN Tryz.prog true ⟨fun _ _=>.own [],fun _=>false⟩ Tryz.f24=some (vQ,uW):=by kernel_rfl
def aAE:PC:=.seq (.reg [.e 2 (.bx 25 (.t 0)),.e 3 (.bx 28 (.t 1)),.q 4 (.mv (.k (.bool false)))]) (.seq (.ord  [.q (.l 5 (.ldn 3 (.t 2))),.q (.l 6 (.ldn 4 (.t 3))),.q (.l 7 (.ldn 3 (.t 2))),.q (.l 8 (.ldn 4 (.t 3))),.m (.a 9 (.cl 71 [(.t 7),(.t 8)] [])),.rc (.l 5 (.ldn 3 (.t 2))),.rc (.l 6 (.ldn 4 (.t 3))),.m (.a 10 (.cq 23 [(.t 5),(.t 6),(.t 9)])),.q (.q 11 (.bin .eql true (.t 10) (.i 0))),.m (.v 4 11)]) .ret)
def aBJ:List RV:=[.mv (.t 4)]
theorem aLP:aN Tryz.prog true ⟨fun r k=>if r=1/\k=5 then .q else .own [],fun _=>false⟩ Tryz.f28=some (aAE,aBJ):=by kernel_rfl
def R8:PC:=.seq (.reg [.v 2 0,.q 3 (.nc (.t 2)),.q 4 (.fa 4 (.t 3)),.l 5 (.ld1 (.t 4)),.q 6 (.not (.t 5))]) (.cond (.t 6) (.reg [.v 7 0,.v 8 0,.v 9 0,.q 10 (.nc (.t 9)),.q 11 (.fa 3 (.t 10)),.l 12 (.ld1 (.t 11)),.a 13 (.cl 30 [(.t 12)] [1]),.q 14 (.fld1 3 (.t 13)),.q 15 (.nc (.t 7)),.q 16 (.fa 4 (.t 15)),.s (.st 1 (.t 16) (.k (.bool true))),.q 17 (.nc (.t 8)),.q 18 (.fa 5 (.t 17)),.s (.st 1 (.t 18) (.t 14))]) .skip)
def SZ:List RV:=[]
theorem aNY:aN Tryz.prog true ⟨fun r k=>if r=1/\k=6 then .own [1] else .own [],fun _=>false⟩ Tryz.f31=some (R8,SZ):=by kernel_rfl
def aEO:PC:=.seq (.reg [.e 4 (.bx 28 (.t 1)),.e 5 (.bx 32 (.t 2)),.q 6 (.mv (.k (.string (mk []))))]) (.seq (.seq (.reg [.q 7 (.fa 1 (.t 5)),.l 8 (.ld1 (.t 7)),.q 9 (.bin .eql true (.t 8) (.i 1))]) (.cond (.t 9) (.seq (.reg [.q 6 (.mv (.k (.string (mk [116,114,117,101]))))]) .ret) .skip)) (.seq (.reg [.q 6 (.mv (.k (.string (mk [102,97,108,115,101]))))]) .ret))
def aE0:List RV:=[.mv (.t 6)]
theorem aMY:aN Tryz.prog true ⟨fun _ _=>.own [],fun _=>false⟩ Tryz.f54=some (aEO,aE0):=by kernel_rfl
def GM:PC:=.gh (.reg [.q 20 (.fa 1 (.t 5)),.s (.st 1 (.t 20) (.i 1))])
@[go_sem ↓] theorem aLE:aT GM:=aU _
def w5:PC:=.gh (.reg [.v 34 0,.a 35 (.cl 31 [(.t 34)] [0,1])])
@[go_sem ↓] theorem aL9:aT w5:=aU _
def y9:PC:=.seq (.gh (.reg [.v 22 0,.q 23 (.nc (.t 22)),.q 24 (.fa 4 (.t 23)),.l 25 (.ld1 (.t 24)),.v 26 25,⟨some 27,(some (26,false)),.q (.mv (.t 0))⟩,⟨some 28,(some (26,false)),.q (.nc (.t 27))⟩,⟨some 29,(some (26,false)),.q (.fa 3 (.t 28))⟩,⟨some 30,(some (26,false)),.l (.ld1 (.t 29))⟩,⟨some 31,(some (26,false)),.cl 95 [(.t 30),(.k (.string (mk [102,97,108,115,101])))] [1]⟩,⟨some 32,(some (26,false)),.q (.not (.t 31))⟩,.a 33 (.pick (.t 26) (.k (.bool true)) (.t 32)),.v 21 33])) (.cond (.t 21) (w5) .skip)
@[go_sem ↓] theorem aM2:aT y9:=aU _
def oT:PC:=.seq (.gh (.reg [.l 36 (.ldn 5 (.t 5)),.s (.st 5 (.t 4) (.t 36))])) .ret
@[go_sem ↓] theorem aOC:aT oT:=aU _
def SE:PC:=.seq (.reg [.e 3 (.bx 28 (.t 1)),.e 4 (.al (.agg #[(.int .i64 0),(.int .i64 0),(.string (mk [])),(.slice none 0 0),(.slice none 0 0)]) 32)]) (.seq (.reg [.q 6 (.bd [(.int .i64 0),(.int .i64 0),(.string (mk [])),(.slice none 0 0),(.slice none 0 0)] [(0,1,(.i 1))]),.e 5 (.al (.agg #[(.int .i64 0),(.int .i64 0),(.string (mk [])),(.slice none 0 0),(.slice none 0 0)]) 32),.s (.st 5 (.t 5) (.t 6))]) (.seq (.block 0 (.seq (.reg [.v 8 0,.q 9 (.nc (.t 8)),.q 10 (.fa 4 (.t 9)),.l 11 (.ld1 (.t 10)),.q 12 (.not (.t 11)),.v 13 12,⟨some 14,(some (13,true)),.q (.mv (.t 0))⟩,⟨some 15,(some (13,true)),.q (.nc (.t 14))⟩,⟨some 16,(some (13,true)),.q (.fa 3 (.t 15))⟩,⟨some 17,(some (13,true)),.l (.ld1 (.t 16))⟩,⟨some 18,(some (13,true)),.cl 95 [(.t 17),(.k (.string (mk [116,114,117,101])))] [1]⟩,.a 19 (.pick (.t 13) (.t 18) (.k (.bool false))),.v 7 19]) (.cond (.t 7) (GM) (y9)))) (oT)))
def RC:List RV:=[.ld (.ldn 5 (.t 4))]
theorem aNX:aN Tryz.prog true ⟨fun r k=>if r=2/\k=10 then .own [1] else if r=4/\k=9 then .own [1] else if r=5/\k=1 then .own [0,1] else .own [],fun r=>[4,6,3,5].contains r⟩ Tryz.f55=some (SE,RC):=by kernel_rfl
def aC9:PC:=.seq (.reg [.e 4 (.bx 28 (.t 1)),.e 5 (.bx 32 (.t 2)),.q 6 (.mv (.k (.string (mk []))))]) (.seq (.reg [.q 8 (.fa 2 (.t 5)),.l 9 (.ld1 (.t 8)),.q 10 (.bd [(.int .i64 0),(.string (mk [])),(.int .i64 0),(.int .i64 0)] [(0,1,(.i 3)),(1,1,(.t 9))]),.e 11 (.bsl 71 4 [(.t 10)]),.a 12 (.cq 96 [(.t 11)]),.v 7 12]) (.seq (.reg [.v 13 0,.v 14 0,.q 15 (.nc (.t 14)),.q 16 (.fa 4 (.t 15)),.l 17 (.ld1 (.t 16)),.v 18 17,⟨some 19,(some (18,false)),.q (.mv (.t 7))⟩,⟨some 20,(some (18,false)),.q (.bin .eql true (.t 19) (.k (.string (mk []))))⟩,.a 21 (.pick (.t 18) (.k (.bool true)) (.t 20)),.q 22 (.nc (.t 13)),.q 23 (.fa 4 (.t 22)),.s (.st 1 (.t 23) (.t 21))]) (.seq (.reg [.v 24 7,.v 6 24]) .ret)))
def aAT:List RV:=[.mv (.t 6)]
theorem aLV:aN Tryz.prog true ⟨fun r k=>if r=1/\k=4 then .q else .own [],fun _=>false⟩ Tryz.f56=some (aC9,aAT):=by kernel_rfl
def aDM:PC:=.seq (.reg [.e 3 (.bx 28 (.t 1)),.e 4 (.al (.agg #[(.int .i64 0),(.int .i64 0),(.string (mk [])),(.slice none 0 0),(.slice none 0 0)]) 32)]) (.seq (.reg [.v 5 0,.a 6 (.cl 97 [(.t 5),(.i 3)] [0,1]),.q 7 (.fld1 1 (.t 6)),.q 8 (.bd [(.int .i64 0),(.int .i64 0),(.string (mk [])),(.slice none 0 0),(.slice none 0 0)] [(0,1,(.i 4)),(2,1,(.t 7))]),.s (.st 5 (.t 4) (.t 8))]) .ret)
def aEI:List RV:=[.ld (.ldn 5 (.t 4))]
theorem aKJ:aN Tryz.prog true ⟨fun r k=>if r=1/\k=1 then .own [0,1] else .own [],fun _=>false⟩ Tryz.f57=some (aDM,aEI):=by kernel_rfl
def rO:PC:=.seq (.gh (.reg [.v 29 10,.q 30 (.fa 1 (.t 5)),.l 31 (.ld1 (.t 30)),.q 32 (.bin .eql true (.t 29) (.t 31)),.v 33 32,⟨some 34,(some (33,true)),.q (.mv (.t 9))⟩,⟨some 35,(some (33,true)),.q (.fa 1 (.t 7))⟩,⟨some 36,(some (33,true)),.l (.ld1 (.t 35))⟩,⟨some 37,(some (33,true)),.q (.lnL (.t 36))⟩,⟨some 38,(some (33,true)),.q (.bin .lss true (.t 34) (.t 37))⟩,.a 39 (.pick (.t 33) (.t 38) (.k (.bool false)))])) (.cond (.t 39) (.seq (.reg [.q 40 (.fa 1 (.t 7)),.l 41 (.ld1 (.t 40)),.v 42 9,.l 43 (.ia 1 (.t 41) (.t 42)),.l 44 (.ld1 (.t 43)),.v 6 44]) .ret) .skip)
@[go_sem ↓] theorem aKB:aT rO:=aU _
def GD:PC:=.seq (.seq (.gh (.reg [.q 21 (.fa 2 (.t 7)),.l 22 (.ld1 (.t 21)),.q 23 (.lnL (.t 22)),.q 24 (.mv (.i 0))])) (.block 0 (.loop (.seq (.reg [.q 25 (.bin .lss true (.t 24) (.t 23))]) (.seq (.cond (.t 25) .skip (.exit 0)) (.seq (.block 1 (.seq (.reg [.v 26 24,.l 27 (.ia 1 (.t 22) (.t 24)),.l 28 (.ld1 (.t 27)),.v 9 26,.v 10 28]) (rO))) (.reg [.q 45 (.bin .add true (.t 24) (.i 1)),.v 24 45]))))))) (.seq (.reg [.q 6 (.mv (.k (.string (mk []))))]) .ret)
@[go_sem ↓] theorem aK3:aT GD:=aU _
def aFH:PC:=.seq (.reg [.e 4 (.bx 28 (.t 1)),.e 5 (.bx 32 (.t 2)),.q 6 (.mv (.k (.string (mk []))))]) (.seq (.ord  [.q (.v 12 0),.q (.q 13 (.nc (.t 12))),.q (.q 14 (.fa 0 (.t 13))),.q (.l 15 (.ldn 3 (.t 14))),.q (.q 16 (.fa 2 (.t 4))),.q (.l 17 (.ld1 (.t 16))),.m (.a 18 (.cl 98 [(.t 15),(.t 17)] [])),.q (.v 11 18),.q (.q 19 (.ex (.t 11) 0)),.q (.q 20 (.ex (.t 11) 1)),.m (.e 7 (.al (.agg #[(.string (mk [])),(.slice none 0 0),(.slice none 0 0)]) 92)),.rc (.v 11 18),.rc (.q 19 (.ex (.t 11) 0)),.rc (.q 20 (.ex (.t 11) 1)),.m (.s (.st 3 (.t 7) (.t 19))),.rc (.q 20 (.ex (.t 11) 1)),.m (.v 8 20)]) (GD))
def aCK:List RV:=[.mv (.t 6)]
theorem aM4:aN Tryz.prog true ⟨fun _ _=>.own [],fun r=>[2,5].contains r⟩ Tryz.f58=some (aFH,aCK):=by kernel_rfl
def FC:PC:=.gh (.ord  [.q (.q 34 (.fa 1 (.t 6))),.q (.l 35 (.ld1 (.t 34))),.q (.v 36 0),.q (.q 37 (.nc (.t 36))),.q (.q 38 (.fa 3 (.t 37))),.q (.l 39 (.ld1 (.t 38))),.m (.a 40 (.cl 30 [(.t 39)] [1])),.rc (.q 34 (.fa 1 (.t 6))),.rc (.l 35 (.ld1 (.t 34))),.q (.q 41 (.fld1 1 (.t 40))),.m (.a 42 (.cq 99 [(.t 35),(.t 41)])),.m (.v 8 42)])
@[go_sem ↓] theorem aKT:aT FC:=aU _
def oQ:PC:=.seq (.gh (.reg [.l 54 (.ldn 5 (.t 5)),.s (.st 5 (.t 4) (.t 54))])) .ret
@[go_sem ↓] theorem aLT:aT oQ:=aU _
def oP:PC:=.seq (.gh (.reg [.v 52 0,.a 53 (.cl 31 [(.t 52)] [0,1])])) (oQ)
@[go_sem ↓] theorem aMB:aT oP:=aU _
def BO:PC:=.seq (.gh (.reg [.l 66 (.ldn 5 (.t 5)),.s (.st 5 (.t 4) (.t 66))])) .ret
@[go_sem ↓] theorem aJJ:aT BO:=aU _
def AM:PC:=.seq (.gh (.reg [.q 60 (.fa 2 (.t 6)),.l 61 (.ld1 (.t 60)),.v 62 8,.l 63 (.ia 1 (.t 61) (.t 62)),.l 64 (.ld1 (.t 63)),.q 65 (.fa 1 (.t 5)),.s (.st 1 (.t 65) (.t 64))])) (BO)
@[go_sem ↓] theorem aJL:aT AM:=aU _
def HP:PC:=.seq (.gh (.reg [.v 55 0,.q 56 (.nc (.t 55)),.q 57 (.fa 3 (.t 56)),.l 58 (.ld1 (.t 57)),.a 59 (.cl 100 [(.t 58)] [1])])) (AM)
@[go_sem ↓] theorem aKH:aT HP:=aU _
def mT:PC:=.seq (.seq (.gh (.reg [.v 43 8,.q 44 (.bin .lss true (.t 43) (.i 0)),.v 45 44,⟨some 46,(some (45,false)),.q (.mv (.t 8))⟩,⟨some 47,(some (45,false)),.q (.fa 2 (.t 6))⟩,⟨some 48,(some (45,false)),.l (.ld1 (.t 47))⟩,⟨some 49,(some (45,false)),.q (.lnL (.t 48))⟩,⟨some 50,(some (45,false)),.q (.bin .geq true (.t 46) (.t 49))⟩,.a 51 (.pick (.t 45) (.k (.bool true)) (.t 50))])) (.cond (.t 51) (oP) .skip)) (HP)
@[go_sem ↓] theorem aKP:aT mT:=aU _
def z7:PC:=.seq (.gh (.reg [.q 8 (.mv (.i (-1)))])) (.seq (.seq (.reg [.v 20 0,.q 21 (.nc (.t 20)),.q 22 (.fa 4 (.t 21)),.l 23 (.ld1 (.t 22)),.q 24 (.not (.t 23)),.v 25 24,⟨some 26,(some (25,true)),.q (.mv (.t 0))⟩,⟨some 27,(some (25,true)),.q (.nc (.t 26))⟩,⟨some 28,(some (25,true)),.q (.fa 3 (.t 27))⟩,⟨some 29,(some (25,true)),.l (.ld1 (.t 28))⟩,⟨some 30,(some (25,true)),.cl 30 [(.t 29)] [1]⟩,⟨some 31,(some (25,true)),.q (.fld1 0 (.t 30))⟩,⟨some 32,(some (25,true)),.q (.bin .eql true (.t 31) (.i 1))⟩,.a 33 (.pick (.t 25) (.t 32) (.k (.bool false)))]) (.cond (.t 33) (FC) .skip)) (mT))
@[go_sem ↓] theorem aNK:aT z7:=aU _
def Z3:PC:=.seq (.reg [.e 3 (.bx 28 (.t 1)),.e 4 (.al (.agg #[(.int .i64 0),(.int .i64 0),(.string (mk [])),(.slice none 0 0),(.slice none 0 0)]) 32)]) (.seq (.reg [.q 9 (.bd [(.int .i64 0),(.int .i64 0),(.string (mk [])),(.slice none 0 0),(.slice none 0 0)] [(0,1,(.i 7))]),.e 5 (.al (.agg #[(.int .i64 0),(.int .i64 0),(.string (mk [])),(.slice none 0 0),(.slice none 0 0)]) 32),.s (.st 5 (.t 5) (.t 9))]) (.seq (.ord  [.q (.v 11 0),.q (.q 12 (.nc (.t 11))),.q (.q 13 (.fa 0 (.t 12))),.q (.l 14 (.ldn 3 (.t 13))),.q (.q 15 (.fa 2 (.t 3))),.q (.l 16 (.ld1 (.t 15))),.m (.a 17 (.cl 98 [(.t 14),(.t 16)] [])),.q (.v 10 17),.q (.q 18 (.ex (.t 10) 0)),.q (.q 19 (.ex (.t 10) 1)),.m (.e 6 (.al (.agg #[(.string (mk [])),(.slice none 0 0),(.slice none 0 0)]) 92)),.rc (.v 10 17),.rc (.q 18 (.ex (.t 10) 0)),.rc (.q 19 (.ex (.t 10) 1)),.m (.s (.st 3 (.t 6) (.t 18))),.rc (.q 19 (.ex (.t 10) 1)),.m (.v 7 19)]) (z7)))
def aC6:List RV:=[.ld (.ldn 5 (.t 4))]
theorem aLZ:aN Tryz.prog true ⟨fun r k=>if r=4/\k=10 then .own [1] else if r=5/\k=6 then .own [1] else if r=5/\k=8 then .q else if r=7/\k=1 then .own [0,1] else if r=9/\k=4 then .own [1] else .own [],fun r=>[3,6,7,8,9,10,11,5].contains r⟩ Tryz.f59=some (Z3,aC6):=by kernel_rfl
def wY:PC:=.gh (.ord  [.q (.v 22 7),.q (.q 23 (.fa 3 (.t 4))),.q (.l 24 (.ld1 (.t 23))),.q (.l 25 (.ia 4 (.t 24) (.i 0))),.q (.q 26 (.fa 0 (.t 25))),.q (.l 27 (.ld1 (.t 26))),.q (.v 30 0),.q (.q 31 (.fa 3 (.t 4))),.q (.l 32 (.ld1 (.t 31))),.q (.l 33 (.ia 4 (.t 32) (.i 0))),.q (.l 34 (.ldn 4 (.t 33))),.q (.l 35 (.ldn 5 (.t 9))),.m (.a 28 (.cl 24 [(.t 27)] [])),.rc (.v 22 7),.rc (.v 30 0),.rc (.q 31 (.fa 3 (.t 4))),.rc (.l 32 (.ld1 (.t 31))),.rc (.l 33 (.ia 4 (.t 32) (.i 0))),.rc (.l 34 (.ldn 4 (.t 33))),.rc (.l 35 (.ldn 5 (.t 9))),.q (.q 29 (.fld1 0 (.t 28))),.m (.a 36 (.ca (.t 29) [(.t 30),(.t 34),(.t 35)] [0])),.rc (.v 22 7),.q (.q 37 (.bin .add true (.t 22) (.t 36))),.m (.v 7 37)])
@[go_sem ↓] theorem aM6:aT wY:=aU _
def aC5:PC:=.seq (.reg [.e 4 (.bx 28 (.t 1)),.e 5 (.bx 32 (.t 2)),.q 6 (.mv (.k (.string (mk []))))]) (.seq (.reg [.q 7 (.mv (.k (.string (mk [91]))))]) (.seq (.seq (.reg [.q 10 (.fa 3 (.t 5)),.l 11 (.ld1 (.t 10)),.q 12 (.lnL (.t 11)),.q 13 (.mv (.i 0))]) (.block 0 (.loop (.seq (.reg [.q 14 (.bin .lss true (.t 13) (.t 12))]) (.seq (.cond (.t 14) .skip (.exit 0)) (.seq (.block 1 (.seq (.reg [.v 15 13,.l 16 (.ia 5 (.t 11) (.t 13)),.l 17 (.ldn 5 (.t 16)),.e 9 (.al (.agg #[(.int .i64 0),(.int .i64 0),(.string (mk [])),(.slice none 0 0),(.slice none 0 0)]) 32),.v 8 15,.s (.st 5 (.t 9) (.t 17))]) (.seq (.seq (.reg [.v 18 8,.q 19 (.bin .gtr true (.t 18) (.i 0))]) (.cond (.t 19) (.reg [.v 20 7,.q 21 (.bin .add true (.t 20) (.k (.string (mk [44,32])))),.v 7 21]) .skip)) (wY)))) (.reg [.q 38 (.bin .add true (.t 13) (.i 1)),.v 13 38]))))))) (.seq (.reg [.v 39 7,.q 40 (.bin .add true (.t 39) (.k (.string (mk [93])))),.v 6 40]) .ret)))
def aAL:List RV:=[.mv (.t 6)]
theorem aLQ:aN Tryz.prog true ⟨fun r k=>if r=7/\k=14 then .own [0] else .own [],fun r=>[7].contains r⟩ Tryz.f60=some (aC5,aAL):=by kernel_rfl
def FO:PC:=.seq (.gh (.reg [.l 10 (.ldn 5 (.t 5)),.s (.st 5 (.t 4) (.t 10))])) .ret
@[go_sem ↓] theorem aKR:aT FO:=aU _
def GP:PC:=.seq (.gh (.reg [.l 7 (.ld1 (.t 2)),.q 8 (.mf 102 [(.t 5),(.t 3),(.t 2)]),.a 9 (.cl 101 [(.t 7),(.k (.string (mk [91]))),(.k (.string (mk [93]))),(.t 8)] [0,1,2,3,5,6])])) (FO)
@[go_sem ↓] theorem aN4:aT GP:=aU _
def aDE:PC:=.seq (.reg [.e 2 (.bx 59 (.t 0)),.e 3 (.bx 28 (.t 1)),.e 4 (.al (.agg #[(.int .i64 0),(.int .i64 0),(.string (mk [])),(.slice none 0 0),(.slice none 0 0)]) 32)]) (.seq (.reg [.q 6 (.bd [(.int .i64 0),(.int .i64 0),(.string (mk [])),(.slice none 0 0),(.slice none 0 0)] [(0,1,(.i 5))]),.e 5 (.al (.agg #[(.int .i64 0),(.int .i64 0),(.string (mk [])),(.slice none 0 0),(.slice none 0 0)]) 32),.s (.st 5 (.t 5) (.t 6))]) (GP))
def aB3:List RV:=[.ld (.ldn 5 (.t 4))]
theorem aL6:aN Tryz.prog true ⟨fun r k=>if r=2/\k=2 then .own [0,1,2,3,5,6] else .own [],fun r=>[2,3].contains r⟩ Tryz.f61=some (aDE,aB3):=by kernel_rfl
def wZ:PC:=.gh (.ord  [.q (.v 43 9),.q (.q 44 (.fa 1 (.t 12))),.q (.l 45 (.ld1 (.t 44))),.q (.q 46 (.bin .add true (.t 45) (.k (.string (mk [32,61,32]))))),.q (.q 47 (.fa 2 (.t 12))),.q (.q 48 (.fa 0 (.t 47))),.q (.l 49 (.ld1 (.t 48))),.q (.v 52 0),.q (.q 53 (.fa 2 (.t 12))),.q (.l 54 (.ldn 4 (.t 53))),.q (.q 55 (.fa 1 (.t 11))),.q (.l 56 (.ldn 5 (.t 55))),.m (.a 50 (.cl 24 [(.t 49)] [])),.rc (.v 43 9),.rc (.q 44 (.fa 1 (.t 12))),.rc (.l 45 (.ld1 (.t 44))),.rc (.q 46 (.bin .add true (.t 45) (.k (.string (mk [32,61,32]))))),.rc (.v 52 0),.rc (.q 53 (.fa 2 (.t 12))),.rc (.l 54 (.ldn 4 (.t 53))),.rc (.q 55 (.fa 1 (.t 11))),.rc (.l 56 (.ldn 5 (.t 55))),.q (.q 51 (.fld1 0 (.t 50))),.m (.a 57 (.ca (.t 51) [(.t 52),(.t 54),(.t 56)] [0])),.rc (.v 43 9),.rc (.q 44 (.fa 1 (.t 12))),.rc (.l 45 (.ld1 (.t 44))),.rc (.q 46 (.bin .add true (.t 45) (.k (.string (mk [32,61,32]))))),.q (.q 58 (.bin .add true (.t 46) (.t 57))),.q (.q 59 (.bin .add true (.t 43) (.t 58))),.m (.v 9 59)])
@[go_sem ↓] theorem aMM:aT wZ:=aU _
def xW:PC:=.seq (.gh (.reg [.l 37 (.ldn 2 (.t 7)),.q 38 (.fa 0 (.t 11)),.l 39 (.ld1 (.t 38)),.a 40 (.cl 104 [(.t 37),(.t 39)] []),.v 36 40,.q 41 (.ex (.t 36) 0),.q 42 (.ex (.t 36) 1),.e 12 (.al (.agg #[(.int .i64 0),(.string (mk [])),(.int .i64 0),(.int .i64 0),(.string (mk [])),(.slice none 0 0),(.bool false)]) 97),.s (.st 7 (.t 12) (.t 41)),.v 13 42])) (wZ)
@[go_sem ↓] theorem aM9:aT xW:=aU _
def w7:PC:=.seq (.seq (.gh (.reg [.v 32 10,.q 33 (.bin .gtr true (.t 32) (.i 0))])) (.cond (.t 33) (.reg [.v 34 9,.q 35 (.bin .add true (.t 34) (.k (.string (mk [44,32])))),.v 9 35]) .skip)) (xW)
@[go_sem ↓] theorem aNV:aT w7:=aU _
def GE:PC:=.seq (.gh (.reg [.q 9 (.mv (.k (.string (mk [123]))))])) (.seq (.seq (.reg [.q 24 (.fa 4 (.t 5)),.l 25 (.ld1 (.t 24)),.q 26 (.lnL (.t 25)),.q 27 (.mv (.i 0))]) (.block 0 (.loop (.seq (.reg [.q 28 (.bin .lss true (.t 27) (.t 26))]) (.seq (.cond (.t 28) .skip (.exit 0)) (.seq (.block 1 (.seq (.reg [.v 29 27,.l 30 (.ia 6 (.t 25) (.t 27)),.l 31 (.ldn 6 (.t 30)),.e 11 (.al (.agg #[(.int .i64 0),(.int .i64 0),(.int .i64 0),(.string (mk [])),(.slice none 0 0),(.slice none 0 0)]) 57),.v 10 29,.s (.st 6 (.t 11) (.t 31))]) (w7))) (.reg [.q 60 (.bin .add true (.t 27) (.i 1)),.v 27 60]))))))) (.seq (.reg [.v 61 9,.q 62 (.bin .add true (.t 61) (.k (.string (mk [125])))),.v 6 62]) .ret))
@[go_sem ↓] theorem aN2:aT GE:=aU _
def aBT:PC:=.seq (.reg [.e 4 (.bx 28 (.t 1)),.e 5 (.bx 32 (.t 2)),.q 6 (.mv (.k (.string (mk []))))]) (.seq (.ord  [.q (.v 15 0),.q (.q 16 (.nc (.t 15))),.q (.q 17 (.fa 0 (.t 16))),.q (.l 18 (.ldn 3 (.t 17))),.q (.q 19 (.fa 2 (.t 4))),.q (.l 20 (.ld1 (.t 19))),.m (.a 21 (.cl 103 [(.t 18),(.t 20)] [])),.q (.v 14 21),.q (.q 22 (.ex (.t 14) 0)),.q (.q 23 (.ex (.t 14) 1)),.m (.e 7 (.al (.agg #[(.string (mk [])),(.slice none 0 0)]) 95)),.rc (.v 14 21),.rc (.q 22 (.ex (.t 14) 0)),.rc (.q 23 (.ex (.t 14) 1)),.m (.s (.st 2 (.t 7) (.t 22))),.rc (.q 23 (.ex (.t 14) 1)),.m (.v 8 23)]) (GE))
def aBB:List RV:=[.mv (.t 6)]
theorem aL5:aN Tryz.prog true ⟨fun r k=>if r=9/\k=14 then .own [0] else .own [],fun r=>[2,6,8,9].contains r⟩ Tryz.f62=some (aBT,aBB):=by kernel_rfl
def EZ:PC:=.seq (.gh (.reg [.l 23 (.ldn 5 (.t 5)),.s (.st 5 (.t 4) (.t 23))])) .ret
@[go_sem ↓] theorem aOK:aT EZ:=aU _
def IP:PC:=.seq (.gh (.reg [.l 20 (.ld1 (.t 2)),.q 21 (.mf 105 [(.t 2),(.t 6),(.t 8),(.t 5)]),.a 22 (.cl 101 [(.t 20),(.k (.string (mk [123]))),(.k (.string (mk [125]))),(.t 21)] [0,1,2,5,6,7,8])])) (EZ)
@[go_sem ↓] theorem aNH:aT IP:=aU _
def FP:PC:=.seq (.gh (.reg [.e 8 (.al (.int .i64 0) 3),.s (.st 1 (.t 8) (.i 0))])) (IP)
@[go_sem ↓] theorem aLW:aT FP:=aU _
def aCR:PC:=.seq (.reg [.e 2 (.bx 59 (.t 0)),.e 3 (.bx 28 (.t 1)),.e 4 (.al (.agg #[(.int .i64 0),(.int .i64 0),(.string (mk [])),(.slice none 0 0),(.slice none 0 0)]) 32)]) (.seq (.reg [.q 9 (.bd [(.int .i64 0),(.int .i64 0),(.string (mk [])),(.slice none 0 0),(.slice none 0 0)] [(0,1,(.i 6))]),.e 5 (.al (.agg #[(.int .i64 0),(.int .i64 0),(.string (mk [])),(.slice none 0 0),(.slice none 0 0)]) 32),.s (.st 5 (.t 5) (.t 9))]) (.seq (.ord  [.q (.l 11 (.ld1 (.t 2))),.q (.q 12 (.nc (.t 11))),.q (.q 13 (.fa 0 (.t 12))),.q (.l 14 (.ldn 3 (.t 13))),.q (.q 15 (.fa 2 (.t 3))),.q (.l 16 (.ld1 (.t 15))),.m (.a 17 (.cl 103 [(.t 14),(.t 16)] [])),.q (.v 10 17),.q (.q 18 (.ex (.t 10) 0)),.q (.q 19 (.ex (.t 10) 1)),.m (.e 6 (.al (.agg #[(.string (mk [])),(.slice none 0 0)]) 95)),.rc (.v 10 17),.rc (.q 18 (.ex (.t 10) 0)),.rc (.q 19 (.ex (.t 10) 1)),.m (.s (.st 2 (.t 6) (.t 18))),.rc (.q 19 (.ex (.t 10) 1)),.m (.v 7 19)]) (FP)))
def aE4:List RV:=[.ld (.ldn 5 (.t 4))]
theorem aN7:aN Tryz.prog true ⟨fun r k=>if r=4/\k=2 then .own [0,1,2,5,6,7,8] else .own [],fun r=>[3,4,5].contains r⟩ Tryz.f63=some (aCR,aE4):=by kernel_rfl
def aAC:PC:=.seq (.reg [.e 4 (.bx 28 (.t 1)),.e 5 (.bx 32 (.t 2)),.q 6 (.mv (.k (.string (mk []))))]) (.seq (.reg [.q 7 (.fa 1 (.t 5)),.l 8 (.ld1 (.t 7)),.a 9 (.cq 109 [(.t 8),(.i 10)]),.v 6 9]) .ret)
def aBP:List RV:=[.mv (.t 6)]
theorem aLD:aN Tryz.prog true ⟨fun r k=>if r=1/\k=2 then .q else .own [],fun _=>false⟩ Tryz.f64=some (aAC,aBP):=by kernel_rfl
def aBK:PC:=.seq (.reg [.e 3 (.bx 28 (.t 1)),.e 4 (.al (.agg #[(.int .i64 0),(.int .i64 0),(.string (mk [])),(.slice none 0 0),(.slice none 0 0)]) 32)]) (.seq (.ord  [.q (.q 5 (.fa 0 (.t 3))),.q (.l 6 (.ld1 (.t 5))),.q (.v 7 0),.m (.a 8 (.cl 97 [(.t 7),(.i 2)] [0,1])),.rc (.q 5 (.fa 0 (.t 3))),.rc (.l 6 (.ld1 (.t 5))),.q (.q 9 (.fld1 2 (.t 8))),.q (.q 10 (.bd [(.int .i64 0),(.int .i64 0),(.string (mk [])),(.slice none 0 0),(.slice none 0 0)] [(0,1,(.t 6)),(1,1,(.t 9))])),.m (.s (.st 5 (.t 4) (.t 10)))]) .ret)
def aEJ:List RV:=[.ld (.ldn 5 (.t 4))]
theorem aKW:aN Tryz.prog true ⟨fun r k=>if r=1/\k=3 then .own [0,1] else .own [],fun _=>false⟩ Tryz.f65=some (aBK,aEJ):=by kernel_rfl
def yY:PC:=.seq (.gh (.reg [.v 19 0,.a 20 (.cl 31 [(.t 19)] [0,1])])) (.seq (.reg [.q 21 (.bd [(.int .i64 0),(.string (mk [])),(.int .i64 0),(.int .i64 0)] []),.s (.st 4 (.t 4) (.t 21))]) .ret)
@[go_sem ↓] theorem aKI:aT yY:=aU _
def GU:PC:=.seq (.gh (.reg [.v 22 0,.q 23 (.nc (.t 22)),.q 24 (.fa 3 (.t 23)),.l 25 (.ld1 (.t 24)),.a 26 (.cl 100 [(.t 25)] [1]),.s (.st 4 (.t 4) (.t 26))])) .ret
@[go_sem ↓] theorem aL1:aT GU:=aU _
def QU:PC:=.seq (.reg [.e 4 (.al (.agg #[(.int .i64 0),(.string (mk [])),(.int .i64 0),(.int .i64 0)]) 71)]) (.seq (.seq (.reg [.v 5 0,.q 6 (.nc (.t 5)),.q 7 (.fa 4 (.t 6)),.l 8 (.ld1 (.t 7)),.v 9 8,⟨some 10,(some (9,false)),.q (.mv (.t 0))⟩,⟨some 11,(some (9,false)),.q (.nc (.t 10))⟩,⟨some 12,(some (9,false)),.q (.fa 3 (.t 11))⟩,⟨some 13,(some (9,false)),.l (.ld1 (.t 12))⟩,⟨some 14,(some (9,false)),.cl 30 [(.t 13)] [1]⟩,⟨some 15,(some (9,false)),.q (.fld1 0 (.t 14))⟩,⟨some 16,(some (9,false)),.q (.mv (.t 1))⟩,⟨some 17,(some (9,false)),.q (.bin .neq true (.t 15) (.t 16))⟩,.a 18 (.pick (.t 9) (.k (.bool true)) (.t 17))]) (.cond (.t 18) (yY) .skip)) (GU))
def S3:List RV:=[.ld (.ldn 4 (.t 4))]
theorem aK1:aN Tryz.prog true ⟨fun r k=>if r=1/\k=9 then .own [1] else if r=2/\k=1 then .own [0,1] else if r=4/\k=4 then .own [1] else .own [],fun r=>[2,4].contains r⟩ Tryz.f97=some (QU,S3):=by kernel_rfl
def AI:PC:=.gh (.reg [.v 23 0,.a 24 (.cl 128 [(.t 23),(.k (.string (mk [44])))] [0,1]),.v 8 24])
@[go_sem ↓] theorem aI6:aT AI:=aU _
def tY:PC:=.gh (.reg [.v 27 0,.v 28 2,.a 29 (.cl 108 [(.t 27),(.t 28)] [0,1])])
@[go_sem ↓] theorem aI9:aT tY:=aU _
def AZ:PC:=.seq (.seq (.gh (.reg [.q 8 (.mv (.k (.bool true)))])) (.block 0 (.loop (.seq (.seq (.reg [.v 15 8,.v 16 15,⟨some 17,(some (16,true)),.q (.mv (.t 0))⟩,⟨some 18,(some (16,true)),.q (.nc (.t 17))⟩,⟨some 19,(some (16,true)),.q (.fa 4 (.t 18))⟩,⟨some 20,(some (16,true)),.l (.ld1 (.t 19))⟩,⟨some 21,(some (16,true)),.q (.not (.t 20))⟩,.a 22 (.pick (.t 16) (.t 21) (.k (.bool false)))]) (.cond (.t 22) .skip (.exit 0))) (.seq (.block 1 (.reg [.v 25 3,.a 26 (.ca (.t 25) [] [0,1,2,3,4,5])])) (AI)))))) (tY)
@[go_sem ↓] theorem aIX:aT AZ:=aU _
def BK:PC:=.seq (.seq (.gh (.reg [.v 12 0,.v 13 2,.a 14 (.cl 128 [(.t 12),(.t 13)] [0,1])])) (.cond (.t 14) .ret .skip)) (AZ)
@[go_sem ↓] theorem aI8:aT BK:=aU _
def V1:PC:=.seq (.reg [.v 9 0,.v 10 1,.a 11 (.cl 108 [(.t 9),(.t 10)] [0,1])]) (BK)
def T0:List RV:=[]
theorem aGY:aN Tryz.prog true ⟨fun r k=>if r=0/\k=2 then .own [0,1] else if r=1/\k=2 then .own [0,1] else if r=5/\k=1 then .own [0,1,2,3,4,5] else if r=4/\k=1 then .own [0,1] else if r=6/\k=2 then .own [0,1] else .own [],fun r=>[1,2,4,6].contains r⟩ Tryz.f101=some (V1,T0):=by kernel_rfl
def T7:PC:=.ord  [.q (.q 3 (.fa 3 (.t 0))),.q (.l 4 (.ld1 (.t 3))),.q (.q 5 (.fa 3 (.t 1))),.q (.l 6 (.ld1 (.t 5))),.q (.l 7 (.ia 4 (.t 6) (.i 0))),.q (.q 8 (.fa 0 (.t 7))),.q (.l 9 (.ld1 (.t 8))),.q (.l 12 (.ld1 (.t 2))),.q (.q 13 (.fa 3 (.t 1))),.q (.l 14 (.ld1 (.t 13))),.q (.l 15 (.ia 4 (.t 14) (.i 0))),.q (.l 16 (.ldn 4 (.t 15))),.q (.q 18 (.lnL (.t 4))),.m (.a 10 (.cl 24 [(.t 9)] [])),.rc (.q 3 (.fa 3 (.t 0))),.rc (.l 4 (.ld1 (.t 3))),.rc (.l 12 (.ld1 (.t 2))),.rc (.q 13 (.fa 3 (.t 1))),.rc (.l 14 (.ld1 (.t 13))),.rc (.l 15 (.ia 4 (.t 14) (.i 0))),.rc (.l 16 (.ldn 4 (.t 15))),.rc (.q 18 (.lnL (.t 4))),.q (.q 11 (.fld1 1 (.t 10))),.m (.a 17 (.ca (.t 11) [(.t 12),(.t 16)] [0,1])),.rc (.q 3 (.fa 3 (.t 0))),.rc (.l 4 (.ld1 (.t 3))),.rc (.q 18 (.lnL (.t 4))),.m (.e 19 (.bsl 32 5 [(.k (.agg #[(.int .i64 0),(.int .i64 0),(.string (mk [])),(.slice none 0 0),(.slice none 0 0)]))])),.rc (.q 3 (.fa 3 (.t 0))),.rc (.l 4 (.ld1 (.t 3))),.rc (.q 18 (.lnL (.t 4))),.m (.e 20 (.ap 32 5 80 (.t 4) (.t 19))),.q (.l 21 (.ia 5 (.t 20) (.t 18))),.q (.q 22 (.fa 3 (.t 0))),.fk (.s (.st 5 (.t 21) (.t 17))) (.s (.st 1 (.t 22) (.t 20))) [.q 22 (.fa 3 (.t 0))] [.l 21 (.ia 5 (.t 20) (.t 18))]]
def TX:List RV:=[]
theorem aH3:aN Tryz.prog true ⟨fun r k=>if r=0/\k=14 then .own [0,1] else .own [],fun _=>false⟩ Tryz.f102=some (T7,TX):=by kernel_rfl
def pD:PC:=.seq (.gh (.reg [.l 33 (.ld1 (.t 0)),.a 34 (.cl 31 [(.t 33)] [0,1])])) .ret
@[go_sem ↓] theorem aJW:aT pD:=aU _
def BY:PC:=.gh (.ord  [.q (.q 49 (.fa 4 (.t 3))),.q (.l 50 (.ld1 (.t 49))),.q (.q 51 (.fa 0 (.t 6))),.q (.l 52 (.ld1 (.t 51))),.q (.q 53 (.fa 2 (.t 6))),.q (.q 54 (.fa 0 (.t 53))),.q (.l 55 (.ld1 (.t 54))),.q (.l 58 (.ld1 (.t 0))),.q (.q 59 (.fa 2 (.t 6))),.q (.l 60 (.ldn 4 (.t 59))),.q (.q 63 (.lnL (.t 50))),.m (.a 56 (.cl 24 [(.t 55)] [])),.rc (.q 49 (.fa 4 (.t 3))),.rc (.l 50 (.ld1 (.t 49))),.rc (.q 51 (.fa 0 (.t 6))),.rc (.l 52 (.ld1 (.t 51))),.rc (.l 58 (.ld1 (.t 0))),.rc (.q 59 (.fa 2 (.t 6))),.rc (.l 60 (.ldn 4 (.t 59))),.rc (.q 63 (.lnL (.t 50))),.q (.q 57 (.fld1 1 (.t 56))),.m (.a 61 (.ca (.t 57) [(.t 58),(.t 60)] [0,1])),.rc (.q 49 (.fa 4 (.t 3))),.rc (.l 50 (.ld1 (.t 49))),.rc (.q 51 (.fa 0 (.t 6))),.rc (.l 52 (.ld1 (.t 51))),.rc (.q 63 (.lnL (.t 50))),.q (.q 62 (.bd [(.int .i64 0),(.int .i64 0),(.int .i64 0),(.string (mk [])),(.slice none 0 0),(.slice none 0 0)] [(0,1,(.t 52)),(1,5,(.t 61))])),.m (.e 64 (.bsl 57 6 [(.k (.agg #[(.int .i64 0),(.int .i64 0),(.int .i64 0),(.string (mk [])),(.slice none 0 0),(.slice none 0 0)]))])),.rc (.q 49 (.fa 4 (.t 3))),.rc (.l 50 (.ld1 (.t 49))),.rc (.q 51 (.fa 0 (.t 6))),.rc (.l 52 (.ld1 (.t 51))),.rc (.q 63 (.lnL (.t 50))),.rc (.q 62 (.bd [(.int .i64 0),(.int .i64 0),(.int .i64 0),(.string (mk [])),(.slice none 0 0),(.slice none 0 0)] [(0,1,(.t 52)),(1,5,(.t 61))])),.m (.e 65 (.ap 57 6 88 (.t 50) (.t 64))),.q (.l 66 (.ia 6 (.t 65) (.t 63))),.q (.q 67 (.fa 4 (.t 3))),.fk (.s (.st 6 (.t 66) (.t 62))) (.s (.st 1 (.t 67) (.t 65))) [.q 67 (.fa 4 (.t 3))] [.l 66 (.ia 6 (.t 65) (.t 63))]])
@[go_sem ↓] theorem aJ7:aT BY:=aU _
def A3:PC:=.seq (.gh (.reg [.q 47 (.fa 0 (.t 6)),.l 48 (.ld1 (.t 47)),.s (.st 1 (.t 2) (.t 48))])) (BY)
@[go_sem ↓] theorem aJE:aT A3:=aU _
def A6:PC:=.seq (.gh (.reg [.q 42 (.fa 1 (.t 1)),.l 43 (.ld1 (.t 42)),.v 44 5,.l 45 (.ia 7 (.t 43) (.t 44)),.l 46 (.ldn 7 (.t 45)),.e 6 (.al (.agg #[(.int .i64 0),(.string (mk [])),(.int .i64 0),(.int .i64 0),(.string (mk [])),(.slice none 0 0),(.bool false)]) 97),.s (.st 7 (.t 6) (.t 46))])) (A3)
@[go_sem ↓] theorem aJC:aT A6:=aU _
def AU:PC:=.seq (.gh (.reg [.l 40 (.ld1 (.t 0)),.a 41 (.cl 108 [(.t 40),(.k (.string (mk [61])))] [0,1])])) (A6)
@[go_sem ↓] theorem aJK:aT AU:=aU _
def A4:PC:=.seq (.gh (.reg [.l 35 (.ld1 (.t 0)),.q 36 (.nc (.t 35)),.q 37 (.fa 3 (.t 36)),.l 38 (.ld1 (.t 37)),.a 39 (.cl 100 [(.t 38)] [1])])) (AU)
@[go_sem ↓] theorem aIY:aT A4:=aU _
def mS:PC:=.seq (.seq (.gh (.reg [.q 16 (.fa 0 (.t 4)),.l 17 (.ld1 (.t 16)),.q 18 (.bin .neq true (.t 17) (.i 1)),.v 19 18,⟨some 20,(some (19,false)),.q (.mv (.t 5))⟩,⟨some 21,(some (19,false)),.q (.bin .lss true (.t 20) (.i 0))⟩,.a 22 (.pick (.t 19) (.k (.bool true)) (.t 21)),.v 23 22,⟨some 24,(some (23,false)),.q (.fa 1 (.t 1))⟩,⟨some 25,(some (23,false)),.l (.ld1 (.t 24))⟩,⟨some 26,(some (23,false)),.q (.mv (.t 5))⟩,⟨some 27,(some (23,false)),.l (.ia 7 (.t 25) (.t 26))⟩,⟨some 28,(some (23,false)),.q (.fa 0 (.t 27))⟩,⟨some 29,(some (23,false)),.l (.ld1 (.t 28))⟩,⟨some 30,(some (23,false)),.l (.ld1 (.t 2))⟩,⟨some 31,(some (23,false)),.q (.bin .leq true (.t 29) (.t 30))⟩,.a 32 (.pick (.t 23) (.k (.bool true)) (.t 31))])) (.cond (.t 32) (pD) .skip)) (A4)
@[go_sem ↓] theorem aI7:aT mS:=aU _
def BL:PC:=.seq (.gh (.reg [.q 12 (.fa 1 (.t 1)),.l 13 (.ld1 (.t 12)),.q 14 (.mf 107 [(.t 4)]),.a 15 (.cl 106 [(.t 13),(.t 14)] [7]),.v 5 15])) (mS)
@[go_sem ↓] theorem aJ0:aT BL:=aU _
def W9:PC:=.seq (.reg [.l 7 (.ld1 (.t 0)),.q 8 (.nc (.t 7)),.q 9 (.fa 3 (.t 8)),.l 10 (.ld1 (.t 9)),.a 11 (.cl 30 [(.t 10)] [1]),.e 4 (.al (.agg #[(.int .i64 0),(.string (mk [])),(.int .i64 0),(.int .i64 0)]) 71),.s (.st 4 (.t 4) (.t 11))]) (BL)
def VQ:List RV:=[]
theorem aF3:aN Tryz.prog true ⟨fun r k=>if r=0/\k=4 then .own [1] else if r=1/\k=3 then .own [7] else if r=3/\k=1 then .own [0,1] else if r=4/\k=4 then .own [1] else if r=5/\k=1 then .own [0,1] else if r=8/\k=12 then .own [0,1] else .own [],fun r=>[1,2,3,4,5,6,7,8].contains r⟩ Tryz.f105=some (W9,VQ):=by kernel_rfl
def U3:PC:=.seq (.reg [.e 2 (.bx 97 (.t 0)),.q 3 (.mv (.k (.bool false)))]) (.seq (.reg [.q 4 (.fa 1 (.t 2)),.l 5 (.ld1 (.t 4)),.q 6 (.fa 1 (.t 1)),.l 7 (.ld1 (.t 6)),.q 8 (.bin .eql true (.t 5) (.t 7)),.v 3 8]) .ret)
def XS:List RV:=[.mv (.t 3)]
theorem aHB:aN Tryz.prog true ⟨fun _ _=>.own [],fun _=>false⟩ Tryz.f107=some (U3,XS):=by kernel_rfl
def UJ:PC:=.seq (.reg [.v 4 0,.v 5 1,.a 6 (.cl 128 [(.t 4),(.t 5)] [0,1]),.q 7 (.not (.t 6))]) (.cond (.t 7) (.reg [.v 8 0,.a 9 (.cl 31 [(.t 8)] [0,1])]) .skip)
def UH:List RV:=[]
theorem aHW:aN Tryz.prog true ⟨fun r k=>if r=0/\k=2 then .own [0,1] else if r=1/\k=1 then .own [0,1] else .own [],fun _=>false⟩ Tryz.f108=some (UJ,UH):=by kernel_rfl
def MA:PC:=.seq (.reg [.q 4 (.mv (.k (.bool false)))]) (.seq (.reg [.v 5 0,.q 6 (.nc (.t 5)),.q 7 (.fa 4 (.t 6)),.l 8 (.ld1 (.t 7)),.q 9 (.not (.t 8)),.v 10 9,⟨some 11,(some (10,true)),.q (.mv (.t 0))⟩,⟨some 12,(some (10,true)),.q (.nc (.t 11))⟩,⟨some 13,(some (10,true)),.q (.fa 3 (.t 12))⟩,⟨some 14,(some (10,true)),.l (.ld1 (.t 13))⟩,⟨some 15,(some (10,true)),.q (.mv (.t 1))⟩,⟨some 16,(some (10,true)),.cl 148 [(.t 14),(.t 15)] [1]⟩,.a 17 (.pick (.t 10) (.t 16) (.k (.bool false))),.v 4 17]) .ret)
def ML:List RV:=[.mv (.t 4)]
theorem aHF:aN Tryz.prog true ⟨fun r k=>if r=1/\k=11 then .own [1] else .own [],fun _=>false⟩ Tryz.f128=some (MA,ML):=by kernel_rfl
end Go.Proofs.YtkpohmhenegkiaaGreatDoor
namespace Go.Proofs
open Go.Shelf
def Tryz.laysM173_ren:Go.Shelf.Ren:=⟨fun | 173=>109 | 246=>131 | 283=>150 | 284=>151 | 285=>152 | 286=>153 | 129=>160 | 317=>159 | 318=>161 | 319=>162 | 320=>163 | 337=>165 | 338=>166 | n=>n,fun | 2=>2 | 3=>3 | 9=>9 | 4=>4 | 171=>169 | 0=>0 | 53=>139 | 37=>43 | 5=>5 | 173=>172 | 212=>184 | 51=>185 | 20=>20 | 213=>186 | 46=>187 | 232=>190 | 233=>191 | n=>n,fun | 17=>0 | 18=>1 | 19=>2 | n=>n⟩
theorem Tryz.lays173:Go.Proofs.Lays.n173 Tryz.prog Tryz.laysM173_ren:={
  mixed:=by kernel_rfl
  f129:=Tryz.func160.trans (congrArg some (by kernel_rfl))
  f173:=Tryz.func109.trans (congrArg some (by kernel_rfl))
  f246:=Tryz.func131.trans (congrArg some (by kernel_rfl))
  f283:=Tryz.func150.trans (congrArg some (by kernel_rfl))
  f284:=Tryz.func151.trans (congrArg some (by kernel_rfl))
  f285:=Tryz.func152.trans (congrArg some (by kernel_rfl))
  f286:=Tryz.func153.trans (congrArg some (by kernel_rfl))
  f317:=Tryz.func159.trans (congrArg some (by kernel_rfl))
  f318:=Tryz.func161.trans (congrArg some (by kernel_rfl))
  f319:=Tryz.func162.trans (congrArg some (by kernel_rfl))
  f320:=Tryz.func163.trans (congrArg some (by kernel_rfl))
  f337:=Tryz.func165.trans (congrArg some (by kernel_rfl))
  f338:=Tryz.func166.trans (congrArg some (by kernel_rfl))
  t0:=Tryz.underlying0
  a0:=Tryz.isAgg0
  z0:=Tryz.sizeOf0
  v0:=Tryz.zeroValue0
  t2:=Tryz.underlying2
  a2:=Tryz.isAgg2
  z2:=Tryz.sizeOf2
  v2:=Tryz.zeroValue2
  t3:=Tryz.underlying3
  a3:=Tryz.isAgg3
  z3:=Tryz.sizeOf3
  v3:=Tryz.zeroValue3
  t4:=Tryz.underlying4
  a4:=Tryz.isAgg4
  z4:=Tryz.sizeOf4
  v4:=Tryz.zeroValue4
  t5:=Tryz.underlying5
  a5:=Tryz.isAgg5
  z5:=Tryz.sizeOf5
  v5:=Tryz.zeroValue5
  t9:=Tryz.underlying9
  a9:=Tryz.isAgg9
  z9:=Tryz.sizeOf9
  v9:=Tryz.zeroValue9
  t20:=Tryz.underlying20
  a20:=Tryz.isAgg20
  z20:=Tryz.sizeOf20
  v20:=Tryz.zeroValue20
  t37:=Tryz.underlying43
  a37:=Tryz.isAgg43
  z37:=Tryz.sizeOf43
  v37:=Tryz.zeroValue43
  t46:=Tryz.underlying187
  a46:=Tryz.isAgg187
  z46:=Tryz.sizeOf187
  v46:=Tryz.zeroValue187
  t51:=Tryz.underlying185
  a51:=Tryz.isAgg185
  z51:=Tryz.sizeOf185
  v51:=Tryz.zeroValue185
  t53:=Tryz.underlying139
  a53:=Tryz.isAgg139
  z53:=Tryz.sizeOf139
  v53:=Tryz.zeroValue139
  t171:=Tryz.underlying169
  a171:=Tryz.isAgg169
  z171:=Tryz.sizeOf169
  v171:=Tryz.zeroValue169
  t173:=Tryz.underlying172
  a173:=Tryz.isAgg172
  z173:=Tryz.sizeOf172
  v173:=Tryz.zeroValue172
  t212:=Tryz.underlying184
  a212:=Tryz.isAgg184
  z212:=Tryz.sizeOf184
  v212:=Tryz.zeroValue184
  t213:=Tryz.underlying186
  a213:=Tryz.isAgg186
  z213:=Tryz.sizeOf186
  t232:=Tryz.underlying190
  a232:=Tryz.isAgg190
  z232:=Tryz.sizeOf190
  v232:=Tryz.zeroValue190
  t233:=Tryz.underlying191
  a233:=Tryz.isAgg191
  z233:=Tryz.sizeOf191
  v233:=Tryz.zeroValue191
  g17:=by kernel_rfl
  g18:=by kernel_rfl
  g19:=by kernel_rfl }
theorem Tryz.laysM173:Go.Proofs.LaysM.n173 Tryz.prog Tryz.laysM173_ren:={ Tryz.lays173 with
  i0:=by kernel_rfl
  i2:=by kernel_rfl
  i3:=by kernel_rfl
  i4:=by kernel_rfl
  i5:=by kernel_rfl
  i9:=by kernel_rfl
  i20:=by kernel_rfl
  i37:=by kernel_rfl
  i46:=by kernel_rfl
  i51:=by kernel_rfl
  i53:=by kernel_rfl
  i171:=by kernel_rfl
  i173:=by kernel_rfl
  i212:=by kernel_rfl
  i232:=by kernel_rfl
  i233:=by kernel_rfl
  m17:=by kernel_rfl
  m18:=by kernel_rfl
  m19:=by kernel_rfl }
open Go.RowKit Go.Sort Go.Lib in
theorem Tryz.strconv_FormatInt_10 (n:Int) (h0:-9223372036854775808<=n) (h1:n<=9223372036854775807) (w:World) (htab:Lib.TabIs Tryz.prog w "internal/strconv.uint64pow10" .u64 Lib.pow10Tab) :
    Calls Tryz.prog 109 #[.int .i64 n,.int .i64 10] w fun e w'=>e=.returned (.string ⟨(Lib.itoa n).toArray⟩)/\∃ k os,w'=grow (w.drewN k) os:=Any.strconv_FormatInt_10 Tryz.laysM173 n h0 h1 w htab
end Go.Proofs
namespace Go.Proofs.YtkpohmhenegkiaaGreatDoor
open Go.W
theorem DM:∀ n:Nat,Lib.decDigits n=digs n:=fun n=>by
  induction n using Nat.strongRecOn with
  | _ n ih=>
    rw [Lib.decDigits,digs]
    by_cases h:n < 10
    · have e:n % 10=n:=Nat.mod_eq_of_lt h
      simp [h,e,Nat.toUInt8]
    · rw [dif_neg h,dif_neg h,ih (n / 10) (by omega)]
theorem OB (n:Int):Lib.itoa n=gI n:=by
  unfold Lib.itoa gI
  by_cases h:n < 0
  · rw [if_pos h,decide_eq_true h,DM]; rfl
  · rw [if_neg h,decide_eq_false h,DM,show n.toNat=n.natAbs by omega]; rfl
def EQ:List S->Prop:=fun av=>match av with
  | [.va (.c1 (.vl (.int .i64 n))),.va (.c1 (.vl (.int .i64 b)))]=>b=10/\-9223372036854775808<=n/\n<=9223372036854775807
  | _=>False
theorem xR {av:List S} (h:EQ av):∃ n:Int,av=[iS .i64 n,iS .i64 10]/\-9223372036854775808<=n/\n<=9223372036854775807:=by
  unfold EQ at h
  split at h
  · obtain ⟨rfl,h⟩:=h; exact ⟨_,rfl,h⟩
  · exact h.elim
def XU:List S->A:=fun av=>match av with
  | [.va (.c1 (.vl (.int .i64 n))),.va (.c1 (.vl (.int .i64 _)))]=>tA (mk (gI n))
  | _=>.gs []
def fiFn:Fun:=⟨EQ,XU,fun av h=>by obtain ⟨_,rfl,_⟩:=xR h; trivial⟩
attribute [go_sem ↓] EQ XU fiFn
theorem aEK {ro:RO} {w:World} (h:GR Tryz.prog ro w):Lib.TabIs Tryz.prog w "internal/strconv.uint64pow10" .u64 Lib.pow10Tab:=by
  have:=(h _ (List.mem_singleton.2 rfl) _ Tryz.laysM173.m17).2
  unfold Lib.TabIs
  rw [this,Lib.pow10Tab,List.map_map]
  rfl
theorem NI:Meets Tryz.prog 109 fiFn.sp:=by
  refine ⟨by kernel_rfl,?_⟩
  rintro xs vs E ro w K hl hrel hr ⟨⟨h,hE⟩,hK⟩ hG
  obtain ⟨n,rfl,h0,h1⟩:=xR h
  obtain ⟨v0,v1,rfl⟩:∃ v0 v1,vs=[v0,v1]:=by
    match vs,hl with
    | [v0,v1],_=>exact ⟨v0,v1,rfl⟩
  have e0:v0=.int .i64 n:=hrel 0 _ _ rfl rfl
  have e1:v1=.int .i64 10:=hrel 1 _ _ rfl rfl
  subst e0 e1
  refine (Tryz.strconv_FormatInt_10 n h0 h1 w (aEK hG)).mono ?_
  rintro e w' ⟨rfl,k,os,rfl⟩
  refine ⟨tS (mk (gI n)),_,E,ro,rfl,by rw [OB]; rfl,by rw [hE]; exact hK,?_⟩
  have hk:∀ j,j < w.heap.size->(Sort.grow (w.drewN k) os).heap[j]? = w.heap[j]?:=fun j hj=>by
    simp [Sort.grow,World.drewN,Array.getElem?_append_left hj]
  exact hr.grown hk (by simp [Sort.grow,World.drewN]) rfl rfl rfl
def fY (k:Int):FuncId:=bif k == 1 then 54 else bif k == 4 then 56 else bif k == 7 then 58 else bif k == 5 then 60 else bif k == 6 then 62 else 64
def fX (k:Int):FuncId:=bif k == 1 then 55 else bif k == 4 then 57 else bif k == 7 then 59 else bif k == 5 then 61 else bif k == 6 then 63 else 65
def lR:W.Spec:=fun av H K=>match av with
  | [.va (.c1 (.vl (.int .i64 k)))]=>H=[]/\K (.va (.gs [.fn (fY k) [],.fn (fX k) []])) []
  | _=>False
attribute [go_sem ↓] lR
theorem mOf:Meets Tryz.prog 24 lR:=by
  refine aF Tryz.func24 aKA 1 (by rw [Tryz.ntmps24]; decide) (aA _) (fun av H K h=>by
    unfold lR at h
    split at h
    · rfl
    · exact h.elim) ?_
  intro av H K h
  unfold lR at h
  split at h
  · rename_i k
    obtain ⟨rfl,hK⟩:=h
    unfold fY fX at hK
    have fin:∀ (f g:FuncId) (R:Hp),K (.va (.gs [.fn f [],.fn g []])) []->W.Fin 0 K (.va (.gs [.fn f [],.fn g []])) R:=fun f g R h=>.sel [] (by simp) (by simp) rfl (.done (by simpa [go_sem] using h))
    cases h1:k == 1 with
    | true=>rw [h1] at hK; simp -dsimp only [go_sem,vQ,uW,h1]; exact fin _ _ _ hK
    | false=>
    cases h2:k == 4 with
    | true=>rw [h1,h2] at hK; simp -dsimp only [go_sem,vQ,uW,h1,h2]; exact fin _ _ _ hK
    | false=>
    cases h3:k == 7 with
    | true=>rw [h1,h2,h3] at hK; simp -dsimp only [go_sem,vQ,uW,h1,h2,h3]; exact fin _ _ _ hK
    | false=>
    cases h4:k == 5 with
    | true=>rw [h1,h2,h3,h4] at hK; simp -dsimp only [go_sem,vQ,uW,h1,h2,h3,h4]; exact fin _ _ _ hK
    | false=>
    cases h5:k == 6 with
    | true=>rw [h1,h2,h3,h4,h5] at hK; simp -dsimp only [go_sem,vQ,uW,h1,h2,h3,h4,h5]; exact fin _ _ _ hK
    | false=>rw [h1,h2,h3,h4,h5] at hK; simp -dsimp only [go_sem,vQ,uW,h1,h2,h3,h4,h5]; exact fin _ _ _ hK
  · exact h.elim
structure Fs where
  bad:Bool
  off:Int
  n:Nat
instance:Inhabited Tk:=⟨⟨0,[],0,0⟩⟩
def bP (ts:List Tk) (n:Nat):Tk:=ts.getD n default
abbrev OF (s:Sc) (b:Bool) (o:Int):B:=.cells [.vl (.int .i64 s.ver),.fz (s.es.map aX),.fz (s.ss.map aL),.pt 1 0,.vl (.bool b),.vl (.int .i64 o)] 62
abbrev gS (s:Sc) (ts:List Tk) (z:Fs):Hp:=[OF s z.bad z.off,gT 114 ts z.n]
structure Tks (ts:List Tk):Prop where
  e:Ends ts
  n:∀ t ∈ ts,bK t.n
  x:∀ t ∈ ts,t.x.length<=4000
  a:∀ t ∈ ts,t.a<=4000
def e7 (ts:List Tk) (z:Fs):Fs:=bif z.bad then z else ⟨true,(bP ts z.n).a,z.n⟩
def d8 (w:List UInt8) (ts:List Tk) (z:Fs):Bool:=!z.bad && fC 4 w (bP ts z.n)
def cA (w:List UInt8) (ts:List Tk) (z:Fs):Fs:=bif d8 w ts z then ⟨false,z.off,b9 ts z.n⟩ else z
def fG (w:List UInt8) (ts:List Tk) (z:Fs):Fs:=bif d8 w ts z then ⟨false,z.off,b9 ts z.n⟩ else e7 ts z
def iR (k:Int) (ts:List Tk) (z:Fs):Bool:=!z.bad && (bP ts z.n).k == k
def jJ (k:Int) (ts:List Tk) (z:Fs):Tk:=bif iR k ts z then bP ts z.n else default
def nQ (k:Int) (ts:List Tk) (z:Fs):Fs:=bif iR k ts z then ⟨false,z.off,b9 ts z.n⟩ else e7 ts z
theorem m0 {ts:List Tk} {n:Nat} (h:n < ts.length):ts[n]? = some (bP ts n):=by simp [bP,List.getD_eq_getElem?_getD,List.getElem?_eq_getElem h]
theorem kA {T:TypeId} {ts:List Tk} {n:Nat} {K:S->Hp->Prop} (he:Ends ts) (h:n < ts.length) (hK:K (.va (.gs (cW (bP ts n)))) [gT T ts n]):bT T [.va (.c1 (.pt 0 0))] [gT T ts n] K:=
  ⟨rfl,ts,n,rfl,rfl,he,h,fun t ht=>by rw [m0 h] at ht; cases ht; exact hK⟩
theorem wI {T:TypeId} {ts:List Tk} {n:Nat} {K:S->Hp->Prop} (he:Ends ts) (h:n < ts.length) (hK:K (.va (.gs (cW (bP ts n)))) [gT T ts (b9 ts n)]):b8 T [.va (.c1 (.pt 0 0))] [gT T ts n] K:=
  ⟨rfl,ts,n,rfl,rfl,he,h,fun t ht=>by rw [m0 h] at ht; cases ht; exact hK⟩
theorem sJ {k:Int} {T:TypeId} {w:ByteArray} {ts:List Tk} {n:Nat} {K:S->Hp->Prop} (he:Ends ts) (h:n < ts.length) (hK:K (bS (fC k (bl w) (bP ts n))) [gT T ts (rD k (bl w) ts n (bP ts n))]):bR k T [.va (.c1 (.pt 0 0)),tS w] [gT T ts n] K:=
  ⟨rfl,ts,n,rfl,rfl,he,h,fun t ht=>by rw [m0 h] at ht; cases ht; exact hK⟩
def mK:W.Spec:=fun av H K=>∃ s ts z,av=[.va (.c1 (.pt 0 0))]/\H=gS s ts z/\Ends ts/\z.n < ts.length/\K (.tu []) (gS s ts (e7 ts z))
theorem dO {s:Sc} {ts:List Tk} {z:Fs} {K:S->Hp->Prop} (h1:Ends ts) (h2:z.n < ts.length) (hK:K (.tu []) (gS s ts (e7 ts z))):mK [.va (.c1 (.pt 0 0))] (gS s ts z) K:=⟨s,ts,z,rfl,rfl,h1,h2,hK⟩
attribute [-go_sem] bT b8 bR eD
theorem oK:Meets Tryz.prog 31 mK:=by
  refine aF Tryz.func31 aNY 1 (by rw [Tryz.ntmps31]; decide) (aB pW (aA _)) (fun av H K h=>by obtain ⟨_,_,_,rfl,_⟩:=h; rfl) ?_
  rintro av H K ⟨s,ts,⟨b,o,n⟩,rfl,rfl,he,hn,hK⟩
  unfold e7 at hK
  cases b with
  | true=>
    simp (maxSteps:=1000000) -dsimp only [go_sem,R8,SZ]
    exact .done hK
  | false=>
    simp (maxSteps:=1000000) -dsimp only [go_sem,R8,SZ]
    refine kA he hn ?_
    simp (maxSteps:=1000000) -dsimp only [go_sem]
    exact .done hK
end Go.Proofs.YtkpohmhenegkiaaGreatDoor
namespace Go.Proofs.YtkpohmhenegkiaaGreatDoor
open Go.W
attribute [-go_sem] bT b8 bR eD cC
theorem BR (k:Int) (w:List UInt8) (ts:List Tk) (n:Nat) (t:Tk):rD k w ts n t=bif fC k w t then b9 ts n else n:=rfl
def PM:W.Spec:=fun av H K=>∃ s ts z w,av=[.va (.c1 (.pt 0 0)),tS w]/\H=gS s ts z/\Ends ts/\z.n < ts.length/\K (bS (d8 (bl w) ts z)) (gS s ts (cA (bl w) ts z))
theorem pE {s:Sc} {ts:List Tk} {z:Fs} {w:ByteArray} {K:S->Hp->Prop} (h1:Ends ts) (h2:z.n < ts.length) (hK:K (bS (d8 (bl w) ts z)) (gS s ts (cA (bl w) ts z))):PM [.va (.c1 (.pt 0 0)),tS w] (gS s ts z) K:=⟨s,ts,z,w,rfl,rfl,h1,h2,hK⟩
theorem MN:Meets Tryz.prog 128 PM:=by
  refine aF Tryz.func128 aHF 2 (by rw [Tryz.ntmps128]; decide) (aB aA3 (aA _)) (fun av H K h=>by obtain ⟨_,_,_,_,rfl,_⟩:=h; rfl) ?_
  rintro av H K ⟨s,ts,⟨b,o,n⟩,w,rfl,rfl,he,hn,hK⟩
  unfold cA d8 at hK
  cases b with
  | true=>
    simp (maxSteps:=1000000) -dsimp only [go_sem,MA,ML]
    exact .done hK
  | false=>
    simp (maxSteps:=1000000) -dsimp only [go_sem,MA,ML]
    refine sJ he hn ?_
    rw [BR]
    cases ht:fC 4 (bl w) (bP ts n)<;>rw [ht] at hK<;>(simp (maxSteps:=1000000) -dsimp only [go_sem]; exact .done hK)
def tW:W.Spec:=fun av H K=>∃ s ts z w,av=[.va (.c1 (.pt 0 0)),tS w]/\H=gS s ts z/\Ends ts/\z.n < ts.length/\K (.tu []) (gS s ts (fG (bl w) ts z))
theorem gX {s:Sc} {ts:List Tk} {z:Fs} {w:ByteArray} {K:S->Hp->Prop} (h1:Ends ts) (h2:z.n < ts.length) (hK:K (.tu []) (gS s ts (fG (bl w) ts z))):tW [.va (.c1 (.pt 0 0)),tS w] (gS s ts z) K:=⟨s,ts,z,w,rfl,rfl,h1,h2,hK⟩
theorem IT:Meets Tryz.prog 108 tW:=by
  refine aF Tryz.func108 aHW 2 (by rw [Tryz.ntmps108]; decide) (aB MN (aB oK (aA _))) (fun av H K h=>by obtain ⟨_,_,_,_,rfl,_⟩:=h; rfl) ?_
  rintro av H K ⟨s,ts,z,w,rfl,rfl,he,hn,hK⟩
  simp (maxSteps:=1000000) -dsimp only [go_sem,UJ,UH]
  refine pE he hn ?_
  unfold fG at hK
  cases ht:d8 (bl w) ts z with
  | true=>
    have e:cA (bl w) ts z=⟨false,z.off,b9 ts z.n⟩:=by unfold cA; rw [ht]; rfl
    rw [ht] at hK
    rw [e]
    simp (maxSteps:=1000000) -dsimp only [go_sem]
    exact .done hK
  | false=>
    have e:cA (bl w) ts z=z:=by unfold cA; rw [ht]; rfl
    rw [ht] at hK
    rw [e]
    simp (maxSteps:=1000000) -dsimp only [go_sem]
    refine dO he hn ?_
    simp (maxSteps:=1000000) -dsimp only [go_sem]
    exact .done hK
def KH:W.Spec:=fun av H K=>∃ s ts z k,av=[.va (.c1 (.pt 0 0)),iS .i64 k]/\H=gS s ts z/\Ends ts/\z.n < ts.length/\K (.va (.gs (cW (jJ k ts z)))) (gS s ts (nQ k ts z))
theorem C4 {s:Sc} {ts:List Tk} {z:Fs} {k:Int} {K:S->Hp->Prop} (h1:Ends ts) (h2:z.n < ts.length) (hK:K (.va (.gs (cW (jJ k ts z)))) (gS s ts (nQ k ts z))):KH [.va (.c1 (.pt 0 0)),iS .i64 k] (gS s ts z) K:=⟨s,ts,z,k,rfl,rfl,h1,h2,hK⟩
theorem OT:Meets Tryz.prog 97 KH:=by
  refine aF Tryz.func97 aK1 2 (by rw [Tryz.ntmps97]; decide) (aB pW (aB EK (aB oK (aA _)))) (fun av H K h=>by obtain ⟨_,_,_,_,rfl,_⟩:=h; rfl) ?_
  rintro av H K ⟨s,ts,⟨b,o,n⟩,k,rfl,rfl,he,hn,hK⟩
  unfold jJ nQ iR at hK
  cases b with
  | true=>
    simp (maxSteps:=1000000) -dsimp only [go_sem,QU,S3]
    refine aD rfl (.done ?_)
    simp (maxSteps:=1000000) -dsimp only [go_sem,yY]
    refine dO (z:=⟨true,o,n⟩) he hn ?_
    simp (maxSteps:=1000000) -dsimp only [go_sem]
    refine .sel [0,1] (by simp) (by simp) rfl (.done ?_)
    simp (maxSteps:=1000000) -dsimp only [go_sem]
    exact hK
  | false=>
    simp (maxSteps:=1000000) -dsimp only [go_sem,QU,S3]
    refine kA he hn ?_
    cases ht:(bP ts n).k == k with
    | true=>
      have ht':((bP ts n).k != k)=false:=by rw [bne,ht]; rfl
      rw [ht] at hK
      simp (maxSteps:=1000000) -dsimp only [go_sem,cW,ht']
      refine aD rfl (.done ?_)
      simp (maxSteps:=1000000) -dsimp only [go_sem,GU]
      refine wI he hn ?_
      simp (maxSteps:=1000000) -dsimp only [go_sem]
      refine .sel [0,1] (by simp) (by simp) rfl (.done ?_)
      simp (maxSteps:=1000000) -dsimp only [go_sem]
      exact hK
    | false=>
      have ht':((bP ts n).k != k)=true:=by rw [bne,ht]; rfl
      rw [ht] at hK
      simp (maxSteps:=1000000) -dsimp only [go_sem,cW,ht']
      refine aD rfl (.done ?_)
      simp (maxSteps:=1000000) -dsimp only [go_sem,yY]
      refine dO (z:=⟨false,o,n⟩) he hn ?_
      simp (maxSteps:=1000000) -dsimp only [go_sem]
      refine .sel [0,1] (by simp) (by simp) rfl (.done ?_)
      simp (maxSteps:=1000000) -dsimp only [go_sem]
      exact hK
end Go.Proofs.YtkpohmhenegkiaaGreatDoor
namespace Go.Proofs.YtkpohmhenegkiaaGreatDoor
open Go.W
attribute [-go_sem] bT b8 bR eD cC
def tU:List UInt8:=[116,114,117,101]
def o5:List UInt8:=[102,97,108,115,101]
def iF (ts:List Tk) (z:Fs):Vl × Fs:=
  bif !z.bad && fC 1 tU (bP ts z.n) then (.mk 1 1 (mk []) [] [],⟨false,z.off,b9 ts z.n⟩)
  else bif !z.bad && fC 1 o5 (bP ts z.n) then (.mk 1 0 (mk []) [] [],⟨false,z.off,b9 ts z.n⟩)
  else (.mk 1 0 (mk []) [] [],e7 ts z)
def TD (k:Int) (ts:List Tk) (z:Fs):Vl × Fs:=(.mk k (jJ 2 ts z).n (mk []) [] [],nQ 2 ts z)
def MH (ts:List Tk) (z:Fs):Vl × Fs:=(.mk 4 0 (mk (jJ 3 ts z).x) [] [],nQ 3 ts z)
def lL (e:En) (ts:List Tk) (z:Fs):Int:=bif !z.bad && (bP ts z.n).k == 1 then i6 e.ns (mk (bP ts z.n).x) 0 else -1
def iE (e:En) (ts:List Tk) (z:Fs):Vl × Fs:=
  bif decide (lL e ts z < 0) || decide ((e.vs.length:Int)<=lL e ts z) then (.mk 7 0 (mk []) [] [],e7 ts z)
  else (.mk 7 (e.vs.getD (lL e ts z).toNat 0) (mk []) [] [],⟨false,z.off,b9 ts z.n⟩)
def n8 (D:Sc->Ty->Prop) (P:Sc->List Tk->Ty->Fs->Vl × Fs):W.Spec:=fun av H K=>∃ s ts t z,av=[.va (.c1 (.pt 0 0)),.va (.gs (aM t))]/\H=gS s ts z/\s.fit/\TyOk t/\Tks ts/\z.n < ts.length/\D s t/\K (.va (.gs (aV (P s ts t z).1))) (gS s ts (P s ts t z).2)
theorem oS {D:Sc->Ty->Prop} {P:Sc->List Tk->Ty->Fs->Vl × Fs}:∀ av H K,n8 D P av H K->av.length=2:=fun av H K h=>by obtain ⟨_,_,_,_,rfl,_⟩:=h; rfl
theorem HI:Meets Tryz.prog 65 (n8 (fun _ _=>True) fun _ ts t z=>TD t.k ts z):=by
  refine aF Tryz.func65 aKW 2 (by rw [Tryz.ntmps65]; decide) (aB OT (aA _)) oS ?_
  rintro av H K ⟨s,ts,t,z,rfl,rfl,hs,ht,hts,hn,_,hK⟩
  simp (maxSteps:=1000000) -dsimp only [go_sem,aH t,aBK,aEJ]
  refine C4 hts.e hn ?_
  simp (maxSteps:=1000000) -dsimp only [go_sem,cW]
  refine .sel [0,1] (by simp) (by simp) rfl (.done ?_)
  simp (maxSteps:=1000000) -dsimp only [go_sem]
  exact hK
theorem M2:Meets Tryz.prog 57 (n8 (fun _ _=>True) fun _ ts _ z=>MH ts z):=by
  refine aF Tryz.func57 aKJ 2 (by rw [Tryz.ntmps57]; decide) (aB OT (aA _)) oS ?_
  rintro av H K ⟨s,ts,t,z,rfl,rfl,hs,ht,hts,hn,_,hK⟩
  simp (maxSteps:=1000000) -dsimp only [go_sem,aH t,aDM,aEI]
  refine C4 hts.e hn ?_
  simp (maxSteps:=1000000) -dsimp only [go_sem,cW]
  refine .sel [0,1] (by simp) (by simp) rfl (.done ?_)
  simp (maxSteps:=1000000) -dsimp only [go_sem]
  exact hK
theorem MG:Meets Tryz.prog 55 (n8 (fun _ _=>True) fun _ ts _ z=>iF ts z):=by
  refine aF Tryz.func55 aNX 2 (by rw [Tryz.ntmps55]; decide) (aB aER (aB oK (aA _))) oS ?_
  rintro av H K ⟨s,ts,t,⟨b,o,n⟩,rfl,rfl,hs,ht,hts,hn,_,hK⟩
  have hK:K (.va (.gs (aV (iF ts ⟨b,o,n⟩).1))) (gS s ts (iF ts ⟨b,o,n⟩).2):=hK
  cases b with
  | true=>
    simp (maxSteps:=1000000) -dsimp only [go_sem,aH t,SE,RC]
    refine aD rfl (.done ?_)
    simp (maxSteps:=1000000) -dsimp only [go_sem,y9]
    refine aD rfl (.done ?_)
    simp (maxSteps:=1000000) -dsimp only [go_sem,w5]
    refine dO (z:=⟨true,o,n⟩) hts.e hn ?_
    simp (maxSteps:=1000000) -dsimp only [go_sem]
    refine aD rfl (.done ?_)
    simp (maxSteps:=1000000) -dsimp only [go_sem,oT]
    refine .sel [0,1] (by simp) (by simp) rfl (.done ?_)
    simp (maxSteps:=1000000) -dsimp only [go_sem]
    exact hK
  | false=>
    simp (maxSteps:=1000000) -dsimp only [go_sem,aH t,SE,RC]
    refine sJ hts.e hn ?_
    rw [BR]
    rw [show bl (mk [116,114,117,101])=tU from rfl]
    cases h1:fC 1 tU (bP ts n) with
    | true=>
      rw [show iF ts ⟨false,o,n⟩=(.mk 1 1 (mk []) [] [],⟨false,o,b9 ts n⟩) by simp [iF,h1]] at hK
      simp (maxSteps:=1000000) -dsimp only [go_sem]
      refine aD rfl (.done ?_)
      simp (maxSteps:=1000000) -dsimp only [go_sem,GM]
      refine aD rfl (.done ?_)
      simp (maxSteps:=1000000) -dsimp only [go_sem,oT]
      refine .sel [0,1] (by simp) (by simp) rfl (.done ?_)
      simp (maxSteps:=1000000) -dsimp only [go_sem]
      exact hK
    | false=>
      simp (maxSteps:=1000000) -dsimp only [go_sem]
      refine aD rfl (.done ?_)
      simp (maxSteps:=1000000) -dsimp only [go_sem,y9]
      refine sJ hts.e hn ?_
      rw [BR]
      rw [show bl (mk [102,97,108,115,101])=o5 from rfl]
      cases h2:fC 1 o5 (bP ts n) with
      | true=>
        rw [show iF ts ⟨false,o,n⟩=(.mk 1 0 (mk []) [] [],⟨false,o,b9 ts n⟩) by simp [iF,h1,h2]] at hK
        simp (maxSteps:=1000000) -dsimp only [go_sem]
        refine aD rfl (.done ?_)
        simp (maxSteps:=1000000) -dsimp only [go_sem,oT]
        refine .sel [0,1] (by simp) (by simp) rfl (.done ?_)
        simp (maxSteps:=1000000) -dsimp only [go_sem]
        exact hK
      | false=>
        rw [show iF ts ⟨false,o,n⟩=(.mk 1 0 (mk []) [] [],e7 ts ⟨false,o,n⟩) by simp [iF,h1,h2]] at hK
        simp (maxSteps:=1000000) -dsimp only [go_sem]
        refine aD rfl (.done ?_)
        simp (maxSteps:=1000000) -dsimp only [go_sem,w5]
        refine dO (z:=⟨false,o,n⟩) hts.e hn ?_
        simp (maxSteps:=1000000) -dsimp only [go_sem]
        refine aD rfl (.done ?_)
        simp (maxSteps:=1000000) -dsimp only [go_sem,oT]
        refine .sel [0,1] (by simp) (by simp) rfl (.done ?_)
        simp (maxSteps:=1000000) -dsimp only [go_sem]
        exact hK
theorem PZ:∀ (l:List ByteArray) (x:ByteArray) (i:Nat),-1<=i6 l x i/\i6 l x i < (l.length:Int) + i
  | [],_,_=>⟨by simp [i6],by simp only [i6,List.length_nil]; omega⟩
  | y :: l,x,i=>by
    have:=PZ l x (i + 1)
    rw [i6]
    cases decide (x=y) with
    | true=>exact ⟨by simp only [Bool.cond_true]; omega,by simp only [Bool.cond_true,List.length_cons]; omega⟩
    | false=>exact ⟨by simp only [Bool.cond_false]; omega,by simp only [Bool.cond_false,List.length_cons]; omega⟩
theorem LT:Meets Tryz.prog 59 (n8 (fun _ _=>True) fun s ts t z=>iE ((bW s.es t.n).getD default) ts z):=by
  refine aF Tryz.func59 aLZ 2 (by rw [Tryz.ntmps59]; decide) (aB wX (aB pW (aB EK (aG Z1 (aB oK (aA _)))))) oS ?_
  rintro av H K ⟨s,ts,t,⟨b,o,n⟩,rfl,rfl,hs,ht,hts,hn,_,hK0⟩
  obtain ⟨e,hE⟩:∃ e,(bW s.es t.n).getD default=e:=⟨_,rfl⟩
  have he:e.ok:=by
    rw [<-hE]
    cases h:bW s.es t.n with
    | none=>exact ⟨by decide,by decide,by decide,fun _ h=>(by cases h),fun _ h=>(by cases h)⟩
    | some e=>exact hs.ok.es e (List.mem_of_find?_eq_some h)
  have hK:K (.va (.gs (aV (iE e ts ⟨b,o,n⟩).1))) (gS s ts (iE e ts ⟨b,o,n⟩).2):=by
    have:=hK0; simp only [hE] at this; exact this
  clear hK0
  have hlv:=he.lv
  have hln:=he.ln
  have hvs:=he.vs
  simp (maxSteps:=1000000) -dsimp only [go_sem,aH t,aE,Z3,aC6]
  refine iY hs ?_
  rw [hE]
  simp (maxSteps:=1000000) -dsimp only [go_sem,aX]
  refine aD rfl (.done ?_)
  have g0:decide ((-1:Int) < 0)=true:=rfl
  cases b with
  | true=>
    simp (maxSteps:=1000000) -dsimp only [go_sem,z7]
    refine aD rfl (.done ?_)
    simp (maxSteps:=1000000) -dsimp only [go_sem,mT,g0,Bool.true_or]
    refine aD rfl (.done ?_)
    simp (maxSteps:=1000000) -dsimp only [go_sem,oP]
    refine dO (z:=⟨true,o,n⟩) hts.e hn ?_
    simp (maxSteps:=1000000) -dsimp only [go_sem]
    refine aD rfl (.done ?_)
    simp (maxSteps:=1000000) -dsimp only [go_sem,oQ]
    refine .sel [0,1] (by simp) (by simp) rfl (.done ?_)
    simp (maxSteps:=1000000) -dsimp only [go_sem]
    rw [show iE e ts ⟨true,o,n⟩=(.mk 7 0 (mk []) [] [],e7 ts ⟨true,o,n⟩) by simp [iE,lL]] at hK
    exact hK
  | false=>
    simp (maxSteps:=1000000) -dsimp only [go_sem,z7]
    refine kA hts.e hn ?_
    cases hk:(bP ts n).k == 1 with
    | false=>
      simp (maxSteps:=1000000) -dsimp only [go_sem,cW,hk]
      refine aD rfl (.done ?_)
      simp (maxSteps:=1000000) -dsimp only [go_sem,mT,g0,Bool.true_or]
      refine aD rfl (.done ?_)
      simp (maxSteps:=1000000) -dsimp only [go_sem,oP]
      refine dO (z:=⟨false,o,n⟩) hts.e hn ?_
      simp (maxSteps:=1000000) -dsimp only [go_sem]
      refine aD rfl (.done ?_)
      simp (maxSteps:=1000000) -dsimp only [go_sem,oQ]
      refine .sel [0,1] (by simp) (by simp) rfl (.done ?_)
      simp (maxSteps:=1000000) -dsimp only [go_sem]
      rw [show iE e ts ⟨false,o,n⟩=(.mk 7 0 (mk []) [] [],e7 ts ⟨false,o,n⟩) by simp [iE,lL,hk]] at hK
      exact hK
    | true=>
      simp (maxSteps:=1000000) -dsimp only [go_sem,cW,hk]
      refine aD rfl (.done ?_)
      simp (maxSteps:=1000000) -dsimp only [go_sem,FC]
      refine kA hts.e hn ?_
      simp (maxSteps:=1000000) -dsimp only [go_sem,cW,s4 hln,aAM]
      have hi:lL e ts ⟨false,o,n⟩=i6 e.ns (mk (bP ts n).x) 0:=by simp [lL,hk]
      have hlo:=(PZ e.ns (mk (bP ts n).x) 0).1
      have hpE:iE e ts ⟨false,o,n⟩=bif decide (i6 e.ns (mk (bP ts n).x) 0 < 0) || decide ((e.vs.length:Int)<=i6 e.ns (mk (bP ts n).x) 0) then (.mk 7 0 (mk []) [] [],e7 ts ⟨false,o,n⟩)
          else (.mk 7 (e.vs.getD (i6 e.ns (mk (bP ts n).x) 0).toNat 0) (mk []) [] [],⟨false,o,b9 ts n⟩):=by unfold iE; rw [hi]
      rw [hpE] at hK
      clear hpE hi
      obtain ⟨k,hkk⟩:∃ k,i6 e.ns (mk (bP ts n).x) 0=k:=⟨_,rfl⟩
      rw [hkk] at hK hlo
      cases h1:decide (k < 0) with
      | true=>
        rw [h1] at hK
        refine aD rfl (.done ?_)
        simp (maxSteps:=1000000) -dsimp only [go_sem,mT,hkk,h1,Bool.true_or]
        refine aD rfl (.done ?_)
        simp (maxSteps:=1000000) -dsimp only [go_sem,oP]
        refine dO (z:=⟨false,o,n⟩) hts.e hn ?_
        simp (maxSteps:=1000000) -dsimp only [go_sem]
        refine aD rfl (.done ?_)
        simp (maxSteps:=1000000) -dsimp only [go_sem,oQ]
        refine .sel [0,1] (by simp) (by simp) rfl (.done ?_)
        simp (maxSteps:=1000000) -dsimp only [go_sem]
        rw [Bool.true_or] at hK
        exact hK
      | false=>
      rw [h1] at hK
      cases h2:decide ((e.vs.length:Int)<=k) with
      | true=>
        rw [h2] at hK
        refine aD rfl (.done ?_)
        simp (maxSteps:=1000000) -dsimp only [go_sem,mT,hkk,h1,h2,Bool.or_false,Bool.or_true]
        refine aD rfl (.done ?_)
        simp (maxSteps:=1000000) -dsimp only [go_sem,oP]
        refine dO (z:=⟨false,o,n⟩) hts.e hn ?_
        simp (maxSteps:=1000000) -dsimp only [go_sem]
        refine aD rfl (.done ?_)
        simp (maxSteps:=1000000) -dsimp only [go_sem,oQ]
        refine .sel [0,1] (by simp) (by simp) rfl (.done ?_)
        simp (maxSteps:=1000000) -dsimp only [go_sem]
        rw [Bool.or_true] at hK
        exact hK
      | false=>
      rw [h2] at hK
      have h1':0<=k:=by simpa using h1
      have h2':k < (e.vs.length:Int):=by simpa using h2
      obtain ⟨m,rfl⟩:∃ m:Nat,k=m:=⟨k.toNat,by omega⟩
      have hm:m < e.vs.length:=by omega
      have hx:e.vs[m]? = some e.vs[m]:=List.getElem?_eq_getElem hm
      have q2:=aO (row:=bU) hx
      have hv:e.vs.getD ((m:Int)).toNat 0=e.vs[m]:=by simp [List.getD_eq_getElem?_getD,hx]
      rw [hv] at hK
      have hin:=hvs _ (List.getElem_mem hm)
      generalize e.vs[m]=y at *
      refine aD rfl (.done ?_)
      simp (maxSteps:=1000000) -dsimp only [go_sem,mT,hkk,h1,h2,Bool.or_false,Bool.or_true]
      refine aD rfl (.done ?_)
      simp (maxSteps:=1000000) -dsimp only [go_sem,HP]
      refine wI hts.e hn ?_
      simp (maxSteps:=1000000) -dsimp only [go_sem]
      refine aD rfl (.done ?_)
      simp (maxSteps:=1000000) -dsimp only [go_sem,AM,↓q2]
      refine ⟨⟨by omega,by omega⟩,aD rfl (.done ?_)⟩
      simp (maxSteps:=1000000) -dsimp only [go_sem,BO]
      refine .sel [0,1] (by simp) (by simp) rfl (.done ?_)
      simp (maxSteps:=1000000) -dsimp only [go_sem]
      exact hK
end Go.Proofs.YtkpohmhenegkiaaGreatDoor
namespace Go.Proofs.YtkpohmhenegkiaaGreatDoor
open Go.W
attribute [-go_sem] bT b8 bR eD cC
abbrev Prs:Type:=Sc->List Tk->Ty->Fs->Vl × Fs
def gV (D:Sc->Ty->Prop) (P:Prs) (f:FuncId):W.Spec:=n8 (fun s t=>D s t/\fX t.k=f) P
def x8 (D:Sc->Ty->Prop) (P:Prs):bX:=[(24,.s lR),(55,.s (gV D P 55)),(57,.s (gV D P 57)),(59,.s (gV D P 59)),
  (61,.s (gV D P 61)),(63,.s (gV D P 63)),(65,.s (gV D P 65))]
structure ParsM (D:Sc->Ty->Prop) (P:Prs):Prop where
  b:Meets Tryz.prog 55 (gV D P 55)
  t:Meets Tryz.prog 57 (gV D P 57)
  e:Meets Tryz.prog 59 (gV D P 59)
  l:Meets Tryz.prog 61 (gV D P 61)
  s:Meets Tryz.prog 63 (gV D P 63)
  n:Meets Tryz.prog 65 (gV D P 65)
theorem n9 {D:Sc->Ty->Prop} {P:Prs} (h:ParsM D P):cX Tryz.prog (x8 D P):=
  aB mOf (aB h.b (aB h.t (aB h.e (aB h.l (aB h.s (aB h.n (aA _)))))))
theorem SH (D:Sc->Ty->Prop) (P:Prs):sp (x8 D P) 24=lR:=rfl
theorem PV (D:Sc->Ty->Prop) (P:Prs) (k:Int):sp (x8 D P) (fX k)=gV D P (fX k):=by
  unfold fX
  cases k == 1<;>cases k == 4<;>cases k == 7<;>cases k == 5<;>cases k == 6<;>rfl
theorem E8 {D:Sc->Ty->Prop} {P:Prs} {s:Sc} {ts:List Tk} {t:Ty} {z:Fs} {K:S->Hp->Prop} (h1:s.fit) (h2:TyOk t) (h3:Tks ts) (h4:z.n < ts.length) (h5:D s t) (hK:K (.va (.gs (aV (P s ts t z).1))) (gS s ts (P s ts t z).2)):gV D P (fX t.k) [.va (.c1 (.pt 0 0)),.va (.gs [.vl (.int .i64 t.k),.vl (.int .i64 t.s),.vl (.string t.n),.fz (t.e.map aM)])] (gS s ts z) K:=⟨s,ts,t,z,by rw [aH],rfl,h1,h2,h3,h4,⟨h5,rfl⟩,hK⟩
abbrev uO (s:Sc) (ts:List Tk) (t:Ty) (l:List Vl) (z:Fs):Hp:=[OF s z.bad z.off,gT 114 ts z.n,.cells [.pt 0 0] 59,.cells [.vl (.int .i64 t.k),.vl (.int .i64 t.s),.vl (.string t.n),.fz (t.e.map aM)] 28,
  .cells [.vl (.int .i64 5),.vl (.int .i64 0),.vl (.string (mk [])),.sl 5 l.length,.vl (.slice none 0 0)] 32,.row (l.map aV) 32 5]
def VI (D:Sc->Ty->Prop) (P:Prs):W.Spec:=fun av H K=>∃ s ts t u l z,av=[.va (.c1 (.pt 4 0)),.va (.c1 (.pt 3 0)),.va (.c1 (.pt 2 0))]/\H=uO s ts t l z/\s.fit/\TyOk u/\Tks ts/\z.n < ts.length/\t.e=[u]/\D s u/\(l.length + 1) * 80<=140737488355328/\
  K (.tu []) (uO s ts t (l ++ [(P s ts u z).1]) (P s ts u z).2)
theorem X3 {D:Sc->Ty->Prop} {P:Prs} {s:Sc} {ts:List Tk} {t u:Ty} {l:List Vl} {z:Fs} {K:S->Hp->Prop} (h1:s.fit) (h2:TyOk u) (h3:Tks ts) (h4:z.n < ts.length) (h5:t.e=[u]) (h6:D s u) (h7:(l.length + 1) * 80<=140737488355328)
    (hK:K (.tu []) (uO s ts t (l ++ [(P s ts u z).1]) (P s ts u z).2)):VI D P [.va (.c1 (.pt 4 0)),.va (.c1 (.pt 3 0)),.va (.c1 (.pt 2 0))] (uO s ts t l z) K:=⟨s,ts,t,u,l,z,rfl,rfl,h1,h2,h3,h4,h5,h6,h7,hK⟩
theorem aGK {D:Sc->Ty->Prop} {P:Prs} (hP:ParsM D P):Meets Tryz.prog 102 (VI D P):=by
  refine aF Tryz.func102 aH3 3 (by rw [Tryz.ntmps102]; decide) (n9 hP) (fun av H K h=>by obtain ⟨_,_,_,_,_,_,rfl,_⟩:=h; rfl) ?_
  rintro av H K ⟨s,ts,t,u,l,z,rfl,rfl,hs,hu,hts,hn,he,hD,hl,hK⟩
  have z0:(0:Int) < ((1:Nat):Int):=by decide
  have z1:(0:Int)<=0:=by decide
  simp (maxSteps:=1000000) -dsimp only [go_sem,he,aH u,T7,TX,SH,PV,forall_eq',z0,z1,List.length_cons,List.length_nil,List.take_succ_cons,List.take_zero]
  refine E8 hs hu hts hn hD ?_
  generalize P s ts u z=r at *
  obtain ⟨v,z'⟩:=r
  have ha:∀ {x r:List C},(l.map aV ++ [x])[l.length]? = some r->r=x:=fun {x r} h=>by
    have h0:l.length=(l.map aV).length:=by simp
    rw [h0,List.getElem?_concat_length] at h
    exact (Option.some.inj h).symm
  have hb:∀ x:List C,(l.map aV ++ [x]).set l.length (aV v)=(l ++ [v]).map aV:=fun x=>by
    rw [List.set_append_right _ _ (by simp)]
    simp
  rw [aI] at hb
  simp (maxSteps:=1000000) -dsimp only [go_sem,he,aH u,aI v]
  have fin:∀ {r x:List C} (y:B),r=[.vl (.int .i64 0),.vl (.int .i64 0),.vl (.string (mk [])),.vl (.slice none 0 0),.vl (.slice none 0 0)]->W.Fin 6 K (.tu []) [OF s z'.bad z'.off,gT 114 ts z'.n,.cells [.pt 0 0] 59,.cells [.vl (.int .i64 t.k),.vl (.int .i64 t.s),.vl (.string t.n),.fz [[.vl (.int .i64 u.k),.vl (.int .i64 u.s),.vl (.string u.n),.fz (u.e.map aM)]]] 28,
      .cells [.vl (.int .i64 5),.vl (.int .i64 0),.vl (.string (mk [])),.sl 5 (l.length + 1),.vl (.slice none 0 0)] 32,.row ((l.map aV ++ [x]).set l.length (.vl (.int .i64 v.k) :: .vl (.int .i64 v.n) :: .vl (.string v.s) :: .fz (v.l.map aV) :: .fz (v.f.map aY) :: List.drop 5 r)) 32 5,y]:=fun {r x} y hr=>by
    subst hr
    refine .sel [0,1,2,3,4,5] (by simp) (by simp) rfl (.done ?_)
    rw [show List.drop 5 [C.vl (.int .i64 0),C.vl (.int .i64 0),C.vl (.string (mk [])),C.vl (.slice none 0 0),C.vl (.slice none 0 0)]=[] from rfl,hb x]
    simp (maxSteps:=1000000) -dsimp only [go_sem]
    have e:(l ++ [v]).length=l.length + 1:=by simp
    rw [<-e]
    have:=hK
    unfold uO at this
    rw [he] at this
    simp only [aH u,List.map_cons,List.map_nil,List.map_append] at this
    exact this
  exact ⟨hl,⟨by omega,by omega⟩,⟨by omega,fun r hr=>fin _ (ha hr)⟩,⟨by omega,by omega⟩,by omega,fun r hr=>fin _ (ha hr)⟩
end Go.Proofs.YtkpohmhenegkiaaGreatDoor
namespace Go.Proofs.YtkpohmhenegkiaaGreatDoor
open Go.W
attribute [-go_sem] bT b8 bR eD cC
def lM {α:Type} (one:α->Fs->α × Fs) (ts:List Tk):Nat->α->Fs->α × Fs
  | 0,a,z=>(a,z)
  | f + 1,a,z=>bif z.bad then (a,z) else bif d8 [44] ts (one a z).2 then lM one ts f (one a z).1 (cA [44] ts (one a z).2) else one a z
theorem nS {α:Type} (one:α->Fs->α × Fs) (ts:List Tk) (f:Nat) (a:α) (z:Fs):lM one ts (f + 1) a z=bif z.bad then (a,z) else bif d8 [44] ts (one a z).2 then lM one ts f (one a z).1 (cA [44] ts (one a z).2) else one a z:=rfl
def fT {α:Type} (one:α->Fs->α × Fs) (op sh:List UInt8) (ts:List Tk) (a:α) (z:Fs):α × Fs:=
  bif d8 sh ts (fG op ts z) then (a,cA sh ts (fG op ts z))
  else ((lM one ts (ts.length + 1) a (fG op ts z)).1,fG sh ts (lM one ts (ts.length + 1) a (fG op ts z)).2)
theorem LE {w:List UInt8} {ts:List Tk} {z:Fs} (he:Ends ts) (hn:z.n < ts.length) (h:d8 w ts z=true):b9 ts z.n=z.n + 1/\z.n + 1 < ts.length/\z.bad=false:=by
  unfold d8 at h
  rw [Bool.and_eq_true] at h
  obtain ⟨h1,h2⟩:=h
  have hb:z.bad=false:=by cases hb:z.bad with
    | false=>rfl
    | true=>rw [hb] at h1; cases h1
  have hk:(bP ts z.n).k=4:=by
    unfold fC at h2
    rw [Bool.and_eq_true] at h2
    exact eq_of_beq h2.1
  have hne:¬ (z.n + 1=ts.length):=fun e=>by
    have:=(he.last _ _ (m0 hn)).2 e
    rw [hk] at this; cases this
  have hlt:z.n + 1 < ts.length:=by omega
  exact ⟨if_pos hlt,hlt,hb⟩
theorem lG {ts:List Tk} {n:Nat} (h:n < ts.length):n<=b9 ts n/\b9 ts n < ts.length:=by
  unfold b9; split<;>omega
theorem s0 (ts:List Tk) (z:Fs):(e7 ts z).n=z.n:=by unfold e7; cases z.bad<;>rfl
theorem jC {w:List UInt8} {ts:List Tk} {z:Fs} (h:z.n < ts.length):z.n<=(fG w ts z).n/\(fG w ts z).n < ts.length:=by
  unfold fG
  cases d8 w ts z
  · rw [Bool.cond_false,s0]; exact ⟨Nat.le_refl _,h⟩
  · exact lG h
theorem AJ {w:List UInt8} {ts:List Tk} {z:Fs} (h:z.n < ts.length):z.n<=(cA w ts z).n/\(cA w ts z).n < ts.length:=by
  unfold cA
  cases d8 w ts z
  · exact ⟨Nat.le_refl _,h⟩
  · exact lG h
def FB {α:Type} (one:α->Fs->α × Fs) (ts:List Tk):Prop:=∀ a z,z.n < ts.length->z.n<=(one a z).2.n/\(one a z).2.n < ts.length
theorem O3 {α:Type} {one:α->Fs->α × Fs} {ts:List Tk} (ho:FB one ts):∀ (f:Nat) (a:α) (z:Fs),z.n < ts.length->z.n<=(lM one ts f a z).2.n/\(lM one ts f a z).2.n < ts.length
  | 0,a,z,h=>⟨Nat.le_refl _,h⟩
  | f + 1,a,z,h=>by
    rw [nS]
    cases z.bad
    · have h1:=ho a z h
      cases d8 [44] ts (one a z).2
      · exact h1
      · have h2:=AJ (w:=[44]) h1.2
        have h3:=O3 ho f (one a z).1 _ h2.2
        exact ⟨Nat.le_trans h1.1 (Nat.le_trans h2.1 h3.1),h3.2⟩
    · exact ⟨Nat.le_refl _,h⟩
theorem N8 {α:Type} {one:α->Fs->α × Fs} {ts:List Tk} (ho:FB one ts) (op sh:List UInt8) (a:α) (z:Fs) (h:z.n < ts.length):z.n<=(fT one op sh ts a z).2.n/\(fT one op sh ts a z).2.n < ts.length:=by
  unfold fT
  have h1:=jC (w:=op) h
  cases d8 sh ts (fG op ts z)
  · have h2:=O3 ho (ts.length + 1) a _ h1.2
    have h3:=jC (w:=sh) h2.2
    exact ⟨Nat.le_trans h1.1 (Nat.le_trans h2.1 h3.1),h3.2⟩
  · have h2:=AJ (w:=sh) h1.2
    exact ⟨Nat.le_trans h1.1 h2.1,h2.2⟩
def jS (P:Prs) (s:Sc) (ts:List Tk) (u:Ty):List Vl->Fs->List Vl × Fs:=fun l z=>(l ++ [(P s ts u z).1],(P s ts u z).2)
abbrev TO:S:=.va (.c1 (.fn 102 [(false,[.pt 4 0]),(false,[.pt 3 0]),(false,[.pt 2 0])]))
def W2 (D:Sc->Ty->Prop) (P:Prs):W.Spec:=fun av H K=>∃ s ts t u z op sh,av=[.va (.c1 (.pt 0 0)),tS op,tS sh,TO]/\H=uO s ts t [] z/\s.fit/\TyOk u/\Tks ts/\z.n < ts.length/\t.e=[u]/\D s u/\
  K (.tu []) (uO s ts t (fT (jS P s ts u) (bl op) (bl sh) ts [] z).1 (fT (jS P s ts u) (bl op) (bl sh) ts [] z).2)
theorem X5 {D:Sc->Ty->Prop} {P:Prs} {s:Sc} {ts:List Tk} {t u:Ty} {z:Fs} {op sh:ByteArray} {K:S->Hp->Prop} (h1:s.fit) (h2:TyOk u) (h3:Tks ts) (h4:z.n < ts.length) (h5:t.e=[u]) (h6:D s u)
    (hK:K (.tu []) (uO s ts t (fT (jS P s ts u) (bl op) (bl sh) ts [] z).1 (fT (jS P s ts u) (bl op) (bl sh) ts [] z).2)):W2 D P [.va (.c1 (.pt 0 0)),tS op,tS sh,TO] (uO s ts t [] z) K:=⟨s,ts,t,u,z,op,sh,rfl,rfl,h1,h2,h3,h4,h5,h6,hK⟩
def Prs.onw (P:Prs):Prop:=∀ s ts t z,z.n < ts.length->z.n<=(P s ts t z).2.n/\(P s ts t z).2.n < ts.length
theorem ZV {D:Sc->Ty->Prop} {P:Prs} (hP:ParsM D P) (hO:P.onw):Meets Tryz.prog 101 (W2 D P):=by
  refine aF Tryz.func101 aGY 4 (by rw [Tryz.ntmps101]; decide) (aB IT (aB MN (aB (aGK hP) (aA _)))) (fun av H K h=>by obtain ⟨_,_,_,_,_,_,_,rfl,_⟩:=h; rfl) ?_
  rintro av H K ⟨s,ts,t,u,z,op,sh,rfl,rfl,hs,hu,hts,hn,he,hD,hK⟩
  have onw:FB (jS P s ts u) ts:=fun a z h=>hO s ts u z h
  have hl0:=hts.e.le
  unfold fT at hK
  simp (maxSteps:=1000000) -dsimp only [go_sem,V1,T0]
  refine gX hts.e hn ?_
  have hn1:=(jC (w:=bl op) hn).2
  generalize fG (bl op) ts z=z1 at *
  simp (maxSteps:=1000000) -dsimp only [go_sem]
  refine aD rfl (.done ?_)
  simp (maxSteps:=1000000) -dsimp only [go_sem,BK]
  refine pE hts.e hn1 ?_
  cases hh:d8 (bl sh) ts z1 with
  | true=>
    rw [hh] at hK
    simp (maxSteps:=1000000) -dsimp only [go_sem]
    refine .sel [0,1,2,3,4,5] (by simp) (by simp) rfl (.done ?_)
    simp (maxSteps:=1000000) -dsimp only [go_sem]
    exact hK
  | false=>
  rw [hh] at hK
  rw [show cA (bl sh) ts z1=z1 by unfold cA; rw [hh]; rfl]
  simp (maxSteps:=1000000) -dsimp only [go_sem]
  refine aD rfl (.done ?_)
  simp (maxSteps:=1000000) -dsimp only [go_sem,AZ]
  refine aK (α:=Nat × Bool × List Vl × Fs) (fun x=>[(0,.va (.c1 (.pt 0 0))),(2,tS sh),(3,TO),(8,bS x.2.1)]) (fun x=>uO s ts t x.2.2.1 x.2.2.2)
    (fun x=>x.2.2.2.n < ts.length/\x.2.2.1.length + x.1<=ts.length + 1/\(x.2.1=true->ts.length < x.2.2.2.n + x.1)/\(bif x.2.1 then lM (jS P s ts u) ts x.1 x.2.2.1 x.2.2.2 else (x.2.2.1,x.2.2.2))=lM (jS P s ts u) ts (ts.length + 1) [] z1)
    (fun x=>x.1) (ts.length + 1,true,[],z1) 6 ⟨hn1,by simp,fun _=>by omega,rfl⟩ ?_ ?_ ?_
  · simp -dsimp only [go_sem]<;>simp
  · simp -dsimp only [go_sem]<;>simp
  rintro ⟨f,m,l,z⟩ ⟨h1,h2,h3,h4⟩
  simp only at h1 h2 h3 h4
  cases m with
  | false=>
    rw [Bool.cond_false] at h4
    rw [<-h4] at hK
    simp (maxSteps:=1000000) -dsimp only [go_sem]
    refine aD rfl (.done ?_)
    simp (maxSteps:=1000000) -dsimp only [go_sem,tY]
    refine gX (z:=z) hts.e h1 ?_
    simp (maxSteps:=1000000) -dsimp only [go_sem]
    refine .sel [0,1,2,3,4,5] (by simp) (by simp) rfl (.done ?_)
    simp (maxSteps:=1000000) -dsimp only [go_sem]
    exact hK
  | true=>
    rw [Bool.cond_true] at h4
    have h3:=h3 rfl
    obtain ⟨f,rfl⟩:∃ g,f=g + 1:=⟨f - 1,by omega⟩
    rw [nS] at h4
    obtain ⟨b,o,n⟩:=z
    cases b with
    | true=>
      rw [Bool.cond_true] at h4
      rw [<-h4] at hK
      simp (maxSteps:=1000000) -dsimp only [go_sem]
      refine aD rfl (.done ?_)
      simp (maxSteps:=1000000) -dsimp only [go_sem,tY]
      refine gX (z:=⟨true,o,n⟩) hts.e h1 ?_
      simp (maxSteps:=1000000) -dsimp only [go_sem]
      refine .sel [0,1,2,3,4,5] (by simp) (by simp) rfl (.done ?_)
      simp (maxSteps:=1000000) -dsimp only [go_sem]
      exact hK
    | false=>
      rw [Bool.cond_false] at h4
      simp (maxSteps:=1000000) -dsimp only [go_sem]
      refine X3 (z:=⟨false,o,n⟩) hs hu hts h1 he hD (by omega) ?_
      have h5:=onw l ⟨false,o,n⟩ h1
      have e1:jS P s ts u l ⟨false,o,n⟩=(l ++ [(P s ts u ⟨false,o,n⟩).1],(P s ts u ⟨false,o,n⟩).2):=rfl
      rw [e1] at h4 h5
      generalize P s ts u ⟨false,o,n⟩=r at *
      obtain ⟨v,z'⟩:=r
      simp only at h4 h5
      simp (maxSteps:=1000000) -dsimp only [go_sem]
      refine aD rfl (.done ?_)
      simp (maxSteps:=1000000) -dsimp only [go_sem,AI]
      refine pE (z:=z') hts.e h5.2 ?_
      cases hc:d8 (bl (mk [44])) ts z' with
      | true=>
        obtain ⟨g1,g2,g3⟩:=LE hts.e h5.2 hc
        have hc':d8 [44] ts z'=true:=hc
        rw [hc',Bool.cond_true] at h4
        have e2:cA (bl (mk [44])) ts z'=⟨false,z'.off,b9 ts z'.n⟩:=by unfold cA; rw [hc]; rfl
        have e3:cA [44] ts z'=⟨false,z'.off,b9 ts z'.n⟩:=e2
        rw [e3] at h4
        rw [e2]
        simp (maxSteps:=1000000) -dsimp only [go_sem]
        refine aC (f,true,l ++ [v],⟨false,z'.off,b9 ts z'.n⟩) 6 ⟨?_,?_,?_,h4⟩ (by simp) ?_ ?_
        · simp only [g1]; exact g2
        · simp only [List.length_append,List.length_singleton]; omega
        · intro _
          have h6:=h5.1
          simp only at h6 h3 ⊢
          omega
        · simp -dsimp only [go_sem]<;>simp
        · simp -dsimp only [go_sem]<;>simp
      | false=>
        have hc':d8 [44] ts z'=false:=hc
        rw [hc',Bool.cond_false] at h4
        rw [show cA (bl (mk [44])) ts z'=z' by unfold cA; rw [hc]; rfl]
        simp (maxSteps:=1000000) -dsimp only [go_sem]
        refine aC (f,false,l ++ [v],z') 6 ⟨h5.2,?_,fun h=>(by cases h),h4⟩ (by simp) ?_ ?_
        · simp only [List.length_append,List.length_singleton]; omega
        · simp -dsimp only [go_sem]<;>simp
        · simp -dsimp only [go_sem]<;>simp
end Go.Proofs.YtkpohmhenegkiaaGreatDoor
namespace Go.Proofs.YtkpohmhenegkiaaGreatDoor
open Go.W
attribute [-go_sem] bT b8 bR eD cC
def tQ (P:Prs) (s:Sc) (ts:List Tk) (u:Ty) (z:Fs):Vl × Fs:=(.mk 5 0 (mk []) (fT (jS P s ts u) [91] [93] ts [] z).1 [],(fT (jS P s ts u) [91] [93] ts [] z).2)
theorem L2 {D:Sc->Ty->Prop} {P:Prs} (hP:ParsM D P) (hO:P.onw):Meets Tryz.prog 61 (n8 (fun s t=>∃ u,t.e=[u]/\TyOk u/\D s u) fun s ts t z=>tQ P s ts (t.e.headD default) z):=by
  refine aF Tryz.func61 aL6 2 (by rw [Tryz.ntmps61]; decide) (aB (ZV hP hO) (aA _)) oS ?_
  rintro av H K ⟨s,ts,t,z,rfl,rfl,hs,ht,hts,hn,⟨u,he,hu,hD⟩,hK⟩
  have hK:K (.va (.gs (aV (tQ P s ts u z).1))) (gS s ts (tQ P s ts u z).2):=by
    have:=hK; simp only [he,List.headD_cons] at this; exact this
  unfold tQ at hK
  simp (maxSteps:=1000000) -dsimp only [go_sem,aH t,aDE,aB3]
  refine aD rfl (.nilc 5 3 32 5 _ _ rfl rfl (.done ?_))
  simp (maxSteps:=1000000) -dsimp only [go_sem,GP]
  refine X5 (t:=t) hs hu hts hn he hD ?_
  rw [show bl (mk [91])=[91] from rfl,show bl (mk [93])=[93] from rfl]
  generalize fT (jS P s ts u) [91] [93] ts [] z=r at *
  obtain ⟨l,z'⟩:=r
  simp (maxSteps:=1000000) -dsimp only [go_sem]
  refine aD rfl (.done ?_)
  simp (maxSteps:=1000000) -dsimp only [go_sem,FO]
  refine .pub 6 _ _ _ rfl (.sel [0,1] (by simp) (by simp [cG]) rfl (.done ?_))
  simp (maxSteps:=1000000) -dsimp only [go_sem,cG]
  rw [aI] at hK
  exact hK
end Go.Proofs.YtkpohmhenegkiaaGreatDoor
namespace Go.Proofs.YtkpohmhenegkiaaGreatDoor
open Go.W
attribute [-go_sem] bT b8 bR eD cC
abbrev nmV:S:=.va (.c1 (.fn 107 [(false,[.pt 0 0])]))
def aAY:W.Spec:=fun av H K=>∃ (f:Fl) (t:Tk),av=[.va (.gs (aR f)),.va (.c1 (.pt 0 0))]/\H=[.cells (cW t) 71]/\K (bS (bl f.nm == t.x)) [.cells (cW t) 71]
theorem aD1 {f:Fl} {t:Tk} {K:S->Hp->Prop} (hK:K (bS (bl f.nm == t.x)) [.cells (cW t) 71]):aAY [.va (.gs (aR f)),.va (.c1 (.pt 0 0))] [.cells (cW t) 71] K:=⟨f,t,rfl,rfl,hK⟩
theorem aCZ:Meets Tryz.prog 107 aAY:=by
  refine aF Tryz.func107 aHB 2 (by rw [Tryz.ntmps107]; decide) (aA _) (fun av H K h=>by obtain ⟨_,_,rfl,_⟩:=h; rfl) ?_
  rintro av H K ⟨f,t,rfl,rfl,hK⟩
  simp -dsimp only [go_sem,aR,cW,U3,XS]
  exact .sel [0] (by simp) (by simp) rfl (.done (by simpa [go_sem,cW] using hK))
def jO (n:List UInt8):List Fl->Nat->Int
  | [],_=>-1
  | x :: l,i=>bif bl x.nm == n then (i:Int) else jO n l (i + 1)
def MO:W.Spec:=fun av H K=>∃ (l:List Fl) (t:Tk),av=[.va (.c1 (.fz (l.map aR))),nmV]/\H=[.cells (cW t) 71]/\l.length<=9223372036854775807/\K (iS .i64 (jO t.x l 0)) [.cells (cW t) 71]
theorem aBM {l:List Fl} {t:Tk} {K:S->Hp->Prop} (h:l.length<=9223372036854775807) (hK:K (iS .i64 (jO t.x l 0)) [.cells (cW t) 71]):MO [.va (.c1 (.fz (l.map aR))),nmV] [.cells (cW t) 71] K:=⟨l,t,rfl,rfl,h,hK⟩
theorem TF:Meets Tryz.prog 106 MO:=by
  refine aF Tryz.func106 aG7 2 (by rw [Tryz.ntmps106]; decide) (aB aCZ (aA _)) (fun av H K h=>by obtain ⟨_,_,rfl,_⟩:=h; rfl) ?_
  rintro av H K ⟨l,t,rfl,rfl,hl,hK⟩
  simp -dsimp only [go_sem,UT,UL]
  refine aK (α:=Nat) (fun i=>[(0,.va (.c1 (.fz (l.map aR)))),(1,nmV),(7,iS .i64 l.length),(8,iS .i64 i)]) (fun _=>[.cells (cW t) 71])
    (fun i=>i<=l.length/\jO t.x (l.drop i) i=jO t.x l 0) (fun i=>l.length - i) 0 1 ⟨Nat.zero_le _,rfl⟩ ?_ ?_ ?_
  · simp -dsimp only [go_sem]<;>simp
  · simp -dsimp only [go_sem,cW]<;>simp
  rintro i ⟨hi,ho⟩
  rcases Nat.lt_or_ge i l.length with hlt | hge
  · have hg:decide ((i:Int) < (l.length:Int))=true:=by simp; omega
    have hx:l[i]? = some l[i]:=List.getElem?_eq_getElem hlt
    have q2:=aO (row:=aR) hx
    rw [List.drop_eq_getElem_cons hlt,jO] at ho
    generalize l[i]=y at *
    simp -dsimp only [go_sem,hg,↓q2,aR,List.take_succ_cons,List.take_zero,List.length_cons]
    refine ⟨by omega,aD1 ?_⟩
    cases hc:bl y.nm == t.x with
    | true=>
      rw [hc,Bool.cond_true] at ho
      simp -dsimp only [go_sem]
      exact .sel [0] (by simp) (by simp) rfl (.done (by simpa [go_sem,cW,ho] using hK))
    | false=>
      rw [hc,Bool.cond_false] at ho
      simp -dsimp only [go_sem]
      refine ⟨by omega,aC (i + 1) 1 ⟨by omega,ho⟩ (by omega) ?_ ?_⟩
      · simp -dsimp only [go_sem]<;>simp
      · simp -dsimp only [go_sem,cW]<;>simp [cW]
  · have hg:decide ((i:Int) < (l.length:Int))=false:=by simp; omega
    have:l.drop i=[]:=List.drop_eq_nil_iff.2 (by omega)
    rw [this] at ho
    simp -dsimp only [go_sem,hg]
    exact .sel [0] (by simp) (by simp) rfl (.done (by rw [show jO t.x l 0=-1 from ho.symm] at hK; simpa [go_sem,cW] using hK))
theorem BI (n:List UInt8):∀ (l:List Fl) (i:Nat),-1<=jO n l i/\jO n l i < (l.length:Int) + i
  | [],_=>⟨by simp [jO],by simp only [jO,List.length_nil]; omega⟩
  | y :: l,i=>by
    have:=BI n l (i + 1)
    rw [jO]
    cases bl y.nm == n with
    | true=>exact ⟨by simp only [Bool.cond_true]; omega,by simp only [Bool.cond_true,List.length_cons]; omega⟩
    | false=>exact ⟨by simp only [Bool.cond_false]; omega,by simp only [Bool.cond_false,List.length_cons]; omega⟩
end Go.Proofs.YtkpohmhenegkiaaGreatDoor
namespace Go.Proofs.YtkpohmhenegkiaaGreatDoor
open Go.W
attribute [-go_sem] bT b8 bR eD cC
def nL (D:Sc->Ty->Prop) (P:Prs):bX:=(30,.s (bT 114)) :: (100,.s (b8 114)) :: (31,.s mK) :: (108,.s tW) :: (106,.s MO) :: x8 D P
theorem JA {D:Sc->Ty->Prop} {P:Prs} (h:ParsM D P):cX Tryz.prog (nL D P):=aB pW (aB EK (aB oK (aB IT (aB TF (n9 h)))))
theorem FK (D:Sc->Ty->Prop) (P:Prs):sp (nL D P) 24=lR:=rfl
theorem SS (D:Sc->Ty->Prop) (P:Prs):sp (nL D P) 30=bT 114:=rfl
theorem ID (D:Sc->Ty->Prop) (P:Prs):sp (nL D P) 100=b8 114:=rfl
theorem qD (D:Sc->Ty->Prop) (P:Prs):sp (nL D P) 31=mK:=rfl
theorem IX (D:Sc->Ty->Prop) (P:Prs):sp (nL D P) 108=tW:=rfl
theorem G8 (D:Sc->Ty->Prop) (P:Prs):sp (nL D P) 106=MO:=rfl
theorem CJ (D:Sc->Ty->Prop) (P:Prs) (k:Int):sp (nL D P) (fX k)=gV D P (fX k):=by
  unfold fX
  cases k == 1<;>cases k == 4<;>cases k == 7<;>cases k == 5<;>cases k == 6<;>rfl
abbrev KL:Type:=Int × List (Int × Vl)
abbrev uK (s:Sc) (ts:List Tk) (u:St) (a:KL) (z:Fs):Hp:=[OF s z.bad z.off,gT 114 ts z.n,.cells [.pt 0 0] 59,
  .cells [.vl (.int .i64 6),.vl (.int .i64 0),.vl (.string (mk [])),.vl (.slice none 0 0),.sl 6 a.2.length] 32,.cells [.vl (.string u.nm),.fz (u.fs.map aR)] 95,.cells [.vl (.int .i64 a.1)] 3,.row (a.2.map aY) 57 6]
def fA (ts:List Tk) (u:St) (z:Fs):Int:=jO (bP ts z.n).x u.fs 0
def oI (ts:List Tk) (u:St) (last:Int) (z:Fs):Bool:=(bP ts z.n).k != 1 || decide (fA ts u z < 0) || decide ((u.fs.getD (fA ts u z).toNat default).num<=last)
def pH (ts:List Tk) (z:Fs):Fs:=fG [61] ts ⟨z.bad,z.off,b9 ts z.n⟩
def eZ (P:Prs) (s:Sc) (ts:List Tk) (u:St):KL->Fs->KL × Fs:=fun a z=>
  bif oI ts u a.1 z then (a,e7 ts z)
  else (((u.fs.getD (fA ts u z).toNat default).num,a.2 ++ [((u.fs.getD (fA ts u z).toNat default).num,(P s ts (u.fs.getD (fA ts u z).toNat default).ty (pH ts z)).1)]),(P s ts (u.fs.getD (fA ts u z).toNat default).ty (pH ts z)).2)
def N1 (D:Sc->Ty->Prop) (P:Prs):W.Spec:=fun av H K=>∃ s ts u a z,av=[.va (.c1 (.pt 2 0)),.va (.c1 (.pt 4 0)),.va (.c1 (.pt 5 0)),.va (.c1 (.pt 3 0))]/\H=uK s ts u a z/\s.fit/\Tks ts/\z.n < ts.length/\u.fs.length<=9223372036854775807/\(∀ f ∈ u.fs,TyOk f.ty/\D s f.ty)/\(a.2.length + 1) * 88<=140737488355328/\
  K (.tu []) (uK s ts u (eZ P s ts u a z).1 (eZ P s ts u a z).2)
theorem TA {D:Sc->Ty->Prop} {P:Prs} {s:Sc} {ts:List Tk} {u:St} {a:KL} {z:Fs} {K:S->Hp->Prop} (h1:s.fit) (h3:Tks ts) (h4:z.n < ts.length) (h5:u.fs.length<=9223372036854775807) (h6:∀ f ∈ u.fs,TyOk f.ty/\D s f.ty) (h7:(a.2.length + 1) * 88<=140737488355328)
    (hK:K (.tu []) (uK s ts u (eZ P s ts u a z).1 (eZ P s ts u a z).2)):N1 D P [.va (.c1 (.pt 2 0)),.va (.c1 (.pt 4 0)),.va (.c1 (.pt 5 0)),.va (.c1 (.pt 3 0))] (uK s ts u a z) K:=⟨s,ts,u,a,z,rfl,rfl,h1,h3,h4,h5,h6,h7,hK⟩
theorem aHM {D:Sc->Ty->Prop} {P:Prs} (hP:ParsM D P):Meets Tryz.prog 105 (N1 D P):=by
  refine aF Tryz.func105 aF3 4 (by rw [Tryz.ntmps105]; decide) (JA hP) (fun av H K h=>by obtain ⟨_,_,_,_,_,rfl,_⟩:=h; rfl) ?_
  rintro av H K ⟨s,ts,u,⟨last,F⟩,z,rfl,rfl,hs,hts,hn,hul,hD,hl,hK⟩
  unfold eZ at hK
  simp only at hK hl
  simp (maxSteps:=1000000) -dsimp only [go_sem,aL,W9,VQ,FK,SS,ID,qD,IX,G8,CJ]
  refine kA hts.e hn ?_
  simp (maxSteps:=1000000) -dsimp only [go_sem,aL,cW]
  refine aD rfl (.done ?_)
  simp (maxSteps:=1000000) -dsimp only [go_sem,BL,G8]
  refine aBM (t:=bP ts z.n) hul ?_
  simp (maxSteps:=1000000) -dsimp only [go_sem]
  refine aD rfl (.done ?_)
  rw [show jO (bP ts z.n).x u.fs 0=fA ts u z from rfl]
  have hlo:-1<=fA ts u z/\fA ts u z < (u.fs.length:Int) + (0:Nat):=BI _ _ _
  have hbad:oI ts u last z=((bP ts z.n).k != 1 || decide (fA ts u z < 0) || decide ((u.fs.getD (fA ts u z).toNat default).num<=last)):=rfl
  obtain ⟨k,hk⟩:∃ k,fA ts u z=k:=⟨_,rfl⟩
  rw [hk] at hK hlo hbad
  have hlt:=hlo.2
  cases h1:(bP ts z.n).k != 1 with
  | true=>
    rw [h1,Bool.true_or,Bool.true_or] at hbad
    rw [hbad,Bool.cond_true] at hK
    simp (maxSteps:=1000000) -dsimp only [go_sem,mS,h1]
    refine aD rfl (.done ?_)
    simp (maxSteps:=1000000) -dsimp only [go_sem,pD,qD]
    refine dO hts.e hn ?_
    simp (maxSteps:=1000000) -dsimp only [go_sem]
    refine .sel [0,1,2,3,4,5,6] (by simp) (by simp) rfl (.done ?_)
    simp (maxSteps:=1000000) -dsimp only [go_sem]
    exact hK
  | false=>
    cases h2:decide (k < 0) with
    | true=>
      rw [h1,h2,Bool.or_true,Bool.true_or] at hbad
      rw [hbad,Bool.cond_true] at hK
      simp (maxSteps:=1000000) -dsimp only [go_sem,mS,h1,hk,h2]
      refine aD rfl (.done ?_)
      simp (maxSteps:=1000000) -dsimp only [go_sem,pD,qD]
      refine dO hts.e hn ?_
      simp (maxSteps:=1000000) -dsimp only [go_sem]
      refine .sel [0,1,2,3,4,5,6] (by simp) (by simp) rfl (.done ?_)
      simp (maxSteps:=1000000) -dsimp only [go_sem]
      exact hK
    | false=>
    have h2':0<=k:=by simpa using h2
    obtain ⟨m,rfl⟩:∃ m:Nat,k=m:=⟨k.toNat,by omega⟩
    have hm:m < u.fs.length:=by omega
    have hx:u.fs[m]? = some u.fs[m]:=List.getElem?_eq_getElem hm
    have q1:=oZ (row:=aR) hx
    have q2:=aO (row:=aR) hx
    have hv:u.fs.getD ((m:Int)).toNat default=u.fs[m]:=by simp [List.getD_eq_getElem?_getD,hx]
    rw [hv] at hK hbad
    obtain ⟨hto,hDf⟩:=hD _ (List.getElem_mem hm)
    generalize u.fs[m]=d at *
    rw [h1,h2,Bool.false_or,Bool.false_or] at hbad
    cases h3:decide (d.num<=last) with
    | true=>
      rw [h3] at hbad
      rw [hbad,Bool.cond_true] at hK
      simp (maxSteps:=1000000) -dsimp only [go_sem,mS,h1,hk,h2,↓q2,aR,h3]
      refine ⟨⟨by omega,by omega⟩,aD rfl (.done ?_)⟩
      simp (maxSteps:=1000000) -dsimp only [go_sem,pD,qD]
      refine dO hts.e hn ?_
      simp (maxSteps:=1000000) -dsimp only [go_sem]
      refine .sel [0,1,2,3,4,5,6] (by simp) (by simp) rfl (.done ?_)
      simp (maxSteps:=1000000) -dsimp only [go_sem]
      exact hK
    | false=>
      rw [h3] at hbad
      rw [hbad,Bool.cond_false] at hK
      simp (maxSteps:=1000000) -dsimp only [go_sem,mS,h1,hk,h2,↓q2,aR,h3]
      refine ⟨⟨by omega,by omega⟩,aD rfl (.done ?_)⟩
      simp (maxSteps:=1000000) -dsimp only [go_sem,A4,ID]
      refine wI hts.e hn ?_
      simp (maxSteps:=1000000) -dsimp only [go_sem]
      refine aD rfl (.done ?_)
      simp (maxSteps:=1000000) -dsimp only [go_sem,AU,IX]
      refine gX (z:=⟨z.bad,z.off,b9 ts z.n⟩) hts.e (lG hn).2 ?_
      rw [show fG (bl (mk [61])) ts ⟨z.bad,z.off,b9 ts z.n⟩=pH ts z from rfl]
      have hn2:(pH ts z).n < ts.length:=(jC (w:=[61]) (z:=⟨z.bad,z.off,b9 ts z.n⟩) (lG hn).2).2
      generalize pH ts z=z1 at *
      simp (maxSteps:=1000000) -dsimp only [go_sem]
      refine aD rfl (.done ?_)
      simp (maxSteps:=1000000) -dsimp only [go_sem,A6,hk,↓q2,aR,List.take_succ_cons,List.take_zero,List.length_cons]
      refine ⟨⟨by omega,by omega⟩,?_⟩
      refine aD rfl (.done ?_)
      simp (maxSteps:=1000000) -dsimp only [go_sem,A3]
      refine aD rfl (.done ?_)
      simp (maxSteps:=1000000) -dsimp only [go_sem,BY,FK,CJ]
      refine E8 hs hto hts hn2 hDf ?_
      generalize P s ts d.ty z1=r at *
      obtain ⟨v,z'⟩:=r
      have ha:∀ {x r:List C},(F.map aY ++ [x])[F.length]? = some r->r=x:=fun {x r} h=>by
        have h0:F.length=(F.map aY).length:=by simp
        rw [h0,List.getElem?_concat_length] at h
        exact (Option.some.inj h).symm
      have hb:∀ x:List C,(F.map aY ++ [x]).set F.length (aY (d.num,v))=(F ++ [(d.num,v)]).map aY:=fun x=>by
        rw [List.set_append_right _ _ (by simp)]
        simp
      unfold aY at hb
      rw [aI] at hb
      simp (maxSteps:=1000000) -dsimp only [go_sem,aI v]
      have fin:∀ {r x:List C} (y1 y2 y3:B),r=[.vl (.int .i64 0),.vl (.int .i64 0),.vl (.int .i64 0),.vl (.string (mk [])),.vl (.slice none 0 0),.vl (.slice none 0 0)]->W.Fin 7 K (.tu []) [OF s z'.bad z'.off,gT 114 ts z'.n,.cells [.pt 0 0] 59,
          .cells [.vl (.int .i64 6),.vl (.int .i64 0),.vl (.string (mk [])),.vl (.slice none 0 0),.sl 6 (F.length + 1)] 32,.cells [.vl (.string u.nm),.fz (u.fs.map aR)] 95,.cells [.vl (.int .i64 d.num)] 3,
          .row ((F.map aY ++ [x]).set F.length (.vl (.int .i64 d.num) :: .vl (.int .i64 v.k) :: .vl (.int .i64 v.n) :: .vl (.string v.s) :: .fz (v.l.map aV) :: .fz (v.f.map aY) :: List.drop 6 r)) 57 6,y1,y2,y3]:=fun {r x} y1 y2 y3 hr=>by
        subst hr
        refine .sel [0,1,2,3,4,5,6] (by simp) (by simp) rfl (.done ?_)
        rw [show List.drop 6 [C.vl (.int .i64 0),C.vl (.int .i64 0),C.vl (.int .i64 0),C.vl (.string (mk [])),C.vl (.slice none 0 0),C.vl (.slice none 0 0)]=[] from rfl]
        have hb:=hb x
        simp (maxSteps:=1000000) -dsimp only [go_sem]
        have e:(F ++ [(d.num,v)]).length=F.length + 1:=by simp
        have:=hK
        unfold uK at this
        simp only [e] at this
        unfold aY at hb this ⊢
        rw [<-hb] at this
        exact this
      exact ⟨hl,⟨by omega,by omega⟩,⟨by omega,fun r hr=>fin _ _ _ (ha hr)⟩,⟨by omega,by omega⟩,by omega,fun r hr=>fin _ _ _ (ha hr)⟩
end Go.Proofs.YtkpohmhenegkiaaGreatDoor
namespace Go.Proofs.YtkpohmhenegkiaaGreatDoor
open Go.W
def uV:PC:=.gh (.reg [.v 23 0,.a 24 (.cl 128 [(.t 23),(.k (.string (mk [44])))] [0,1]),.v 8 24])
@[go_sem ↓] theorem aGO:aT uV:=aU _
def pI:PC:=.gh (.reg [.v 27 0,.v 28 2,.a 29 (.cl 108 [(.t 27),(.t 28)] [0,1])])
@[go_sem ↓] theorem aIE:aT pI:=aU _
def u7:PC:=.seq (.seq (.gh (.reg [.q 8 (.mv (.k (.bool true)))])) (.block 0 (.loop (.seq (.seq (.reg [.v 15 8,.v 16 15,⟨some 17,(some (16,true)),.q (.mv (.t 0))⟩,⟨some 18,(some (16,true)),.q (.nc (.t 17))⟩,⟨some 19,(some (16,true)),.q (.fa 4 (.t 18))⟩,⟨some 20,(some (16,true)),.l (.ld1 (.t 19))⟩,⟨some 21,(some (16,true)),.q (.not (.t 20))⟩,.a 22 (.pick (.t 16) (.t 21) (.k (.bool false)))]) (.cond (.t 22) .skip (.exit 0))) (.seq (.block 1 (.reg [.v 25 3,.a 26 (.ca (.t 25) [] [0,1,2,3,4,5,6])])) (uV)))))) (pI)
@[go_sem ↓] theorem aHI:aT u7:=aU _
def vW:PC:=.seq (.seq (.gh (.reg [.v 12 0,.v 13 2,.a 14 (.cl 128 [(.t 12),(.t 13)] [0,1])])) (.cond (.t 14) .ret .skip)) (u7)
@[go_sem ↓] theorem aFX:aT vW:=aU _
def QK:PC:=.seq (.reg [.v 9 0,.v 10 1,.a 11 (.cl 108 [(.t 9),(.t 10)] [0,1])]) (vW)
def N7:List RV:=[]
theorem aCD:aN Tryz.prog true ⟨fun r k=>if r=0/\k=2 then .own [0,1] else if r=1/\k=2 then .own [0,1] else if r=5/\k=1 then .own [0,1,2,3,4,5,6] else if r=4/\k=1 then .own [0,1] else if r=6/\k=2 then .own [0,1] else .own [],fun r=>[1,2,4,6].contains r⟩ Tryz.f101=some (QK,N7):=by kernel_rfl
end Go.Proofs.YtkpohmhenegkiaaGreatDoor
namespace Go.Proofs.YtkpohmhenegkiaaGreatDoor
open Go.W
attribute [-go_sem] bT b8 bR eD cC
abbrev M8:S:=.va (.c1 (.fn 105 [(false,[.pt 2 0]),(false,[.pt 4 0]),(false,[.pt 5 0]),(false,[.pt 3 0])]))
theorem FX {P:Prs} (hO:P.onw) {s:Sc} {ts:List Tk} {u:St}:FB (eZ P s ts u) ts:=fun a z h=>by
  unfold eZ
  cases oI ts u a.1 z
  · have h1:z.n<=(pH ts z).n/\(pH ts z).n < ts.length:=by
      have h2:=lG h
      have h3:=jC (w:=[61]) (ts:=ts) (z:=⟨z.bad,z.off,b9 ts z.n⟩) h2.2
      exact ⟨Nat.le_trans h2.1 h3.1,h3.2⟩
    have h2:=hO s ts (u.fs.getD (fA ts u z).toNat default).ty (pH ts z) h1.2
    exact ⟨Nat.le_trans h1.1 h2.1,h2.2⟩
  · rw [Bool.cond_true,s0]; exact ⟨Nat.le_refl _,h⟩
theorem aA5 (P:Prs) (s:Sc) (ts:List Tk) (u:St) (a:KL) (z:Fs):(eZ P s ts u a z).1.2.length<=a.2.length + 1:=by
  unfold eZ
  cases oI ts u a.1 z
  · rw [Bool.cond_false]; simp
  · rw [Bool.cond_true]; exact Nat.le_succ _
def NX (D:Sc->Ty->Prop) (P:Prs):W.Spec:=fun av H K=>∃ s ts u z op sh,av=[.va (.c1 (.pt 0 0)),tS op,tS sh,M8]/\H=uK s ts u (0,[]) z/\s.fit/\Tks ts/\z.n < ts.length/\u.fs.length<=9223372036854775807/\(∀ f ∈ u.fs,TyOk f.ty/\D s f.ty)/\
  K (.tu []) (uK s ts u (fT (eZ P s ts u) (bl op) (bl sh) ts (0,[]) z).1 (fT (eZ P s ts u) (bl op) (bl sh) ts (0,[]) z).2)
theorem TM {D:Sc->Ty->Prop} {P:Prs} {s:Sc} {ts:List Tk} {u:St} {z:Fs} {op sh:ByteArray} {K:S->Hp->Prop} (h1:s.fit) (h3:Tks ts) (h4:z.n < ts.length) (h5:u.fs.length<=9223372036854775807) (h6:∀ f ∈ u.fs,TyOk f.ty/\D s f.ty)
    (hK:K (.tu []) (uK s ts u (fT (eZ P s ts u) (bl op) (bl sh) ts (0,[]) z).1 (fT (eZ P s ts u) (bl op) (bl sh) ts (0,[]) z).2)):NX D P [.va (.c1 (.pt 0 0)),tS op,tS sh,M8] (uK s ts u (0,[]) z) K:=⟨s,ts,u,z,op,sh,rfl,rfl,h1,h3,h4,h5,h6,hK⟩
theorem RQ {D:Sc->Ty->Prop} {P:Prs} (hP:ParsM D P) (hO:P.onw):Meets Tryz.prog 101 (NX D P):=by
  refine aF Tryz.func101 aCD 4 (by rw [Tryz.ntmps101]; decide) (aB IT (aB MN (aB (aHM hP) (aA _)))) (fun av H K h=>by obtain ⟨_,_,_,_,_,_,rfl,_⟩:=h; rfl) ?_
  rintro av H K ⟨s,ts,u,z,op,sh,rfl,rfl,hs,hts,hn,hul,hD,hK⟩
  have onw:FB (eZ P s ts u) ts:=FX hO
  have hl0:=hts.e.le
  unfold fT at hK
  simp (maxSteps:=1000000) -dsimp only [go_sem,QK,N7]
  refine gX hts.e hn ?_
  have hn1:=(jC (w:=bl op) hn).2
  generalize fG (bl op) ts z=z1 at *
  simp (maxSteps:=1000000) -dsimp only [go_sem]
  refine aD rfl (.done ?_)
  simp (maxSteps:=1000000) -dsimp only [go_sem,vW]
  refine pE hts.e hn1 ?_
  cases hh:d8 (bl sh) ts z1 with
  | true=>
    rw [hh] at hK
    simp (maxSteps:=1000000) -dsimp only [go_sem]
    refine .sel [0,1,2,3,4,5,6] (by simp) (by simp) rfl (.done ?_)
    simp (maxSteps:=1000000) -dsimp only [go_sem]
    exact hK
  | false=>
  rw [hh] at hK
  rw [show cA (bl sh) ts z1=z1 by unfold cA; rw [hh]; rfl]
  simp (maxSteps:=1000000) -dsimp only [go_sem]
  refine aD rfl (.done ?_)
  simp (maxSteps:=1000000) -dsimp only [go_sem,u7]
  refine aK (α:=Nat × Bool × KL × Fs) (fun x=>[(0,.va (.c1 (.pt 0 0))),(2,tS sh),(3,M8),(8,bS x.2.1)]) (fun x=>uK s ts u x.2.2.1 x.2.2.2)
    (fun x=>x.2.2.2.n < ts.length/\x.2.2.1.2.length + x.1<=ts.length + 1/\(x.2.1=true->ts.length < x.2.2.2.n + x.1)/\(bif x.2.1 then lM (eZ P s ts u) ts x.1 x.2.2.1 x.2.2.2 else (x.2.2.1,x.2.2.2))=lM (eZ P s ts u) ts (ts.length + 1) (0,[]) z1)
    (fun x=>x.1) (ts.length + 1,true,(0,[]),z1) 7 ⟨hn1,by simp,fun _=>by omega,rfl⟩ ?_ ?_ ?_
  · simp -dsimp only [go_sem]<;>simp
  · simp -dsimp only [go_sem]<;>simp
  rintro ⟨f,m,l,z⟩ ⟨h1,h2,h3,h4⟩
  simp only at h1 h2 h3 h4
  cases m with
  | false=>
    rw [Bool.cond_false] at h4
    rw [<-h4] at hK
    simp (maxSteps:=1000000) -dsimp only [go_sem]
    refine aD rfl (.done ?_)
    simp (maxSteps:=1000000) -dsimp only [go_sem,pI]
    refine gX (z:=z) hts.e h1 ?_
    simp (maxSteps:=1000000) -dsimp only [go_sem]
    refine .sel [0,1,2,3,4,5,6] (by simp) (by simp) rfl (.done ?_)
    simp (maxSteps:=1000000) -dsimp only [go_sem]
    exact hK
  | true=>
    rw [Bool.cond_true] at h4
    have h3:=h3 rfl
    obtain ⟨f,rfl⟩:∃ g,f=g + 1:=⟨f - 1,by omega⟩
    rw [nS] at h4
    obtain ⟨b,o,n⟩:=z
    cases b with
    | true=>
      rw [Bool.cond_true] at h4
      rw [<-h4] at hK
      simp (maxSteps:=1000000) -dsimp only [go_sem]
      refine aD rfl (.done ?_)
      simp (maxSteps:=1000000) -dsimp only [go_sem,pI]
      refine gX (z:=⟨true,o,n⟩) hts.e h1 ?_
      simp (maxSteps:=1000000) -dsimp only [go_sem]
      refine .sel [0,1,2,3,4,5,6] (by simp) (by simp) rfl (.done ?_)
      simp (maxSteps:=1000000) -dsimp only [go_sem]
      exact hK
    | false=>
      rw [Bool.cond_false] at h4
      simp (maxSteps:=1000000) -dsimp only [go_sem]
      refine TA (z:=⟨false,o,n⟩) hs hts h1 hul hD (by omega) ?_
      have h5:=onw l ⟨false,o,n⟩ h1
      have h7:=aA5 P s ts u l ⟨false,o,n⟩
      generalize eZ P s ts u l ⟨false,o,n⟩=r at *
      obtain ⟨l',z'⟩:=r
      simp only at h7
      simp only at h4 h5
      simp (maxSteps:=1000000) -dsimp only [go_sem]
      refine aD rfl (.done ?_)
      simp (maxSteps:=1000000) -dsimp only [go_sem,uV]
      refine pE (z:=z') hts.e h5.2 ?_
      cases hc:d8 (bl (mk [44])) ts z' with
      | true=>
        obtain ⟨g1,g2,g3⟩:=LE hts.e h5.2 hc
        have hc':d8 [44] ts z'=true:=hc
        rw [hc',Bool.cond_true] at h4
        have e2:cA (bl (mk [44])) ts z'=⟨false,z'.off,b9 ts z'.n⟩:=by unfold cA; rw [hc]; rfl
        have e3:cA [44] ts z'=⟨false,z'.off,b9 ts z'.n⟩:=e2
        rw [e3] at h4
        rw [e2]
        simp (maxSteps:=1000000) -dsimp only [go_sem]
        refine aC (f,true,l',⟨false,z'.off,b9 ts z'.n⟩) 7 ⟨?_,?_,?_,h4⟩ (by simp) ?_ ?_
        · simp only [g1]; exact g2
        · simp only; omega
        · intro _
          have h6:=h5.1
          simp only at h6 h3 ⊢
          omega
        · simp -dsimp only [go_sem]<;>simp
        · simp -dsimp only [go_sem]<;>simp
      | false=>
        have hc':d8 [44] ts z'=false:=hc
        rw [hc',Bool.cond_false] at h4
        rw [show cA (bl (mk [44])) ts z'=z' by unfold cA; rw [hc]; rfl]
        simp (maxSteps:=1000000) -dsimp only [go_sem]
        refine aC (f,false,l',z') 7 ⟨h5.2,?_,fun h=>(by cases h),h4⟩ (by simp) ?_ ?_
        · simp only; omega
        · simp -dsimp only [go_sem]<;>simp
        · simp -dsimp only [go_sem]<;>simp
end Go.Proofs.YtkpohmhenegkiaaGreatDoor
namespace Go.Proofs.YtkpohmhenegkiaaGreatDoor
open Go.W
attribute [-go_sem] bT b8 bR eD cC
def stOf (s:Sc) (t:Ty):St:=(fS s.ss t.n).getD default
def mR (P:Prs) (s:Sc) (ts:List Tk) (u:St) (z:Fs):Vl × Fs:=(.mk 6 0 (mk []) [] (fT (eZ P s ts u) [123] [125] ts (0,[]) z).1.2,(fT (eZ P s ts u) [123] [125] ts (0,[]) z).2)
theorem i7 {s:Sc} (hs:s.fit) (t:Ty):(stOf s t).ok:=by
  unfold stOf
  cases h:fS s.ss t.n with
  | none=>exact ⟨by decide,by decide,fun _ h=>(by cases h)⟩
  | some u=>exact hs.ok.ss u (List.mem_of_find?_eq_some h)
theorem FS {D:Sc->Ty->Prop} {P:Prs} (hP:ParsM D P) (hO:P.onw):Meets Tryz.prog 63 (n8 (fun s t=>∀ f ∈ (stOf s t).fs,D s f.ty) fun s ts t z=>mR P s ts (stOf s t) z):=by
  refine aF Tryz.func63 aN7 2 (by rw [Tryz.ntmps63]; decide) (aB m1 (aB (RQ hP hO) (aA _))) oS ?_
  rintro av H K ⟨s,ts,t,z,rfl,rfl,hs,ht,hts,hn,hD,hK⟩
  have hok:=i7 hs t
  have hK:K (.va (.gs (aV (mR P s ts (stOf s t) z).1))) (gS s ts (mR P s ts (stOf s t) z).2):=hK
  simp (maxSteps:=1000000) -dsimp only [go_sem,aH t,aE,aCR,aE4]
  refine gP hs ?_
  rw [show (fS s.ss t.n).getD default=stOf s t from rfl]
  generalize stOf s t=u at *
  unfold mR at hK
  simp (maxSteps:=1000000) -dsimp only [go_sem,aL]
  refine aD rfl (.done ?_)
  simp (maxSteps:=1000000) -dsimp only [go_sem,FP]
  refine aD rfl (.nilc 5 4 57 6 _ _ rfl rfl (.done ?_))
  simp (maxSteps:=1000000) -dsimp only [go_sem,IP]
  refine TM (u:=u) hs hts hn hok.len (fun f hf=>⟨(hok.fs f hf).ty,hD f hf⟩) ?_
  rw [show bl (mk [123])=[123] from rfl,show bl (mk [125])=[125] from rfl]
  generalize fT (eZ P s ts u) [123] [125] ts (0,[]) z=r at *
  obtain ⟨⟨last,F⟩,z'⟩:=r
  simp (maxSteps:=1000000) -dsimp only [go_sem]
  refine aD rfl (.done ?_)
  simp (maxSteps:=1000000) -dsimp only [go_sem,EZ]
  refine .pub 8 _ _ _ rfl (.sel [0,1] (by simp) (by simp [cG]) rfl (.done ?_))
  simp (maxSteps:=1000000) -dsimp only [go_sem,cG]
  rw [aI] at hK
  exact hK
end Go.Proofs.YtkpohmhenegkiaaGreatDoor
namespace Go.Proofs.YtkpohmhenegkiaaGreatDoor
open Go.W
def dP:Nat->Sc->Ty->Prop
  | 0,_,_=>False
  | N + 1,s,t=>((t.k == 5)=true->∃ u,t.e=[u]/\TyOk u/\dP N s u)/\((t.k == 6)=true->∀ f ∈ (stOf s t).fs,dP N s f.ty)
def pP:Nat->Prs
  | 0=>fun _ _ _ z=>(default,z)
  | N + 1=>fun s ts t z=>bif t.k == 1 then iF ts z else bif t.k == 4 then MH ts z else bif t.k == 7 then iE ((bW s.es t.n).getD default) ts z
      else bif t.k == 5 then tQ (pP N) s ts (t.e.headD default) z else bif t.k == 6 then mR (pP N) s ts (stOf s t) z else TD t.k ts z
theorem jB (N:Nat) (s:Sc) (ts:List Tk) (t:Ty) (z:Fs):pP (N + 1) s ts t z=bif t.k == 1 then iF ts z else bif t.k == 4 then MH ts z else bif t.k == 7 then iE ((bW s.es t.n).getD default) ts z
      else bif t.k == 5 then tQ (pP N) s ts (t.e.headD default) z else bif t.k == 6 then mR (pP N) s ts (stOf s t) z else TD t.k ts z:=rfl
theorem KN {k:Int} {ts:List Tk} {z:Fs} (h:z.n < ts.length):z.n<=(nQ k ts z).n/\(nQ k ts z).n < ts.length:=by
  unfold nQ
  cases iR k ts z
  · rw [Bool.cond_false,s0]; exact ⟨Nat.le_refl _,h⟩
  · exact lG h
theorem BW:∀ N,(pP N).onw
  | 0=>fun s ts t z h=>⟨Nat.le_refl _,h⟩
  | N + 1=>fun s ts t z h=>by
    have hf:z.n<=(e7 ts z).n/\(e7 ts z).n < ts.length:=by rw [s0]; exact ⟨Nat.le_refl _,h⟩
    have hx:=lG h
    rw [jB]
    cases t.k == 1 with
    | true=>
      rw [Bool.cond_true]; unfold iF
      cases (!z.bad && fC 1 tU (bP ts z.n))<;>cases (!z.bad && fC 1 o5 (bP ts z.n))<;>first | exact hx | exact hf
    | false=>
    cases t.k == 4 with
    | true=>exact KN h
    | false=>
    cases t.k == 7 with
    | true=>
      rw [Bool.cond_false,Bool.cond_false,Bool.cond_true]; unfold iE
      cases (decide (lL ((bW s.es t.n).getD default) ts z < 0) || decide ((((bW s.es t.n).getD default).vs.length:Int)<=lL ((bW s.es t.n).getD default) ts z))<;>first | exact hx | exact hf
    | false=>
    cases t.k == 5 with
    | true=>exact N8 (one:=jS (pP N) s ts (t.e.headD default)) (fun a z h=>BW N s ts _ z h) [91] [93] [] z h
    | false=>
    cases t.k == 6 with
    | true=>exact N8 (one:=eZ (pP N) s ts (stOf s t)) (FX (BW N)) [123] [125] (0,[]) z h
    | false=>exact KN h
theorem mC {f:FuncId} {D D':Sc->Ty->Prop} {P P':Prs} (h:Meets Tryz.prog f (n8 D P)) (hd:∀ s t,D' s t->D s t/\∀ ts z,P s ts t z=P' s ts t z):Meets Tryz.prog f (n8 D' P'):=
  eN (0:Nat) (fun (_:Nat)=>h) fun av H K ⟨s,ts,t,z,h1,h2,h3,h4,h5,h6,h7,h8⟩=>⟨0,s,ts,t,z,h1,h2,h3,h4,h5,h6,(hd s t h7).1,by rw [(hd s t h7).2]; exact h8⟩
theorem mH (k:Int):(fX k=55->(k == 1)=true)/\(fX k=57->(k == 1)=false/\(k == 4)=true)/\(fX k=59->(k == 1)=false/\(k == 4)=false/\(k == 7)=true)/\
    (fX k=61->(k == 1)=false/\(k == 4)=false/\(k == 7)=false/\(k == 5)=true)/\(fX k=63->(k == 1)=false/\(k == 4)=false/\(k == 7)=false/\(k == 5)=false/\(k == 6)=true)/\
    (fX k=65->(k == 1)=false/\(k == 4)=false/\(k == 7)=false/\(k == 5)=false/\(k == 6)=false):=by
  unfold fX
  cases k == 1<;>cases k == 4<;>cases k == 7<;>cases k == 5<;>cases k == 6<;>refine ⟨?_,?_,?_,?_,?_,?_⟩<;>intro h<;>first | (exact absurd h (by decide)) | simp
theorem mN {f:FuncId} {P:Prs} {g:FuncId} (h:nA Tryz.prog f=true):Meets Tryz.prog f (gV (dP 0) P g):=⟨h,by rintro xs vs E ro w K _ _ _ ⟨_,_,_,_,_,_,_,_,_,_,⟨h,_⟩,_⟩; exact h.elim⟩
theorem UX:∀ N,ParsM (dP N) (pP N)
  | 0=>⟨mN (by kernel_rfl),mN (by kernel_rfl),mN (by kernel_rfl),mN (by kernel_rfl),mN (by kernel_rfl),mN (by kernel_rfl)⟩
  | N + 1=>by
    have ih:=UX N
    have hN:=BW N
    refine ⟨mC MG ?_,mC M2 ?_,mC LT ?_,mC (L2 ih hN) ?_,mC (FS ih hN) ?_,mC HI ?_⟩
    · rintro s t ⟨hD,hk⟩
      have h1:=(mH t.k).1 hk
      exact ⟨trivial,fun ts z=>by rw [jB,h1,Bool.cond_true]⟩
    · rintro s t ⟨hD,hk⟩
      obtain ⟨h1,h2⟩:=(mH t.k).2.1 hk
      exact ⟨trivial,fun ts z=>by rw [jB,h1,h2]; rfl⟩
    · rintro s t ⟨hD,hk⟩
      obtain ⟨h1,h2,h3⟩:=(mH t.k).2.2.1 hk
      exact ⟨trivial,fun ts z=>by rw [jB,h1,h2,h3]; rfl⟩
    · rintro s t ⟨hD,hk⟩
      obtain ⟨h1,h2,h3,h4⟩:=(mH t.k).2.2.2.1 hk
      exact ⟨hD.1 h4,fun ts z=>by rw [jB,h1,h2,h3,h4]; rfl⟩
    · rintro s t ⟨hD,hk⟩
      obtain ⟨h1,h2,h3,h4,h5⟩:=(mH t.k).2.2.2.2.1 hk
      exact ⟨hD.2 h5,fun ts z=>by rw [jB,h1,h2,h3,h4,h5]; rfl⟩
    · rintro s t ⟨hD,hk⟩
      obtain ⟨h1,h2,h3,h4,h5⟩:=(mH t.k).2.2.2.2.2 hk
      exact ⟨trivial,fun ts z=>by rw [jB,h1,h2,h3,h4,h5]; rfl⟩
end Go.Proofs.YtkpohmhenegkiaaGreatDoor
namespace Go.Proofs.YtkpohmhenegkiaaGreatDoor
open Go.W
attribute [-go_sem] bT b8 bR eD cC
def zF (s:Sc):Nat->Ty->Vl
  | 0,_=>.mk 0 0 (mk []) [] []
  | n + 1,t=>bif valF s.ss s.es t then (bif t.k == 6 then .mk 6 0 (mk []) [] (((stOf s t).fs.filter fun f=>!f.opt).map fun f=>(f.num,zF s n f.ty)) else .mk t.k 0 (mk []) [] []) else .mk 0 0 (mk []) [] []
def zE (s:Sc) (n:Nat) (l:List Fl):List (Int × Vl):=(l.filter fun f=>!f.opt).map fun f=>(f.num,zF s n f.ty)
theorem AF (s:Sc) (n:Nat) (t:Ty):zF s (n + 1) t=bif valF s.ss s.es t then (bif t.k == 6 then .mk 6 0 (mk []) [] (zE s n (stOf s t).fs) else .mk t.k 0 (mk []) [] []) else .mk 0 0 (mk []) [] []:=rfl
theorem ZF {s:Sc} {n i:Nat} {l:List Fl} {f:Fl} (h:l[i]? = some f):zE s n (l.take (i + 1))=bif f.opt then zE s n (l.take i) else zE s n (l.take i) ++ [(f.num,zF s n f.ty)]:=by
  unfold zE
  rw [List.take_add_one,h,List.filter_append,List.map_append]
  cases hf:f.opt<;>simp [hf]
theorem OM (s:Sc) (n:Nat) (l:List Fl):(zE s n l).length<=l.length:=by
  unfold zE; rw [List.length_map]; exact List.length_filter_le _ _
theorem K6 {s:Sc} (hs:s.fit) (t:Ty):(stOf s t).fs.length<=1000000000:=by
  unfold stOf
  cases h:fS s.ss t.n with
  | none=>exact Nat.zero_le _
  | some u=>exact (hs.sm u (List.mem_of_find?_eq_some h)).1
def aA4 (N:Nat):W.Spec:=fun av H K=>∃ (s:Sc) (t:Ty) (n:Nat),av=[.va (.gs (aE s)),.va (.gs (aM t)),iS .i64 ((n:Int) - 1)]/\H=[]/\s.fit/\TyOk t/\n < N/\N<=100/\K (.va (.gs (aV (zF s n t)))) []
theorem OO {N:Nat} {s:Sc} {t:Ty} {n:Nat} {K:S->Hp->Prop} (h1:s.fit) (h2:TyOk t) (h3:n < N) (h4:N<=100) (hK:K (.va (.gs (aV (zF s n t)))) []):aA4 N [.va (.gs [.vl (.int .i64 s.ver),.fz (s.es.map aX),.fz (s.ss.map aL)]),.va (.gs [.vl (.int .i64 t.k),.vl (.int .i64 t.s),.vl (.string t.n),.fz (t.e.map aM)]),iS .i64 ((n:Int) - 1)] [] K:=⟨s,t,n,by rw [aH]; rfl,rfl,h1,h2,h3,h4,hK⟩
theorem OX:∀ N,Meets Tryz.prog 114 (aA4 N)
  | 0=>⟨by kernel_rfl,by rintro xs vs E ro w K _ _ _ ⟨_,_,n,_,_,_,_,h,_⟩; exact absurd h (Nat.not_lt_zero n)⟩
  | N + 1=>by
    refine aF Tryz.func114 aIS 3 (by rw [Tryz.ntmps114]; decide) (aG uP (aB m1 (aB (OX N) (aA _)))) (fun av H K h=>by obtain ⟨_,_,_,rfl,_⟩:=h; rfl) ?_
    rintro av H K ⟨s,t,n,rfl,rfl,hs,ht,hn,hN,hK⟩
    have k4:=cM ht
    have k5:=fM t
    have k6:=dX hs
    have k7:=gZ s
    have fin:∀ {v:Vl} (R:Hp),zF s n t=v->W.Fin 0 K (.va (.gs (aV v))) R:=fun {v} R h=>by
      rw [h] at hK; refine .sel [] (by simp) (by simp) rfl (.done ?_)
      rw [aI] at hK ⊢
      simpa [go_sem] using hK
    cases n with
    | zero=>
      have g:decide (((0:Nat):Int) - 1 < 0)=true:=rfl
      simp (maxSteps:=1000000) -dsimp only [go_sem,aE,aH t,zL,xK,g,k4,k5,k6,k7]
      exact fin (v:=.mk 0 0 (mk []) [] []) _ rfl
    | succ n=>
      have g:decide (((n + 1:Nat):Int) - 1 < 0)=false:=by rw [decide_eq_false_iff_not]; omega
      have g':((n + 1:Nat):Int) - 1=n:=by omega
      rw [g'] at g ⊢
      rw [AF] at fin
      cases h1:valF s.ss s.es t with
      | false=>
        rw [h1,Bool.cond_false] at fin
        simp (maxSteps:=1000000) -dsimp only [go_sem,aE,aH t,zL,xK,g,k4,k5,k6,k7,h1]
        exact fin _ rfl
      | true=>
      rw [h1,Bool.cond_true] at fin
      cases h2:t.k == 6 with
      | false=>
        have h2':(t.k != 6)=true:=by rw [bne,h2]; rfl
        rw [h2,Bool.cond_false] at fin
        simp (maxSteps:=1000000) -dsimp only [go_sem,aE,aH t,zL,xK,g,k4,k5,k6,k7,h1,h2']
        exact fin _ rfl
      | true=>
      have h2':(t.k != 6)=false:=by rw [bne,h2]; rfl
      rw [h2,Bool.cond_true] at fin
      simp (maxSteps:=1000000) -dsimp only [go_sem,aE,aH t,zL,xK,g,k4,k5,k6,k7,h1,h2']
      refine gP hs ?_
      rw [show (fS s.ss t.n).getD default=stOf s t from rfl]
      have hok:=i7 hs t
      have hsm:=K6 hs t
      have hz6:zF s (n + 1) t=.mk 6 0 (mk []) [] (zE s n (stOf s t).fs):=by rw [AF,h1,h2]; rfl
      rw [hz6,aI] at hK
      clear hz6 fin
      generalize stOf s t=u at *
      simp (maxSteps:=1000000) -dsimp only [go_sem,aL]
      have hlen:=fun i=>Nat.le_trans (OM s n (u.fs.take i)) (Nat.le_trans (List.length_take_le' i u.fs) hsm)
      refine dT (α:=Nat) (fun i=>[(2,iS .i64 n),(3,.va (.c1 (.pt 0 0))),(4,.va (.c1 (.pt 1 0))),(6,.va (.c1 (.pt 2 0))),(7,.va (.c1 (.pt 3 0))),(37,.va (.c1 (.fz (u.fs.map aR)))),(38,iS .i64 u.fs.length),(39,iS .i64 i)])
        (fun i=>[.cells [.vl (.int .i64 s.ver),.fz (s.es.map aX),.fz (s.ss.map aL)] 105,.cells [.vl (.int .i64 t.k),.vl (.int .i64 t.s),.vl (.string t.n),.fz (t.e.map aM)] 28,.cells [.vl (.int .i64 0),.vl (.int .i64 0),.vl (.string (mk [])),.vl (.slice none 0 0),.vl (.slice none 0 0)] 32,
          .cells [.vl (.int .i64 t.k),.vl (.int .i64 0),.vl (.string (mk [])),.vl (.slice none 0 0),.sl 5 (zE s n (u.fs.take i)).length] 32,.cells [.vl (.string u.nm),.fz (u.fs.map aR)] 95,.row ((zE s n (u.fs.take i)).map aY) 57 6])
        (fun i=>i<=u.fs.length) (fun i=>u.fs.length - i) (.nilc 3 4 57 6 _ _ rfl rfl (lX 0 6 (Nat.zero_le _) ?_ ?_)) ?_
      · simp -dsimp only [go_sem]<;>simp
      · simp -dsimp only [go_sem]<;>simp [zE]
      intro i hi
      have hli:=hlen i
      rcases Nat.lt_or_ge i u.fs.length with hlt | hge
      · have hg:decide ((i:Int) < (u.fs.length:Int))=true:=by simp; omega
        have hx:u.fs[i]? = some u.fs[i]:=List.getElem?_eq_getElem hlt
        have q2:=aO (row:=aR) hx
        have hfo:=(hok.fs _ (List.getElem_mem hlt)).ty
        generalize u.fs[i]=f at *
        have hz:=ZF (s:=s) (n:=n) hx
        cases ho:f.opt with
        | true=>
          rw [ho,Bool.cond_true] at hz
          simp (maxSteps:=1000000) -dsimp only [go_sem,hg,↓q2,aR,ho,List.take_succ_cons,List.take_zero,List.length_cons]
          refine ⟨by omega,by omega,aC (i + 1) 6 (by omega) (by omega) ?_ ?_⟩
          · simp -dsimp only [go_sem]<;>simp
          · simp -dsimp only [go_sem,hz]<;>simp
        | false=>
          rw [ho,Bool.cond_false] at hz
          simp (maxSteps:=1000000) -dsimp only [go_sem,hg,↓q2,aR,ho,List.take_succ_cons,List.take_zero,List.length_cons]
          refine ⟨⟨by omega,by omega⟩,⟨by omega,by omega⟩,OO hs hfo (by omega) (by omega) ?_⟩
          generalize zF s n f.ty=v at *
          simp (maxSteps:=1000000) -dsimp only [go_sem,aI v]
          refine ⟨by omega,by omega,aC (i + 1) 6 (by omega) (by omega) ?_ ?_⟩
          · simp -dsimp only [go_sem]<;>simp
          · simp -dsimp only [go_sem,hz]<;>simp [aY,aI v]
      · have hg:decide ((i:Int) < (u.fs.length:Int))=false:=by simp; omega
        rw [List.take_of_length_le hge] at *
        have h6:t.k=6:=eq_of_beq h2
        simp (maxSteps:=1000000) -dsimp only [go_sem,hg,h6]
        refine .pub 5 _ _ _ rfl (.sel [] (by simp) (by simp [cG]) rfl (.done ?_))
        simp -dsimp only [go_sem,cG]
        exact hK
def aCO:W.Spec:=fun av H K=>∃ (s:Sc) (t:Ty),av=[.va (.gs (aE s)),.va (.gs (aM t))]/\H=[]/\s.fit/\TyOk t/\K (.va (.gs (aV (zF s 23 t)))) []
theorem YU {s:Sc} {t:Ty} {K:S->Hp->Prop} (h1:s.fit) (h2:TyOk t) (hK:K (.va (.gs (aV (zF s 23 t)))) []):aCO [.va (.gs [.vl (.int .i64 s.ver),.fz (s.es.map aX),.fz (s.ss.map aL)]),.va (.gs [.vl (.int .i64 t.k),.vl (.int .i64 t.s),.vl (.string t.n),.fz (t.e.map aM)])] [] K:=⟨s,t,by rw [aH]; rfl,rfl,h1,h2,hK⟩
theorem aIN:Meets Tryz.prog 71 aCO:=by
  refine aF Tryz.func71 aL7 2 (by rw [Tryz.ntmps71]; decide) (aB (OX 24) (aA _)) (fun av H K h=>by obtain ⟨_,_,rfl,_⟩:=h; rfl) ?_
  rintro av H K ⟨s,t,rfl,rfl,hs,ht,hK⟩
  simp (maxSteps:=1000000) -dsimp only [go_sem,aE,aH t,aDF,aAK]
  refine OO (n:=23) hs ht (by decide) (by decide) ?_
  rw [aI] at hK ⊢
  simp (maxSteps:=1000000) -dsimp only [go_sem]
  refine .sel [] (by simp) (by simp) rfl (.done ?_)
  simp -dsimp only [go_sem]
  exact hK
end Go.Proofs.YtkpohmhenegkiaaGreatDoor
namespace Go.Proofs.YtkpohmhenegkiaaGreatDoor
open Go.W
attribute [-go_sem] bT b8 bR eD cC
theorem W3 {s:Sc} (hs:s.fit):∀ (n:Nat) (t:Ty),TyOk t->VlOk (zF s n t)
  | 0,t,ht=>.mk ⟨by decide,by decide⟩ ⟨by decide,by decide⟩ (by decide) (by simp) (by simp) (by simp) (by simp) (by simp)
  | n + 1,t,ht=>by
    have hok:=i7 hs t
    have hsm:=K6 hs t
    rw [AF]
    cases valF s.ss s.es t with
    | false=>exact .mk ⟨by decide,by decide⟩ ⟨by decide,by decide⟩ (by decide) (by simp) (by simp) (by simp) (by simp) (by simp)
    | true=>
      cases t.k == 6 with
      | false=>exact .mk ht.k ⟨by decide,by decide⟩ (by decide) (by simp) (by simp) (by simp) (by simp) (by simp)
      | true=>
        have hl:=OM s n (stOf s t).fs
        have hm:∀ x ∈ zE s n (stOf s t).fs,∃ f ∈ (stOf s t).fs,x=(f.num,zF s n f.ty):=fun x hx=>by
          unfold zE at hx
          obtain ⟨f,hf,rfl⟩:=List.mem_map.1 hx
          exact ⟨f,(List.mem_filter.1 hf).1,rfl⟩
        refine .mk ⟨by decide,by decide⟩ ⟨by decide,by decide⟩ (by decide) (by simp) (by omega) (by simp) (fun x hx=>?_) (fun x hx=>?_)
        · obtain ⟨f,hf,rfl⟩:=hm x hx; exact (hok.fs f hf).num
        · obtain ⟨f,hf,rfl⟩:=hm x hx; exact W3 hs n f.ty (hok.fs f hf).ty
def ER:List S->Prop:=fun av=>match av with
  | [.va (.gs r),.va (.gs q)]=>iQ r/\eK q
  | _=>False
theorem pR {av:List S} (h:ER av):∃ s t,av=[.va (.gs (aE s)),.va (.gs (aM t))]/\s.fit/\TyOk t:=by
  unfold ER at h
  split at h
  · obtain ⟨⟨s,rfl,hs⟩,⟨t,rfl,ht⟩⟩:=h
    exact ⟨s,t,rfl,hs,ht⟩
  · exact h.elim
noncomputable def T4 (f:Sc->Ty->Value):List S->A:=fun av=>match av with
  | [.va (.gs r),.va (.gs q)]=>.c1 (.vl (f (C.sc r) (C.ty q)))
  | _=>.gs []
noncomputable def vU (f:Sc->Ty->Value):Fun:=⟨ER,T4 f,fun av h=>by obtain ⟨_,_,rfl,_⟩:=pR h; trivial⟩
theorem R9 {f:Sc->Ty->Value}:∀ av H K,(vU f).sp av H K->av.length=2:=fun av H K h=>by obtain ⟨_,_,rfl,_⟩:=pR h.1.1; rfl
attribute [go_sem] vU ER T4
theorem ZG {f:Sc->Ty->Value} {av:List S} {H:Hp} {K:S->Hp->Prop} (h:(vU f).sp av H K):∃ s t,av=[.va (.gs (aE s)),.va (.gs (aM t))]/\H=[]/\s.fit/\TyOk t/\K (.va (.c1 (.vl (f s t)))) []:=by
  obtain ⟨⟨h,rfl⟩,hK⟩:=h
  obtain ⟨s,t,rfl,hs,ht⟩:=pR h
  have:(vU f).val [.va (.gs (aE s)),.va (.gs (aM t))]=.c1 (.vl (f s t)):=by
    show A.c1 (.vl (f (C.sc (aE s)) (C.ty (aM t))))=_
    rw [dW,eH]
  rw [this] at hK
  exact ⟨s,t,rfl,rfl,hs,ht,hK⟩
def H0 (s:Sc) (t:Ty):Bool:=dQ s t (zF s 23 t) == 0
theorem JD:Meets Tryz.prog 28 (vU fun s t=>.bool (H0 s t)).sp:=by
  refine aF Tryz.func28 aLP 2 (by rw [Tryz.ntmps28]; decide) (aB aIN (aG AP (aA _))) R9 ?_
  intro av H K h
  obtain ⟨s,t,rfl,rfl,hs,ht,hK⟩:=ZG h
  clear h
  have k4:=cM ht
  have k5:=fM t
  have k6:=dX hs
  have k7:=gZ s
  have hv:=W3 hs 23 t ht
  have hK:K (bS (dQ s t (zF s 23 t) == 0)) []:=hK
  simp (maxSteps:=1000000) -dsimp only [go_sem,aE,aH t,aAE,aBJ]
  refine YU hs ht ?_
  generalize zF s 23 t=v at *
  have k1:=cE hv
  have k2:=eU v
  simp (maxSteps:=1000000) -dsimp only [go_sem,aI v,k1,k2,k4,k5,k6,k7]
  exact .sel [] (by simp) (by simp) rfl (.done (by simpa [go_sem] using hK))
end Go.Proofs.YtkpohmhenegkiaaGreatDoor
namespace Go.Proofs.YtkpohmhenegkiaaGreatDoor
open Go.W
theorem I1 {α:Type} {one:α->Fs->α × Fs} {ts:List Tk} (ho:FB one ts) (I:Nat->α->Prop) (hs:∀ k a z,z.n < ts.length->I k a->I (k + 1) (one a z).1):∀ (f k:Nat) (a:α) (z:Fs),z.n < ts.length->I k a->∃ k',k'<=k + f/\I k' (lM one ts f a z).1
  | 0,k,a,z,_,h=>⟨k,Nat.le_refl _,h⟩
  | f + 1,k,a,z,hn,h=>by
    rw [nS]
    cases z.bad
    · have h1:=hs k a z hn h
      have h2:=ho a z hn
      cases d8 [44] ts (one a z).2
      · exact ⟨k + 1,by omega,h1⟩
      · obtain ⟨k',h3,h4⟩:=I1 ho I hs f (k + 1) (one a z).1 (cA [44] ts (one a z).2) (AJ h2.2).2 h1
        exact ⟨k',by omega,h4⟩
    · exact ⟨k,by omega,h⟩
theorem GO {α:Type} {one:α->Fs->α × Fs} {ts:List Tk} (ho:FB one ts) (I:Nat->α->Prop) (hs:∀ k a z,z.n < ts.length->I k a->I (k + 1) (one a z).1) (op sh:List UInt8) (a:α) (z:Fs) (hn:z.n < ts.length) (h:I 0 a):∃ k',k'<=ts.length + 1/\I k' (fT one op sh ts a z).1:=by
  unfold fT
  have h1:=jC (w:=op) hn
  cases d8 sh ts (fG op ts z)
  · obtain ⟨k,h2,h3⟩:=I1 ho I hs (ts.length + 1) 0 a _ h1.2 h
    exact ⟨k,by omega,h3⟩
  · exact ⟨0,Nat.zero_le _,h⟩
theorem wC {k n:Int} {s:ByteArray} (hk:bK k) (hn:bK n) (hs:s.size<=9223372036854775807):VlOk (.mk k n s [] []):=.mk hk hn hs (by simp) (by simp) (by simp) (by simp) (by simp)
theorem QA {ts:List Tk} (h:Tks ts) (k:Int) (z:Fs) (hn:z.n < ts.length):bK (jJ k ts z).n/\(jJ k ts z).x.length<=4000:=by
  have hm:bP ts z.n ∈ ts:=List.mem_of_getElem? (m0 hn)
  unfold jJ
  cases iR k ts z
  · rw [Bool.cond_false]; exact ⟨⟨by decide,by decide⟩,by decide⟩
  · exact ⟨h.n _ hm,h.x _ hm⟩
theorem NF {s:Sc} (hs:s.fit) {ts:List Tk} (hts:Tks ts):∀ (N:Nat) (t:Ty) (z:Fs),TyOk t->dP N s t->z.n < ts.length->VlOk (pP N s ts t z).1
  | 0,t,z,_,h,_=>h.elim
  | N + 1,t,z,ht,hd,hn=>by
    have hle:=hts.e.le
    have c0:bK 0:=⟨by decide,by decide⟩
    have c1:bK 1:=⟨by decide,by decide⟩
    have c4:bK 4:=⟨by decide,by decide⟩
    have c5:bK 5:=⟨by decide,by decide⟩
    have c6:bK 6:=⟨by decide,by decide⟩
    have c7:bK 7:=⟨by decide,by decide⟩
    rw [jB]
    cases t.k == 1 with
    | true=>
      rw [Bool.cond_true]; unfold iF
      cases (!z.bad && fC 1 tU (bP ts z.n))<;>cases (!z.bad && fC 1 o5 (bP ts z.n))<;>first | exact wC c1 c1 (by decide) | exact wC c1 c0 (by decide)
    | false=>
    cases t.k == 4 with
    | true=>
      refine wC c4 c0 ?_
      have:=(QA hts 3 z hn).2
      show (mk (jJ 3 ts z).x).size<=_
      have e:(mk (jJ 3 ts z).x).size=(jJ 3 ts z).x.length:=by simp [mk,ByteArray.size]
      omega
    | false=>
    cases t.k == 7 with
    | true=>
      have he:((bW s.es t.n).getD default).ok:=by
        cases h:bW s.es t.n with
        | none=>exact ⟨by decide,by decide,by decide,fun _ h=>(by cases h),fun _ h=>(by cases h)⟩
        | some e=>exact hs.ok.es e (List.mem_of_find?_eq_some h)
      generalize (bW s.es t.n).getD default=e at he ⊢
      rw [Bool.cond_false,Bool.cond_false,Bool.cond_true]; unfold iE
      cases hc:(decide (lL e ts z < 0) || decide ((e.vs.length:Int)<=lL e ts z)) with
      | true=>exact wC c7 c0 (by decide)
      | false=>
        refine wC c7 ?_ (by decide)
        rw [List.getD_eq_getElem?_getD]
        cases hx:e.vs[(lL e ts z).toNat]? with
        | none=>exact c0
        | some y=>exact he.vs _ (List.mem_of_getElem? hx)
    | false=>
    cases h5:t.k == 5 with
    | true=>
      obtain ⟨u,he,hu,hD⟩:=hd.1 h5
      rw [he,List.headD_cons]
      obtain ⟨k,hk,h1,h2⟩:=GO (one:=jS (pP N) s ts u) (fun a z h=>BW N s ts u z h) (fun k l=>l.length<=k/\∀ v ∈ l,VlOk v) (fun k l z hz ⟨h1,h2⟩=>⟨by simp [jS]; omega,fun v hv=>by
        rcases List.mem_append.1 hv with hv | hv
        · exact h2 v hv
        · rw [List.mem_singleton.1 hv]; exact NF hs hts N u z hu hD hz⟩) [91] [93] [] z hn ⟨Nat.le_refl _,by simp⟩
      exact .mk c5 c0 (by decide) (by omega) (by simp) h2 (by simp) (by simp)
    | false=>
    cases h6:t.k == 6 with
    | true=>
      have hD:=hd.2 h6
      have hok:=i7 hs t
      obtain ⟨k,hk,h1,h2⟩:=GO (one:=eZ (pP N) s ts (stOf s t)) (FX (BW N)) (fun k a=>a.2.length<=k/\∀ x ∈ a.2,bK x.1/\VlOk x.2) (fun k a z hz ⟨h1,h2⟩=>by
        unfold eZ
        cases hb:oI ts (stOf s t) a.1 z with
        | true=>exact ⟨by rw [Bool.cond_true]; exact Nat.le_succ_of_le h1,h2⟩
        | false=>
          rw [Bool.cond_false]
          refine ⟨by simp; omega,fun x hx=>?_⟩
          rcases List.mem_append.1 hx with hx | hx
          · exact h2 x hx
          · rw [List.mem_singleton.1 hx]
            have hz1:(pH ts z).n < ts.length:=(jC (w:=[61]) (z:=⟨z.bad,z.off,b9 ts z.n⟩) (lG hz).2).2
            have hlt:fA ts (stOf s t) z < ((stOf s t).fs.length:Int):=by have:=(BI (bP ts z.n).x (stOf s t).fs 0).2; unfold fA; omega
            have hge:¬ (fA ts (stOf s t) z < 0):=fun h=>by unfold oI at hb; rw [decide_eq_true h] at hb; simp at hb
            have hm:(stOf s t).fs.getD (fA ts (stOf s t) z).toNat default ∈ (stOf s t).fs:=by
              have hl:(fA ts (stOf s t) z).toNat < (stOf s t).fs.length:=by omega
              rw [List.getD_eq_getElem?_getD,List.getElem?_eq_getElem hl]
              exact List.getElem_mem hl
            exact ⟨(hok.fs _ hm).num,NF hs hts N _ _ (hok.fs _ hm).ty (hD _ hm) hz1⟩) [123] [125] (0,[]) z hn ⟨Nat.le_refl _,by simp⟩
      exact .mk c6 c0 (by decide) (by simp) (by show List.length _ * 88<=_; omega) (by simp) (fun x hx=>(h2 x hx).1) (fun x hx=>(h2 x hx).2)
    | false=>exact wC ht.k (QA hts 2 z hn).1 (by decide)
end Go.Proofs.YtkpohmhenegkiaaGreatDoor
namespace Go.Proofs.YtkpohmhenegkiaaGreatDoor
open Go.W
attribute [-go_sem] bT b8 bR eD cC gG
noncomputable def nN (D:Sc->Ty->Prop) (P:Prs):bX:=(28,.f (vU fun s t=>.bool (H0 s t))) :: (23,.f (cP (fun _ _ _=>True) fun s t v=>.int .i64 (dQ s t v))) :: (29,.s gG) :: (30,.s (bT 114)) :: (31,.s mK) :: x8 D P
theorem JF {D:Sc->Ty->Prop} {P:Prs} (h:ParsM D P):cX Tryz.prog (nN D P):=aG JD (aG AP (aB aOH (aB pW (aB oK (n9 h)))))
theorem EY (D:Sc->Ty->Prop) (P:Prs):eY (nN D P) 28=some (vU fun s t=>.bool (H0 s t)):=rfl
theorem I3 (D:Sc->Ty->Prop) (P:Prs):eY (nN D P) 23=some (cP (fun _ _ _=>True) fun s t v=>.int .i64 (dQ s t v)):=rfl
theorem SJ (D:Sc->Ty->Prop) (P:Prs):sp (nN D P) 29=gG:=rfl
theorem S6 (D:Sc->Ty->Prop) (P:Prs):sp (nN D P) 30=bT 114:=rfl
theorem S2 (D:Sc->Ty->Prop) (P:Prs):sp (nN D P) 31=mK:=rfl
theorem TK (D:Sc->Ty->Prop) (P:Prs):sp (nN D P) 24=lR:=rfl
theorem OV (D:Sc->Ty->Prop) (P:Prs) (k:Int):sp (nN D P) (fX k)=gV D P (fX k):=by
  unfold fX
  cases k == 1<;>cases k == 4<;>cases k == 7<;>cases k == 5<;>cases k == 6<;>rfl
theorem aAX {x:ByteArray} {K:S->Hp->Prop} (h:(a7 (bl x)).err=0) (hK:K (.tu [.c1 (.pt 0 0),iA .i64 0,iA .i64 0]) [gT 114 (a7 (bl x)).toks 0]):gG [tS x] [] K:=⟨fun _=>hK,fun h'=>absurd h h'⟩
theorem YB {x:ByteArray} {K:S->Hp->Prop} (h:(a7 (bl x)).err ≠ 0) (hK:K (.tu [.c1 (.vl (.pointer none)),iA .i64 (a7 (bl x)).err,iA .i64 (a7 (bl x)).off]) []):gG [tS x] [] K:=⟨fun h'=>absurd h' h,fun _=>hK⟩
def v0:Vl:=.mk 0 0 (mk []) [] []
def Q1 (ts:List Tk) (z:Fs):Fs:=bif (bP ts z.n).k != 0 then e7 ts z else z
def aA1 (s:Sc) (t:Ty) (ts:List Tk) (r:Vl × Fs):Vl × Int × Int:=
  bif (Q1 ts r.2).bad then (v0,2,(Q1 ts r.2).off) else bif dQ s t r.1 != 0 then (v0,dQ s t r.1,0) else (r.1,0,0)
def j9 (P:Prs) (s:Sc) (t:Ty) (x:List UInt8):Vl × Int × Int:=
  bif !H0 s t then (v0,13,0) else bif (a7 x).err != 0 then (v0,(a7 x).err,(a7 x).off) else aA1 s t (a7 x).toks (P s (a7 x).toks t ⟨false,0,0⟩)
def BS (D:Sc->Ty->Prop) (P:Prs):W.Spec:=fun av H K=>∃ s t x,av=[.va (.gs (aE s)),.va (.gs (aM t)),tS x]/\H=[]/\s.fit/\TyOk t/\(H0 s t=true->D s t)/\((a7 (bl x)).err=0->Tks (a7 (bl x)).toks)/\
  K (.tu [.gs (aV (j9 P s t (bl x)).1),iA .i64 (j9 P s t (bl x)).2.1,iA .i64 (j9 P s t (bl x)).2.2]) []
theorem Z2 {D:Sc->Ty->Prop} {P:Prs} (hP:ParsM D P) (hO:P.onw) (hv:∀ s ts t z,s.fit->Tks ts->TyOk t->D s t->z.n < ts.length->VlOk (P s ts t z).1):Meets Tryz.prog 13 (BS D P):=by
  refine aF Tryz.func13 aMC 3 (by rw [Tryz.ntmps13]; decide) (JF hP) (fun av H K h=>by obtain ⟨_,_,_,rfl,_⟩:=h; rfl) ?_
  rintro av H K ⟨s,t,x,rfl,rfl,hs,ht,hD,hT,hK⟩
  have k4:=cM ht
  have k5:=fM t
  have k6:=dX hs
  have k7:=gZ s
  have fin:∀ (v:Vl) (e a:Int) (R:Hp),j9 P s t (bl x)=(v,e,a)->W.Fin 0 K (.tu [.gs (aV v),iA .i64 e,iA .i64 a]) R:=fun v e a R h=>by
    rw [h] at hK
    refine .sel [] (by simp) (by simp) rfl (.done ?_)
    rw [aI] at hK ⊢
    simpa [go_sem] using hK
  clear hK
  unfold j9 at fin
  cases h1:H0 s t with
  | false=>
    rw [h1] at fin
    simp (maxSteps:=1000000) -dsimp only [go_sem,aE,aH t,SB,SU,EY,k4,k5,k6,k7,h1]
    exact fin v0 13 0 _ rfl
  | true=>
  rw [h1] at fin
  simp (maxSteps:=1000000) -dsimp only [go_sem,aE,aH t,SB,SU,EY,k4,k5,k6,k7,h1]
  refine aD rfl (.done ?_)
  simp (maxSteps:=1000000) -dsimp only [go_sem,F0,SJ]
  cases h2:(a7 (bl x)).err != 0 with
  | true=>
    rw [h2] at fin
    refine YB (by simpa using h2) ?_
    simp (maxSteps:=1000000) -dsimp only [go_sem]
    refine aD rfl (.done ?_)
    simp (maxSteps:=1000000) -dsimp only [go_sem,yM,h2]
    exact fin v0 _ _ _ rfl
  | false=>
  rw [h2] at fin
  have h2':(a7 (bl x)).err=0:=by simpa using h2
  have hts:=hT h2'
  refine aAX h2' ?_
  have hn0:(⟨false,0,0⟩:Fs).n < (a7 (bl x)).toks.length:=hts.e.pos
  generalize (a7 (bl x)).toks=ts at *
  simp (maxSteps:=1000000) -dsimp only [go_sem]
  refine aD rfl (.done ?_)
  have g0:((0:Int) != 0)=false:=rfl
  simp (maxSteps:=1000000) -dsimp only [go_sem,yM,g0]
  refine aD rfl (.done ?_)
  simp (maxSteps:=1000000) -dsimp only [go_sem,F7]
  refine aD rfl (.done ?_)
  simp (maxSteps:=1000000) -dsimp only [go_sem,F3,TK,OV]
  refine E8 (z:=⟨false,0,0⟩) hs ht hts hn0 (hD h1) ?_
  have hvk:=hv s ts t ⟨false,0,0⟩ hs hts ht (hD h1) hn0
  have hn1:=(hO s ts t ⟨false,0,0⟩ hn0).2
  generalize P s ts t ⟨false,0,0⟩=r at *
  obtain ⟨v,z⟩:=r
  simp only at hvk hn1
  have k1:=cE hvk
  have k2:=eU v
  simp (maxSteps:=1000000) -dsimp only [go_sem,aI v]
  refine aD rfl (.done ?_)
  simp (maxSteps:=1000000) -dsimp only [go_sem,H8,S6]
  refine kA hts.e hn1 ?_
  simp only [Bool.not_true,Bool.cond_false,aA1,Q1] at fin
  cases hk:(bP ts z.n).k != 0 with
  | true=>
    rw [hk,Bool.cond_true] at fin
    simp (maxSteps:=1000000) -dsimp only [go_sem,cW,hk]
    refine aD rfl (.done ?_)
    simp (maxSteps:=1000000) -dsimp only [go_sem,GQ,S2]
    refine dO (z:=z) hts.e hn1 ?_
    generalize e7 ts z=z2 at *
    simp (maxSteps:=1000000) -dsimp only [go_sem]
    refine aD rfl (.done ?_)
    cases hb:z2.bad with
    | true=>
      rw [hb] at fin
      simp (maxSteps:=1000000) -dsimp only [go_sem,mD,hb]
      exact fin v0 2 z2.off _ rfl
    | false=>
      rw [hb] at fin
      simp (maxSteps:=1000000) -dsimp only [go_sem,mD,hb]
      refine aD rfl (.done ?_)
      simp (maxSteps:=1000000) -dsimp only [go_sem,sX,I3,k1,k2,k4,k5,k6,k7]
      refine aD rfl (.done ?_)
      cases hc:dQ s t v != 0 with
      | true=>
        rw [hc] at fin
        simp (maxSteps:=1000000) -dsimp only [go_sem,mL,hc]
        exact fin v0 (dQ s t v) 0 _ rfl
      | false=>
        rw [hc] at fin
        simp (maxSteps:=1000000) -dsimp only [go_sem,mL,hc]
        have:=fin v 0 0
        rw [aI] at this
        exact this _ rfl
  | false=>
    rw [hk,Bool.cond_false] at fin
    simp (maxSteps:=1000000) -dsimp only [go_sem,cW,hk]
    have z2:=z
    clear z2
    generalize hz2:z=z2 at *
    refine aD rfl (.done ?_)
    cases hb:z2.bad with
    | true=>
      rw [hb] at fin
      simp (maxSteps:=1000000) -dsimp only [go_sem,mD,hb]
      exact fin v0 2 z2.off _ rfl
    | false=>
      rw [hb] at fin
      simp (maxSteps:=1000000) -dsimp only [go_sem,mD,hb]
      refine aD rfl (.done ?_)
      simp (maxSteps:=1000000) -dsimp only [go_sem,sX,I3,k1,k2,k4,k5,k6,k7]
      refine aD rfl (.done ?_)
      cases hc:dQ s t v != 0 with
      | true=>
        rw [hc] at fin
        simp (maxSteps:=1000000) -dsimp only [go_sem,mL,hc]
        exact fin v0 (dQ s t v) 0 _ rfl
      | false=>
        rw [hc] at fin
        simp (maxSteps:=1000000) -dsimp only [go_sem,mL,hc]
        have:=fin v 0 0
        rw [aI] at this
        exact this _ rfl
end Go.Proofs.YtkpohmhenegkiaaGreatDoor
namespace Go.Proofs.YtkpohmhenegkiaaGreatDoor
open Go.W
attribute [-go_sem] bT b8 bR eD cC gG
abbrev rJ (s:Sc) (b:Bool):B:=.cells [.vl (.int .i64 s.ver),.fz (s.es.map aX),.fz (s.ss.map aL),.vl (.pointer none),.vl (.bool b),.vl (.int .i64 0)] 62
abbrev eV:Type:=Sc->Ty->Vl->List UInt8 × Bool
def oG (D:Sc->Ty->Vl->Prop) (F:eV):W.Spec:=fun av H K=>∃ s t v b,av=[.va (.c1 (.pt 0 0)),.va (.gs (aM t)),.va (.gs (aV v))]/\H=[rJ s b]/\s.fit/\TyOk t/\VlOk v/\D s t v/\K (tS (mk (F s t v).1)) [rJ s (b || (F s t v).2)]
theorem oO {D:Sc->Ty->Vl->Prop} {F:eV}:∀ av H K,oG D F av H K->av.length=3:=fun av H K h=>by obtain ⟨_,_,_,_,rfl,_⟩:=h; rfl
def DN (n:Int):List UInt8:=bif n == 1 then tU else o5
theorem JE:Meets Tryz.prog 54 (oG (fun _ _ _=>True) fun _ _ v=>(DN v.n,false)):=by
  refine aF Tryz.func54 aMY 3 (by rw [Tryz.ntmps54]; decide) (aA _) oO ?_
  rintro av H K ⟨s,t,v,b,rfl,rfl,hs,ht,hv,_,hK⟩
  unfold DN at hK
  rw [Bool.or_false] at hK
  cases h:v.n == 1<;>simp only [h,Bool.cond_true,Bool.cond_false] at hK <;>
  · simp (maxSteps:=1000000) -dsimp only [go_sem,aH t,aI v,aEO,aE0,h]
    refine .sel [0] (by simp) (by simp) rfl (.done ?_)
    simp (maxSteps:=1000000) -dsimp only [go_sem]
    exact hK
theorem DV:Meets Tryz.prog 64 (oG (fun _ _ _=>True) fun _ _ v=>(gI v.n,false)):=by
  refine aF Tryz.func64 aLD 3 (by rw [Tryz.ntmps64]; decide) (aG NI (aA _)) oO ?_
  rintro av H K ⟨s,t,v,b,rfl,rfl,hs,ht,hv,_,hK⟩
  rw [Bool.or_false] at hK
  have hn:=hv.n
  have hn1:=hn.1
  have hn2:=hn.2
  simp (maxSteps:=1000000) -dsimp only [go_sem,aH t,aI v,aAC,aBP]
  refine ⟨⟨hn1,hn2⟩,.sel [0] (by simp) (by simp) rfl (.done ?_)⟩
  simp (maxSteps:=1000000) -dsimp only [go_sem]
  exact hK
def lT (x:List UInt8):List UInt8:=bif decide (x.length<=200) && x.all gA then lQ x else []
theorem aD3 (x:List UInt8):kX [⟨3,x,0,0⟩]=lT x:=by
  unfold kX lT sI m8 lP
  cases h:(decide (x.length<=200) && x.all gA)<;>simp [h]
theorem I6:Meets Tryz.prog 56 (oG (fun _ _ v=>(bl v.s).length<=100000) fun _ _ v=>(lT (bl v.s),lT (bl v.s) == [])):=by
  refine aF Tryz.func56 aLV 3 (by rw [Tryz.ntmps56]; decide) (aG aET (aA _)) oO ?_
  rintro av H K ⟨s,t,v,b,rfl,rfl,hs,ht,hv,hD,hK⟩
  have hK:K (tS (mk (lT (bl v.s)))) [rJ s (b || (lT (bl v.s) == []))]:=hK
  have e:[C.vl (.int .i64 3),.vl (.string v.s),.vl (.int .i64 0),.vl (.int .i64 0)]=CX ⟨3,bl v.s,0,0⟩:=by show _=[_,C.vl (.string (mk (bl v.s))),_,_]; rw [kD]
  have p1:prtFn.val [.va (.c1 (.fz [[.vl (.int .i64 3),.vl (.string v.s),.vl (.int .i64 0),.vl (.int .i64 0)]]))]=tA (mk (lT (bl v.s))):=by
    rw [e,<-aD3]; exact rN [⟨3,bl v.s,0,0⟩]
  have p2:prtFn.pre [.va (.c1 (.fz [[.vl (.int .i64 3),.vl (.string v.s),.vl (.int .i64 0),.vl (.int .i64 0)]]))]:=by
    rw [e]
    exact ⟨[⟨3,bl v.s,0,0⟩],rfl,by simp,fun t ht=>by rw [List.mem_singleton.1 ht]; exact ⟨show (-9223372036854775808:Int)<=0 by decide,show (0:Int)<=9223372036854775807 by decide,hD⟩⟩
  cases b <;>
  · simp (maxSteps:=1000000) -dsimp only [go_sem,aH t,aI v,aC9,aAT,p1,p2]
    refine .sel [0] (by simp) (by simp) rfl (.done ?_)
    simp (maxSteps:=1000000) -dsimp only [go_sem]
    exact hK
end Go.Proofs.YtkpohmhenegkiaaGreatDoor
namespace Go.Proofs.YtkpohmhenegkiaaGreatDoor
open Go.W
attribute [-go_sem] bT b8 bR eD cC gG
def iI (ns:List ByteArray) (n:Int):List Int->Nat->ByteArray
  | [],_=>mk []
  | m :: l,i=>bif m == n && decide ((i:Int) < (ns.length:Int)) then ns.getD i (mk []) else iI ns n l (i + 1)
def enOf (s:Sc) (t:Ty):En:=(bW s.es t.n).getD default
theorem K8 {s:Sc} (hs:s.fit) (t:Ty):(enOf s t).ok:=by
  unfold enOf
  cases h:bW s.es t.n with
  | none=>exact ⟨by decide,by decide,by decide,fun _ h=>(by cases h),fun _ h=>(by cases h)⟩
  | some e=>exact hs.ok.es e (List.mem_of_find?_eq_some h)
theorem I7:Meets Tryz.prog 58 (oG (fun _ _ _=>True) fun s t v=>(bl (iI (enOf s t).ns v.n (enOf s t).vs 0),false)):=by
  refine aF Tryz.func58 aM4 3 (by rw [Tryz.ntmps58]; decide) (aB wX (aA _)) oO ?_
  rintro av H K ⟨s,t,v,b,rfl,rfl,hs,ht,hv,_,hK⟩
  have he:=K8 hs t
  rw [Bool.or_false] at hK
  have hK:K (tS (iI (enOf s t).ns v.n (enOf s t).vs 0)) [rJ s b]:=by have:=hK; rw [kD] at this; exact this
  simp (maxSteps:=1000000) -dsimp only [go_sem,aH t,aI v,aFH,aCK]
  refine iY hs ?_
  rw [show (bW s.es t.n).getD default=enOf s t from rfl]
  generalize enOf s t=e at *
  have hlv:=he.lv
  have hln:=he.ln
  simp (maxSteps:=1000000) -dsimp only [go_sem,aX]
  refine aD rfl (.done ?_)
  simp (maxSteps:=1000000) -dsimp only [go_sem,GD]
  refine aK (α:=Nat) (fun i=>[(5,.va (.c1 (.pt 2 0))),(7,.va (.c1 (.pt 3 0))),(22,.va (.c1 (.fz (e.vs.map bU)))),(23,iS .i64 e.vs.length),(24,iS .i64 i)])
    (fun _=>[rJ s b,.cells [.vl (.int .i64 t.k),.vl (.int .i64 t.s),.vl (.string t.n),.fz (t.e.map aM)] 28,.cells [.vl (.int .i64 v.k),.vl (.int .i64 v.n),.vl (.string v.s),.fz (v.l.map aV),.fz (v.f.map aY)] 32,.cells [.vl (.string e.nm),.fz (e.ns.map bB),.fz (e.vs.map bU)] 92])
    (fun i=>i<=e.vs.length/\iI e.ns v.n (e.vs.drop i) i=iI e.ns v.n e.vs 0) (fun i=>e.vs.length - i) 0 4 ⟨Nat.zero_le _,rfl⟩ ?_ ?_ ?_
  · simp -dsimp only [go_sem]<;>simp
  · simp -dsimp only [go_sem]<;>simp
  rintro i ⟨hi,ho⟩
  rcases Nat.lt_or_ge i e.vs.length with hlt | hge
  · have hg:decide ((i:Int) < (e.vs.length:Int))=true:=by simp; omega
    have hx:e.vs[i]? = some e.vs[i]:=List.getElem?_eq_getElem hlt
    have q2:=aO (row:=bU) hx
    rw [List.drop_eq_getElem_cons hlt,iI] at ho
    generalize e.vs[i]=m at *
    simp (maxSteps:=1000000) -dsimp only [go_sem,hg,↓q2]
    refine ⟨⟨by omega,by omega⟩,aD rfl (.done ?_)⟩
    cases hc1:m == v.n with
    | false=>
      rw [hc1,Bool.false_and,Bool.cond_false] at ho
      simp (maxSteps:=1000000) -dsimp only [go_sem,rO,hc1]
      refine ⟨by omega,aC (i + 1) 4 ⟨by omega,ho⟩ (by omega) ?_ ?_⟩
      · simp -dsimp only [go_sem]<;>simp
      · simp -dsimp only [go_sem]<;>simp
    | true=>
      cases hc2:decide ((i:Int) < (e.ns.length:Int)) with
      | false=>
        rw [hc1,hc2,Bool.true_and,Bool.cond_false] at ho
        simp (maxSteps:=1000000) -dsimp only [go_sem,rO,hc1,hc2]
        refine ⟨by omega,aC (i + 1) 4 ⟨by omega,ho⟩ (by omega) ?_ ?_⟩
        · simp -dsimp only [go_sem]<;>simp
        · simp -dsimp only [go_sem]<;>simp
      | true=>
        rw [hc1,hc2,Bool.true_and,Bool.cond_true] at ho
        have hlt2:i < e.ns.length:=by simpa using hc2
        have hx2:e.ns[i]? = some e.ns[i]:=List.getElem?_eq_getElem hlt2
        have q3:=aO (row:=bB) hx2
        rw [List.getD_eq_getElem?_getD,hx2,Option.getD_some] at ho
        rw [<-ho] at hK
        generalize e.ns[i]=w at *
        simp (maxSteps:=1000000) -dsimp only [go_sem,rO,hc1,hc2,↓q3]
        refine ⟨⟨by omega,by omega⟩,.sel [0] (by simp) (by simp) rfl (.done ?_)⟩
        simp (maxSteps:=1000000) -dsimp only [go_sem]
        exact hK
  · have hg:decide ((i:Int) < (e.vs.length:Int))=false:=by simp; omega
    have:e.vs.drop i=[]:=List.drop_eq_nil_iff.2 (by omega)
    rw [this,iI] at ho
    rw [<-ho] at hK
    simp (maxSteps:=1000000) -dsimp only [go_sem,hg]
    refine .sel [0] (by simp) (by simp) rfl (.done ?_)
    simp (maxSteps:=1000000) -dsimp only [go_sem]
    exact hK
end Go.Proofs.YtkpohmhenegkiaaGreatDoor
namespace Go.Proofs.YtkpohmhenegkiaaGreatDoor
open Go.W
attribute [-go_sem] bT b8 bR eD cC gG
def hM (D:Sc->Ty->Vl->Prop) (F:eV) (f:FuncId):W.Spec:=oG (fun s t v=>D s t v/\fY t.k=f) F
def IG (D:Sc->Ty->Vl->Prop) (F:eV):bX:=[(24,.s lR),(54,.s (hM D F 54)),(56,.s (hM D F 56)),(58,.s (hM D F 58)),
  (60,.s (hM D F 60)),(62,.s (hM D F 62)),(64,.s (hM D F 64))]
structure FmtM (D:Sc->Ty->Vl->Prop) (F:eV):Prop where
  b:Meets Tryz.prog 54 (hM D F 54)
  t:Meets Tryz.prog 56 (hM D F 56)
  e:Meets Tryz.prog 58 (hM D F 58)
  l:Meets Tryz.prog 60 (hM D F 60)
  s:Meets Tryz.prog 62 (hM D F 62)
  n:Meets Tryz.prog 64 (hM D F 64)
theorem qE {D:Sc->Ty->Vl->Prop} {F:eV} (h:FmtM D F):cX Tryz.prog (IG D F):=
  aB mOf (aB h.b (aB h.t (aB h.e (aB h.l (aB h.s (aB h.n (aA _)))))))
theorem J5 (D:Sc->Ty->Vl->Prop) (F:eV):sp (IG D F) 24=lR:=rfl
theorem H4 (D:Sc->Ty->Vl->Prop) (F:eV) (k:Int):sp (IG D F) (fY k)=hM D F (fY k):=by
  unfold fY
  cases k == 1<;>cases k == 4<;>cases k == 7<;>cases k == 5<;>cases k == 6<;>rfl
theorem rA {D:Sc->Ty->Vl->Prop} {F:eV} {s:Sc} {t:Ty} {v:Vl} {b:Bool} {K:S->Hp->Prop} (h1:s.fit) (h2:TyOk t) (h3:VlOk v) (h4:D s t v) (hK:K (tS (mk (F s t v).1)) [rJ s (b || (F s t v).2)]) :
    hM D F (fY t.k) [.va (.c1 (.pt 0 0)),.va (.gs [.vl (.int .i64 t.k),.vl (.int .i64 t.s),.vl (.string t.n),.fz (t.e.map aM)]),.va (.gs [.vl (.int .i64 v.k),.vl (.int .i64 v.n),.vl (.string v.s),.fz (v.l.map aV),.fz (v.f.map aY)])] [rJ s b] K:=
  ⟨s,t,v,b,by rw [aH,aI],rfl,h1,h2,h3,⟨h4,rfl⟩,hK⟩
def cZ:Bool->List (List UInt8)->List UInt8
  | _,[]=>[]
  | c,x :: r=>(bif c then [44,32] else []) ++ x ++ cZ true r
theorem u0:∀ (c:Bool) (xs ys:List (List UInt8)),cZ c (xs ++ ys)=cZ c xs ++ cZ (c || !xs.isEmpty) ys
  | c,[],ys=>by simp [cZ]
  | c,x :: r,ys=>by
    rw [List.cons_append,cZ,cZ,u0 true r ys]
    simp [List.append_assoc]
theorem gB {α:Type} (f:α->List UInt8) (l:List α) (i:Nat):(cZ false ((l.take i).map f)).length<=(cZ false (l.map f)).length:=by
  have h:l.map f=(l.take i).map f ++ (l.drop i).map f:=by rw [<-List.map_append,List.take_append_drop]
  rw [h,u0,List.length_append]; omega
theorem nV {α:Type} (f:α->List UInt8) {l:List α} {i:Nat} {x:α} (h:l[i]? = some x):cZ false ((l.take (i + 1)).map f)=cZ false ((l.take i).map f) ++ (bif decide (0 < (i:Int)) then [44,32] else []) ++ f x:=by
  have hl:=(List.getElem?_eq_some_iff.1 h).1
  rw [List.take_add_one,h,List.map_append,u0]
  have e:(false || !((l.take i).map f).isEmpty)=decide (0 < (i:Int)):=by
    cases i with
    | zero=>simp
    | succ i=>
      have:decide (0 < ((i + 1:Nat):Int))=true:=decide_eq_true (by omega)
      rw [this]
      cases l with
      | nil=>simp at hl
      | cons y l=>simp
  rw [e]
  simp [cZ,List.append_assoc]
def lV (F:eV) (s:Sc) (u:Ty) (l:List Vl):List UInt8 × Bool:=([91] ++ cZ false (l.map fun x=>(F s u x).1) ++ [93],l.any fun x=>(F s u x).2)
theorem JC {D:Sc->Ty->Vl->Prop} {F:eV} (hF:FmtM D F):Meets Tryz.prog 60 (oG (fun s t v=>∃ u,t.e=[u]/\TyOk u/\(∀ x ∈ v.l,D s u x)/\(lV F s u v.l).1.length<=100000000000000) fun s t v=>lV F s (t.e.headD default) v.l):=by
  refine aF Tryz.func60 aLQ 3 (by rw [Tryz.ntmps60]; decide) (qE hF) oO ?_
  rintro av H K ⟨s,t,v,b,rfl,rfl,hs,ht,hv,⟨u,he,hu,hD,hlen⟩,hK⟩
  have hK:K (tS (mk (lV F s u v.l).1)) [rJ s (b || (lV F s u v.l).2)]:=by have:=hK; simp only [he,List.headD_cons] at this; exact this
  have hll:=hv.ll
  have hvl:=hv.l
  unfold lV at hK hlen
  simp only [List.length_append,List.length_singleton] at hlen
  simp (maxSteps:=1000000) -dsimp only [go_sem,aH t,aI v,aC5,aAL]
  refine aK (α:=Nat) (fun i=>[(0,.va (.c1 (.pt 0 0))),(4,.va (.c1 (.pt 1 0))),(7,tS (mk ([91] ++ cZ false ((v.l.take i).map fun x=>(F s u x).1)))),(11,.va (.c1 (.fz (v.l.map aV)))),(12,iS .i64 v.l.length),(13,iS .i64 i)])
    (fun i=>[rJ s (b || (v.l.take i).any fun x=>(F s u x).2),.cells [.vl (.int .i64 t.k),.vl (.int .i64 t.s),.vl (.string t.n),.fz (t.e.map aM)] 28,.cells [.vl (.int .i64 v.k),.vl (.int .i64 v.n),.vl (.string v.s),.fz (v.l.map aV),.fz (v.f.map aY)] 32])
    (fun i=>i<=v.l.length) (fun i=>v.l.length - i) 0 3 (Nat.zero_le _) ?_ ?_ ?_
  · simp -dsimp only [go_sem]<;>simp [cZ]
  · simp -dsimp only [go_sem]<;>simp
  intro i hi
  have hci:=gB (fun x=>(F s u x).1) v.l i
  rcases Nat.lt_or_ge i v.l.length with hlt | hge
  · have hg:decide ((i:Int) < (v.l.length:Int))=true:=by simp; omega
    have hx:v.l[i]? = some v.l[i]:=List.getElem?_eq_getElem hlt
    have q2:=aO (row:=aV) hx
    have hxo:=hvl _ (List.getElem_mem hlt)
    have hxD:=hD _ (List.getElem_mem hlt)
    have hcn:=nV (fun x=>(F s u x).1) hx
    have han:(v.l.take (i + 1)).any (fun x=>(F s u x).2)=((v.l.take i).any (fun x=>(F s u x).2) || (F s u v.l[i]).2):=by rw [List.take_add_one,hx,List.any_append]; simp
    have hc1:=gB (fun x=>(F s u x).1) v.l (i + 1)
    generalize v.l[i]=x at *
    have z0:(0:Int) < ((1:Nat):Int):=by decide
    have z1:(0:Int)<=0:=by decide
    cases hc:decide (0 < (i:Int)) with
    | true=>
      rw [hc,Bool.cond_true] at hcn
      rw [hcn] at hc1
      simp only [List.length_append] at hc1
      simp (maxSteps:=1000000) -dsimp only [go_sem,hg,↓q2,aI x,hc,List.take_succ_cons,List.take_zero,List.length_cons]
      refine ⟨⟨by omega,by omega⟩,by omega,aD rfl (.done ?_)⟩
      simp (maxSteps:=1000000) -dsimp only [go_sem,wY,he,aH u,J5,H4,forall_eq',z0,z1,List.length_cons,List.length_nil,List.take_succ_cons,List.take_zero]
      refine rA hs hu hxo hxD ?_
      simp (maxSteps:=1000000) -dsimp only [go_sem,he,aH u]
      refine ⟨by simp only [List.length_cons,List.length_nil] at hc1; omega,⟨by omega,by omega⟩,aC (i + 1) 3 (by omega) (by omega) ?_ ?_⟩
      · simp -dsimp only [go_sem,hcn]<;>simp
      · simp -dsimp only [go_sem,han]<;>simp [he,aH u,Bool.or_assoc]
    | false=>
      rw [hc,Bool.cond_false] at hcn
      rw [hcn] at hc1
      simp only [List.length_append] at hc1
      simp (maxSteps:=1000000) -dsimp only [go_sem,hg,↓q2,aI x,hc,List.take_succ_cons,List.take_zero,List.length_cons]
      refine ⟨⟨by omega,by omega⟩,aD rfl (.done ?_)⟩
      simp (maxSteps:=1000000) -dsimp only [go_sem,wY,he,aH u,J5,H4,forall_eq',z0,z1,List.length_cons,List.length_nil,List.take_succ_cons,List.take_zero]
      refine rA hs hu hxo hxD ?_
      simp (maxSteps:=1000000) -dsimp only [go_sem,he,aH u]
      refine ⟨by simp only [List.length_cons,List.length_nil] at hc1; omega,⟨by omega,by omega⟩,aC (i + 1) 3 (by omega) (by omega) ?_ ?_⟩
      · simp -dsimp only [go_sem,hcn]<;>simp
      · simp -dsimp only [go_sem,han]<;>simp [he,aH u,Bool.or_assoc]
  · have hg:decide ((i:Int) < (v.l.length:Int))=false:=by simp; omega
    rw [List.take_of_length_le hge] at hci ⊢
    simp (maxSteps:=1000000) -dsimp only [go_sem,hg]
    refine ⟨by omega,.sel [0] (by simp) (by simp) rfl (.done ?_)⟩
    simp (maxSteps:=1000000) -dsimp only [go_sem]
    simpa using hK
end Go.Proofs.YtkpohmhenegkiaaGreatDoor
namespace Go.Proofs.YtkpohmhenegkiaaGreatDoor
open Go.W
attribute [-go_sem] bT b8 bR eD cC gG
def HM (D:Sc->Ty->Vl->Prop) (F:eV):bX:=(103,.s jP) :: (104,.s kK) :: IG D F
theorem LQ {D:Sc->Ty->Vl->Prop} {F:eV} (h:FmtM D F):cX Tryz.prog (HM D F):=aB m1 (aB sF (qE h))
theorem KW (D:Sc->Ty->Vl->Prop) (F:eV):sp (HM D F) 24=lR:=rfl
theorem Y5 (D:Sc->Ty->Vl->Prop) (F:eV):sp (HM D F) 103=jP:=rfl
theorem KE (D:Sc->Ty->Vl->Prop) (F:eV):sp (HM D F) 104=kK:=rfl
theorem IE (D:Sc->Ty->Vl->Prop) (F:eV) (k:Int):sp (HM D F) (fY k)=hM D F (fY k):=by
  unfold fY
  cases k == 1<;>cases k == 4<;>cases k == 7<;>cases k == 5<;>cases k == 6<;>rfl
def cK (u:St) (n:Int):Fl:=(fF u.fs n).getD default
def nP (F:eV) (s:Sc) (u:St) (x:Int × Vl):List UInt8:=bl (cK u x.1).nm ++ [32,61,32] ++ (F s (cK u x.1).ty x.2).1
def iG (F:eV) (s:Sc) (u:St) (l:List (Int × Vl)):List UInt8 × Bool:=([123] ++ cZ false (l.map (nP F s u)) ++ [125],l.any fun x=>(F s (cK u x.1).ty x.2).2)
theorem tJ {u:St} (hu:u.ok) (n:Int):(cK u n).ok:=by
  unfold cK
  cases h:fF u.fs n with
  | none=>exact ⟨⟨by decide,by decide⟩,by decide,.mk ⟨by decide,by decide⟩ ⟨by decide,by decide⟩ (by decide) (by decide) (fun _ h=>by cases h)⟩
  | some d=>exact hu.fs d (List.mem_of_find?_eq_some h)
theorem wD {s:Sc} (hs:s.fit) (t:Ty):∀ f ∈ (stOf s t).fs,TySm f.ty:=by
  unfold stOf
  cases h:fS s.ss t.n with
  | none=>exact fun _ h=>(by cases h)
  | some u=>exact (hs.sm u (List.mem_of_find?_eq_some h)).2
theorem jX {t:St} {k:Int} {K:S->Hp->Prop} (h:t.ok) (h2:∀ f ∈ t.fs,TySm f.ty) (hK:K (.tu [.gs (aR (cK t k)),bA (fF t.fs k).isSome]) []):kK [.va (.gs [.vl (.string t.nm),.fz (t.fs.map aR)]),iS .i64 k] [] K:=⟨t,k,rfl,rfl,h,h2,hK⟩
theorem DS {D:Sc->Ty->Vl->Prop} {F:eV} (hF:FmtM D F):Meets Tryz.prog 62 (oG (fun s t v=>(∀ x ∈ v.f,D s (cK (stOf s t) x.1).ty x.2)/\(iG F s (stOf s t) v.f).1.length<=100000000000000) fun s t v=>iG F s (stOf s t) v.f):=by
  refine aF Tryz.func62 aL5 3 (by rw [Tryz.ntmps62]; decide) (LQ hF) oO ?_
  rintro av H K ⟨s,t,v,b,rfl,rfl,hs,ht,hv,⟨hD,hlen⟩,hK⟩
  have hK:K (tS (mk (iG F s (stOf s t) v.f).1)) [rJ s (b || (iG F s (stOf s t) v.f).2)]:=hK
  have hok:=i7 hs t
  have hll:=hv.lf
  have hvl:=hv.f
  have hvn:=hv.fn
  simp (maxSteps:=1000000) -dsimp only [go_sem,aH t,aI v,aBT,aBB,Y5]
  refine gP hs ?_
  rw [show (fS s.ss t.n).getD default=stOf s t from rfl]
  have hsu:=wD hs t
  generalize stOf s t=u at *
  unfold iG at hK hlen
  simp only [List.length_append,List.length_singleton] at hlen
  simp (maxSteps:=1000000) -dsimp only [go_sem,aL]
  refine aD rfl (.done ?_)
  simp (maxSteps:=1000000) -dsimp only [go_sem,GE]
  refine aK (α:=Nat) (fun i=>[(0,.va (.c1 (.pt 0 0))),(7,.va (.c1 (.pt 3 0))),(9,tS (mk ([123] ++ cZ false ((v.f.take i).map (nP F s u))))),(25,.va (.c1 (.fz (v.f.map aY)))),(26,iS .i64 v.f.length),(27,iS .i64 i)])
    (fun i=>[rJ s (b || (v.f.take i).any fun x=>(F s (cK u x.1).ty x.2).2),.cells [.vl (.int .i64 t.k),.vl (.int .i64 t.s),.vl (.string t.n),.fz (t.e.map aM)] 28,.cells [.vl (.int .i64 v.k),.vl (.int .i64 v.n),.vl (.string v.s),.fz (v.l.map aV),.fz (v.f.map aY)] 32,.cells [.vl (.string u.nm),.fz (u.fs.map aR)] 95])
    (fun i=>i<=v.f.length) (fun i=>v.f.length - i) 0 4 (Nat.zero_le _) ?_ ?_ ?_
  · simp -dsimp only [go_sem]<;>simp [cZ]
  · simp -dsimp only [go_sem]<;>simp
  intro i hi
  have hci:=gB (nP F s u) v.f i
  rcases Nat.lt_or_ge i v.f.length with hlt | hge
  · have hg:decide ((i:Int) < (v.f.length:Int))=true:=by simp; omega
    have hx:v.f[i]? = some v.f[i]:=List.getElem?_eq_getElem hlt
    have q2:=aO (row:=aY) hx
    have hxo:=hvl _ (List.getElem_mem hlt)
    have hxD:=hD _ (List.getElem_mem hlt)
    have hcn:=nV (nP F s u) hx
    have han:(v.f.take (i + 1)).any (fun x=>(F s (cK u x.1).ty x.2).2)=((v.f.take i).any (fun x=>(F s (cK u x.1).ty x.2).2) || (F s (cK u v.f[i].1).ty v.f[i].2).2):=by rw [List.take_add_one,hx,List.any_append]; simp
    have hc1:=gB (nP F s u) v.f (i + 1)
    generalize v.f[i]=x at *
    obtain ⟨n,x⟩:=x
    have hdo:=tJ hok n
    have hit:nP F s u (n,x)=bl (cK u n).nm ++ [32,61,32] ++ (F s (cK u n).ty x).1:=rfl
    simp only at hxo hxD han
    simp (maxSteps:=1000000) -dsimp only [go_sem,hg,↓q2,aY,aI x,List.take_succ_cons,List.take_zero,List.length_cons]
    refine ⟨⟨by omega,by omega⟩,aD rfl (.done ?_)⟩
    cases hc:decide (0 < (i:Int)) with
    | true=>
      rw [hc,Bool.cond_true] at hcn
      rw [hcn,hit] at hc1
      rw [hit] at hcn
      simp only [List.length_append,List.length_cons,List.length_nil] at hc1
      simp (maxSteps:=1000000) -dsimp only [go_sem,w7,hc]
      refine ⟨by omega,aD rfl (.done ?_)⟩
      simp (maxSteps:=1000000) -dsimp only [go_sem,xW,KE]
      refine jX hok hsu ?_
      generalize cK u n=d at *
      simp (maxSteps:=1000000) -dsimp only [go_sem,aR]
      refine aD rfl (.done ?_)
      simp (maxSteps:=1000000) -dsimp only [go_sem,wZ,KW,IE,List.length_cons,List.length_nil,List.take_succ_cons,List.take_zero]
      have hnm:(bl d.nm).length<=9223372036854775804:=by omega
      refine ⟨hnm,hnm,rA hs hdo.ty hxo hxD ?_⟩
      simp (maxSteps:=1000000) -dsimp only [go_sem,aI x]
      refine ⟨hnm,by omega,by omega,⟨by omega,by omega⟩,aC (i + 1) 4 (by omega) (by omega) ?_ ?_⟩
      · simp -dsimp only [go_sem,hcn]<;>simp
      · simp -dsimp only [go_sem,han]<;>simp [Bool.or_assoc]
    | false=>
      rw [hc,Bool.cond_false] at hcn
      rw [hcn,hit] at hc1
      rw [hit] at hcn
      simp only [List.length_append,List.length_cons,List.length_nil] at hc1
      simp (maxSteps:=1000000) -dsimp only [go_sem,w7,hc]
      refine aD rfl (.done ?_)
      simp (maxSteps:=1000000) -dsimp only [go_sem,xW,KE]
      refine jX hok hsu ?_
      generalize cK u n=d at *
      simp (maxSteps:=1000000) -dsimp only [go_sem,aR]
      refine aD rfl (.done ?_)
      simp (maxSteps:=1000000) -dsimp only [go_sem,wZ,KW,IE,List.length_cons,List.length_nil,List.take_succ_cons,List.take_zero]
      have hnm:(bl d.nm).length<=9223372036854775804:=by omega
      refine ⟨hnm,hnm,rA hs hdo.ty hxo hxD ?_⟩
      simp (maxSteps:=1000000) -dsimp only [go_sem,aI x]
      refine ⟨hnm,by omega,by omega,⟨by omega,by omega⟩,aC (i + 1) 4 (by omega) (by omega) ?_ ?_⟩
      · simp -dsimp only [go_sem,hcn]<;>simp
      · simp -dsimp only [go_sem,han]<;>simp [Bool.or_assoc]
  · have hg:decide ((i:Int) < (v.f.length:Int))=false:=by simp; omega
    rw [List.take_of_length_le hge] at hci ⊢
    simp (maxSteps:=1000000) -dsimp only [go_sem,hg]
    refine ⟨by omega,.sel [0] (by simp) (by simp) rfl (.done ?_)⟩
    simp (maxSteps:=1000000) -dsimp only [go_sem]
    simpa using hK
end Go.Proofs.YtkpohmhenegkiaaGreatDoor
namespace Go.Proofs.YtkpohmhenegkiaaGreatDoor
open Go.W
attribute [-go_sem] bT b8 bR eD cC gG
def fP:Nat->eV
  | 0=>fun _ _ _=>([],false)
  | N + 1=>fun s t v=>bif t.k == 1 then (DN v.n,false) else bif t.k == 4 then (lT (bl v.s),lT (bl v.s) == []) else bif t.k == 7 then (bl (iI (enOf s t).ns v.n (enOf s t).vs 0),false)
      else bif t.k == 5 then lV (fP N) s (t.e.headD default) v.l else bif t.k == 6 then iG (fP N) s (stOf s t) v.f else (gI v.n,false)
theorem iC (N:Nat) (s:Sc) (t:Ty) (v:Vl):fP (N + 1) s t v=bif t.k == 1 then (DN v.n,false) else bif t.k == 4 then (lT (bl v.s),lT (bl v.s) == []) else bif t.k == 7 then (bl (iI (enOf s t).ns v.n (enOf s t).vs 0),false)
      else bif t.k == 5 then lV (fP N) s (t.e.headD default) v.l else bif t.k == 6 then iG (fP N) s (stOf s t) v.f else (gI v.n,false):=rfl
def dF:Nat->Sc->Ty->Vl->Prop
  | 0,_,_,_=>False
  | N + 1,s,t,v=>((t.k == 4)=true->(bl v.s).length<=100000)/\((t.k == 5)=true->∃ u,t.e=[u]/\TyOk u/\∀ x ∈ v.l,dF N s u x)/\((t.k == 6)=true->∀ x ∈ v.f,dF N s (cK (stOf s t) x.1).ty x.2)/\(fP (N + 1) s t v).1.length<=100000000000000
theorem mP {f:FuncId} {D D':Sc->Ty->Vl->Prop} {F F':eV} (h:Meets Tryz.prog f (oG D F)) (hd:∀ s t v,D' s t v->D s t v/\F s t v=F' s t v):Meets Tryz.prog f (oG D' F'):=
  eN (0:Nat) (fun (_:Nat)=>h) fun av H K ⟨s,t,v,b,h1,h2,h3,h4,h5,h6,h7⟩=>⟨0,s,t,v,b,h1,h2,h3,h4,h5,(hd s t v h6).1,by rw [(hd s t v h6).2]; exact h7⟩
theorem mI (k:Int):(fY k=54->(k == 1)=true)/\(fY k=56->(k == 1)=false/\(k == 4)=true)/\(fY k=58->(k == 1)=false/\(k == 4)=false/\(k == 7)=true)/\
    (fY k=60->(k == 1)=false/\(k == 4)=false/\(k == 7)=false/\(k == 5)=true)/\(fY k=62->(k == 1)=false/\(k == 4)=false/\(k == 7)=false/\(k == 5)=false/\(k == 6)=true)/\
    (fY k=64->(k == 1)=false/\(k == 4)=false/\(k == 7)=false/\(k == 5)=false/\(k == 6)=false):=by
  unfold fY
  cases k == 1<;>cases k == 4<;>cases k == 7<;>cases k == 5<;>cases k == 6<;>refine ⟨?_,?_,?_,?_,?_,?_⟩<;>intro h<;>first | (exact absurd h (by decide)) | simp
theorem mQ {f:FuncId} {F:eV} {g:FuncId} (h:nA Tryz.prog f=true):Meets Tryz.prog f (hM (dF 0) F g):=⟨h,by rintro xs vs E ro w K _ _ _ ⟨_,_,_,_,_,_,_,_,_,⟨h,_⟩,_⟩; exact h.elim⟩
theorem aBH:∀ N,FmtM (dF N) (fP N)
  | 0=>⟨mQ (by kernel_rfl),mQ (by kernel_rfl),mQ (by kernel_rfl),mQ (by kernel_rfl),mQ (by kernel_rfl),mQ (by kernel_rfl)⟩
  | N + 1=>by
    have ih:=aBH N
    refine ⟨mP JE ?_,mP I6 ?_,mP I7 ?_,mP (JC ih) ?_,mP (DS ih) ?_,mP DV ?_⟩
    · rintro s t v ⟨hD,hk⟩
      have h1:=(mI t.k).1 hk
      exact ⟨trivial,by rw [iC,h1,Bool.cond_true]⟩
    · rintro s t v ⟨hD,hk⟩
      obtain ⟨h1,h2⟩:=(mI t.k).2.1 hk
      exact ⟨hD.1 h2,by rw [iC,h1,h2]; rfl⟩
    · rintro s t v ⟨hD,hk⟩
      obtain ⟨h1,h2,h3⟩:=(mI t.k).2.2.1 hk
      exact ⟨trivial,by rw [iC,h1,h2,h3]; rfl⟩
    · rintro s t v ⟨hD,hk⟩
      obtain ⟨h1,h2,h3,h4⟩:=(mI t.k).2.2.2.1 hk
      have e:fP (N + 1) s t v=lV (fP N) s (t.e.headD default) v.l:=by rw [iC,h1,h2,h3,h4]; rfl
      obtain ⟨u,he,hu,hD1⟩:=hD.2.1 h4
      have hl:=hD.2.2.2
      rw [e,he,List.headD_cons] at hl
      exact ⟨⟨u,he,hu,hD1,hl⟩,e.symm⟩
    · rintro s t v ⟨hD,hk⟩
      obtain ⟨h1,h2,h3,h4,h5⟩:=(mI t.k).2.2.2.2.1 hk
      have e:fP (N + 1) s t v=iG (fP N) s (stOf s t) v.f:=by rw [iC,h1,h2,h3,h4,h5]; rfl
      have hl:=hD.2.2.2
      rw [e] at hl
      exact ⟨⟨hD.2.2.1 h5,hl⟩,e.symm⟩
    · rintro s t v ⟨hD,hk⟩
      obtain ⟨h1,h2,h3,h4,h5⟩:=(mI t.k).2.2.2.2.2 hk
      exact ⟨trivial,by rw [iC,h1,h2,h3,h4,h5]; rfl⟩
end Go.Proofs.YtkpohmhenegkiaaGreatDoor
namespace Go.Proofs.YtkpohmhenegkiaaGreatDoor
open Go.W
attribute [-go_sem] bT b8 bR eD cC gG
noncomputable def LU (D:Sc->Ty->Vl->Prop) (F:eV):bX:=(23,.f (cP (fun _ _ _=>True) fun s t v=>.int .i64 (dQ s t v))) :: IG D F
theorem L7 {D:Sc->Ty->Vl->Prop} {F:eV} (h:FmtM D F):cX Tryz.prog (LU D F):=aG AP (qE h)
theorem ZS (D:Sc->Ty->Vl->Prop) (F:eV):sp (LU D F) 24=lR:=rfl
theorem K9 (D:Sc->Ty->Vl->Prop) (F:eV):eY (LU D F) 23=some (cP (fun _ _ _=>True) fun s t v=>.int .i64 (dQ s t v)):=rfl
theorem SK (D:Sc->Ty->Vl->Prop) (F:eV) (k:Int):sp (LU D F) (fY k)=hM D F (fY k):=by
  unfold fY
  cases k == 1<;>cases k == 4<;>cases k == 7<;>cases k == 5<;>cases k == 6<;>rfl
def wA (F:eV) (s:Sc) (t:Ty) (v:Vl):List UInt8:=bif dQ s t v != 0 then [] else bif (F s t v).2 || decide (4000 < ((F s t v).1.length:Int)) then [] else (F s t v).1
def aKC (D:Sc->Ty->Vl->Prop) (F:eV):W.Spec:=fun av H K=>∃ s t v,av=[.va (.gs (aE s)),.va (.gs (aM t)),.va (.gs (aV v))]/\H=[]/\s.fit/\TyOk t/\VlOk v/\(dQ s t v=0->D s t v)/\K (tS (mk (wA F s t v))) []
theorem ZK {D:Sc->Ty->Vl->Prop} {F:eV} (hF:FmtM D F):Meets Tryz.prog 11 (aKC D F):=by
  refine aF Tryz.func11 aLM 3 (by rw [Tryz.ntmps11]; decide) (L7 hF) (fun av H K h=>by obtain ⟨_,_,_,rfl,_⟩:=h; rfl) ?_
  rintro av H K ⟨s,t,v,rfl,rfl,hs,ht,hv,hD,hK⟩
  have k1:=cE hv
  have k2:=eU v
  have k4:=cM ht
  have k5:=fM t
  have k6:=dX hs
  have k7:=gZ s
  have fin:∀ (x:List UInt8) (R:Hp),wA F s t v=x->W.Fin 0 K (tS (mk x)) R:=fun x R h=>by
    rw [h] at hK
    exact .sel [] (by simp) (by simp) rfl (.done (by simpa [go_sem] using hK))
  clear hK
  unfold wA at fin
  cases h1:dQ s t v != 0 with
  | true=>
    rw [h1] at fin
    simp (maxSteps:=1000000) -dsimp only [go_sem,aE,aH t,aI v,QS,SG,K9,k1,k2,k4,k5,k6,k7,h1]
    exact fin [] _ rfl
  | false=>
  rw [h1,Bool.cond_false] at fin
  have hD:=hD (by simpa using h1)
  simp (maxSteps:=1000000) -dsimp only [go_sem,aE,aH t,aI v,QS,SG,K9,k1,k2,k4,k5,k6,k7,h1]
  refine aD rfl (.done ?_)
  simp (maxSteps:=1000000) -dsimp only [go_sem,IQ,ZS,SK]
  refine rA hs ht hv hD ?_
  generalize F s t v=r at *
  obtain ⟨x,b⟩:=r
  simp only at fin
  simp (maxSteps:=1000000) -dsimp only [go_sem]
  refine aD rfl (.done ?_)
  cases b with
  | true=>
    rw [Bool.true_or,Bool.cond_true] at fin
    simp (maxSteps:=1000000) -dsimp only [go_sem,rW,Bool.false_or,Bool.true_or,Bool.or_true,Bool.or_false]
    exact fin [] _ rfl
  | false=>
    rw [Bool.false_or] at fin
    cases h2:decide (4000 < (x.length:Int)) with
    | true=>
      rw [h2,Bool.cond_true] at fin
      simp (maxSteps:=1000000) -dsimp only [go_sem,rW,Bool.false_or,Bool.true_or,Bool.or_true,Bool.or_false,h2]
      exact fin [] _ rfl
    | false=>
      rw [h2,Bool.cond_false] at fin
      simp (maxSteps:=1000000) -dsimp only [go_sem,rW,Bool.false_or,Bool.true_or,Bool.or_true,Bool.or_false,h2]
      exact fin x _ rfl
end Go.Proofs.YtkpohmhenegkiaaGreatDoor
namespace Go.Proofs.YtkpohmhenegkiaaGreatDoor
open Go.W
theorem GZ:Meets Tryz.prog 112 jP:=by
  refine aF Tryz.func112 aFV 2 (by rw [Tryz.ntmps112]; decide) (aA _) (fun av H K h=>by obtain ⟨_,_,rfl,_⟩:=h; rfl) ?_
  rintro av H K ⟨s,n,rfl,rfl,hs,hK⟩
  rw [<-y7] at hK
  have hl:=hs.ok.ls
  simp -dsimp only [go_sem,aE,U1,W7]
  refine aK (α:=Nat) (fun i=>[(1,tS n),(2,.va (.c1 (.pt 0 0))),(4,.va (.c1 (.pt 1 0))),(6,iS .i64 i)]) (fun _=>[.cells (aE s) 25,.cells [.vl (.string (mk [])),.vl (.slice none 0 0)] 95])
    (fun i=>i<=s.ss.length/\fS (s.ss.drop i) n=fS s.ss n) (fun i=>s.ss.length - i) 0 2 ⟨Nat.zero_le _,rfl⟩ ?_ ?_ ?_
  · simp [go_sem]
  · simp [go_sem,aE]
  rintro i ⟨hi,ho⟩
  rcases Nat.lt_or_ge i s.ss.length with hlt | hge
  · have hg:decide ((i:Int) < (s.ss.length:Int))=true:=by simp; omega
    obtain ⟨t,hx⟩:∃ e,s.ss[i]? = some e:=⟨_,List.getElem?_eq_getElem hlt⟩
    have q2:=aO (row:=aL) hx
    rw [fS,fQ hx] at ho
    cases hc:decide (t.nm=n) with
    | true=>
      rw [hc,Bool.cond_true] at ho
      rw [<-ho] at hK
      simp (maxSteps:=1000000) -dsimp only [go_sem,hg,↓q2,aL,aE,cL,hc]
      refine ⟨by omega,by omega,.sel [] (by simp) (by simp) rfl (.done (by simpa [go_sem,aL] using hK))⟩
    | false=>
      rw [hc,Bool.cond_false] at ho
      simp (maxSteps:=1000000) -dsimp only [go_sem,hg,↓q2,aL,aE,cL,hc]
      refine ⟨by omega,by omega,aC (i + 1) 2 ⟨by omega,ho⟩ (by omega) ?_ ?_⟩
      · simp [go_sem]
      · simp [go_sem,aE]
  · have hg:decide ((i:Int) < (s.ss.length:Int))=false:=by simp; omega
    obtain rfl:i=s.ss.length:=by omega
    rw [List.drop_length] at ho
    rw [<-ho] at hK
    simp -dsimp only [go_sem,hg,aE]
    exact .sel [] (by simp) (by simp) rfl (.done (by simpa [go_sem,fS,B0] using hK))
theorem aAB:Meets Tryz.prog 133 xC:=by
  refine aF Tryz.func133 aGV 2 (by rw [Tryz.ntmps133]; decide) (aA _) (fun av H K h=>by obtain ⟨_,_,rfl,_⟩:=h; rfl) ?_
  rintro av H K ⟨s,n,rfl,rfl,hs,hK⟩
  rw [<-AL] at hK
  have hl:=hs.ok.le
  simp -dsimp only [go_sem,aE,VF,XJ]
  refine aK (α:=Nat) (fun i=>[(1,tS n),(2,.va (.c1 (.pt 0 0))),(4,.va (.c1 (.pt 1 0))),(6,iS .i64 i)]) (fun _=>[.cells (aE s) 25,.cells [.vl (.string (mk [])),.vl (.slice none 0 0),.vl (.slice none 0 0)] 92])
    (fun i=>i<=s.es.length/\bW (s.es.drop i) n=bW s.es n) (fun i=>s.es.length - i) 0 2 ⟨Nat.zero_le _,rfl⟩ ?_ ?_ ?_
  · simp [go_sem]
  · simp [go_sem,aE]
  rintro i ⟨hi,ho⟩
  rcases Nat.lt_or_ge i s.es.length with hlt | hge
  · have hg:decide ((i:Int) < (s.es.length:Int))=true:=by simp; omega
    obtain ⟨t,hx⟩:∃ e,s.es[i]? = some e:=⟨_,List.getElem?_eq_getElem hlt⟩
    have q2:=aO (row:=aX) hx
    rw [bW,fQ hx] at ho
    cases hc:decide (t.nm=n) with
    | true=>
      rw [hc,Bool.cond_true] at ho
      rw [<-ho] at hK
      simp (maxSteps:=1000000) -dsimp only [go_sem,hg,↓q2,aX,aE,cL,hc]
      refine ⟨by omega,by omega,.sel [] (by simp) (by simp) rfl (.done (by simpa [go_sem,aX] using hK))⟩
    | false=>
      rw [hc,Bool.cond_false] at ho
      simp (maxSteps:=1000000) -dsimp only [go_sem,hg,↓q2,aX,aE,cL,hc]
      refine ⟨by omega,by omega,aC (i + 1) 2 ⟨by omega,ho⟩ (by omega) ?_ ?_⟩
      · simp [go_sem]
      · simp [go_sem,aE]
  · have hg:decide ((i:Int) < (s.es.length:Int))=false:=by simp; omega
    obtain rfl:i=s.es.length:=by omega
    rw [List.drop_length] at ho
    rw [<-ho] at hK
    simp -dsimp only [go_sem,hg,aE]
    exact .sel [] (by simp) (by simp) rfl (.done (by simpa [go_sem,bW,AG] using hK))
theorem JS:Meets Tryz.prog 113 kK:=by
  refine aF Tryz.func113 aIJ 2 (by rw [Tryz.ntmps113]; decide) (aA _) (fun av H K h=>by obtain ⟨_,_,rfl,_⟩:=h; rfl) ?_
  rintro av H K ⟨s,n,rfl,rfl,hs,hsm,hK⟩
  have hl:=hs.len
  simp -dsimp only [go_sem,aL,WM,W6]
  refine aK (α:=Nat) (fun i=>[(1,iS .i64 n),(2,.va (.c1 (.pt 0 0))),(4,.va (.c1 (.pt 1 0))),(6,iS .i64 i)]) (fun _=>[.cells (aL s) 95,.cells [.vl (.int .i64 0),.vl (.string (mk [])),.vl (.int .i64 0),.vl (.int .i64 0),.vl (.string (mk [])),.vl (.slice none 0 0),.vl (.bool false)] 97])
    (fun i=>i<=s.fs.length/\fF (s.fs.drop i) n=fF s.fs n) (fun i=>s.fs.length - i) 0 2 ⟨Nat.zero_le _,rfl⟩ ?_ ?_ ?_
  · simp [go_sem]
  · simp [go_sem,aL]
  rintro i ⟨hi,ho⟩
  rcases Nat.lt_or_ge i s.fs.length with hlt | hge
  · have hg:decide ((i:Int) < (s.fs.length:Int))=true:=by simp; omega
    obtain ⟨t,hx⟩:∃ e,s.fs[i]? = some e:=⟨_,List.getElem?_eq_getElem hlt⟩
    have q2:=aO (row:=aR) hx
    rw [fF,fQ hx] at ho
    have hq:(t.num == n)=decide (t.num=n):=rfl
    cases hc:decide (t.num=n) with
    | true=>
      rw [hc,Bool.cond_true] at ho
      rw [<-ho] at hK
      simp (maxSteps:=1000000) -dsimp only [go_sem,hg,↓q2,aR,aL,hq,hc]
      refine ⟨by omega,by omega,.sel [] (by simp) (by simp) rfl (.done (by simpa [go_sem,aR] using hK))⟩
    | false=>
      rw [hc,Bool.cond_false] at ho
      simp (maxSteps:=1000000) -dsimp only [go_sem,hg,↓q2,aR,aL,hq,hc]
      refine ⟨by omega,by omega,aC (i + 1) 2 ⟨by omega,ho⟩ (by omega) ?_ ?_⟩
      · simp [go_sem]
      · simp [go_sem,aL]
  · have hg:decide ((i:Int) < (s.fs.length:Int))=false:=by simp; omega
    obtain rfl:i=s.fs.length:=by omega
    rw [List.drop_length] at ho
    rw [<-ho] at hK
    simp -dsimp only [go_sem,hg,aL]
    exact .sel [] (by simp) (by simp) rfl (.done (by simpa [go_sem,fF,sS] using hK))
def qX (l:List (Int × Vl)) (k:Int):Option (Int × Vl):=l.find? fun x=>decide (x.1=k)
def aAS:W.Spec:=fun av H K=>∃ (v:Vl) (k:Int),av=[.va (.gs (aV v)),iS .i64 k]/\H=[]/\VlOk v/\v.k=6/\K (.tu [.gs (aV (((qX v.f k).map (·.2)).getD default)),bA (qX v.f k).isSome]) []
theorem aEZ {v:Vl} {k:Int} {K:S->Hp->Prop} (h:VlOk v) (h6:v.k=6) (hK:K (.tu [.gs (aV (((qX v.f k).map (·.2)).getD default)),bA (qX v.f k).isSome]) []):aAS [.va (.gs [.vl (.int .i64 v.k),.vl (.int .i64 v.n),.vl (.string v.s),.fz (v.l.map aV),.fz (v.f.map aY)]),iS .i64 k] [] K:=⟨v,k,by rw [aI],rfl,h,h6,hK⟩
theorem ZB:aV default=[.vl (.int .i64 0),.vl (.int .i64 0),.vl (.string (mk [])),.fz [],.fz []]:=rfl
theorem ZR:Meets Tryz.prog 154 aAS:=by
  refine aF Tryz.func154 aG6 2 (by rw [Tryz.ntmps154]; decide) (aA _) (fun av H K h=>by obtain ⟨_,_,rfl,_⟩:=h; rfl) ?_
  rintro av H K ⟨v,k,rfl,rfl,hv,h6,hK⟩
  have hl:=hv.lf
  simp -dsimp only [go_sem,aI v,WI,WF]
  refine aK (α:=Nat) (fun i=>[(1,iS .i64 k),(2,.va (.c1 (.pt 0 0))),(4,.va (.c1 (.pt 1 0))),(6,iS .i64 i)]) (fun _=>[.cells [.vl (.int .i64 v.k),.vl (.int .i64 v.n),.vl (.string v.s),.fz (v.l.map aV),.fz (v.f.map aY)] 32,.cells [.vl (.int .i64 0),.vl (.int .i64 0),.vl (.string (mk [])),.vl (.slice none 0 0),.vl (.slice none 0 0)] 32])
    (fun i=>i<=v.f.length/\qX (v.f.drop i) k=qX v.f k) (fun i=>v.f.length - i) 0 2 ⟨Nat.zero_le _,rfl⟩ ?_ ?_ ?_
  · simp -dsimp only [go_sem]<;>simp
  · simp -dsimp only [go_sem]<;>simp
  rintro i ⟨hi,ho⟩
  rcases Nat.lt_or_ge i v.f.length with hlt | hge
  · have hg:decide ((i:Int) < (v.f.length:Int))=true:=by simp; omega
    have g6:(v.k == 6)=true:=by rw [h6]; rfl
    obtain ⟨x,hx⟩:∃ x,v.f[i]? = some x:=⟨_,List.getElem?_eq_getElem hlt⟩
    have q2:=aO (row:=aY) hx
    rw [qX,fQ hx] at ho
    obtain ⟨n,w⟩:=x
    cases hc:decide (n=k) with
    | true=>
      simp only [hc,Bool.cond_true] at ho
      rw [<-ho] at hK
      have hc':(n == k)=true:=by simpa using hc
      simp (maxSteps:=1000000) -dsimp only [go_sem,hg,g6,↓q2,aY,aI w,hc',List.take_succ_cons,List.take_zero,List.length_cons]
      exact ⟨⟨by omega,by omega⟩,⟨by omega,by omega⟩,.sel [] (by simp) (by simp) rfl (.done (by simpa [go_sem,aI w] using hK))⟩
    | false=>
      simp only [hc,Bool.cond_false] at ho
      have hc':(n == k)=false:=by simpa using hc
      simp (maxSteps:=1000000) -dsimp only [go_sem,hg,g6,↓q2,aY,aI w,hc']
      refine ⟨⟨by omega,by omega⟩,⟨by omega,by omega⟩,aC (i + 1) 2 ⟨by omega,ho⟩ (by omega) ?_ ?_⟩
      · simp -dsimp only [go_sem]<;>simp
      · simp -dsimp only [go_sem]<;>simp
  · have hg:decide ((i:Int) < (v.f.length:Int))=false:=by simp; omega
    obtain rfl:i=v.f.length:=by omega
    rw [List.drop_length] at ho
    rw [<-ho] at hK
    simp (maxSteps:=1000000) -dsimp only [go_sem,hg]
    exact .sel [] (by simp) (by simp) rfl (.done (by simpa [go_sem,qX,ZB] using hK))
end Go.Proofs.YtkpohmhenegkiaaGreatDoor
namespace Go.Proofs.YtkpohmhenegkiaaGreatDoor
open Go.W
def vT:PC:=.seq (.gh (.reg [.l 80 (.ldn 2 (.t 7)),.l 81 (.ldn 5 (.t 5)),.a 82 (.cq 132 [(.t 80),(.t 81)]),.v 6 82])) .ret
@[go_sem ↓] theorem aIP:aT vT:=aU _
def pcN110_7:PC:=.seq (.gh (.reg [.l 74 (.ldn 3 (.t 3)),.q 75 (.fa 2 (.t 4)),.l 76 (.ld1 (.t 75)),.a 77 (.cl 112 [(.t 74),(.t 76)] []),.v 73 77,.q 78 (.ex (.t 73) 0),.q 79 (.ex (.t 73) 1),.e 7 (.al (.agg #[(.string (mk [])),(.slice none 0 0)]) 95),.s (.st 2 (.t 7) (.t 78)),.v 8 79])) (vT)
@[go_sem ↓] theorem aF4:aT pcN110_7:=aU _
def vB:PC:=.seq (.seq (.gh (.reg [.q 70 (.fa 0 (.t 5)),.l 71 (.ld1 (.t 70)),.q 72 (.bin .neq true (.t 71) (.i 6))])) (.cond (.t 72) (.seq (.reg [.q 6 (.mv (.k (.bool true)))]) .ret) .skip)) (pcN110_7)
@[go_sem ↓] theorem aIR:aT vB:=aU _
def pcN110_3:PC:=.seq (.seq (.gh (.reg [.q 52 (.fa 0 (.t 5)),.l 53 (.ld1 (.t 52)),.q 54 (.bin .eql true (.t 53) (.i 4)),.v 55 54,⟨some 56,(some (55,false)),.q (.fa 0 (.t 5))⟩,⟨some 57,(some (55,false)),.l (.ld1 (.t 56))⟩,⟨some 58,(some (55,false)),.q (.bin .eql true (.t 57) (.i 5))⟩,.a 59 (.pick (.t 55) (.k (.bool true)) (.t 58)),.v 60 59,⟨some 61,(some (60,false)),.q (.fa 0 (.t 5))⟩,⟨some 62,(some (60,false)),.l (.ld1 (.t 61))⟩,⟨some 63,(some (60,false)),.q (.bin .eql true (.t 62) (.i 6))⟩,.a 64 (.pick (.t 60) (.k (.bool true)) (.t 63)),.v 65 64,⟨some 66,(some (65,true)),.q (.fa 1 (.t 5))⟩,⟨some 67,(some (65,true)),.l (.ld1 (.t 66))⟩,⟨some 68,(some (65,true)),.q (.bin .neq true (.t 67) (.i 0))⟩,.a 69 (.pick (.t 65) (.t 68) (.k (.bool false)))])) (.cond (.t 69) (.seq (.reg [.q 6 (.mv (.k (.bool false)))]) .ret) .skip)) (vB)
@[go_sem ↓] theorem aIL:aT pcN110_3:=aU _
def rV:PC:=.seq (.reg [.e 3 (.bx 25 (.t 0)),.e 4 (.bx 28 (.t 1)),.e 5 (.bx 32 (.t 2)),.q 6 (.mv (.k (.bool false)))]) (.seq (.seq (.reg [.l 9 (.ldn 3 (.t 3)),.l 10 (.ldn 4 (.t 4)),.a 11 (.cq 32 [(.t 9),(.t 10)]),.q 12 (.not (.t 11)),.v 13 12,⟨some 14,(some (13,false)),.q (.fa 0 (.t 5))⟩,⟨some 15,(some (13,false)),.l (.ld1 (.t 14))⟩,⟨some 16,(some (13,false)),.q (.fa 0 (.t 4))⟩,⟨some 17,(some (13,false)),.l (.ld1 (.t 16))⟩,⟨some 18,(some (13,false)),.q (.bin .neq true (.t 15) (.t 17))⟩,.a 19 (.pick (.t 13) (.k (.bool true)) (.t 18)),.v 20 19,⟨some 21,(some (20,false)),.q (.fa 0 (.t 5))⟩,⟨some 22,(some (20,false)),.l (.ld1 (.t 21))⟩,⟨some 23,(some (20,false)),.q (.bin .neq true (.t 22) (.i 4))⟩,⟨some 24,(some (20,false)),.q (.mv (.t 23))⟩,⟨some 25,(some (24,true)),.q (.fa 2 (.t 5))⟩,⟨some 26,(some (24,true)),.l (.ld1 (.t 25))⟩,⟨some 27,(some (24,true)),.q (.bin .neq true (.t 26) (.k (.string (mk []))))⟩,⟨some 28,(some (20,false)),.pick (.t 24) (.t 27) (.k (.bool false))⟩,.a 29 (.pick (.t 20) (.k (.bool true)) (.t 28)),.v 30 29,⟨some 31,(some (30,false)),.q (.fa 0 (.t 5))⟩,⟨some 32,(some (30,false)),.l (.ld1 (.t 31))⟩,⟨some 33,(some (30,false)),.q (.bin .neq true (.t 32) (.i 5))⟩,⟨some 34,(some (30,false)),.q (.mv (.t 33))⟩,⟨some 35,(some (34,true)),.q (.fa 3 (.t 5))⟩,⟨some 36,(some (34,true)),.l (.ld1 (.t 35))⟩,⟨some 37,(some (34,true)),.q (.lnL (.t 36))⟩,⟨some 38,(some (34,true)),.q (.bin .gtr true (.t 37) (.i 0))⟩,⟨some 39,(some (30,false)),.pick (.t 34) (.t 38) (.k (.bool false))⟩,.a 40 (.pick (.t 30) (.k (.bool true)) (.t 39)),.v 41 40,⟨some 42,(some (41,false)),.q (.fa 0 (.t 5))⟩,⟨some 43,(some (41,false)),.l (.ld1 (.t 42))⟩,⟨some 44,(some (41,false)),.q (.bin .neq true (.t 43) (.i 6))⟩,⟨some 45,(some (41,false)),.q (.mv (.t 44))⟩,⟨some 46,(some (45,true)),.q (.fa 4 (.t 5))⟩,⟨some 47,(some (45,true)),.l (.ld1 (.t 46))⟩,⟨some 48,(some (45,true)),.q (.lnL (.t 47))⟩,⟨some 49,(some (45,true)),.q (.bin .gtr true (.t 48) (.i 0))⟩,⟨some 50,(some (41,false)),.pick (.t 45) (.t 49) (.k (.bool false))⟩,.a 51 (.pick (.t 41) (.k (.bool true)) (.t 50))]) (.cond (.t 51) (.seq (.reg [.q 6 (.mv (.k (.bool false)))]) .ret) .skip)) (pcN110_3))
def jK:List RV:=[.mv (.t 6)]
theorem aC2:aN Tryz.prog true ⟨fun r k=>if r=1/\k=2 then .q else if r=8/\k=2 then .q else .own [],fun r=>[3,5,7,8].contains r⟩ Tryz.f110=some (rV,jK):=by kernel_rfl
def j6:PC:=.seq (.gh (.reg [.v 29 7,.q 30 (.not (.t 29)),.v 31 30,⟨some 32,(some (31,false)),.q (.mv (.t 5))⟩,⟨some 33,(some (31,false)),.q (.bin .gtr true (.t 32) (.i 0))⟩,⟨some 34,(some (31,false)),.q (.mv (.t 33))⟩,⟨some 35,(some (34,true)),.q (.fa 4 (.t 3))⟩,⟨some 36,(some (34,true)),.l (.ld1 (.t 35))⟩,⟨some 37,(some (34,true)),.q (.mv (.t 5))⟩,⟨some 38,(some (34,true)),.l (.ia 6 (.t 36) (.t 37))⟩,⟨some 39,(some (34,true)),.q (.fa 0 (.t 38))⟩,⟨some 40,(some (34,true)),.l (.ld1 (.t 39))⟩,⟨some 41,(some (34,true)),.q (.fa 4 (.t 3))⟩,⟨some 42,(some (34,true)),.l (.ld1 (.t 41))⟩,⟨some 43,(some (34,true)),.q (.mv (.t 5))⟩,⟨some 44,(some (34,true)),.q (.bin .sub true (.t 43) (.i 1))⟩,⟨some 45,(some (34,true)),.l (.ia 6 (.t 42) (.t 44))⟩,⟨some 46,(some (34,true)),.q (.fa 0 (.t 45))⟩,⟨some 47,(some (34,true)),.l (.ld1 (.t 46))⟩,⟨some 48,(some (34,true)),.q (.bin .leq true (.t 40) (.t 47))⟩,⟨some 49,(some (31,false)),.pick (.t 34) (.t 48) (.k (.bool false))⟩,.a 50 (.pick (.t 31) (.k (.bool true)) (.t 49))])) (.cond (.t 50) (.seq (.reg [.q 4 (.mv (.k (.bool false)))]) .ret) .skip)
@[go_sem ↓] theorem aGL:aT j6:=aU _
def kY:PC:=.seq (.gh (.reg [.v 69 10,.q 70 (.not (.t 69)),.v 71 70,⟨some 72,(some (71,true)),.q (.fa 1 (.t 2))⟩,⟨some 73,(some (71,true)),.l (.ld1 (.t 72))⟩,⟨some 74,(some (71,true)),.q (.mv (.t 8))⟩,⟨some 75,(some (71,true)),.l (.ia 7 (.t 73) (.t 74))⟩,⟨some 76,(some (71,true)),.q (.fa 6 (.t 75))⟩,⟨some 77,(some (71,true)),.l (.ld1 (.t 76))⟩,⟨some 78,(some (71,true)),.q (.not (.t 77))⟩,.a 79 (.pick (.t 71) (.t 78) (.k (.bool false)))])) (.cond (.t 79) (.seq (.reg [.q 4 (.mv (.k (.bool false)))]) .ret) .skip)
@[go_sem ↓] theorem aFO:aT kY:=aU _
def O1:PC:=.seq (.reg [.e 2 (.bx 95 (.t 0)),.e 3 (.bx 32 (.t 1)),.q 4 (.mv (.k (.bool false)))]) (.seq (.seq (.reg [.q 5 (.mv (.i 0))]) (.block 0 (.loop (.seq (.seq (.reg [.v 11 5,.q 12 (.fa 4 (.t 3)),.l 13 (.ld1 (.t 12)),.q 14 (.lnL (.t 13)),.q 15 (.bin .lss true (.t 11) (.t 14))]) (.cond (.t 15) .skip (.exit 0))) (.seq (.block 1 (.seq (.ord  [.q (.l 19 (.ldn 2 (.t 2))),.q (.q 20 (.fa 4 (.t 3))),.q (.l 21 (.ld1 (.t 20))),.q (.v 22 5),.q (.l 23 (.ia 6 (.t 21) (.t 22))),.q (.q 24 (.fa 0 (.t 23))),.q (.l 25 (.ld1 (.t 24))),.m (.a 26 (.cl 113 [(.t 19),(.t 25)] [])),.q (.v 18 26),.q (.q 27 (.ex (.t 18) 0)),.q (.q 28 (.ex (.t 18) 1)),.m (.e 6 (.al (.agg #[(.int .i64 0),(.string (mk [])),(.int .i64 0),(.int .i64 0),(.string (mk [])),(.slice none 0 0),(.bool false)]) 97)),.rc (.v 18 26),.rc (.q 27 (.ex (.t 18) 0)),.rc (.q 28 (.ex (.t 18) 1)),.m (.s (.st 7 (.t 6) (.t 27))),.rc (.q 28 (.ex (.t 18) 1)),.m (.v 7 28)]) (j6))) (.reg [.v 16 5,.q 17 (.bin .add true (.t 16) (.i 1)),.v 5 17])))))) (.seq (.seq (.reg [.q 8 (.mv (.i 0))]) (.block 2 (.loop (.seq (.seq (.reg [.v 51 8,.q 52 (.fa 1 (.t 2)),.l 53 (.ld1 (.t 52)),.q 54 (.lnL (.t 53)),.q 55 (.bin .lss true (.t 51) (.t 54))]) (.cond (.t 55) .skip (.exit 2))) (.seq (.block 3 (.seq (.ord  [.q (.l 59 (.ldn 5 (.t 3))),.q (.q 60 (.fa 1 (.t 2))),.q (.l 61 (.ld1 (.t 60))),.q (.v 62 8),.q (.l 63 (.ia 7 (.t 61) (.t 62))),.q (.q 64 (.fa 0 (.t 63))),.q (.l 65 (.ld1 (.t 64))),.m (.a 66 (.cl 154 [(.t 59),(.t 65)] [])),.q (.v 58 66),.q (.q 67 (.ex (.t 58) 0)),.q (.q 68 (.ex (.t 58) 1)),.m (.e 9 (.al (.agg #[(.int .i64 0),(.int .i64 0),(.string (mk [])),(.slice none 0 0),(.slice none 0 0)]) 32)),.rc (.v 58 66),.rc (.q 67 (.ex (.t 58) 0)),.rc (.q 68 (.ex (.t 58) 1)),.m (.s (.st 5 (.t 9) (.t 67))),.rc (.q 68 (.ex (.t 58) 1)),.m (.v 10 68)]) (kY))) (.reg [.v 56 8,.q 57 (.bin .add true (.t 56) (.i 1)),.v 8 57])))))) (.seq (.reg [.q 4 (.mv (.k (.bool true)))]) .ret)))
def P6:List RV:=[.mv (.t 4)]
theorem aFF:aN Tryz.prog true ⟨fun _ _=>.own [],fun r=>[5,11].contains r⟩ Tryz.f132=some (O1,P6):=by kernel_rfl
end Go.Proofs.YtkpohmhenegkiaaGreatDoor
namespace Go.Proofs.YtkpohmhenegkiaaGreatDoor
open Go.W
theorem JB:Meets Tryz.prog 32 r0Fn.sp:=by
  refine aF Tryz.func32 aMT 2 (by rw [Tryz.ntmps32]; decide) (aG JM (aA _)) (fun av H K h=>by obtain ⟨_,_,rfl,_⟩:=jR h.1.1; rfl) ?_
  rintro av H K ⟨⟨h,rfl⟩,hK⟩
  obtain ⟨s,t,rfl,hs,ht⟩:=jR h
  have k4:=cM ht
  have k5:=fM t
  have k6:=dX hs
  have k7:=gZ s
  have e:r0Fn.val [.va (.gs (aE s)),.va (.gs (aM t))]=bA (valF s.ss s.es t):=by
    show bA (valF (C.sc (aE s)).ss (C.sc (aE s)).es (C.ty (aM t)))=_
    rw [dW,eH]
  rw [e] at hK
  simp (maxSteps:=1000000) -dsimp only [go_sem,aE,aH t,aES,aA2,k4,k5,k6,k7]
  exact .sel [] (by simp) (by simp) rfl (.done (by simpa [go_sem] using hK))
def D0:List S->Prop:=fun av=>match av with
  | [.va (.gs r),.va (.gs q)]=>EF r/\pU q/\(C.vv q).k=6
  | _=>False
theorem qM {av:List S} (h:D0 av):∃ (u:St) (v:Vl),av=[.va (.gs (aL u)),.va (.gs (aV v))]/\u.ok/\(∀ f ∈ u.fs,TySm f.ty)/\VlOk v/\v.k=6:=by
  unfold D0 at h
  split at h
  · obtain ⟨⟨u,rfl,h1,h2⟩,⟨v,rfl,h3⟩,h4⟩:=h
    rw [kO] at h4
    exact ⟨u,v,rfl,h1,h2,h3,h4⟩
  · exact h.elim
noncomputable def XC:List S->A:=fun av=>match av with
  | [.va (.gs r),.va (.gs q)]=>bA (cO (C.st r).fs (C.vv q).f)
  | _=>.gs []
noncomputable def s9Fn:Fun:=⟨D0,XC,fun av h=>by obtain ⟨_,_,rfl,_⟩:=qM h; trivial⟩
attribute [go_sem] s9Fn D0 XC
theorem X7 (l:List (Int × Vl)) (k:Int):(qX l k).isSome=lI l k:=by
  unfold qX lI
  rw [Bool.eq_iff_iff,List.find?_isSome,List.any_eq_true]
  simp
theorem HL {α:Type} {l:List α} {i:Nat} {x:α} (h:l[i]? = some x) (p:α->Bool):(l.drop i).all p=(p x && (l.drop (i + 1)).all p):=by
  obtain ⟨h1,h2⟩:=List.getElem?_eq_some_iff.1 h
  subst h2
  rw [List.drop_eq_getElem_cons h1,List.all_cons]
theorem Q4:Meets Tryz.prog 132 s9Fn.sp:=by
  refine aF Tryz.func132 aFF 2 (by rw [Tryz.ntmps132]; decide) (aB JS (aB ZR (aA _))) (fun av H K h=>by obtain ⟨_,_,rfl,_⟩:=qM h.1.1; rfl) ?_
  rintro av H K ⟨⟨h,rfl⟩,hK⟩
  obtain ⟨u,v,rfl,hu,hus,hv,hk6⟩:=qM h
  replace hK:K (bS (cO u.fs v.f)) []:=by
    have:s9Fn.val [.va (.gs (aL u)),.va (.gs (aV v))]=bA (cO u.fs v.f):=by simp -dsimp only [go_sem]
    rw [this] at hK; exact hK
  clear h
  have fin:∀ (b:Bool) (R:Hp),cO u.fs v.f=b->W.Fin 0 K (bS b) R:=fun b R h=>by
    rw [h] at hK; exact .sel [] (by simp) (by simp) rfl (.done (by simpa [go_sem] using hK))
  clear hK
  have hfl:=hu.len
  have hll:=hv.lf
  generalize hR:u.fs.all (fun f=>f.opt || lI v.f f.num)=R2
  have hF:cO u.fs v.f=(ftA u.fs none v.f && R2):=by rw [<-hR]; rfl
  rw [hF] at fin
  generalize hR0:(ftA u.fs none v.f && R2)=R0 at fin
  clear hF
  simp (maxSteps:=1000000) -dsimp only [go_sem,aL,aI v,O1,P6]
  refine aK (α:=Nat) (fun i=>[(2,.va (.c1 (.pt 0 0))),(3,.va (.c1 (.pt 1 0))),(5,iS .i64 i)]) (fun _=>[.cells [.vl (.string u.nm),.fz (u.fs.map aR)] 95,.cells [.vl (.int .i64 v.k),.vl (.int .i64 v.n),.vl (.string v.s),.fz (v.l.map aV),.fz (v.f.map aY)] 32])
    (fun i=>i<=v.f.length/\(ftA u.fs (uM v.f i) (v.f.drop i) && R2)=R0) (fun i=>v.f.length - i) 0 2 ⟨Nat.zero_le _,hR0⟩ ?_ ?_ ?_
  · simp -dsimp only [go_sem]<;>simp
  · simp -dsimp only [go_sem]<;>simp
  rintro i ⟨hi,ho⟩
  rcases Nat.lt_or_ge i v.f.length with hlt | hge
  · have hg:decide ((i:Int) < (v.f.length:Int))=true:=by simp; omega
    obtain ⟨x,hx⟩:∃ t,v.f[i]? = some t:=⟨_,List.getElem?_eq_getElem hlt⟩
    have q1:=kG hx
    have hdr:v.f.drop i=x :: v.f.drop (i + 1):=by
      obtain ⟨h,rfl⟩:=List.getElem?_eq_some_iff.1 hx
      exact List.drop_eq_getElem_cons h
    have hpv:uM v.f (i + 1)=some x.1:=by rw [uM,hx]; rfl
    rw [hdr,wT,<-hpv] at ho
    simp (maxSteps:=1000000) -dsimp only [go_sem,hg,↓q1]
    refine ⟨by omega,jX hu hus ?_⟩
    cases hf:(fF u.fs x.1).isSome with
    | false=>
      rw [hf,Bool.false_and,Bool.false_and,Bool.false_and] at ho
      simp (maxSteps:=1000000) -dsimp only [go_sem,aR]
      refine aD rfl (.done ?_)
      simp (maxSteps:=1000000) -dsimp only [go_sem,j6,Bool.true_or,Bool.false_and]
      exact fin _ _ ho.symm
    | true=>
      rw [hf,Bool.true_and] at ho
      simp (maxSteps:=1000000) -dsimp only [go_sem,aR]
      refine aD rfl (.done ?_)
      cases hz:decide ((0:Int) < (i:Int)) with
      | false=>
        obtain rfl:i=0:=by have:=of_decide_eq_false hz; omega
        simp (maxSteps:=1000000) -dsimp only [go_sem,j6,hz]
        refine ⟨by omega,aC (0 + 1) 2 ⟨by omega,ho⟩ (by omega) ?_ ?_⟩
        · simp -dsimp only [go_sem]<;>simp
        · simp -dsimp only [go_sem]<;>simp
      | true=>
        have hz':=of_decide_eq_true hz
        obtain ⟨y,hy⟩:∃ t,v.f[i - 1]? = some t:=⟨_,List.getElem?_eq_getElem (by omega)⟩
        have hti:((i:Int) - 1).toNat=i - 1:=by omega
        have q2:=fun p=>F5 (n:=(i:Int) - 1) (x:=y) (by rw [hti]; exact hy) p
        have hpi:uM v.f i=some y.1:=by
          match i,hz',hy with
          | j + 1,_,hy=>rw [uM]; rw [show j + 1 - 1=j by omega] at hy; rw [hy]; rfl
        rw [hpi,G2] at ho
        have f1:(0<=(i:Int) - 1)=True:=eq_true (by omega)
        have f2:((i:Int) - 1 < (v.f.length:Int))=True:=eq_true (by omega)
        cases hc:decide (x.1<=y.1) with
        | true=>
          have:decide (y.1 < x.1)=false:=by have:=of_decide_eq_true hc; simp; omega
          rw [this] at ho
          simp (maxSteps:=1000000) -dsimp only [go_sem,j6,hz,↓q1,↓q2,hc,f1,f2,s6]
          exact ⟨⟨by omega,by omega⟩,⟨by omega,by omega⟩,fin _ _ ho.symm⟩
        | false=>
          have:decide (y.1 < x.1)=true:=by have:=of_decide_eq_false hc; simp; omega
          rw [this,Bool.true_and] at ho
          simp (maxSteps:=1000000) -dsimp only [go_sem,j6,hz,↓q1,↓q2,hc,f1,f2,s6]
          refine ⟨⟨by omega,by omega⟩,⟨by omega,by omega⟩,⟨by omega,by omega⟩,aC (i + 1) 2 ⟨by omega,ho⟩ (by omega) ?_ ?_⟩
          · simp -dsimp only [go_sem]<;>simp
          · simp -dsimp only [go_sem]<;>simp
  · have hg:decide ((i:Int) < (v.f.length:Int))=false:=by simp; omega
    obtain rfl:i=v.f.length:=by omega
    rw [List.drop_length,LG,Bool.true_and] at ho
    simp (maxSteps:=1000000) -dsimp only [go_sem,hg]
    clear hi hge hg hR0
    rw [<-hR] at ho
    refine aK (α:=Nat) (fun i=>[(2,.va (.c1 (.pt 0 0))),(3,.va (.c1 (.pt 1 0))),(8,iS .i64 i)]) (fun _=>[.cells [.vl (.string u.nm),.fz (u.fs.map aR)] 95,.cells [.vl (.int .i64 v.k),.vl (.int .i64 v.n),.vl (.string v.s),.fz (v.l.map aV),.fz (v.f.map aY)] 32])
      (fun i=>i<=u.fs.length/\((u.fs.drop i).all fun f=>f.opt || lI v.f f.num)=R0) (fun i=>u.fs.length - i) 0 2 ⟨Nat.zero_le _,ho⟩ ?_ ?_ ?_
    · simp -dsimp only [go_sem]<;>simp
    · simp -dsimp only [go_sem]<;>simp
    clear ho
    rintro i ⟨hi,ho⟩
    rcases Nat.lt_or_ge i u.fs.length with hlt | hge
    · have hg:decide ((i:Int) < (u.fs.length:Int))=true:=by simp; omega
      obtain ⟨f,hx⟩:∃ t,u.fs[i]? = some t:=⟨_,List.getElem?_eq_getElem hlt⟩
      have q1:=aO (row:=aR) hx
      rw [HL hx,<-X7] at ho
      simp (maxSteps:=1000000) -dsimp only [go_sem,hg,↓q1,aR]
      refine ⟨by omega,aEZ hv hk6 ?_⟩
      generalize ((qX v.f f.num).map (·.2)).getD default=w
      cases h1:(qX v.f f.num).isSome with
      | true=>
        rw [h1,Bool.or_true,Bool.true_and] at ho
        simp (maxSteps:=1000000) -dsimp only [go_sem,aI w]
        refine aD rfl (.done ?_)
        simp (maxSteps:=1000000) -dsimp only [go_sem,kY]
        refine ⟨by omega,aC (i + 1) 2 ⟨by omega,ho⟩ (by omega) ?_ ?_⟩
        · simp -dsimp only [go_sem]<;>simp
        · simp -dsimp only [go_sem]<;>simp
      | false=>
        rw [h1,Bool.or_false] at ho
        cases h2:f.opt with
        | true=>
          rw [h2,Bool.true_and] at ho
          simp (maxSteps:=1000000) -dsimp only [go_sem,aI w]
          refine aD rfl (.done ?_)
          simp (maxSteps:=1000000) -dsimp only [go_sem,kY,↓q1,aR,h2]
          refine ⟨⟨by omega,by omega⟩,by omega,aC (i + 1) 2 ⟨by omega,ho⟩ (by omega) ?_ ?_⟩
          · simp -dsimp only [go_sem]<;>simp
          · simp -dsimp only [go_sem]<;>simp
        | false=>
          rw [h2,Bool.false_and] at ho
          simp (maxSteps:=1000000) -dsimp only [go_sem,aI w]
          refine aD rfl (.done ?_)
          simp (maxSteps:=1000000) -dsimp only [go_sem,kY,↓q1,aR,h2]
          exact ⟨⟨by omega,by omega⟩,fin _ _ ho.symm⟩
    · have hg:decide ((i:Int) < (u.fs.length:Int))=false:=by simp; omega
      obtain rfl:i=u.fs.length:=by omega
      rw [List.drop_length] at ho
      simp (maxSteps:=1000000) -dsimp only [go_sem,hg]
      exact fin _ _ ho.symm
end Go.Proofs.YtkpohmhenegkiaaGreatDoor
namespace Go.Proofs.YtkpohmhenegkiaaGreatDoor
open Go.W
def AC (v:Vl):Bool:=(v.k != 4 && !(bl v.s == [])) || (v.k != 5 && decide (0 < (v.l.length:Int))) || (v.k != 6 && decide (0 < (v.f.length:Int)))
def I2 (v:Vl):Bool:=(v.k == 4 || v.k == 5 || v.k == 6) && v.n != 0
def gW (s:Sc) (t:Ty) (v:Vl):Bool:=bif !(valF s.ss s.es t) || v.k != t.k || AC v then false else bif I2 v then false else bif v.k != 6 then true else cO (stOf s t).fs v.f
theorem RD {s:Sc} (hs:s.fit) (t:Ty):EF (aL (stOf s t)):=GA hs t.n
theorem ZT:Meets Tryz.prog 110 (cP (fun _ _ _=>True) fun s t v=>.bool (gW s t v)).sp:=by
  refine aF Tryz.func110 aC2 3 (by rw [Tryz.ntmps110]; decide) (aG JB (aB GZ (aG Q4 (aA _)))) eF ?_
  intro av H K h
  obtain ⟨s,t,v,rfl,rfl,hs,ht,hv,_,hK⟩:=dE h
  clear h
  have fin:∀ (b:Bool) (R:Hp),gW s t v=b->W.Fin 0 K (bS b) R:=fun b R h=>by
    rw [h] at hK; exact .sel [] (by simp) (by simp) rfl (.done (by simpa [go_sem] using hK))
  clear hK
  unfold gW at fin
  have k1:=cE hv
  have k2:=eU v
  have k4:=cM ht
  have k5:=fM t
  have k6:=dX hs
  have k7:=gZ s
  have e:∀ (a b:Bool),(a=true->b=true)->True:=fun _ _ _=>trivial
  clear e
  have tail7:(v.k == 6)=true->(∀ (b:Bool) (R:Hp),cO (stOf s t).fs v.f=b->W.Fin 0 K (bS b) R)->vc [(32,.f r0Fn),(112,.s jP),(132,.f s9Fn)] 0 pcN110_7.ungh
      (d9 [(3,.va (.c1 (.pt 0 0))),(4,.va (.c1 (.pt 1 0))),(5,.va (.c1 (.pt 2 0)))]) [.cells [.vl (.int .i64 s.ver),.fz (s.es.map aX),.fz (s.ss.map aL)] 25,.cells [.vl (.int .i64 t.k),.vl (.int .i64 t.s),.vl (.string t.n),.fz (t.e.map aM)] 28,.cells [.vl (.int .i64 v.k),.vl (.int .i64 v.n),.vl (.string v.s),.fz (v.l.map aV),.fz (v.f.map aY)] 32] (jQ 0 jK K):=fun h6 fin=>by
    have hk6:v.k=6:=eq_of_beq h6
    have u1:=RD hs t
    have u2:C.st (aL (stOf s t))=stOf s t:=PU _
    simp (maxSteps:=1000000) -dsimp only [go_sem,pcN110_7,jK]
    refine gP hs ?_
    rw [show (fS s.ss t.n).getD default=stOf s t from rfl]
    generalize stOf s t=u at *
    unfold aL at u1 u2
    simp (maxSteps:=1000000) -dsimp only [go_sem,aL]
    refine aD rfl (.done ?_)
    simp (maxSteps:=1000000) -dsimp only [go_sem,vT,k1,k2,u1,u2]
    exact ⟨hk6,fin _ _ rfl⟩
  have tail3:(∀ (b:Bool) (R:Hp),(bif I2 v then false else bif v.k != 6 then true else cO (stOf s t).fs v.f)=b->W.Fin 0 K (bS b) R)->vc [(32,.f r0Fn),(112,.s jP),(132,.f s9Fn)] 0 pcN110_3.ungh
      (d9 [(3,.va (.c1 (.pt 0 0))),(4,.va (.c1 (.pt 1 0))),(5,.va (.c1 (.pt 2 0)))]) [.cells [.vl (.int .i64 s.ver),.fz (s.es.map aX),.fz (s.ss.map aL)] 25,.cells [.vl (.int .i64 t.k),.vl (.int .i64 t.s),.vl (.string t.n),.fz (t.e.map aM)] 28,.cells [.vl (.int .i64 v.k),.vl (.int .i64 v.n),.vl (.string v.s),.fz (v.l.map aV),.fz (v.f.map aY)] 32] (jQ 0 jK K):=fun fin=>by
    unfold I2 at fin
    cases b4:v.k == 4<;>cases b5:v.k == 5<;>cases b6:v.k == 6<;>cases bn:v.n != 0<;>rw [b4,b5,b6,bn] at fin <;>
    · simp (maxSteps:=1000000) -dsimp only [go_sem,pcN110_3,jK,b4,b5,b6,bn,Bool.true_or,Bool.or_true,Bool.false_or,Bool.or_false,Bool.false_and,Bool.true_and,Bool.and_false,Bool.and_true]
      first
        | exact fin false _ rfl
        | (refine aD rfl (.done ?_)
           have c6:(v.k != 6)=!(v.k == 6):=rfl
           rw [b6] at c6
           simp (maxSteps:=1000000) -dsimp only [go_sem,vB,c6,Bool.not_false,Bool.not_true]
           first
             | exact fin true _ (by rw [c6]; rfl)
             | (refine dZ 3 (tail7 b6 fun b R h=>fin b R (by rw [c6]; exact h)) ?_ ?_
                · simp -dsimp only [go_sem]<;>simp
                · simp -dsimp only [go_sem]<;>simp))
  cases h1:valF s.ss s.es t with
  | false=>
    rw [h1] at fin
    simp (maxSteps:=1000000) -dsimp only [go_sem,aE,aH t,aI v,rV,jK,k4,k5,k6,k7,h1,Bool.true_or,Bool.not_false]
    exact fin false _ rfl
  | true=>
  cases h2:v.k != t.k with
  | true=>
    rw [h1,h2] at fin
    simp (maxSteps:=1000000) -dsimp only [go_sem,aE,aH t,aI v,rV,jK,k4,k5,k6,k7,h1,h2,Bool.true_or,Bool.or_true,Bool.false_or,Bool.not_true]
    exact fin false _ rfl
  | false=>
  rw [h1,h2,Bool.not_true,Bool.false_or,Bool.false_or] at fin
  have hA:∀ b:Bool,AC v=b->((v.k != 4 && !(bl v.s == [])) || (v.k != 5 && decide (0 < (v.l.length:Int))) || (v.k != 6 && decide (0 < (v.f.length:Int))))=b:=fun b h=>h
  cases hA':AC v with
  | true=>
    have hA:=hA true hA'
    rw [hA'] at fin
    cases a1:v.k != 4<;>cases a2:bl v.s == []<;>cases a3:v.k != 5<;>cases a4:decide (0 < (v.l.length:Int))<;>cases a5:v.k != 6<;>cases a6:decide (0 < (v.f.length:Int)) <;>
    first
      | (exfalso; rw [a1,a2,a3,a4,a5,a6] at hA; exact absurd hA (by decide))
      | (simp (maxSteps:=1000000) -dsimp only [go_sem,aE,aH t,aI v,rV,jK,k4,k5,k6,k7,h1,h2,a1,a2,a3,a4,a5,a6,Bool.true_or,Bool.or_true,Bool.false_or,Bool.or_false,Bool.not_true,Bool.false_and]
         exact fin false _ rfl)
  | false=>
    have hA:=hA false hA'
    rw [hA',Bool.cond_false] at fin
    cases a1:v.k != 4<;>cases a2:bl v.s == []<;>cases a3:v.k != 5<;>cases a4:decide (0 < (v.l.length:Int))<;>cases a5:v.k != 6<;>cases a6:decide (0 < (v.f.length:Int)) <;>
    first
      | (exfalso; rw [a1,a2,a3,a4,a5,a6] at hA; exact absurd hA (by decide))
      | (simp (maxSteps:=1000000) -dsimp only [go_sem,aE,aH t,aI v,rV,jK,k4,k5,k6,k7,h1,h2,a1,a2,a3,a4,a5,a6,Bool.true_or,Bool.or_true,Bool.false_or,Bool.or_false,Bool.not_true,Bool.not_false,Bool.false_and,Bool.true_and,Bool.and_false]
         refine dZ 3 (tail3 fin) ?_ ?_
         · simp -dsimp only [go_sem]<;>simp
         · simp -dsimp only [go_sem]<;>simp)
end Go.Proofs.YtkpohmhenegkiaaGreatDoor
namespace Go.Proofs.YtkpohmhenegkiaaGreatDoor
open Go.W
def qN:PC:=.seq (.gh (.reg [.v 105 14,.q 106 (.bin .neq true (.t 105) (.i 0))])) (.cond (.t 106) (.seq (.reg [.v 107 14,.v 6 107]) .ret) .skip)
@[go_sem ↓] theorem aH1:aT qN:=aU _
def pZ:PC:=.seq (.gh (.reg [.l 95 (.ldn 3 (.t 3)),.q 96 (.fa 2 (.t 12)),.l 97 (.ldn 4 (.t 96)),.q 98 (.fa 4 (.t 5)),.l 99 (.ld1 (.t 98)),.v 100 11,.l 101 (.ia 6 (.t 99) (.t 100)),.q 102 (.fa 1 (.t 101)),.l 103 (.ldn 5 (.t 102)),.a 104 (.cq 67 [(.t 95),(.t 97),(.t 103)]),.v 14 104])) (qN)
@[go_sem ↓] theorem aG9:aT pZ:=aU _
def vC:PC:=.seq (.seq (.gh (.reg [.q 11 (.mv (.i 0))])) (.block 2 (.loop (.seq (.seq (.reg [.v 77 11,.q 78 (.fa 4 (.t 5)),.l 79 (.ld1 (.t 78)),.q 80 (.lnL (.t 79)),.q 81 (.bin .lss true (.t 77) (.t 80))]) (.cond (.t 81) .skip (.exit 2))) (.seq (.block 3 (.seq (.ord  [.q (.l 85 (.ldn 2 (.t 9))),.q (.q 86 (.fa 4 (.t 5))),.q (.l 87 (.ld1 (.t 86))),.q (.v 88 11),.q (.l 89 (.ia 6 (.t 87) (.t 88))),.q (.q 90 (.fa 0 (.t 89))),.q (.l 91 (.ld1 (.t 90))),.m (.a 92 (.cl 113 [(.t 85),(.t 91)] [])),.q (.v 84 92),.q (.q 93 (.ex (.t 84) 0)),.q (.q 94 (.ex (.t 84) 1)),.m (.e 12 (.al (.agg #[(.int .i64 0),(.string (mk [])),(.int .i64 0),(.int .i64 0),(.string (mk [])),(.slice none 0 0),(.bool false)]) 97)),.rc (.v 84 92),.rc (.q 93 (.ex (.t 84) 0)),.rc (.q 94 (.ex (.t 84) 1)),.m (.s (.st 7 (.t 12) (.t 93))),.rc (.q 94 (.ex (.t 84) 1)),.m (.v 13 94)]) (pZ))) (.reg [.v 82 11,.q 83 (.bin .add true (.t 82) (.i 1)),.v 11 83])))))) (.seq (.reg [.q 6 (.mv (.i 0))]) .ret)
@[go_sem ↓] theorem aG2:aT vC:=aU _
def wQ:PC:=.seq (.gh (.reg [.l 71 (.ldn 3 (.t 3)),.q 72 (.fa 2 (.t 4)),.l 73 (.ld1 (.t 72)),.a 74 (.cl 112 [(.t 71),(.t 73)] []),.v 70 74,.q 75 (.ex (.t 70) 0),.q 76 (.ex (.t 70) 1),.e 9 (.al (.agg #[(.string (mk [])),(.slice none 0 0)]) 95),.s (.st 2 (.t 9) (.t 75)),.v 10 76])) (vC)
@[go_sem ↓] theorem aIM:aT wQ:=aU _
def pcM67_7:PC:=.seq (.seq (.gh (.reg [.q 7 (.mv (.i 0))])) (.block 0 (.loop (.seq (.seq (.reg [.v 49 7,.q 50 (.fa 3 (.t 5)),.l 51 (.ld1 (.t 50)),.q 52 (.lnL (.t 51)),.q 53 (.bin .lss true (.t 49) (.t 52))]) (.cond (.t 53) .skip (.exit 0))) (.seq (.block 1 (.seq (.reg [.l 56 (.ldn 3 (.t 3)),.q 57 (.fa 3 (.t 4)),.l 58 (.ld1 (.t 57)),.l 59 (.ia 4 (.t 58) (.i 0)),.l 60 (.ldn 4 (.t 59)),.q 61 (.fa 3 (.t 5)),.l 62 (.ld1 (.t 61)),.v 63 7,.l 64 (.ia 5 (.t 62) (.t 63)),.l 65 (.ldn 5 (.t 64)),.a 66 (.cq 67 [(.t 56),(.t 60),(.t 65)]),.v 8 66]) (.seq (.reg [.v 67 8,.q 68 (.bin .neq true (.t 67) (.i 0))]) (.cond (.t 68) (.seq (.reg [.v 69 8,.v 6 69]) .ret) .skip)))) (.reg [.v 54 7,.q 55 (.bin .add true (.t 54) (.i 1)),.v 7 55])))))) (wQ)
@[go_sem ↓] theorem aJ1:aT pcM67_7:=aU _
def tM:PC:=.seq (.seq (.gh (.reg [.q 25 (.fa 0 (.t 4)),.l 26 (.ld1 (.t 25)),.q 27 (.bin .eql true (.t 26) (.i 4)),.v 28 27,⟨some 29,(some (28,true)),.q (.fa 2 (.t 5))⟩,⟨some 30,(some (28,true)),.l (.ld1 (.t 29))⟩,⟨some 31,(some (28,true)),.q (.lnS (.t 30))⟩,⟨some 32,(some (28,true)),.q (.fa 1 (.t 4))⟩,⟨some 33,(some (28,true)),.l (.ld1 (.t 32))⟩,⟨some 34,(some (28,true)),.q (.bin .gtr true (.t 31) (.t 33))⟩,.a 35 (.pick (.t 28) (.t 34) (.k (.bool false))),.v 36 35,⟨some 37,(some (36,false)),.q (.fa 0 (.t 4))⟩,⟨some 38,(some (36,false)),.l (.ld1 (.t 37))⟩,⟨some 39,(some (36,false)),.q (.bin .eql true (.t 38) (.i 5))⟩,⟨some 40,(some (36,false)),.q (.mv (.t 39))⟩,⟨some 41,(some (40,true)),.q (.fa 3 (.t 5))⟩,⟨some 42,(some (40,true)),.l (.ld1 (.t 41))⟩,⟨some 43,(some (40,true)),.q (.lnL (.t 42))⟩,⟨some 44,(some (40,true)),.q (.fa 1 (.t 4))⟩,⟨some 45,(some (40,true)),.l (.ld1 (.t 44))⟩,⟨some 46,(some (40,true)),.q (.bin .gtr true (.t 43) (.t 45))⟩,⟨some 47,(some (36,false)),.pick (.t 40) (.t 46) (.k (.bool false))⟩,.a 48 (.pick (.t 36) (.k (.bool true)) (.t 47))])) (.cond (.t 48) (.seq (.reg [.q 6 (.mv (.i 3))]) .ret) .skip)) (pcM67_7)
@[go_sem ↓] theorem aJX:aT tM:=aU _
def tO:PC:=.seq (.seq (.gh (.reg [.l 20 (.ldn 3 (.t 3)),.l 21 (.ldn 4 (.t 4)),.l 22 (.ldn 5 (.t 5)),.a 23 (.cq 111 [(.t 20),(.t 21),(.t 22)]),.q 24 (.not (.t 23))])) (.cond (.t 24) (.seq (.reg [.q 6 (.mv (.i 4))]) .ret) .skip)) (tM)
@[go_sem ↓] theorem aJV:aT tO:=aU _
def MI:PC:=.seq (.reg [.e 3 (.bx 25 (.t 0)),.e 4 (.bx 28 (.t 1)),.e 5 (.bx 32 (.t 2)),.q 6 (.mv (.i 0))]) (.seq (.seq (.reg [.l 15 (.ldn 3 (.t 3)),.l 16 (.ldn 4 (.t 4)),.l 17 (.ldn 5 (.t 5)),.a 18 (.cq 110 [(.t 15),(.t 16),(.t 17)]),.q 19 (.not (.t 18))]) (.cond (.t 19) (.seq (.reg [.q 6 (.mv (.i 13))]) .ret) .skip)) (tO))
def yJ:List RV:=[.mv (.t 6)]
theorem aF8:aN Tryz.prog true ⟨fun r k=>if r=1/\k=3 then .q else if r=3/\k=3 then .q else if r=10/\k=10 then .q else if r=18/\k=9 then .q else .own [],fun r=>[3,5,7,13,14,18,19].contains r⟩ Tryz.f67=some (MI,yJ):=by kernel_rfl
def wF:PC:=.seq (.gh (.reg [.q 28 (.fa 1 (.t 5)),.l 29 (.ld1 (.t 28)),.q 30 (.bin .eql true (.t 29) (.i 0)),.v 31 30,⟨some 32,(some (31,false)),.q (.fa 1 (.t 5))⟩,⟨some 33,(some (31,false)),.l (.ld1 (.t 32))⟩,⟨some 34,(some (31,false)),.q (.bin .eql true (.t 33) (.i 1))⟩,.a 35 (.pick (.t 31) (.k (.bool true)) (.t 34)),.v 6 35])) .ret
@[go_sem ↓] theorem aH0:aT wF:=aU _
def nM:PC:=.seq (.gh (.reg [.q 38 (.fa 1 (.t 4)),.l 39 (.ld1 (.t 38)),.q 40 (.bin .eql true (.t 39) (.i 64)),.v 41 40,⟨some 42,(some (41,false)),.q (.fa 1 (.t 5))⟩,⟨some 43,(some (41,false)),.l (.ld1 (.t 42))⟩,⟨some 44,(some (41,false)),.q (.mv (.t 7))⟩,⟨some 45,(some (41,false)),.q (.bin .sub true (.i 0) (.t 44))⟩,⟨some 46,(some (41,false)),.q (.bin .geq true (.t 43) (.t 45))⟩,⟨some 47,(some (41,false)),.q (.mv (.t 46))⟩,⟨some 48,(some (47,true)),.q (.fa 1 (.t 5))⟩,⟨some 49,(some (47,true)),.l (.ld1 (.t 48))⟩,⟨some 50,(some (47,true)),.q (.mv (.t 7))⟩,⟨some 51,(some (47,true)),.q (.bin .lss true (.t 49) (.t 50))⟩,⟨some 52,(some (41,false)),.pick (.t 47) (.t 51) (.k (.bool false))⟩,.a 53 (.pick (.t 41) (.k (.bool true)) (.t 52)),.v 6 53])) .ret
@[go_sem ↓] theorem aFM:aT nM:=aU _
def r9:PC:=.seq (.gh (.reg [.q 56 (.fa 1 (.t 5)),.l 57 (.ld1 (.t 56)),.q 58 (.bin .geq true (.t 57) (.i 0)),.v 59 58,⟨some 60,(some (59,true)),.q (.fa 1 (.t 5))⟩,⟨some 61,(some (59,true)),.l (.ld1 (.t 60))⟩,⟨some 62,(some (59,true)),.q (.mv (.t 7))⟩,⟨some 63,(some (59,true)),.q (.bin .mul true (.i 2) (.t 62))⟩,⟨some 64,(some (59,true)),.q (.bin .lss true (.t 61) (.t 63))⟩,.a 65 (.pick (.t 59) (.t 64) (.k (.bool false))),.v 6 65])) .ret
@[go_sem ↓] theorem aFK:aT r9:=aU _
def rT:PC:=.seq (.gh (.reg [.l 69 (.ldn 3 (.t 3)),.q 70 (.fa 2 (.t 4)),.l 71 (.ld1 (.t 70)),.a 72 (.cl 133 [(.t 69),(.t 71)] []),.v 68 72,.q 73 (.ex (.t 68) 0),.q 74 (.ex (.t 68) 1),.e 9 (.al (.agg #[(.string (mk [])),(.slice none 0 0),(.slice none 0 0)]) 92),.s (.st 3 (.t 9) (.t 73)),.v 10 74])) (.seq (.seq (.reg [.q 11 (.mv (.i 0))]) (.block 3 (.loop (.seq (.seq (.reg [.v 75 11,.q 76 (.fa 2 (.t 9)),.l 77 (.ld1 (.t 76)),.q 78 (.lnL (.t 77)),.q 79 (.bin .lss true (.t 75) (.t 78))]) (.cond (.t 79) .skip (.exit 3))) (.seq (.block 4 (.seq (.reg [.q 82 (.fa 2 (.t 9)),.l 83 (.ld1 (.t 82)),.v 84 11,.l 85 (.ia 1 (.t 83) (.t 84)),.l 86 (.ld1 (.t 85)),.q 87 (.fa 1 (.t 5)),.l 88 (.ld1 (.t 87)),.q 89 (.bin .eql true (.t 86) (.t 88))]) (.cond (.t 89) (.seq (.reg [.q 6 (.mv (.k (.bool true)))]) .ret) .skip))) (.reg [.v 80 11,.q 81 (.bin .add true (.t 80) (.i 1)),.v 11 81])))))) (.seq (.reg [.q 6 (.mv (.k (.bool false)))]) .ret))
@[go_sem ↓] theorem aFL:aT rT:=aU _
def pcM111_6:PC:=.seq (.seq (.gh (.reg [.q 24 (.fa 0 (.t 4)),.l 25 (.ld1 (.t 24))])) (.block 2 (.seq (.reg [.q 27 (.bin .eql true (.t 25) (.i 1)),.v 26 27]) (.cond (.t 26) (wF) (.seq (.reg [.q 37 (.bin .eql true (.t 25) (.i 2)),.v 36 37]) (.cond (.t 36) (nM) (.seq (.reg [.q 55 (.bin .eql true (.t 25) (.i 3)),.v 54 55]) (.cond (.t 54) (r9) (.seq (.reg [.q 67 (.bin .eql true (.t 25) (.i 7)),.v 66 67]) (.cond (.t 66) (rT) .skip)))))))))) (.seq (.reg [.q 6 (.mv (.k (.bool true)))]) .ret)
@[go_sem ↓] theorem aGB:aT pcM111_6:=aU _
def O2:PC:=.seq (.reg [.e 3 (.bx 25 (.t 0)),.e 4 (.bx 28 (.t 1)),.e 5 (.bx 32 (.t 2)),.q 6 (.mv (.k (.bool false)))]) (.seq (.reg [.q 7 (.mv (.i 1))]) (.seq (.seq (.reg [.q 8 (.mv (.i 1))]) (.block 0 (.loop (.seq (.seq (.reg [.v 12 8,.q 13 (.fa 1 (.t 4)),.l 14 (.ld1 (.t 13)),.q 15 (.bin .lss true (.t 12) (.t 14)),.v 16 15,⟨some 17,(some (16,true)),.q (.mv (.t 8))⟩,⟨some 18,(some (16,true)),.q (.bin .lss true (.t 17) (.i 63))⟩,.a 19 (.pick (.t 16) (.t 18) (.k (.bool false)))]) (.cond (.t 19) .skip (.exit 0))) (.seq (.block 1 (.reg [.v 22 7,.q 23 (.bin .mul true (.i 2) (.t 22)),.v 7 23])) (.reg [.v 20 8,.q 21 (.bin .add true (.t 20) (.i 1)),.v 8 21])))))) (pcM111_6)))
def kR:List RV:=[.mv (.t 6)]
theorem aCC:aN Tryz.prog true ⟨fun _ _=>.own [],fun r=>[6,8,10,12,14].contains r⟩ Tryz.f111=some (O2,kR):=by kernel_rfl
end Go.Proofs.YtkpohmhenegkiaaGreatDoor
namespace Go.Proofs.YtkpohmhenegkiaaGreatDoor
open Go.W
def nR (i:Nat):Int:=2 ^ (i - 1)
theorem K7 {i:Nat} (h:1<=i):2 * nR i=nR (i + 1):=by
  unfold nR
  obtain ⟨j,rfl⟩:∃ j,i=j + 1:=⟨i - 1,by omega⟩
  rw [Nat.add_sub_cancel,Nat.add_sub_cancel,Int.pow_succ,Int.mul_comm]
theorem LS {i:Nat} (h:i<=63):1<=nR i/\nR i<=4611686018427387904:=by
  unfold nR
  have h1:(2:Nat) ^ (i - 1)<=2 ^ 62:=Nat.pow_le_pow_right (by decide) (by omega)
  have h2:1<=(2:Nat) ^ (i - 1):=Nat.one_le_two_pow
  have e:((2:Int) ^ (i - 1))=(((2:Nat) ^ (i - 1):Nat):Int):=by rw [Int.natCast_pow]; rfl
  rw [e]
  have:(2:Nat) ^ 62=4611686018427387904:=by decide
  omega
theorem va2 {ss:List St} {es:List En} {t:Ty} (h:valF ss es t=true) (hk:(t.k == 2)=true):t.s=8\/t.s=16\/t.s=32\/t.s=64:=by
  obtain ⟨k,s,n,e⟩:=t
  have hk:k=2:=eq_of_beq hk
  subst hk
  rw [valF] at h
  simp at h
  show s=8\/s=16\/s=32\/s=64
  omega
theorem va3 {ss:List St} {es:List En} {t:Ty} (h:valF ss es t=true) (hk:(t.k == 3)=true):t.s=8\/t.s=16\/t.s=32:=by
  obtain ⟨k,s,n,e⟩:=t
  have hk:k=3:=eq_of_beq hk
  subst hk
  rw [valF] at h
  simp at h
  show s=8\/s=16\/s=32
  omega
def m4 (s:Sc) (t:Ty) (n:Int):Bool:=
  bif t.k == 1 then n == 0 || n == 1
  else bif t.k == 2 then t.s == 64 || (decide (-(2 ^ (t.s.toNat - 1):Int)<=n) && decide (n < (2 ^ (t.s.toNat - 1):Int)))
  else bif t.k == 3 then decide (0<=n) && decide (n < (2 ^ t.s.toNat:Int))
  else bif t.k == 7 then (enOf s t).vs.any fun x=>x == n else true
theorem SC:Meets Tryz.prog 111 (cP (fun s t _=>valF s.ss s.es t=true) fun s t v=>.bool (m4 s t v.n)).sp:=by
  refine aF Tryz.func111 aCC 3 (by rw [Tryz.ntmps111]; decide) (aB aAB (aA _)) eF ?_
  intro av H K h
  obtain ⟨s,t,v,rfl,rfl,hs,ht,hv,hp,hK⟩:=dE h
  clear h
  have fin:∀ (b:Bool) (R:Hp),m4 s t v.n=b->W.Fin 0 K (bS b) R:=fun b R h=>by
    rw [h] at hK; exact .sel [] (by simp) (by simp) rfl (.done (by simpa [go_sem] using hK))
  clear hK
  unfold m4 at fin
  have hts:=ht.s
  have hts1:=hts.1
  have hts2:=hts.2
  have he:=K8 hs t
  have tail:∀ i:Nat,i<=63->(i=1\/(i:Int)<=t.s)->(t.s<=(i:Int)\/i=63)->vc [(133,.s xC)] 0 pcM111_6.ungh
      (d9 [(3,.va (.c1 (.pt 0 0))),(4,.va (.c1 (.pt 1 0))),(5,.va (.c1 (.pt 2 0))),(7,iS .i64 (nR i))]) [.cells [.vl (.int .i64 s.ver),.fz (s.es.map aX),.fz (s.ss.map aL)] 25,.cells [.vl (.int .i64 t.k),.vl (.int .i64 t.s),.vl (.string t.n),.fz (t.e.map aM)] 28,.cells [.vl (.int .i64 v.k),.vl (.int .i64 v.n),.vl (.string v.s),.fz (v.l.map aV),.fz (v.f.map aY)] 32] (jQ 0 kR K):=fun i hi2 hi3 hi4=>by
    have hb:=LS hi2
    have hsz:2<=t.s->t.s<=63->nR i=2 ^ (t.s.toNat - 1)/\2 * nR i=2 ^ t.s.toNat:=fun h1 h2=>by
      have e:i=t.s.toNat:=by omega
      refine ⟨by rw [e]; rfl,?_⟩
      rw [K7 (by omega),e]; rfl
    cases h1:t.k == 1 with
    | true=>
      rw [h1,Bool.cond_true] at fin
      cases n0:v.n == 0<;>cases n1:v.n == 1<;>rw [n0,n1] at fin <;>
      · simp (maxSteps:=1000000) -dsimp only [go_sem,pcM111_6,kR,h1]
        refine aD rfl (.done ?_)
        simp (maxSteps:=1000000) -dsimp only [go_sem,wF,n0,n1]
        exact fin _ _ rfl
    | false=>
    cases h2:t.k == 2 with
    | true=>
      rw [h1,h2,Bool.cond_false,Bool.cond_true] at fin
      simp (maxSteps:=1000000) -dsimp only [go_sem,pcM111_6,kR,h1,h2]
      refine aD rfl (.done ?_)
      have hs:=va2 hp h2
      cases c64:t.s == 64 with
      | true=>
        rw [c64,Bool.true_or] at fin
        simp (maxSteps:=1000000) -dsimp only [go_sem,nM,c64]
        exact fin _ _ rfl
      | false=>
        have hne:t.s ≠ 64:=by simpa using c64
        rw [c64,Bool.false_or,<-(hsz (by omega) (by omega)).1] at fin
        generalize nR i=hh at *
        cases d1:decide (0 - hh<=v.n)<;>cases d2:decide (v.n < hh) <;>
        · have d1':decide (-hh<=v.n)=decide (0 - hh<=v.n):=by rw [Int.zero_sub]
          rw [d1',d1,d2] at fin
          simp (maxSteps:=1000000) -dsimp only [go_sem,nM,c64,d1,d2]
          exact ⟨⟨by omega,by omega⟩,fin _ _ rfl⟩
    | false=>
    cases h3:t.k == 3 with
    | true=>
      rw [h1,h2,h3,Bool.cond_false,Bool.cond_false,Bool.cond_true] at fin
      simp (maxSteps:=1000000) -dsimp only [go_sem,pcM111_6,kR,h1,h2,h3]
      refine aD rfl (.done ?_)
      have hs:=va3 hp h3
      have hb3:2 * nR i<=4294967296:=by rw [(hsz (by omega) (by omega)).2]; rcases hs with h | h | h<;>rw [h]<;>decide
      rw [<-(hsz (by omega) (by omega)).2] at fin
      generalize nR i=hh at *
      cases d1:decide (0<=v.n)<;>cases d2:decide (v.n < 2 * hh)<;>rw [d1,d2] at fin <;>
      · simp (maxSteps:=1000000) -dsimp only [go_sem,r9,d1,d2]
        first
          | exact fin _ _ rfl
          | exact ⟨⟨by omega,by omega⟩,fin _ _ rfl⟩
    | false=>
    cases h7:t.k == 7 with
    | false=>
      rw [h1,h2,h3,h7,Bool.cond_false,Bool.cond_false,Bool.cond_false,Bool.cond_false] at fin
      simp (maxSteps:=1000000) -dsimp only [go_sem,pcM111_6,kR,h1,h2,h3,h7]
      exact fin _ _ rfl
    | true=>
      rw [h1,h2,h3,h7,Bool.cond_false,Bool.cond_false,Bool.cond_false,Bool.cond_true] at fin
      simp (maxSteps:=1000000) -dsimp only [go_sem,pcM111_6,kR,h1,h2,h3,h7]
      refine aD rfl (.done ?_)
      simp (maxSteps:=1000000) -dsimp only [go_sem,rT]
      refine iY hs ?_
      rw [show (bW s.es t.n).getD default=enOf s t from rfl]
      generalize enOf s t=e at *
      simp (maxSteps:=1000000) -dsimp only [go_sem,aX]
      have hel:=he.lv
      refine aK (α:=Nat) (fun i=>[(5,.va (.c1 (.pt 2 0))),(9,.va (.c1 (.pt 3 0))),(11,iS .i64 i)]) (fun _=>[.cells [.vl (.int .i64 s.ver),.fz (s.es.map aX),.fz (s.ss.map aL)] 25,.cells [.vl (.int .i64 t.k),.vl (.int .i64 t.s),.vl (.string t.n),.fz (t.e.map aM)] 28,.cells [.vl (.int .i64 v.k),.vl (.int .i64 v.n),.vl (.string v.s),.fz (v.l.map aV),.fz (v.f.map aY)] 32,.cells [.vl (.string e.nm),.fz (e.ns.map bB),.fz (e.vs.map bU)] 92])
        (fun i=>i<=e.vs.length/\((e.vs.drop i).any fun x=>x == v.n)=(e.vs.any fun x=>x == v.n)) (fun i=>e.vs.length - i) 0 4 ⟨Nat.zero_le _,rfl⟩ ?_ ?_ ?_
      · simp -dsimp only [go_sem]<;>simp
      · simp -dsimp only [go_sem]<;>simp
      rintro j ⟨hj,ho⟩
      rcases Nat.lt_or_ge j e.vs.length with hlt | hge
      · have hg:decide ((j:Int) < (e.vs.length:Int))=true:=by simp; omega
        have hx:e.vs[j]? = some e.vs[j]:=List.getElem?_eq_getElem hlt
        have q2:=aO (row:=bU) hx
        rw [List.drop_eq_getElem_cons hlt,List.any_cons] at ho
        generalize e.vs[j]=m at *
        cases hc:m == v.n with
        | true=>
          rw [hc,Bool.true_or] at ho
          simp (maxSteps:=1000000) -dsimp only [go_sem,hg,↓q2,hc]
          exact ⟨⟨by omega,by omega⟩,fin _ _ ho.symm⟩
        | false=>
          rw [hc,Bool.false_or] at ho
          simp (maxSteps:=1000000) -dsimp only [go_sem,hg,↓q2,hc]
          refine ⟨⟨by omega,by omega⟩,⟨by omega,by omega⟩,aC (j + 1) 4 ⟨by omega,ho⟩ (by omega) ?_ ?_⟩
          · simp -dsimp only [go_sem]<;>simp
          · simp -dsimp only [go_sem]<;>simp
      · have hg:decide ((j:Int) < (e.vs.length:Int))=false:=by simp; omega
        have:e.vs.drop j=[]:=List.drop_eq_nil_iff.2 (by omega)
        rw [this,List.any_nil] at ho
        simp (maxSteps:=1000000) -dsimp only [go_sem,hg]
        exact fin _ _ ho.symm
  simp (maxSteps:=1000000) -dsimp only [go_sem,aE,aH t,aI v,O2,kR]
  refine aK (α:=Nat) (fun i=>[(3,.va (.c1 (.pt 0 0))),(4,.va (.c1 (.pt 1 0))),(5,.va (.c1 (.pt 2 0))),(7,iS .i64 (nR i)),(8,iS .i64 i)]) (fun _=>[.cells [.vl (.int .i64 s.ver),.fz (s.es.map aX),.fz (s.ss.map aL)] 25,.cells [.vl (.int .i64 t.k),.vl (.int .i64 t.s),.vl (.string t.n),.fz (t.e.map aM)] 28,.cells [.vl (.int .i64 v.k),.vl (.int .i64 v.n),.vl (.string v.s),.fz (v.l.map aV),.fz (v.f.map aY)] 32])
    (fun i=>1<=i/\i<=63/\(i=1\/(i:Int)<=t.s)) (fun i=>63 - i) 1 3 ⟨by omega,by omega,.inl rfl⟩ ?_ ?_ ?_
  · simp -dsimp only [go_sem]<;>simp [nR]
  · simp -dsimp only [go_sem]<;>simp
  rintro i ⟨hi1,hi2,hi3⟩
  have hb:=LS hi2
  cases hg:decide ((i:Int) < t.s) && decide ((i:Int) < 63) with
  | true=>
    obtain ⟨g1,g2⟩:decide ((i:Int) < t.s)=true/\decide ((i:Int) < 63)=true:=by simpa only [Bool.and_eq_true] using hg
    have hsu:=K7 hi1
    have h1:=of_decide_eq_true g1
    have h2:=of_decide_eq_true g2
    have hb2:=LS (i:=i + 1) (by omega)
    simp (maxSteps:=1000000) -dsimp only [go_sem,g1,g2]
    refine ⟨⟨by omega,by omega⟩,⟨by omega,by omega⟩,aC (i + 1) 3 ⟨by omega,by omega,.inr (by omega)⟩ (by omega) ?_ ?_⟩
    · simp -dsimp only [go_sem,hsu]<;>simp
    · simp -dsimp only [go_sem]<;>simp
  | false=>
    have hg':(decide ((i:Int) < t.s)=false)\/(decide ((i:Int) < t.s)=true/\decide ((i:Int) < 63)=false):=by
      cases h:decide ((i:Int) < t.s) with
      | false=>exact .inl rfl
      | true=>rw [h,Bool.true_and] at hg; exact .inr ⟨rfl,hg⟩
    rcases hg' with g1 | ⟨g1,g2⟩
    · simp (maxSteps:=1000000) -dsimp only [go_sem,g1,Bool.false_and]
      refine dZ 3 (tail i hi2 hi3 (.inl (by have:=of_decide_eq_false g1; omega))) ?_ ?_
      · simp -dsimp only [go_sem]<;>simp
      · simp -dsimp only [go_sem]<;>simp
    · simp (maxSteps:=1000000) -dsimp only [go_sem,g1,g2]
      refine dZ 3 (tail i hi2 hi3 (.inr (by have:=of_decide_eq_false g2; omega))) ?_ ?_
      · simp -dsimp only [go_sem]<;>simp
      · simp -dsimp only [go_sem]<;>simp
end Go.Proofs.YtkpohmhenegkiaaGreatDoor
namespace Go.Proofs.YtkpohmhenegkiaaGreatDoor
open Go.W
def GC (t:Ty) (a b:Int):Bool:=(t.k == 4 && decide (t.s < a)) || (t.k == 5 && decide (t.s < b))
mutual
def nX (s:Sc) (t:Ty):Vl->Int
  | .mk k n str l f=>bif !(gW s t (.mk k n str l f)) then 13 else bif !(m4 s t n) then 4 else bif GC t (bl str).length l.length then 3
      else bif kZ s (t.e.headD default) l != 0 then kZ s (t.e.headD default) l else m9 s (stOf s t) f
def kZ (s:Sc) (t:Ty):List Vl->Int
  | []=>0
  | v :: r=>bif nX s t v != 0 then nX s t v else kZ s t r
def m9 (s:Sc) (u:St):List (Int × Vl)->Int
  | []=>0
  | (i,v) :: r=>bif nX s (cK u i).ty v != 0 then nX s (cK u i).ty v else m9 s u r
end
theorem oU {α:Type} {l:List α} (h:decide (0 < (l.length:Int))=false):l=[]:=by
  have:=of_decide_eq_false h
  exact List.length_eq_zero_iff.1 (by omega)
theorem aDQ {s:Sc} {t:Ty} {n:Int} (hp:valF s.ss s.es t=true) (h4:(t.k == 4)=false) (h5:(t.k == 5)=false) (h6:(t.k == 6)=false):m4 s t n=FM s t n:=by
  unfold m4 FM
  cases h1:t.k == 1 with
  | true=>rfl
  | false=>
  cases h2:t.k == 2 with
  | true=>rfl
  | false=>
  cases h3:t.k == 3 with
  | true=>rfl
  | false=>
  cases h7:t.k == 7 with
  | true=>rfl
  | false=>
    exfalso
    obtain ⟨k,sz,nm,e⟩:=t
    have h1:(k == 1)=false:=h1
    have h2:(k == 2)=false:=h2
    have h3:(k == 3)=false:=h3
    have h4:(k == 4)=false:=h4
    have h5:(k == 5)=false:=h5
    have h6:(k == 6)=false:=h6
    have h7:(k == 7)=false:=h7
    rw [valF,h1,h2,h3,h4,h5,h6,h7] at hp
    cases hp
mutual
theorem G1 (s:Sc) (t:Ty):∀ v:Vl,nX s t v=fD s t v
  | .mk k n str l f=>by
    have hL:∀ u,kZ s u l=jV s u l:=fun u=>ON s u l
    have hE:m9 s (stOf s t) f=jU s ((fS s.ss t.n).getD default).fs f:=O4 s (stOf s t) f
    rw [nX,fD,hL,hE]
    unfold gW
    cases hp:valF s.ss s.es t with
    | false=>rfl
    | true=>
    show (bif !(bif !true || k != t.k || AC (.mk k n str l f) then false else bif I2 (.mk k n str l f) then false else bif k != 6 then true else cO (stOf s t).fs f) then 13 else _)=_
    cases hk:k != t.k with
    | true=>rfl
    | false=>
    have hk':k=t.k:=by simpa using hk
    subst hk'
    have eA:AC (.mk t.k n str l f)=((t.k != 4 && !(bl str == [])) || (t.k != 5 && decide (0 < (l.length:Int))) || (t.k != 6 && decide (0 < (f.length:Int)))):=rfl
    have eB:I2 (.mk t.k n str l f)=((t.k == 4 || t.k == 5 || t.k == 6) && n != 0):=rfl
    rw [eA,eB]
    unfold GC
    cases h4:t.k == 4 with
    | true=>
      have e4:t.k=4:=eq_of_beq h4
      have er:m4 s t n=true:=by unfold m4; rw [e4]; rfl
      rw [er,e4]
      unfold qC
      cases hn:n != 0<;>cases hl:decide (0 < (l.length:Int))<;>cases hf:decide (0 < (f.length:Int))<;>cases hs:decide (t.s < ((bl str).length:Int))<;>(try rw [oU hl])<;>(try rw [oU hf])<;>simp [jV,jU]
    | false=>
    cases h5:t.k == 5 with
    | true=>
      have e5:t.k=5:=eq_of_beq h5
      have er:m4 s t n=true:=by unfold m4; rw [e5]; rfl
      rw [er,e5]
      generalize jV s (t.e.headD default) l=q
      have hq:(bif q != 0 then q else 0)=q:=by
        cases hz:q != 0 with
        | true=>rfl
        | false=>have:q=0:=by simpa using hz
                   rw [this]; rfl
      cases hn:n != 0<;>cases hb:bl str == []<;>cases hf:decide (0 < (f.length:Int))<;>cases hs:decide (t.s < (l.length:Int))<;>(try rw [oU hf])<;>simp [jU,hq]
    | false=>
    cases h6:t.k == 6 with
    | true=>
      have e6:t.k=6:=eq_of_beq h6
      have er:m4 s t n=true:=by unfold m4; rw [e6]; rfl
      have ef:(stOf s t).fs=((fS s.ss t.n).getD default).fs:=rfl
      rw [er,e6,ef]
      cases hn:n != 0<;>cases hb:bl str == []<;>cases hl:decide (0 < (l.length:Int))<;>cases hs:cO ((fS s.ss t.n).getD default).fs f<;>(try rw [oU hl])<;>simp [jV]
    | false=>
      rw [aDQ hp h4 h5 h6]
      have c4:(t.k != 4)=true:=by rw [bne,h4]; rfl
      have c5:(t.k != 5)=true:=by rw [bne,h5]; rfl
      have c6:(t.k != 6)=true:=by rw [bne,h6]; rfl
      rw [c4,c5,c6]
      unfold pK
      cases hb:bl str == []<;>cases hl:decide (0 < (l.length:Int))<;>cases hf:decide (0 < (f.length:Int))<;>cases hr:FM s t n<;>(try rw [oU hl])<;>(try rw [oU hf])<;>simp [jV,jU]
theorem ON (s:Sc) (t:Ty):∀ l:List Vl,kZ s t l=jV s t l
  | []=>by rw [kZ,jV]
  | v :: r=>by rw [kZ,jV,G1 s t v,ON s t r]
theorem O4 (s:Sc) (u:St):∀ l:List (Int × Vl),m9 s u l=jU s u.fs l
  | []=>by rw [m9,jU]
  | (i,v) :: r=>by
    rw [m9,jU,G1 s (cK u i).ty v,O4 s u r]; rfl
end
end Go.Proofs.YtkpohmhenegkiaaGreatDoor
namespace Go.Proofs.YtkpohmhenegkiaaGreatDoor
open Go.W
theorem YE (s:Sc) (t:Ty) (v:Vl):nX s t v=bif !(gW s t v) then 13 else bif !(m4 s t v.n) then 4 else bif GC t (bl v.s).length v.l.length then 3
      else bif kZ s (t.e.headD default) v.l != 0 then kZ s (t.e.headD default) v.l else m9 s (stOf s t) v.f:=by cases v; rw [nX]; rfl
theorem KM:∀ N,Meets Tryz.prog 67 (cP (qP N) fun s t v=>.int .i64 (nX s t v)).sp
  | 0=>⟨by kernel_rfl,by rintro xs vs E ro w K _ _ _ h; obtain ⟨_,_,v,_,_,_,_,_,h,_⟩:=dE h; have:=v.h_pos; have h:v.h<=0:=h; omega⟩
  | N + 1=>by
    refine aF Tryz.func67 aF8 3 (by rw [Tryz.ntmps67]; decide) (aG ZT (aG SC (aG (KM N) (aB GZ (aB JS (aA _)))))) eF ?_
    intro av H K h
    obtain ⟨s,t,v,rfl,rfl,hs,ht,hv,hh,hK⟩:=dE h
    clear h
    have hh:v.h<=N + 1:=hh
    have fin:∀ (z:Int) (R:Hp),nX s t v=z->W.Fin 0 K (iS .i64 z) R:=fun z R h=>by
      have hK:K (iS .i64 (nX s t v)) []:=hK
      rw [h] at hK; exact .sel [] (by simp) (by simp) rfl (.done (by simpa [go_sem] using hK))
    clear hK
    rw [YE] at fin
    have k1:=cE hv
    have k2:=eU v
    have k4:=cM ht
    have k5:=fM t
    have k6:=dX hs
    have k7:=gZ s
    cases h1:gW s t v with
    | false=>
      rw [h1] at fin
      simp (maxSteps:=1000000) -dsimp only [go_sem,aE,aH t,aI v,MI,yJ,k1,k2,k4,k5,k6,k7,h1]
      exact fin 13 _ rfl
    | true=>
    have hp:valF s.ss s.es t=true:=by
      cases hp:valF s.ss s.es t with
      | true=>rfl
      | false=>unfold gW at h1; rw [hp] at h1; cases h1
    rw [h1] at fin
    simp (maxSteps:=1000000) -dsimp only [go_sem,aE,aH t,aI v,MI,yJ,k1,k2,k4,k5,k6,k7,h1]
    refine aD rfl (.done ?_)
    cases h2:m4 s t v.n with
    | false=>
      rw [h2] at fin
      simp (maxSteps:=1000000) -dsimp only [go_sem,tO,k1,k2,k4,k5,k6,k7,hp,h2]
      exact fin 4 _ rfl
    | true=>
    rw [h2] at fin
    simp (maxSteps:=1000000) -dsimp only [go_sem,tO,k1,k2,k4,k5,k6,k7,hp,h2]
    refine aD rfl (.done ?_)
    simp only [Bool.not_true,Bool.cond_false] at fin
    have hne:0 < v.l.length->∃ u,t.e=[u]/\TyOk u:=fun hl=>by
      have hk5:v.k=5:=by
        cases h5:v.k != 5 with
        | false=>simpa using h5
        | true=>
          unfold gW AC at h1
          rw [h5,decide_eq_true (show (0:Int) < (v.l.length:Int) by omega)] at h1
          simp at h1
      have hkt:v.k=t.k:=by
        cases hkt:v.k != t.k with
        | false=>simpa using hkt
        | true=>unfold gW at h1; rw [hkt] at h1; simp at h1
      obtain ⟨u,he,_⟩:=RA hp (by rw [<-hkt,hk5]; rfl)
      exact ⟨u,he,ht.e u (by rw [he]; simp)⟩
    have tail:(∀ (z:Int) (R:Hp),(bif kZ s (t.e.headD default) v.l != 0 then kZ s (t.e.headD default) v.l else m9 s (stOf s t) v.f)=z->W.Fin 0 K (iS .i64 z) R)->vc [(110,.f (cP (fun _ _ _=>True) fun s t v=>.bool (gW s t v))),(111,.f (cP (fun s t _=>valF s.ss s.es t=true) fun s t v=>.bool (m4 s t v.n))),(67,.f (cP (qP N) fun s t v=>.int .i64 (nX s t v))),(112,.s jP),(113,.s kK)] 0 pcM67_7.ungh
        (d9 [(3,.va (.c1 (.pt 0 0))),(4,.va (.c1 (.pt 1 0))),(5,.va (.c1 (.pt 2 0)))]) [.cells [.vl (.int .i64 s.ver),.fz (s.es.map aX),.fz (s.ss.map aL)] 25,.cells [.vl (.int .i64 t.k),.vl (.int .i64 t.s),.vl (.string t.n),.fz (t.e.map aM)] 28,.cells [.vl (.int .i64 v.k),.vl (.int .i64 v.n),.vl (.string v.s),.fz (v.l.map aV),.fz (v.f.map aY)] 32] (jQ 0 yJ K):=fun fin=>by
      have hll:=hv.ll
      simp (maxSteps:=1000000) -dsimp only [go_sem,pcM67_7,yJ]
      refine aK (α:=Nat) (fun i=>[(3,.va (.c1 (.pt 0 0))),(4,.va (.c1 (.pt 1 0))),(5,.va (.c1 (.pt 2 0))),(7,iS .i64 i)]) (fun _=>[.cells [.vl (.int .i64 s.ver),.fz (s.es.map aX),.fz (s.ss.map aL)] 25,.cells [.vl (.int .i64 t.k),.vl (.int .i64 t.s),.vl (.string t.n),.fz (t.e.map aM)] 28,.cells [.vl (.int .i64 v.k),.vl (.int .i64 v.n),.vl (.string v.s),.fz (v.l.map aV),.fz (v.f.map aY)] 32])
        (fun i=>i<=v.l.length/\(bif kZ s (t.e.headD default) (v.l.drop i) != 0 then kZ s (t.e.headD default) (v.l.drop i) else m9 s (stOf s t) v.f)=(bif kZ s (t.e.headD default) v.l != 0 then kZ s (t.e.headD default) v.l else m9 s (stOf s t) v.f)) (fun i=>v.l.length - i) 0 3 ⟨Nat.zero_le _,rfl⟩ ?_ ?_ ?_
      · simp -dsimp only [go_sem]<;>simp
      · simp -dsimp only [go_sem]<;>simp
      rintro i ⟨hi,ho⟩
      rcases Nat.lt_or_ge i v.l.length with hlt | hge
      · have hg:decide ((i:Int) < (v.l.length:Int))=true:=by simp; omega
        have hx:v.l[i]? = some v.l[i]:=List.getElem?_eq_getElem hlt
        have q2:=aO (row:=aV) hx
        obtain ⟨u,he,hu⟩:=hne (by omega)
        rw [he,List.headD_cons] at ho
        rw [List.drop_eq_getElem_cons hlt,kZ] at ho
        have hxo:=hv.l _ (List.getElem_mem hlt)
        have hxh:=Vl.h_l (List.getElem_mem hlt)
        generalize v.l[i]=x at *
        have j1:=cE hxo
        have j2:=eU x
        have j4:=cM hu
        have j5:=fM u
        have j8:qP N s u x:=show x.h<=N by omega
        have z0:(0:Int) < ((1:Nat):Int):=by decide
        have z1:(0:Int)<=0:=by decide
        cases hz:nX s u x != 0 with
        | true=>
          rw [hz,Bool.cond_true,hz,Bool.cond_true] at ho
          simp (maxSteps:=1000000) -dsimp only [go_sem,hg,↓q2,he,aH u,aI x,forall_eq',z0,z1,List.length_cons,List.length_nil,List.take_succ_cons,List.take_zero,j1,j2,j4,j5,j8,k6,k7,hz]
          exact ⟨⟨by omega,by omega⟩,fin _ _ (by rw [he]; exact ho.symm)⟩
        | false=>
          rw [hz,Bool.cond_false] at ho
          simp (maxSteps:=1000000) -dsimp only [go_sem,hg,↓q2,he,aH u,aI x,forall_eq',z0,z1,List.length_cons,List.length_nil,List.take_succ_cons,List.take_zero,j1,j2,j4,j5,j8,k6,k7,hz]
          refine ⟨⟨by omega,by omega⟩,⟨by omega,by omega⟩,aC (i + 1) 3 ⟨by omega,by rw [he]; exact ho⟩ (by omega) ?_ ?_⟩
          · simp -dsimp only [go_sem]<;>simp
          · simp -dsimp only [go_sem]<;>simp [he,aH u]
      · have hg:decide ((i:Int) < (v.l.length:Int))=false:=by simp; omega
        have:v.l.drop i=[]:=List.drop_eq_nil_iff.2 (by omega)
        rw [this,kZ] at ho
        have ho:m9 s (stOf s t) v.f=_:=ho
        rw [<-ho] at fin
        simp (maxSteps:=1000000) -dsimp only [go_sem,hg]
        refine aD rfl (.done ?_)
        simp (maxSteps:=1000000) -dsimp only [go_sem,wQ]
        refine gP hs ?_
        rw [show (fS s.ss t.n).getD default=stOf s t from rfl]
        have hwo:=i7 hs t
        have hws:=wD hs t
        generalize stOf s t=w at *
        have hlf:=hv.lf
        simp (maxSteps:=1000000) -dsimp only [go_sem,aL]
        refine aD rfl (.done ?_)
        simp (maxSteps:=1000000) -dsimp only [go_sem,vC]
        clear ho this hg hge hi
        refine aK (α:=Nat) (fun i=>[(3,.va (.c1 (.pt 0 0))),(5,.va (.c1 (.pt 2 0))),(9,.va (.c1 (.pt 3 0))),(11,iS .i64 i)]) (fun _=>[.cells [.vl (.int .i64 s.ver),.fz (s.es.map aX),.fz (s.ss.map aL)] 25,.cells [.vl (.int .i64 t.k),.vl (.int .i64 t.s),.vl (.string t.n),.fz (t.e.map aM)] 28,.cells [.vl (.int .i64 v.k),.vl (.int .i64 v.n),.vl (.string v.s),.fz (v.l.map aV),.fz (v.f.map aY)] 32,.cells [.vl (.string w.nm),.fz (w.fs.map aR)] 95])
          (fun i=>i<=v.f.length/\m9 s w (v.f.drop i)=m9 s w v.f) (fun i=>v.f.length - i) 0 4 ⟨Nat.zero_le _,rfl⟩ ?_ ?_ ?_
        · simp -dsimp only [go_sem]<;>simp
        · simp -dsimp only [go_sem]<;>simp
        rintro j ⟨hj,ho⟩
        rcases Nat.lt_or_ge j v.f.length with hlt | hge
        · have hg:decide ((j:Int) < (v.f.length:Int))=true:=by simp; omega
          have hx:v.f[j]? = some v.f[j]:=List.getElem?_eq_getElem hlt
          have q2:=kG hx
          rw [List.drop_eq_getElem_cons hlt] at ho
          have hxo:=hv.f _ (List.getElem_mem hlt)
          have hxh:=Vl.h_f (List.getElem_mem hlt)
          generalize v.f[j]=x at *
          obtain ⟨n,x⟩:=x
          rw [m9] at ho
          have hdo:=tJ hwo n
          simp only at hxo hxh q2
          have j1:=cE hxo
          have j2:=eU x
          have j8:∀ d:Ty,qP N s d x:=fun d=>show x.h<=N by omega
          simp (maxSteps:=1000000) -dsimp only [go_sem,hg,↓q2]
          refine ⟨⟨by omega,by omega⟩,jX hwo hws ?_⟩
          generalize cK w n=d at *
          have j4:=cM hdo.ty
          have j5:=fM d.ty
          have j8:=j8 d.ty
          simp (maxSteps:=1000000) -dsimp only [go_sem,aR]
          refine aD rfl (.done ?_)
          cases hz:nX s d.ty x != 0 with
          | true=>
            rw [hz,Bool.cond_true] at ho
            simp (maxSteps:=1000000) -dsimp only [go_sem,pZ,↓q2,j1,j2,j4,j5,j8,k6,k7,List.take_succ_cons,List.take_zero,List.length_cons,List.length_nil]
            refine ⟨⟨by omega,by omega⟩,aD rfl (.done ?_)⟩
            simp (maxSteps:=1000000) -dsimp only [go_sem,qN,hz]
            exact fin _ _ ho.symm
          | false=>
            rw [hz,Bool.cond_false] at ho
            simp (maxSteps:=1000000) -dsimp only [go_sem,pZ,↓q2,j1,j2,j4,j5,j8,k6,k7,List.take_succ_cons,List.take_zero,List.length_cons,List.length_nil]
            refine ⟨⟨by omega,by omega⟩,aD rfl (.done ?_)⟩
            simp (maxSteps:=1000000) -dsimp only [go_sem,qN,hz]
            refine ⟨⟨by omega,by omega⟩,aC (j + 1) 4 ⟨by omega,ho⟩ (by omega) ?_ ?_⟩
            · simp -dsimp only [go_sem]<;>simp
            · simp -dsimp only [go_sem]<;>simp
        · have hg:decide ((j:Int) < (v.f.length:Int))=false:=by simp; omega
          have:v.f.drop j=[]:=List.drop_eq_nil_iff.2 (by omega)
          rw [this,m9] at ho
          simp (maxSteps:=1000000) -dsimp only [go_sem,hg]
          exact fin _ _ ho.symm
    have hA:∀ b:Bool,GC t (bl v.s).length v.l.length=b->((t.k == 4 && decide (t.s < ((bl v.s).length:Int))) || (t.k == 5 && decide (t.s < (v.l.length:Int))))=b:=fun b h=>h
    cases h3:GC t (bl v.s).length v.l.length with
    | true=>
      have hA:=hA true h3
      rw [h3,Bool.cond_true] at fin
      cases a1:t.k == 4<;>cases a2:decide (t.s < ((bl v.s).length:Int))<;>cases a3:t.k == 5<;>cases a4:decide (t.s < (v.l.length:Int)) <;>
      first
        | (exfalso; rw [a1,a2,a3,a4] at hA; exact absurd hA (by decide))
        | (simp (maxSteps:=1000000) -dsimp only [go_sem,tM,a1,a2,a3,a4,Bool.true_or,Bool.or_true,Bool.false_or,Bool.or_false,Bool.false_and,Bool.true_and,Bool.and_false]
           exact fin 3 _ rfl)
    | false=>
      have hA:=hA false h3
      rw [h3,Bool.cond_false] at fin
      cases a1:t.k == 4<;>cases a2:decide (t.s < ((bl v.s).length:Int))<;>cases a3:t.k == 5<;>cases a4:decide (t.s < (v.l.length:Int)) <;>
      first
        | (exfalso; rw [a1,a2,a3,a4] at hA; exact absurd hA (by decide))
        | (simp (maxSteps:=1000000) -dsimp only [go_sem,tM,a1,a2,a3,a4,Bool.true_or,Bool.or_true,Bool.false_or,Bool.or_false,Bool.false_and,Bool.true_and,Bool.and_false]
           refine dZ 3 (tail fin) ?_ ?_
           · simp -dsimp only [go_sem]<;>simp
           · simp -dsimp only [go_sem]<;>simp)
end Go.Proofs.YtkpohmhenegkiaaGreatDoor
namespace Go.Proofs.YtkpohmhenegkiaaGreatDoor
open Go.W
mutual
def b7:Vl->Int
  | .mk k n s l f=>bif lC (.mk k n s l f) then 0 else 1 + iO (f5 0 l) f
def f5 (d:Int):List Vl->Int
  | []=>d
  | v :: r=>f5 (max d (b7 v)) r
def iO (d:Int):List (Int × Vl)->Int
  | []=>d
  | (_,v) :: r=>iO (max d (b7 v)) r
end
theorem xY (v:Vl):b7 v=bif lC v then 0 else 1 + iO (f5 0 v.l) v.f:=by cases v; rw [b7]; rfl
theorem FH {g:Vl->Int} {n:Nat} (hg:∀ x,g x=min (b7 x) n) (D:Int) (x:Vl):lB g ((n:Int) - 1) (min D n) x=min (max D (b7 x)) n:=by
  unfold lB
  rw [hg x]
  cases h:decide (min D (n:Int)<=(n:Int) - 1) with
  | true=>have:=of_decide_eq_true h; rw [Bool.cond_true]; omega
  | false=>have:=of_decide_eq_false h; rw [Bool.cond_false]; omega
theorem TV {g:Vl->Int} {n:Nat} (hg:∀ x,g x=min (b7 x) n):∀ (l:List Vl) (D:Int),l.foldl (lB g ((n:Int) - 1)) (min D n)=min (f5 D l) n
  | [],D=>by rw [f5]; rfl
  | x :: l,D=>by rw [List.foldl_cons,FH hg,TV hg l,f5]
theorem WS {g:Vl->Int} {n:Nat} (hg:∀ x,g x=min (b7 x) n):∀ (l:List (Int × Vl)) (D:Int),l.foldl (o7 g ((n:Int) - 1)) (min D n)=min (iO D l) n
  | [],D=>by rw [iO]; rfl
  | (i,x) :: l,D=>by
    rw [List.foldl_cons,show o7 g ((n:Int) - 1) (min D n) (i,x)=lB g ((n:Int) - 1) (min D n) x from rfl,FH hg,WS hg l,iO]
theorem WP {g:Vl->Int} {n:Nat} (hg:∀ x,g x=min (b7 x) n) (v:Vl):E6 g ((n:Int) - 1) v=min (b7 v) ((n:Int) + 1):=by
  unfold E6
  rw [xY]
  cases lC v with
  | true=>rw [Bool.cond_true,Bool.cond_true]; omega
  | false=>
    rw [Bool.cond_false,Bool.cond_false]
    have h1:=TV hg v.l 0
    rw [show min (0:Int) (n:Int)=0 by omega] at h1
    rw [h1,WS hg v.f]
    omega
mutual
theorem BM:∀ v:Vl,0<=b7 v
  | .mk k n s l f=>by
    rw [b7]
    have h1:=tC l 0
    have h2:=oM f (f5 0 l)
    cases lC (.mk k n s l f) with
    | true=>exact Int.le_refl _
    | false=>rw [Bool.cond_false]; omega
theorem tC:∀ (l:List Vl) (d:Int),d<=f5 d l
  | [],d=>by rw [f5]; exact Int.le_refl _
  | v :: r,d=>by
    rw [f5]
    have:=tC r (max d (b7 v))
    omega
theorem oM:∀ (l:List (Int × Vl)) (d:Int),d<=iO d l
  | [],d=>by rw [iO]; exact Int.le_refl _
  | (_,v) :: r,d=>by
    rw [iO]
    have:=oM r (max d (b7 v))
    omega
end
theorem KG:∀ (n:Nat) (x:Vl),hS n x=min (b7 x) n
  | 0,x=>by have:=BM x; show (0:Int)=min (b7 x) 0; omega
  | n + 1,x=>by
    rw [hS,wU,WP (KG n) x]
    omega
theorem YD (n:Nat) (v:Vl):rZ n v=min (b7 v) ((n:Int) + 1):=by rw [wU,WP (KG n) v]
theorem JU (v:Vl):decide (6 < rZ 7 v)=decide (6 < b7 v):=by
  rw [YD]
  rw [Bool.eq_iff_iff,decide_eq_true_iff,decide_eq_true_iff]
  omega
end Go.Proofs.YtkpohmhenegkiaaGreatDoor
namespace Go.Proofs.YtkpohmhenegkiaaGreatDoor
open Go.W
def pcL66_3:PC:=.seq (.gh (.reg [.q 3 (.mv (.i 0))])) (.seq (.seq (.reg [.q 4 (.mv (.i 0))]) (.block 0 (.loop (.seq (.seq (.reg [.v 28 4,.q 29 (.fa 3 (.t 1)),.l 30 (.ld1 (.t 29)),.q 31 (.lnL (.t 30)),.q 32 (.bin .lss true (.t 28) (.t 31))]) (.cond (.t 32) .skip (.exit 0))) (.seq (.block 1 (.seq (.reg [.q 35 (.fa 3 (.t 1)),.l 36 (.ld1 (.t 35)),.v 37 4,.l 38 (.ia 5 (.t 36) (.t 37)),.l 39 (.ldn 5 (.t 38)),.a 40 (.cq 66 [(.t 39)]),.v 5 40]) (.seq (.reg [.v 41 5,.v 42 3,.q 43 (.bin .gtr true (.t 41) (.t 42))]) (.cond (.t 43) (.reg [.v 44 5,.v 3 44]) .skip)))) (.reg [.v 33 4,.q 34 (.bin .add true (.t 33) (.i 1)),.v 4 34])))))) (.seq (.seq (.reg [.q 6 (.mv (.i 0))]) (.block 2 (.loop (.seq (.seq (.reg [.v 45 6,.q 46 (.fa 4 (.t 1)),.l 47 (.ld1 (.t 46)),.q 48 (.lnL (.t 47)),.q 49 (.bin .lss true (.t 45) (.t 48))]) (.cond (.t 49) .skip (.exit 2))) (.seq (.block 3 (.seq (.reg [.q 52 (.fa 4 (.t 1)),.l 53 (.ld1 (.t 52)),.v 54 6,.l 55 (.ia 6 (.t 53) (.t 54)),.q 56 (.fa 1 (.t 55)),.l 57 (.ldn 5 (.t 56)),.a 58 (.cq 66 [(.t 57)]),.v 7 58]) (.seq (.reg [.v 59 7,.v 60 3,.q 61 (.bin .gtr true (.t 59) (.t 60))]) (.cond (.t 61) (.reg [.v 62 7,.v 3 62]) .skip)))) (.reg [.v 50 6,.q 51 (.bin .add true (.t 50) (.i 1)),.v 6 51])))))) (.seq (.reg [.v 63 3,.q 64 (.bin .add true (.t 63) (.i 1)),.v 2 64]) .ret)))
@[go_sem ↓] theorem aIW:aT pcL66_3:=aU _
def MS:PC:=.seq (.reg [.e 1 (.bx 32 (.t 0)),.q 2 (.mv (.i 0))]) (.seq (.seq (.reg [.q 8 (.fa 0 (.t 1)),.l 9 (.ld1 (.t 8)),.q 10 (.bin .neq true (.t 9) (.i 5)),.v 11 10,⟨some 12,(some (11,true)),.q (.fa 0 (.t 1))⟩,⟨some 13,(some (11,true)),.l (.ld1 (.t 12))⟩,⟨some 14,(some (11,true)),.q (.bin .neq true (.t 13) (.i 6))⟩,.a 15 (.pick (.t 11) (.t 14) (.k (.bool false))),.v 16 15,⟨some 17,(some (16,true)),.q (.fa 3 (.t 1))⟩,⟨some 18,(some (16,true)),.l (.ld1 (.t 17))⟩,⟨some 19,(some (16,true)),.q (.lnL (.t 18))⟩,⟨some 20,(some (16,true)),.q (.bin .eql true (.t 19) (.i 0))⟩,.a 21 (.pick (.t 16) (.t 20) (.k (.bool false))),.v 22 21,⟨some 23,(some (22,true)),.q (.fa 4 (.t 1))⟩,⟨some 24,(some (22,true)),.l (.ld1 (.t 23))⟩,⟨some 25,(some (22,true)),.q (.lnL (.t 24))⟩,⟨some 26,(some (22,true)),.q (.bin .eql true (.t 25) (.i 0))⟩,.a 27 (.pick (.t 22) (.t 26) (.k (.bool false)))]) (.cond (.t 27) (.seq (.reg [.q 2 (.mv (.i 0))]) .ret) .skip)) (pcL66_3))
def xP:List RV:=[.mv (.t 2)]
theorem aIT:aN Tryz.prog true ⟨fun r k=>if r=7/\k=5 then .q else if r=13/\k=6 then .q else .own [],fun r=>[3].contains r⟩ Tryz.f66=some (MS,xP):=by kernel_rfl
end Go.Proofs.YtkpohmhenegkiaaGreatDoor
