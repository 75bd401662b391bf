/- Lemmas and walks for the proof. -/
import Derived.Test.YtgogpogophflhaaGreatDoorLd
import Derived.Test.YtgogpogophflhaaGreatDoorProg
import Derived.ChangeStays
import Derived.Deep.Slices
import Derived.JoinedCond
set_option maxRecDepth 100000
set_option maxHeartbeats 8000000
namespace Go.Proofs.YtgogpogophflhaaGreatDoor
open Go.W
def z6:PC:=.seq (.gh (.reg [.v 79 11,.v 80 14,.q 81 (.bin .eql true (.t 79) (.t 80)),.v 82 81,⟨some 83,(some (82,true)),.l (.ldn 3 (.t 10))⟩,⟨some 84,(some (82,true)),.l (.ldn 3 (.t 13))⟩,⟨some 85,(some (82,true)),.cq 13 [(.t 83),(.t 84)]⟩,.a 86 (.pick (.t 82) (.t 85) (.k (.bool false))),.v 87 86,⟨some 88,(some (87,true)),.cq 11 []⟩,.a 89 (.pick (.t 87) (.t 88) (.k (.bool false))),.v 4 89])) .ret
@[go_sem ↓] theorem YD:bY z6:=bZ _
def AQ:PC:=.seq (.gh (.reg [.v 74 8,.a 75 (.cl 12 [(.t 74)] []),.v 73 75,.q 76 (.ex (.t 73) 0),.q 77 (.ex (.t 73) 1),.q 78 (.ex (.t 73) 2),.e 13 (.al (.agg #[(.int .i64 0),(.slice none 0 0),(.slice none 0 0)]) 25),.s (.st 3 (.t 13) (.t 76)),.v 14 77,.v 15 78])) (z6)
@[go_sem ↓] theorem aAM:bY AQ:=bZ _
def BB:PC:=.seq (.gh (.reg [.v 68 0,.a 69 (.cl 12 [(.t 68)] []),.v 67 69,.q 70 (.ex (.t 67) 0),.q 71 (.ex (.t 67) 1),.q 72 (.ex (.t 67) 2),.e 10 (.al (.agg #[(.int .i64 0),(.slice none 0 0),(.slice none 0 0)]) 25),.s (.st 3 (.t 10) (.t 70)),.v 11 71,.v 12 72])) (AQ)
@[go_sem ↓] theorem YO:bY BB:=bZ _
def oY:PC:=.seq (.seq (.gh (.reg [.v 63 8,.q 64 (.lnS (.t 63)),.q 65 (.bin .gtr true (.t 64) (.i 4000))])) (.cond (.t 65) (.seq (.reg [.a 66 (.cq 11 []),.v 4 66]) .ret) .skip)) (BB)
@[go_sem ↓] theorem YK:bY oY:=bZ _
def GA:PC:=.seq (.seq (.gh (.reg [.q 9 (.mv (.i 0))])) (.block 0 (.loop (.seq (.seq (.reg [.v 25 9,.v 26 5,.q 27 (.lnL (.t 26)),.q 28 (.bin .lss true (.t 25) (.t 27)),.v 29 28,⟨some 30,(some (29,true)),.q (.mv (.t 8))⟩,⟨some 31,(some (29,true)),.q (.lnS (.t 30))⟩,⟨some 32,(some (29,true)),.q (.bin .leq true (.t 31) (.i 4000))⟩,.a 33 (.pick (.t 29) (.t 32) (.k (.bool false)))]) (.cond (.t 33) .skip (.exit 0))) (.seq (.block 1 (.seq (.seq (.reg [.v 36 9,.q 37 (.bin .gtr true (.t 36) (.i 0)),.v 38 37,⟨some 39,(some (38,true)),.q (.mv (.t 1))⟩,⟨some 40,(some (38,true)),.q (.lnL (.t 39))⟩,⟨some 41,(some (38,true)),.q (.bin .gtr true (.t 40) (.i 0))⟩,.a 42 (.pick (.t 38) (.t 41) (.k (.bool false)))]) (.cond (.t 42) (.reg [.v 43 8,.v 44 1,.v 45 9,.v 46 1,.q 47 (.lnL (.t 46)),.q 48 (.bin .rem true (.t 45) (.t 47)),.l 49 (.ia 1 (.t 44) (.t 48)),.l 50 (.ld1 (.t 49)),.a 51 (.cq 23 [(.t 50)]),.q 52 (.bin .add true (.t 43) (.t 51)),.v 8 52]) (.reg [.v 53 8,.q 54 (.bin .add true (.t 53) (.k (.string (mk [32])))),.v 8 54]))) (.gh (.reg [.v 55 8,.v 56 5,.v 57 9,.v 58 9,.q 59 (.bin .add true (.t 58) (.i 1)),.q 60 (.sf 4 (.t 56) (some (.t 57)) (some (.t 59))),.a 61 (.cq 24 [(.t 60)]),.q 62 (.bin .add true (.t 55) (.t 61)),.v 8 62])))) (.reg [.v 34 9,.q 35 (.bin .add true (.t 34) (.i 1)),.v 9 35])))))) (oY)
@[go_sem ↓] theorem aB2:bY GA:=bZ _
def FR:PC:=.seq (.gh (.reg [.q 8 (.mv (.k (.string (mk []))))])) (GA)
@[go_sem ↓] theorem aA0:bY FR:=bZ _
def zE:PC:=.seq (.seq (.gh (.reg [.v 22 6,.q 23 (.bin .neq true (.t 22) (.i 0))])) (.cond (.t 23) (.seq (.reg [.a 24 (.cq 11 []),.v 4 24]) .ret) .skip)) (FR)
@[go_sem ↓] theorem aA4:bY zE:=bZ _
def XI:PC:=.seq (.reg [.q 4 (.mv (.k (.bool false)))]) (.seq (.reg [.v 17 0,.a 18 (.cl 22 [(.t 17)] []),.v 16 18,.q 19 (.ex (.t 16) 0),.q 20 (.ex (.t 16) 1),.q 21 (.ex (.t 16) 2),.v 5 19,.v 6 20,.v 7 21]) (zE))
def W8:List RV:=[.mv (.t 4)]
theorem ok8:aV Tryz.prog true ⟨fun r k=>if r=3/\k=0 then .q else if r=9/\k=8 then .q else if r=11/\k=6 then .q else if r=13/\k=0 then .q else if r=16/\k=6 then .q else if r=16/\k=9 then .q else .own [],fun r=>[2,4,5,11,12,14,15,16].contains r⟩ Tryz.f8=some (XI,W8):=by kernel_rfl
def CC:PC:=.seq (.gh (.reg [.q 52 (.fa 2 (.t 1)),.l 53 (.ld1 (.t 52)),.l 54 (.ia 2 (.t 53) (.i 0)),.q 55 (.fa 1 (.t 54)),.l 56 (.ld1 (.t 55)),.l 57 (.ia 7 (.t 56) (.i 0)),.q 58 (.fa 2 (.t 57)),.q 59 (.fa 0 (.t 58)),.l 60 (.ld1 (.t 59)),.q 61 (.bin .eql true (.t 60) (.i 7)),.v 62 61,⟨some 63,(some (62,true)),.l (.ldn 4 (.t 7))⟩,⟨some 64,(some (62,true)),.cq 16 [(.t 63)]⟩,⟨some 65,(some (62,true)),.q (.bin .eql true (.t 64) (.k (.string (mk [108,105,115,116,91,52,93,32,111,102,32,116,101,120,116,91,49,54,93]))))⟩,.a 66 (.pick (.t 62) (.t 65) (.k (.bool false))),.v 67 66,⟨some 68,(some (67,true)),.l (.ldn 3 (.t 1))⟩,⟨some 69,(some (67,true)),.cq 10 [(.t 68)]⟩,⟨some 70,(some (67,true)),.q (.bin .eql true (.t 69) (.k (.string (mk [118,101,114,115,105,111,110,32,50,59,10,101,110,117,109,32,66,32,123,32,99,32,61,32,48,32,125,10,115,116,114,117,99,116,32,65,32,123,10,32,32,49,32,98,58,32,66,59,10,125,10]))))⟩,.a 71 (.pick (.t 67) (.t 70) (.k (.bool false))),.v 0 71])) .ret
@[go_sem ↓] theorem ZI:bY CC:=bZ _
def B4:PC:=.seq (.gh (.reg [.q 49 (.bd [(.int .i64 0),(.int .i64 0),(.string (mk [])),(.slice none 0 0)] [(0,1,(.i 4)),(1,1,(.i 16))]),.e 50 (.bsl 37 4 [(.t 49)]),.q 51 (.bd [(.int .i64 0),(.int .i64 0),(.string (mk [])),(.slice none 0 0)] [(0,1,(.i 5)),(1,1,(.i 4)),(3,1,(.t 50))]),.e 7 (.al (.agg #[(.int .i64 0),(.int .i64 0),(.string (mk [])),(.slice none 0 0)]) 37),.s (.st 4 (.t 7) (.t 51))])) (CC)
@[go_sem ↓] theorem aAS:bY B4:=bZ _
def CF:PC:=.seq (.seq (.gh (.reg [.v 18 2,.q 19 (.bin .neq true (.t 18) (.i 0)),.v 20 19,⟨some 21,(some (20,false)),.q (.mv (.t 5))⟩,⟨some 22,(some (20,false)),.q (.bin .neq true (.t 21) (.i 2))⟩,.a 23 (.pick (.t 20) (.k (.bool true)) (.t 22)),.v 24 23,⟨some 25,(some (24,false)),.q (.mv (.t 6))⟩,⟨some 26,(some (24,false)),.q (.bin .neq true (.t 25) (.i 9))⟩,.a 27 (.pick (.t 24) (.k (.bool true)) (.t 26)),.v 28 27,⟨some 29,(some (28,false)),.q (.fa 2 (.t 1))⟩,⟨some 30,(some (28,false)),.l (.ld1 (.t 29))⟩,⟨some 31,(some (28,false)),.q (.lnL (.t 30))⟩,⟨some 32,(some (28,false)),.q (.bin .neq true (.t 31) (.i 1))⟩,.a 33 (.pick (.t 28) (.k (.bool true)) (.t 32)),.v 34 33,⟨some 35,(some (34,false)),.q (.fa 2 (.t 1))⟩,⟨some 36,(some (34,false)),.l (.ld1 (.t 35))⟩,⟨some 37,(some (34,false)),.l (.ia 2 (.t 36) (.i 0))⟩,⟨some 38,(some (34,false)),.q (.fa 1 (.t 37))⟩,⟨some 39,(some (34,false)),.l (.ld1 (.t 38))⟩,⟨some 40,(some (34,false)),.q (.lnL (.t 39))⟩,⟨some 41,(some (34,false)),.q (.bin .neq true (.t 40) (.i 1))⟩,.a 42 (.pick (.t 34) (.k (.bool true)) (.t 41)),.v 43 42,⟨some 44,(some (43,false)),.q (.fa 1 (.t 1))⟩,⟨some 45,(some (43,false)),.l (.ld1 (.t 44))⟩,⟨some 46,(some (43,false)),.q (.lnL (.t 45))⟩,⟨some 47,(some (43,false)),.q (.bin .neq true (.t 46) (.i 1))⟩,.a 48 (.pick (.t 43) (.k (.bool true)) (.t 47))])) (.cond (.t 48) (.seq (.reg [.q 0 (.mv (.k (.bool false)))]) .ret) .skip)) (B4)
@[go_sem ↓] theorem ZM:bY CF:=bZ _
def z7:PC:=.seq (.gh (.reg [.a 14 (.cl 12 [(.k (.string (mk [118,101,114,115,105,111,110,32,49])))] []),.v 13 14,.q 15 (.ex (.t 13) 0),.q 16 (.ex (.t 13) 1),.q 17 (.ex (.t 13) 2),.e 4 (.al (.agg #[(.int .i64 0),(.slice none 0 0),(.slice none 0 0)]) 25),.s (.st 3 (.t 4) (.t 15)),.v 5 16,.v 6 17])) (CF)
@[go_sem ↓] theorem ZG:bY z7:=bZ _
def SN:PC:=.seq (.reg [.q 0 (.mv (.k (.bool false)))]) (.seq (.reg [.a 9 (.cl 12 [(.k (.string (mk [118,101,114,115,105,111,110,32,50,59,32,115,116,114,117,99,116,32,65,32,123,32,49,32,98,58,32,66,59,32,125,32,101,110,117,109,32,66,32,123,32,99,32,61,32,48,32,125])))] []),.v 8 9,.q 10 (.ex (.t 8) 0),.q 11 (.ex (.t 8) 1),.q 12 (.ex (.t 8) 2),.e 1 (.al (.agg #[(.int .i64 0),(.slice none 0 0),(.slice none 0 0)]) 25),.s (.st 3 (.t 1) (.t 10)),.v 2 11,.v 3 12]) (z7))
def P4:List RV:=[.mv (.t 0)]
theorem Z9:aV Tryz.prog true ⟨fun r k=>if r=6/\k=12 then .q else if r=6/\k=17 then .q else .own [],fun r=>[2,3,5,6].contains r⟩ Tryz.f11=some (SN,P4):=by kernel_rfl
def SS:PC:=.seq (.reg [.q 2 (.mv (.k (.string (mk []))))]) (.seq (.seq (.reg [.v 3 0,.q 4 (.bin .rem true (.t 3) (.k (.int .u8 5)))]) (.block 0 (.seq (.reg [.q 6 (.bin .eql true (.t 4) (.k (.int .u8 0))),.v 5 6]) (.cond (.t 5) (.seq (.reg [.q 2 (.mv (.k (.string (mk [10]))))]) .ret) (.seq (.reg [.q 8 (.bin .eql true (.t 4) (.k (.int .u8 1))),.v 7 8]) (.cond (.t 7) (.seq (.reg [.q 2 (.mv (.k (.string (mk [9]))))]) .ret) (.seq (.reg [.q 10 (.bin .eql true (.t 4) (.k (.int .u8 2))),.v 9 10]) (.cond (.t 9) (.seq (.reg [.q 2 (.mv (.k (.string (mk [32,32]))))]) .ret) (.seq (.reg [.q 12 (.bin .eql true (.t 4) (.k (.int .u8 3))),.v 11 12]) (.cond (.t 11) (.seq (.reg [.q 2 (.mv (.k (.string (mk [35,32,59,32,125,10]))))]) .ret) .skip)))))))))) (.seq (.reg [.q 2 (.mv (.k (.string (mk [32]))))]) .ret))
def ST:List RV:=[.mv (.t 2)]
theorem aAR:aV Tryz.prog true ⟨fun _ _=>.own [],fun _=>false⟩ Tryz.f23=some (SS,ST):=by kernel_rfl
mutual
def XC:Ty->Ty
 | .mk k s n e=>.mk (bif k == 7 then 6 else k) s n (QM e)
def QM:List Ty->List Ty
 | []=>[]
 | u :: r=>XC u :: QM r
end
def l8 (rest:List UInt8):Prop:=∀ c,rest[0]? = some c->bG c=false/\(c == 45)=false
theorem JJ {p:UInt8->Bool} (hp:∀ c,bG c=false->p c=false) {x rest:List UInt8} (hx:∀ c ∈ x,p c=true) (hr:l8 rest):(x ++ rest).takeWhile p=x:=by
 induction x with
 | nil=>
  cases rest with
  | nil=>rfl
  | cons c r=>rw [List.nil_append,List.takeWhile_cons,hp c (hr c rfl).1]; rfl
 | cons c x ih=>rw [List.cons_append,List.takeWhile_cons,if_pos (hx c (by simp)),ih fun d hd=>hx d (by simp [hd])]
theorem CS {p:UInt8->Bool} (hp:∀ c,bG c=false->p c=false) {l x rest:List UInt8} {a:Nat} (h:l.drop a=x ++ rest) (hx:∀ c ∈ x,p c=true) (hr:l8 rest):bP p l a=a + x.length:=by
 rw [bP,h,JJ hp hx hr]
theorem KF (c:UInt8) (h:bG c=false):bC c=false:=by
 have:=b5 (p:=fun c=>bG c || !bC c) (by decide +kernel) c
 rw [h] at this
 simpa using this
theorem AR {l x rest:List UInt8} {a:Nat} (h:l.drop a=x ++ rest) (hr:l8 rest) (hx:bU x=true):dM l a=.ok 1 x 0 (a + x.length)/\∃ c,l[a]? = some c/\(c == 32 || c == 9 || c == 10)=false/\(c == 35)=false:=by
 obtain ⟨c,h0,h1,h2,h3⟩:=(B5 x).1 hx
 have hc:l[a]? = some c:=by
  cases x with
  | nil=>cases h0
  | cons d x=>simp at h0; subst h0; exact p7 h
 have hz:bP bG l a=a + x.length:=CS (fun _ h=>h) h h3 hr
 have hsk:=b5 (p:=fun c=>!(cO c.toNat) || (!(c == 32 || c == 9 || c == 10) && !(c == 35))) (by decide +kernel) c
 simp only [h2,Bool.not_true,Bool.false_or,Bool.and_eq_true,Bool.not_eq_true'] at hsk
 refine ⟨?_,c,hc,hsk⟩
 have hn:(l[a + x.length]? == some 45)=false:=by
  have:=AF h 0
  rw [Nat.add_zero] at this
  rw [this]
  cases hq:rest[0]? with
  | none=>rfl
  | some d=>exact (hr d hq).2
 have h16:decide (16 < a + x.length - a)=false:=by simp; omega
 simp only [dM,hc,h2,aN,gY,hz,h16,hn,aH,BX h]
theorem DJ {l rest:List UInt8} {a:Nat} {n:Int} (h:l.drop a=bX n ++ rest) (hr:l8 rest) (h1:-9223372036854775808<=n) (h2:n<=9223372036854775807) :
 dM l a=.ok 2 [] n (a + (bX n).length)/\∃ c,l[a]? = some c/\(c == 32 || c == 9 || c == 10)=false/\(c == 35)=false:=by
 have hm:n.natAbs < 10 ^ (19 + 1):=by omega
 have hd:=sI 19 n.natAbs hm
 obtain ⟨c0,ds,hds⟩:∃ c ds,digs n.natAbs=c :: ds:=by
  cases hq:digs n.natAbs with
  | nil=>exact absurd hq (xD _)
  | cons c ds=>exact ⟨c,ds,rfl⟩
 have hc0:=jN.1 (hd c0 (by rw [hds]; simp))
 have hlim:∀ neg,neg=decide (n < 0)->valL (cX neg) 0 (digs n.natAbs)=some n.natAbs/\signed neg n.natAbs=n:=fun neg hn=>by
  rw [A7 (by cases neg<;>decide) _ _ (Nat.zero_le _) hd,pD 19 _ hm]
  have:n.natAbs<=cX neg:=by subst hn; unfold cX; cases hh:decide (n < 0)<;>simp at hh ⊢<;>omega
  refine ⟨by simp [this],?_⟩
  subst hn; unfold signed; cases hh:decide (n < 0)<;>simp at hh ⊢<;>omega
 have fin:∀ (f:Nat) (neg:Bool),neg=decide (n < 0)->l.drop f=digs n.natAbs ++ rest->(l[a]? == some 45)=neg->(bif neg then a + 1 else a)=f->iU l a=.ok 2 [] n (f + (digs n.natAbs).length):=fun f neg hn hf hng hff=>by
  have hz:bP bC l f=f + (digs n.natAbs).length:=CS KF hf hd hr
  have hw:nM l (f + (digs n.natAbs).length)=false:=by
   have:=AF hf 0
   rw [Nat.add_zero] at this
   unfold nM
   rw [this]
   cases hq:rest[0]? with
   | none=>rfl
   | some d=>show (bG d && !bC d || d == 45)=false; rw [(hr d hq).1,(hr d hq).2]; rfl
  have hs:((digs n.natAbs == []) || ((digs n.natAbs)[0]? == some 48 && (decide (1 < (digs n.natAbs).length) || neg)))=false:=by
   rcases bQ 0 n.natAbs with h0 | h0
   · have h3:=qC 19 n.natAbs hm h0
     have e1:((digs n.natAbs)[0]? == some 48)=false:=by rw [beq_eq_false_iff_ne]; exact h3
     have e2:(digs n.natAbs == [])=false:=by rw [beq_eq_false_iff_ne]; exact xD _
     rw [e1,e2]; rfl
   · obtain rfl:n=0:=by omega
     subst hn
     rw [show (0:Int).natAbs=0 from rfl,jG (by omega)]; decide
  simp only [iU,hng,hff,hz,BX hf,hs,aH,(hlim neg hn).1,hw,(hlim neg hn).2]
 cases hn:decide (n < 0) with
 | true=>
  have e:bX n=45 :: digs n.natAbs:=by simp only [bX,hn,aN]
  rw [e] at h ⊢
  have hc:=p7 h
  refine ⟨?_,45,hc,by decide,by decide⟩
  have e1:cO ((45:UInt8).toNat:Int)=false:=by decide
  have e2:(bC 45 || (45:UInt8) == 45)=true:=by decide
  simp only [dM,hc,e1,e2,aH,aN]
  rw [fin (a + 1) true hn.symm (EC h) (by rw [hc]; decide) rfl]
  simp; omega
 | false=>
  have e:bX n=digs n.natAbs:=by simp only [bX,hn,aH]
  rw [e] at h ⊢
  have hc:l[a]? = some c0:=by rw [hds] at h; exact p7 h
  have hsk:=b5 (p:=fun c=>!(bC c) || ((!(c == 32 || c == 9 || c == 10) && !(c == 35)) && (!(cO c.toNat) && !(c == 45)))) (by decide +kernel) c0
  have hd0:=hd c0 (by rw [hds]; simp)
  simp only [hd0,Bool.not_true,Bool.false_or,Bool.and_eq_true,Bool.not_eq_true'] at hsk
  obtain ⟨h3,h4,h5⟩:=hsk
  refine ⟨?_,c0,hc,h3⟩
  simp only [dM,hc,h4,hd0,Bool.true_or,aH,aN]
  exact fin a false hn.symm h (by rw [hc]; simpa using h5) rfl
theorem EJ {l rest:List UInt8} {a:Nat} {t:Tx} (hf:TkFit t) (ho:iV t.k t.x t.n=true) (h:l.drop a=f0 t.k t.x t.n ++ rest) (hr:t.k=1\/t.k=2->l8 rest) :
 dM l a=.ok t.k t.x t.n (a + (f0 t.k t.x t.n).length)/\t.k ≠ 0/\∃ c,l[a]? = some c/\(c == 32 || c == 9 || c == 10)=false/\(c == 35)=false:=by
 obtain ⟨k,x,n,b⟩:=t
 have hlo:=hf.lo; have hhi:=hf.hi
 simp only at ho h hlo hhi ⊢
 unfold iV at ho
 cases h1:k == 1 with
 | true=>
  obtain rfl:k=1:=by simpa using h1
  simp only [h1,aN,Bool.and_eq_true,beq_iff_eq] at ho
  obtain ⟨rfl,ho⟩:=ho
  have e:f0 1 x 0=x:=rfl
  rw [e] at h ⊢
  exact ⟨(AR h (hr (.inl rfl)) ho).1,by decide,(AR h (hr (.inl rfl)) ho).2⟩
 | false=>
 cases h2:k == 2 with
 | true=>
  obtain rfl:k=2:=by simpa using h2
  simp only [h1,h2,aN,aH,beq_iff_eq] at ho
  subst ho
  have e:f0 2 [] n=bX n:=rfl
  rw [e] at h ⊢
  exact ⟨(DJ h (hr (.inr rfl)) hlo hhi).1,by decide,(DJ h (hr (.inr rfl)) hlo hhi).2⟩
 | false=>
 cases h3:k == 3 with
 | true=>
  obtain rfl:k=3:=by simpa using h3
  simp only [h1,h2,h3,aN,aH,Bool.and_eq_true,beq_iff_eq,decide_eq_true_eq] at ho
  obtain ⟨rfl,hl,hx⟩:=ho
  have e:f0 3 x 0=lA x:=rfl
  rw [e] at h ⊢
  exact ⟨(xM h hl hx).1,by decide,(xM h hl hx).2⟩
 | false=>
 cases h4:k == 4 with
 | false=>simp only [h1,h2,h3,h4,aH] at ho; cases ho
 | true=>
  obtain rfl:k=4:=by simpa using h4
  simp only [h1,h2,h3,h4,aN,aH,Bool.and_eq_true,beq_iff_eq] at ho
  obtain ⟨rfl,ho⟩:=ho
  have e:f0 4 x 0=x:=rfl
  rw [e] at h ⊢
  match x,ho with
  | [c],ho=>exact ⟨(yJ h ho).1,by decide,(yJ h ho).2⟩
  | [],ho=>cases ho
  | _ :: _ :: _,ho=>cases ho
def LH (g:List UInt8):Prop:=∀ rest,dI false (g ++ rest)=g.length + dI false rest
abbrev EO:Type:=List (List UInt8 × Tx)
def fZ:EO->List UInt8
 | []=>[]
 | (g,t) :: r=>g ++ (pQ t ++ fZ r)
def zL:EO->Prop
 | []=>True
 | (g,t) :: r=>LH g/\TkFit t/\ID t=true/\(t.k=1\/t.k=2->l8 (fZ r))/\zL r
theorem J9 {c:UInt8} {r:List UInt8} (h1:bG c=false) (h2:(c == 45)=false):l8 (c :: r):=fun d hd=>by
 simp at hd; subst hd; exact ⟨h1,h2⟩
abbrev NG:Type:=Int × List UInt8 × Int
def C1 (l:EO):List NG:=l.map fun u=>LK u.2
def C3:PC:=.gh (.ord  [.q (.v 53 8),.q (.v 54 8),.q (.q 55 (.nc (.t 54))),.q (.q 56 (.fa 3 (.t 55))),.q (.q 57 (.fa 1 (.t 56))),.q (.l 58 (.ld1 (.t 57))),.q (.v 59 8),.m (.a 60 (.cl 39 [(.t 59)] [2,1,3,4])),.rc (.v 53 8),.rc (.v 54 8),.rc (.q 55 (.nc (.t 54))),.rc (.q 56 (.fa 3 (.t 55))),.rc (.q 57 (.fa 1 (.t 56))),.rc (.l 58 (.ld1 (.t 57))),.m (.e 61 (.bsl 62 3 [(.t 60)])),.rc (.v 53 8),.rc (.v 54 8),.rc (.q 55 (.nc (.t 54))),.rc (.q 56 (.fa 3 (.t 55))),.rc (.q 57 (.fa 1 (.t 56))),.rc (.l 58 (.ld1 (.t 57))),.m (.e 62 (.ap 62 3 64 (.t 58) (.t 61))),.rc (.v 53 8),.q (.q 63 (.nc (.t 53))),.q (.q 64 (.fa 3 (.t 63))),.q (.q 65 (.fa 1 (.t 64))),.m (.s (.st 1 (.t 65) (.t 62)))])
@[go_sem ↓] theorem WS:bY C3:=bZ _
def BT:PC:=.gh (.ord  [.q (.v 69 8),.q (.v 70 8),.q (.q 71 (.nc (.t 70))),.q (.q 72 (.fa 3 (.t 71))),.q (.q 73 (.fa 2 (.t 72))),.q (.l 74 (.ld1 (.t 73))),.q (.v 75 8),.m (.a 76 (.cl 40 [(.t 75)] [2,1,3,4])),.rc (.v 69 8),.rc (.v 70 8),.rc (.q 71 (.nc (.t 70))),.rc (.q 72 (.fa 3 (.t 71))),.rc (.q 73 (.fa 2 (.t 72))),.rc (.l 74 (.ld1 (.t 73))),.m (.e 77 (.bsl 56 2 [(.t 76)])),.rc (.v 69 8),.rc (.v 70 8),.rc (.q 71 (.nc (.t 70))),.rc (.q 72 (.fa 3 (.t 71))),.rc (.q 73 (.fa 2 (.t 72))),.rc (.l 74 (.ld1 (.t 73))),.m (.e 78 (.ap 56 2 40 (.t 74) (.t 77))),.rc (.v 69 8),.q (.q 79 (.nc (.t 69))),.q (.q 80 (.fa 3 (.t 79))),.q (.q 81 (.fa 2 (.t 80))),.m (.s (.st 1 (.t 81) (.t 78)))])
@[go_sem ↓] theorem WP:bY BT:=bZ _
def BN:PC:=.gh (.reg [.v 48 8,.a 49 (.cl 35 [(.t 48)] [2,1,3,4])])
@[go_sem ↓] theorem UZ:bY BN:=bZ _
def lS:PC:=.seq (.seq (.gh (.reg [.v 93 8,.q 94 (.nc (.t 93)),.q 95 (.fa 3 (.t 94)),.l 96 (.ldn 3 (.t 95)),.a 97 (.cq 31 [(.t 96)]),.v 9 97])) (.seq (.reg [.v 98 9,.q 99 (.bin .neq true (.t 98) (.i 0))]) (.cond (.t 99) (.seq (.reg [.q 100 (.bd [(.int .i64 0),(.slice none 0 0),(.slice none 0 0)] []),.v 101 9,.s (.st 3 (.t 2) (.t 100)),.v 3 101,.q 4 (.mv (.i 0))]) .ret) .skip))) (.seq (.reg [.v 102 8,.q 103 (.nc (.t 102)),.q 104 (.fa 3 (.t 103)),.l 105 (.ldn 3 (.t 104)),.s (.st 3 (.t 2) (.t 105)),.q 3 (.mv (.i 0)),.q 4 (.mv (.i 0))]) .ret)
@[go_sem ↓] theorem VI:bY lS:=bZ _
def AV:PC:=.seq (.seq (.gh (.reg [.v 82 8,.q 83 (.nc (.t 82)),.q 84 (.fa 1 (.t 83)),.l 85 (.ld1 (.t 84))])) (.cond (.t 85) (.seq (.ord  [.q (.q 86 (.bd [(.int .i64 0),(.slice none 0 0),(.slice none 0 0)] [])),.q (.v 87 8),.q (.q 88 (.nc (.t 87))),.q (.q 89 (.fa 2 (.t 88))),.q (.l 90 (.ld1 (.t 89))),.m (.s (.st 3 (.t 2) (.t 86))),.rc (.v 87 8),.rc (.q 88 (.nc (.t 87))),.rc (.q 89 (.fa 2 (.t 88))),.rc (.l 90 (.ld1 (.t 89))),.m (.q 3 (.mv (.i 2))),.rc (.v 87 8),.rc (.q 88 (.nc (.t 87))),.rc (.q 89 (.fa 2 (.t 88))),.rc (.l 90 (.ld1 (.t 89))),.m (.v 4 90)]) .ret) .skip)) (.seq (.reg [.v 91 8,.a 92 (.cl 41 [(.t 91)] [0])]) (lS))
@[go_sem ↓] theorem WL:bY AV:=bZ _
def EW:PC:=.seq (.gh (.reg [.v 35 8,.a 36 (.cl 37 [(.t 35),(.k (.string (mk [59])))] [2,1,3,4])])) (.seq (.block 0 (.loop (.seq (.seq (.reg [.v 37 8,.q 38 (.nc (.t 37)),.q 39 (.fa 1 (.t 38)),.l 40 (.ld1 (.t 39)),.q 41 (.not (.t 40)),.v 42 41,⟨some 43,(some (42,true)),.q (.mv (.t 5))⟩,⟨some 44,(some (42,true)),.cl 38 [(.t 43)] [1]⟩,⟨some 45,(some (42,true)),.q (.fld1 0 (.t 44))⟩,⟨some 46,(some (42,true)),.q (.bin .neq true (.t 45) (.i 0))⟩,.a 47 (.pick (.t 42) (.t 46) (.k (.bool false)))]) (.cond (.t 47) .skip (.exit 0))) (.block 1 (.block 2 (.seq (.reg [.v 51 8,.a 52 (.cl 34 [(.t 51),(.k (.string (mk [101,110,117,109])))] [2,1,3,4]),.v 50 52]) (.cond (.t 50) (C3) (.seq (.reg [.v 67 8,.a 68 (.cl 34 [(.t 67),(.k (.string (mk [115,116,114,117,99,116])))] [2,1,3,4]),.v 66 68]) (.cond (.t 66) (BT) (BN)))))))))) (AV))
@[go_sem ↓] theorem XV:bY EW:=bZ _
def DX:PC:=.seq (.gh (.reg [.v 29 8,.v 30 8,.a 31 (.cl 36 [(.t 30),(.k (.bool false))] [2,1,3,4]),.q 32 (.nc (.t 29)),.q 33 (.fa 3 (.t 32)),.q 34 (.fa 0 (.t 33)),.s (.st 1 (.t 34) (.t 31))])) (EW)
@[go_sem ↓] theorem XM:bY DX:=bZ _
def EU:PC:=.seq (.seq (.gh (.reg [.v 24 8,.a 25 (.cl 34 [(.t 24),(.k (.string (mk [118,101,114,115,105,111,110])))] [2,1,3,4]),.q 26 (.not (.t 25))])) (.cond (.t 26) (.reg [.v 27 8,.a 28 (.cl 35 [(.t 27)] [2,1,3,4])]) .skip)) (DX)
@[go_sem ↓] theorem XB:bY EU:=bZ _
def MS:PC:=.seq (.reg [.e 2 (.al (.agg #[(.int .i64 0),(.slice none 0 0),(.slice none 0 0)]) 25),.q 3 (.mv (.i 0)),.q 4 (.mv (.i 0))]) (.seq (.reg [.v 11 0,.a 12 (.cl 33 [(.t 11)] []),.v 10 12,.q 13 (.ex (.t 10) 0),.q 14 (.ex (.t 10) 1),.q 15 (.ex (.t 10) 2),.v 5 13,.v 6 14,.v 7 15]) (.seq (.seq (.reg [.v 16 6,.q 17 (.bin .neq true (.t 16) (.i 0))]) (.cond (.t 17) (.seq (.reg [.q 18 (.bd [(.int .i64 0),(.slice none 0 0),(.slice none 0 0)] []),.v 19 6,.v 20 7,.s (.st 3 (.t 2) (.t 18)),.v 3 19,.v 4 20]) .ret) .skip)) (.seq (.reg [.v 21 5,.q 22 (.bd [(.pointer none),(.bool false),(.int .i64 0),(.int .i64 0),(.slice none 0 0),(.slice none 0 0)] [(0,1,(.t 21))]),.e 23 (.bx 70 (.t 22)),.v 8 23]) (EU))))
def jW:List RV:=[.ld (.ldn 3 (.t 2)),.mv (.t 3),.mv (.t 4)]
theorem U0:aV Tryz.prog true ⟨fun r k=>if r=5/\k=1 then .own [2,1,3,4] else if r=6/\k=1 then .own [2,1,3,4] else if r=7/\k=2 then .own [2,1,3,4] else if r=8/\k=1 then .own [2,1,3,4] else if r=9/\k=7 then .own [1] else if r=11/\k=1 then .own [2,1,3,4] else if r=12/\k=7 then .own [2,1,3,4] else if r=13/\k=1 then .own [2,1,3,4] else if r=14/\k=7 then .own [2,1,3,4] else if r=10/\k=1 then .own [2,1,3,4] else if r=17/\k=1 then .own [0] else if r=18/\k=4 then .q else .own [],fun r=>[5,7,8,15,18,10,12,14].contains r⟩ Tryz.f12=some (MS,jW):=by kernel_rfl
def pN:PC:=.gh (.ord  [.q (.v 53 8),.q (.v 54 8),.q (.q 55 (.nc (.t 54))),.q (.q 56 (.fa 3 (.t 55))),.q (.q 57 (.fa 1 (.t 56))),.q (.l 58 (.ld1 (.t 57))),.q (.v 59 8),.m (.a 60 (.cl 39 [(.t 59)] [2,1,3,4])),.rc (.v 53 8),.rc (.v 54 8),.rc (.q 55 (.nc (.t 54))),.rc (.q 56 (.fa 3 (.t 55))),.rc (.q 57 (.fa 1 (.t 56))),.rc (.l 58 (.ld1 (.t 57))),.m (.e 61 (.bsl 62 3 [(.t 60)])),.rc (.v 53 8),.rc (.v 54 8),.rc (.q 55 (.nc (.t 54))),.rc (.q 56 (.fa 3 (.t 55))),.rc (.q 57 (.fa 1 (.t 56))),.rc (.l 58 (.ld1 (.t 57))),.m (.e 62 (.ap 62 3 64 (.t 58) (.t 61))),.rc (.v 53 8),.q (.q 63 (.nc (.t 53))),.q (.q 64 (.fa 3 (.t 63))),.q (.q 65 (.fa 1 (.t 64))),.m (.s (.st 1 (.t 65) (.t 62)))])
@[go_sem ↓] theorem US:bY pN:=bZ _
def pK:PC:=.gh (.ord  [.q (.v 69 8),.q (.v 70 8),.q (.q 71 (.nc (.t 70))),.q (.q 72 (.fa 3 (.t 71))),.q (.q 73 (.fa 2 (.t 72))),.q (.l 74 (.ld1 (.t 73))),.q (.v 75 8),.m (.a 76 (.cl 40 [(.t 75)] [2,1,3,4])),.rc (.v 69 8),.rc (.v 70 8),.rc (.q 71 (.nc (.t 70))),.rc (.q 72 (.fa 3 (.t 71))),.rc (.q 73 (.fa 2 (.t 72))),.rc (.l 74 (.ld1 (.t 73))),.m (.e 77 (.bsl 56 2 [(.t 76)])),.rc (.v 69 8),.rc (.v 70 8),.rc (.q 71 (.nc (.t 70))),.rc (.q 72 (.fa 3 (.t 71))),.rc (.q 73 (.fa 2 (.t 72))),.rc (.l 74 (.ld1 (.t 73))),.m (.e 78 (.ap 56 2 40 (.t 74) (.t 77))),.rc (.v 69 8),.q (.q 79 (.nc (.t 69))),.q (.q 80 (.fa 3 (.t 79))),.q (.q 81 (.fa 2 (.t 80))),.m (.s (.st 1 (.t 81) (.t 78)))])
@[go_sem ↓] theorem UO:bY pK:=bZ _
def qD:PC:=.gh (.reg [.v 48 8,.a 49 (.cl 35 [(.t 48)] [2,1,3,4])])
@[go_sem ↓] theorem UQ:bY qD:=bZ _
def pcG12m_15:PC:=.seq (.seq (.gh (.reg [.v 82 8,.q 83 (.nc (.t 82)),.q 84 (.fa 1 (.t 83)),.l 85 (.ld1 (.t 84))])) (.cond (.t 85) (.seq (.ord  [.q (.q 86 (.bd [(.int .i64 0),(.slice none 0 0),(.slice none 0 0)] [])),.q (.v 87 8),.q (.q 88 (.nc (.t 87))),.q (.q 89 (.fa 2 (.t 88))),.q (.l 90 (.ld1 (.t 89))),.m (.s (.st 3 (.t 2) (.t 86))),.rc (.v 87 8),.rc (.q 88 (.nc (.t 87))),.rc (.q 89 (.fa 2 (.t 88))),.rc (.l 90 (.ld1 (.t 89))),.m (.q 3 (.mv (.i 2))),.rc (.v 87 8),.rc (.q 88 (.nc (.t 87))),.rc (.q 89 (.fa 2 (.t 88))),.rc (.l 90 (.ld1 (.t 89))),.m (.v 4 90)]) .ret) .skip)) .skip
@[go_sem ↓] theorem UP:bY pcG12m_15:=bZ _
def sP:PC:=.seq (.gh (.reg [.v 35 8,.a 36 (.cl 37 [(.t 35),(.k (.string (mk [59])))] [2,1,3,4])])) (.seq (.block 0 (.loop (.seq (.seq (.reg [.v 37 8,.q 38 (.nc (.t 37)),.q 39 (.fa 1 (.t 38)),.l 40 (.ld1 (.t 39)),.q 41 (.not (.t 40)),.v 42 41,⟨some 43,(some (42,true)),.q (.mv (.t 5))⟩,⟨some 44,(some (42,true)),.cl 38 [(.t 43)] [1]⟩,⟨some 45,(some (42,true)),.q (.fld1 0 (.t 44))⟩,⟨some 46,(some (42,true)),.q (.bin .neq true (.t 45) (.i 0))⟩,.a 47 (.pick (.t 42) (.t 46) (.k (.bool false)))]) (.cond (.t 47) .skip (.exit 0))) (.block 1 (.block 2 (.seq (.reg [.v 51 8,.a 52 (.cl 34 [(.t 51),(.k (.string (mk [101,110,117,109])))] [2,1,3,4]),.v 50 52]) (.cond (.t 50) (pN) (.seq (.reg [.v 67 8,.a 68 (.cl 34 [(.t 67),(.k (.string (mk [115,116,114,117,99,116])))] [2,1,3,4]),.v 66 68]) (.cond (.t 66) (pK) (qD)))))))))) (pcG12m_15))
@[go_sem ↓] theorem WD:bY sP:=bZ _
def pcG12m_7:PC:=.seq (.gh (.reg [.v 29 8,.v 30 8,.a 31 (.cl 36 [(.t 30),(.k (.bool false))] [2,1,3,4]),.q 32 (.nc (.t 29)),.q 33 (.fa 3 (.t 32)),.q 34 (.fa 0 (.t 33)),.s (.st 1 (.t 34) (.t 31))])) (sP)
@[go_sem ↓] theorem WY:bY pcG12m_7:=bZ _
def sQ:PC:=.seq (.seq (.gh (.reg [.v 24 8,.a 25 (.cl 34 [(.t 24),(.k (.string (mk [118,101,114,115,105,111,110])))] [2,1,3,4]),.q 26 (.not (.t 25))])) (.cond (.t 26) (.reg [.v 27 8,.a 28 (.cl 35 [(.t 27)] [2,1,3,4])]) .skip)) (pcG12m_7)
@[go_sem ↓] theorem VK:bY sQ:=bZ _
def uF:PC:=.seq (.reg [.e 2 (.al (.agg #[(.int .i64 0),(.slice none 0 0),(.slice none 0 0)]) 25),.q 3 (.mv (.i 0)),.q 4 (.mv (.i 0))]) (.seq (.reg [.v 11 0,.a 12 (.cl 33 [(.t 11)] []),.v 10 12,.q 13 (.ex (.t 10) 0),.q 14 (.ex (.t 10) 1),.q 15 (.ex (.t 10) 2),.v 5 13,.v 6 14,.v 7 15]) (.seq (.seq (.reg [.v 16 6,.q 17 (.bin .neq true (.t 16) (.i 0))]) (.cond (.t 17) (.seq (.reg [.q 18 (.bd [(.int .i64 0),(.slice none 0 0),(.slice none 0 0)] []),.v 19 6,.v 20 7,.s (.st 3 (.t 2) (.t 18)),.v 3 19,.v 4 20]) .ret) .skip)) (.seq (.reg [.v 21 5,.q 22 (.bd [(.pointer none),(.bool false),(.int .i64 0),(.int .i64 0),(.slice none 0 0),(.slice none 0 0)] [(0,1,(.t 21))]),.e 23 (.bx 70 (.t 22)),.v 8 23]) (sQ))))
theorem QU:qU 9 MS=some (uF,lS):=by kernel_rfl
attribute [-go_sem] eC fV dX iC eK iN
def GM:List UInt8:=[118,101,114,115,105,111,110]
def fQ:List UInt8:=[101,110,117,109]
def iB:List UInt8:=[115,116,114,117,99,116]
def mF (w:List UInt8) (ts:List Tk) (z:Fs):Fs:=bif aP 1 w ts z then ⟨false,z.off,dE ts z.n⟩ else dF ts z
theorem PJ {w:List UInt8} {ts:List Tk} {z:Fs} (h:z.n < ts.length):z.n<=(mF w ts z).n/\(mF w ts z).n < ts.length:=by
 unfold mF
 cases aP 1 w ts z
 · rw [aH,iH]; exact ⟨Nat.le_refl _,h⟩
 · exact lV h
def jB (ts:List Tk):Nat->List En->List St->Fs->(List En × List St) × Fs
 | 0,a,b,z=>((a,b),z)
 | f + 1,a,b,z=>bif z.bad || (aU ts z.n).k == 0 then ((a,b),z) else
  bif aP 1 fQ ts z then jB ts f (a ++ [(fB ts (bB 1 fQ ts z)).1]) b (fB ts (bB 1 fQ ts z)).2
  else bif aP 1 iB ts z then jB ts f a (b ++ [(fU ts (bB 1 iB ts z)).1]) (fU ts (bB 1 iB ts z)).2
  else ((a,b),dF ts z)
theorem lY (ts:List Tk) (f:Nat) (a:List En) (b:List St) (z:Fs):jB ts (f + 1) a b z=bif z.bad || (aU ts z.n).k == 0 then ((a,b),z) else
 bif aP 1 fQ ts z then jB ts f (a ++ [(fB ts (bB 1 fQ ts z)).1]) b (fB ts (bB 1 fQ ts z)).2
 else bif aP 1 iB ts z then jB ts f a (b ++ [(fU ts (bB 1 iB ts z)).1]) (fU ts (bB 1 iB ts z)).2
 else ((a,b),dF ts z):=rfl
def vD (ts:List Tk):Fs:=mF GM ts ⟨false,0,0⟩
def MT (ts:List Tk):Int:=gL false ts (vD ts)
def FZ (ts:List Tk):Fs:=bK [59] ts (gK false ts (vD ts))
def kG (ts:List Tk):(List En × List St) × Fs:=jB ts (ts.length + 1) [] [] (FZ ts)
def oQ (ts:List Tk):Sc:=⟨MT ts,(kG ts).1.1,(kG ts).1.2.map (mP ((kG ts).1.1.map En.nm))⟩
def sc0:Sc:=⟨0,[],[]⟩
def kD (x:List UInt8):Sc × Int × Int:=
 bif (aL x).err != 0 then (sc0,(aL x).err,(aL x).off) else
 bif (kG (aL x).toks).2.bad then (sc0,2,(kG (aL x).toks).2.off) else
 bif dJ (oQ (aL x).toks) != 0 then (sc0,dJ (oQ (aL x).toks),0) else (oQ (aL x).toks,0,0)
theorem zW {ts:List Tk} (h:Tks ts):∀ (f:Nat) (a:List En) (b:List St) (z:Fs),z.n < ts.length->(∀ x ∈ a,EnP x)->(∀ x ∈ b,StP x)->
 ((∀ x ∈ (jB ts f a b z).1.1,EnP x)/\∀ x ∈ (jB ts f a b z).1.2,StP x)/\(jB ts f a b z).1.1.length<=a.length + f/\(jB ts f a b z).1.2.length<=b.length + f
 | 0,a,b,z,_,ha,hb=>⟨⟨ha,hb⟩,Nat.le_refl _,Nat.le_refl _⟩
 | f + 1,a,b,z,hn,ha,hb=>by
  rw [lY]
  cases z.bad || (aU ts z.n).k == 0
  · cases aP 1 fQ ts z
    · cases aP 1 iB ts z
      · refine ⟨⟨ha,hb⟩,?_,?_⟩<;>(simp only [aH]; omega)
      · have h1:=eD (k:=1) (w:=iB) hn
        have ih:=zW h f a (b ++ [(fU ts (bB 1 iB ts z)).1]) _ (MO h1.2).2 ha fun x hx=>by
         rcases List.mem_append.1 hx with hx | hx
         · exact hb x hx
         · rw [List.mem_singleton.1 hx]; exact WM h h1.2
        rw [aH,aH,aN]
        refine ⟨ih.1,?_,?_⟩
        · have:=ih.2.1; omega
        · have:=ih.2.2; rw [List.length_append,List.length_singleton] at this; omega
    · have h1:=eD (k:=1) (w:=fQ) hn
      have ih:=zW h f (a ++ [(fB ts (bB 1 fQ ts z)).1]) b _ (NE h1.2).2 (fun x hx=>by
       rcases List.mem_append.1 hx with hx | hx
       · exact ha x hx
       · rw [List.mem_singleton.1 hx]; exact WO h h1.2) hb
      rw [aH,aN]
      refine ⟨ih.1,?_,?_⟩
      · have:=ih.2.1; rw [List.length_append,List.length_singleton] at this; omega
      · have:=ih.2.2; omega
  · refine ⟨⟨ha,hb⟩,?_,?_⟩<;>(simp only [aN]; omega)
theorem FW {ts:List Tk} (h:Tks ts):(vD ts).n < ts.length:=(PJ (z:=⟨false,0,0⟩) h.e.pos).2
theorem W1 {ts:List Tk} (h:Tks ts):(FZ ts).n < ts.length:=(cA (kO (FW h)).2).2
theorem WN {ts:List Tk} (h:Tks ts):ScP (oQ ts):=by
 have h1:=zW h (ts.length + 1) [] [] (FZ ts) (W1 h) (fun x hx=>by cases hx) fun x hx=>by cases hx
 have h2:=h.e.le
 have h3:=h1.2
 simp only [List.length_nil] at h3
 refine ⟨p5 h (FW h),by unfold oQ kG; simp only; omega,?_,h1.1.1,fun t ht=>?_⟩
 · unfold oQ kG; simp only [List.length_map]; omega
 · obtain ⟨s,hs,rfl⟩:=List.mem_map.1 ht
   exact (h1.1.2 s hs).rs _
def kN:W.Spec:=fun av H K=>∃ x,av=[tS x]/\H=[]/\K (.tu [.gs (aM (kD (bl x)).1),iA .i64 (kD (bl x)).2.1,iA .i64 (kD (bl x)).2.2]) []
noncomputable def iD:cF:=[(33,.s iN),(34,.s qL),(35,.s nH),(36,.s lK),(37,.s kX),(38,.s (eC 123)),(39,.s FB),(40,.s F8),(31,.f ckFn)]
theorem FP:eQ Tryz.prog iD:=aA YW (aA CT (aA m7 (aA u7 (aA tL (aA oG (aA TD (aA JM (aK HX (aB _)))))))))
theorem N7:sp iD 33=iN:=rfl
theorem NQ:sp iD 34=qL:=rfl
theorem O3:sp iD 35=nH:=rfl
theorem OZ:sp iD 36=lK:=rfl
theorem OM:sp iD 37=kX:=rfl
theorem PA:sp iD 38=eC 123:=rfl
theorem O9:sp iD 39=FB:=rfl
theorem PQ:sp iD 40=F8:=rfl
theorem NX:iW iD 31=some ckFn:=rfl
theorem TO {x:ByteArray} {K:S->Hp->Prop} (h:(aL (bl x)).err=0) (hK:K (.tu [.c1 (.pt 0 0),iA .i64 0,iA .i64 0]) [d9 123 (aL (bl x)).toks 0]):iN [tS x] [] K:=⟨fun _=>hK,fun h'=>absurd h h'⟩
theorem O1 {x:ByteArray} {K:S->Hp->Prop} (h:(aL (bl x)).err ≠ 0) (hK:K (.tu [.c1 (.vl (.pointer none)),iA .i64 (aL (bl x)).err,iA .i64 (aL (bl x)).off]) []):iN [tS x] [] K:=⟨fun h'=>absurd h' h,fun _=>hK⟩
abbrev zSc:B:=.cells [.vl (.int .i64 0),.vl (.slice none 0 0),.vl (.slice none 0 0)] 25
abbrev CB (b1:B) (ver:Int) (z:Fs) (es:List En) (ss:List St):Hp:=[zSc,b1,.cells (W9 ver z.bad z.off es.length ss.length) 70,.row (es.map aQ) 62 3,.row (ss.map aO) 56 2]
abbrev FY:Fr:=cZ [(2,.va (.c1 (.pt 0 0))),(8,.va (.c1 (.pt 2 0)))]
def qA (K:S->Hp->Prop) (fr:Fr) (H:Hp):Prop:=∃ b1 ver z es ss,fr 2=.va (.c1 (.pt 0 0))/\fr 8=.va (.c1 (.pt 2 0))/\H=CB b1 ver z es ss/\(es.length<=1000000/\ss.length<=1000000/\∀ s ∈ ss,s.fs.length<=1000000/\∀ f ∈ s.fs,∃ d t0,yS d t0 f.ty)/\
 vc iD 0 lS FY (CB .dead ver z es (ss.map (mP (es.map En.nm)))) (eV 0 jW K)
theorem wK:j4 Tryz.prog 41=true:=by kernel_rfl
theorem OU (hs:∀ av K,kN av [] K->vc iD 0 uF (rJ av) [] (pP (qA K) (eV 0 jW K))):Meets Tryz.prog 12 kN:=by
 have hb:Tryz.f12.body=some _:=rfl
 refine IN (n:=9) Tryz.func12 hb U0 rfl QU FP (fun av H K h=>?_) (fun av H K h=>?_) (Mid:=qA) hs ?_
 · obtain ⟨x,rfl,_⟩:=h
   rw [Tryz.ntmps12]
   show 1<=_
   decide
 · obtain ⟨x,rfl,rfl,_⟩:=h
   exact ⟨rfl,fun y hy=>⟨_,List.mem_singleton.1 hy⟩⟩
 intro K w0 ro0 fr E ro a w h0 hM hf hR hG Q hQ
 obtain ⟨b1,ver,z,es,ss,h2,h8,hH,⟨l1,l2,l3⟩,hv⟩:=hM
 match E,hH with
 | [(g0,k0),(g1,k1),(g2,k2),(g3,k3),(g4,k4)],hH=>
 simp only [hp,List.map_cons,List.map_nil,List.cons.injEq,and_true] at hH
 obtain ⟨rfl,rfl,rfl,rfl,rfl⟩:=hH
 have hRs:=VP hR h0 fun s hs f hf=>(l3 s hs).2 f hf
 obtain ⟨bp,hbp,c3,c4,c5⟩:=KC hR
 have s8:=hf.slot 8
 rw [h8] at s8
 obtain ⟨gg,bb,e1,e2,e3,e4⟩:=s8
 obtain rfl:g2=gg:=aZ e1
 rw [hbp] at e3
 obtain rfl:=aZ e3
 refine OH (v:=.pointer (some ⟨bp,0,none⟩)) rfl rfl rfl rfl rfl e4 (by rw [hf.size,Tryz.ntmps12]; decide) wK
  (BG w bp ver g3.ob g4.ob g3.cap g4.cap es ss (es.map En.nm) ro hRs l1 l2 (fun s hs=>(l3 s hs).1) c3 c4 c5) ?_
 rintro e w' ⟨rfl,L,hL,hC,hD⟩
 refine ⟨_,rfl,?_⟩
 have hT:=YU hR h0 rfl hL hC hD
 refine hQ FY _ (l9 L ro) _ w' ?hv ⟨by simp only [Act.put]; simpa using hf.size,fun i=>?_,hf.defers⟩ hT
 case hv=>exact hv
 have s2:=hf.slot 2
 rw [h2] at s2
 unfold FY
 by_cases i2:i=2
 · subst i2
   rw [show cZ [(2,S.va (.c1 (.pt 0 0))),(8,.va (.c1 (.pt 2 0)))] 2=.va (.c1 (.pt 0 0)) from rfl]
   simp only [Act.put]
   rw [Array.getD_eq_getD_getElem?,Array.getElem?_setIfInBounds_ne (by decide),Array.getElem?_setIfInBounds_ne (by decide),<-Array.getD_eq_getD_getElem?]
   exact s2
 · by_cases i8:i=8
   · subst i8
     rw [show cZ [(2,S.va (.c1 (.pt 0 0))),(8,.va (.c1 (.pt 2 0)))] 8=.va (.c1 (.pt 2 0)) from rfl]
     simp only [Act.put]
     rw [Array.getD_eq_getD_getElem?,Array.getElem?_setIfInBounds_ne (by decide),Array.getElem?_setIfInBounds_ne (by decide),<-Array.getD_eq_getD_getElem?]
     have s8:=hf.slot 8
     rw [h8] at s8
     exact s8
   · have:cZ [(2,S.va (.c1 (.pt 0 0))),(8,.va (.c1 (.pt 2 0)))] i=.un:=by
      simp [cZ,put,i2,i8]
     rw [this]; trivial
end Go.Proofs.YtgogpogophflhaaGreatDoor
namespace Go.Proofs.YtgogpogophflhaaGreatDoor
open Go.W
attribute [-go_sem] eC fV dX iC eK iN
attribute [local go_sem] N7 NQ O3 OZ OM PA O9 PQ NX
@[local go_sem] theorem aCO (Mid:Fr->Hp->Prop) (K:Ex->Fr->Hp->Prop) (fr:Fr) (H:Hp):pP Mid K .r fr H=K .r fr H:=rfl
@[local go_sem] theorem aD9 (Mid:Fr->Hp->Prop) (K:Ex->Fr->Hp->Prop) (fr:Fr) (H:Hp):pP Mid K .n fr H=Mid fr H:=rfl
theorem E4 {ts:List Tk}:∀ (f:Nat) (a:List En) (b:List St) (z:Fs),z.bad=true->jB ts f a b z=((a,b),z)
 | 0,_,_,_,_=>rfl
 | f + 1,a,b,z,h=>by rw [lY,h,Bool.true_or,aN]
abbrev pM (ver:Int) (es:List En) (ss:List St) (ts:List Tk) (z:Fs):Hp:=[.cells [.pt 1 0,.vl (.bool z.bad),.vl (.int .i64 z.off),.vl (.int .i64 ver),.sl 2 es.length,.sl 3 ss.length] 70,d9 123 ts z.n,.row (es.map aQ) 62 3,.row (ss.map aO) 56 2]
theorem AI {s:W.Spec} {ver:Int} {es:List En} {ss:List St} {ts:List Tk} {z:Fs} {av:List S} {K:S->Hp->Prop} (h:s av (pH ⟨ver,es.map aQ,ss.map aO⟩ ts z) K):s av (pM ver es ss ts z) K:=by
 have e:pH ⟨ver,es.map aQ,ss.map aO⟩ ts z=pM ver es ss ts z:=by simp [pH,pM]
 rw [<-e]; exact h
theorem N6:∀ av K,kN av [] K->vc iD 0 uF (rJ av) [] (pP (qA K) (eV 0 jW K)):=by
 rintro av K ⟨x,rfl,-,hK⟩
 unfold kD at hK
 simp (maxSteps:=9^6) -dsimp only [go_sem,uF,jW]
 by_cases hx:(aL (bl x)).err=0
 case neg=>
  refine O1 hx ?_
  have hx':((aL (bl x)).err != 0)=true:=bne_iff_ne.2 hx
  rw [hx',aN] at hK
  simp (maxSteps:=9^6) -dsimp only [go_sem,hx']
  refine .sel [] (by simp) (by simp [dO]) rfl (.done ?_)
  simp (maxSteps:=9^6) -dsimp only [go_sem,dO]
  exact hK
 case pos=>
  refine TO hx ?_
  have hx':((aL (bl x)).err != 0)=false:=by rw [hx]; rfl
  rw [hx',aH] at hK
  have ht:=uU hx
  generalize (aL (bl x)).toks=ts at *
  simp (maxSteps:=9^6) -dsimp only [go_sem]
  refine ⟨fun h=>(by cases h),fun _=>aW rfl ?_⟩
  refine .nilc 2 4 62 3 _ _ rfl rfl ?_
  refine .nilc 2 5 56 2 _ _ rfl rfl (.done ?_)
  simp (maxSteps:=9^6) -dsimp only [go_sem,sQ]
  have t7:vc iD 0 pcG12m_7.ungh (cZ [(2,.va (.c1 (.pt 0 0))),(5,.va (.c1 (.pt 1 0))),(8,.va (.c1 (.pt 2 0)))]) (CB (d9 123 ts (vD ts).n) 0 (vD ts) [] []) (pP (qA K) (eV 0 jW K)):=by
   have hn1:=FW ht
   have hle:=ht.e.le
   unfold oQ kG FZ MT at hK
   generalize vD ts=z1 at *
   simp (maxSteps:=9^6) -dsimp only [go_sem,pcG12m_7,jW]
   refine rH (o:=⟨0,[],[]⟩) (z:=z1) ht hn1 ?_
   simp (maxSteps:=9^6) -dsimp only [go_sem]
   have hn2:=(kO (c:=false) hn1).2
   have hvi:=p5 (c:=false) ht hn1
   generalize gL false ts z1=ver at *
   generalize gK false ts z1=z2 at *
   refine aW rfl (.done ?_)
   simp (maxSteps:=9^6) -dsimp only [go_sem,sP]
   refine fK (o:=⟨ver,[],[]⟩) (z:=z2) ht hn2 ?_
   rw [show bl (mk [59])=[59] from rfl]
   have hn3:=(cA (w:=[59]) hn2).2
   generalize bK [59] ts z2=z3 at *
   simp (maxSteps:=9^6) -dsimp only [go_sem]
   refine cI (α:=Nat × List En × List St × Fs) (fun x=>[(2,.va (.c1 (.pt 0 0))),(5,.va (.c1 (.pt 1 0))),(8,.va (.c1 (.pt 2 0)))])
    (fun x=>CB (d9 123 ts x.2.2.2.n) ver x.2.2.2 x.2.1 x.2.2.1)
    (fun x=>x.2.2.2.n < ts.length/\x.2.1.length + x.1<=ts.length + 1/\x.2.2.1.length + x.1<=ts.length + 1/\(x.2.2.2.bad=true\/ts.length < x.2.2.2.n + x.1)/\jB ts x.1 x.2.1 x.2.2.1 x.2.2.2=jB ts (ts.length + 1) [] [] z3)
    (fun x=>x.1) (gZ (ts.length + 1,[],[],z3) 5 ⟨hn3,by simp,by simp,Or.inr (by simp only; omega),rfl⟩ ?_ ?_) ?_
   · simp -dsimp only [go_sem]<;>simp
   · simp -dsimp only [go_sem]<;>simp
   rintro ⟨f,es,ss,z⟩ ⟨h1,h2,h2',h3,h4⟩
   simp only at h1 h2 h2' h3 h4
   have fin:∀ z',jB ts (ts.length + 1) [] [] z3=((es,ss),z')->vc iD 0 pcG12m_15.ungh (cZ [(2,.va (.c1 (.pt 0 0))),(8,.va (.c1 (.pt 2 0)))]) (CB (d9 123 ts z'.n) ver z' es ss) (pP (qA K) (eV 0 jW K)):=fun z' e=>by
    have hP:=zW ht (ts.length + 1) [] [] z3 hn3 (fun x hx=>by cases hx) fun x hx=>by cases hx
    rw [e] at hK hP
    obtain ⟨⟨p1,p2⟩,p3,p4⟩:=hP
    simp only [List.length_nil,Nat.zero_add] at p1 p2 p3 p4 hK
    simp (maxSteps:=9^6) -dsimp only [go_sem,pcG12m_15,jW]
    refine ⟨fun hb=>?_,fun hb=>?_⟩
    · rw [hb,aN] at hK
      refine .sel [] (by simp) (by simp [dO]) rfl (.done ?_)
      simp (maxSteps:=9^6) -dsimp only [go_sem,dO]
      exact hK
    rw [hb,aH] at hK
    refine ⟨_,ver,z',es,ss,rfl,rfl,rfl,⟨by omega,by omega,fun s hs=>⟨by have:=(p2 s hs).l; omega,fun f hf=>((p2 s hs).f f hf).t.wrp⟩⟩,?_⟩
    have hP:ScP ⟨ver,es,ss.map (mP (es.map En.nm))⟩:=⟨hvi,by simp only; omega,by simp only [List.length_map]; omega,p1,fun t ht=>by
     obtain ⟨s,hs,rfl⟩:=List.mem_map.1 ht
     exact (p2 s hs).rs _⟩
    generalize ss.map (mP (es.map En.nm))=rr at *
    refine aW rfl (.pub 3 _ _ _ rfl (.pub 4 _ _ _ rfl (.done ?_)))
    simp (maxSteps:=9^6) -dsimp only [go_sem,lS,jW,dO]
    refine ⟨⟨_,rfl,hP.fit⟩,?_⟩
    rw [show C.sc [C.vl (Value.int IntKind.i64 ver),C.fz (List.map aQ es),C.fz (List.map aO rr)]=⟨ver,es,rr⟩ from m9 ⟨ver,es,rr⟩]
    refine ⟨fun hc=>?_,fun hc=>?_⟩
    · rw [hc,aN] at hK
      refine .sel [] (by simp) (by simp [dO]) rfl (.done ?_)
      simp (maxSteps:=9^6) -dsimp only [go_sem,dO]
      exact hK
    · rw [hc,aH] at hK
      refine .sel [] (by simp) (by simp [dO]) rfl (.done ?_)
      simp (maxSteps:=9^6) -dsimp only [go_sem,dO]
      exact hK
   obtain ⟨bb,oo,n⟩:=z
   cases bb with
   | true=>
    rw [E4 _ _ _ _ rfl] at h4
    simp (maxSteps:=9^6) -dsimp only [go_sem]
    refine cJ 5 (fin _ h4.symm) ?_ ?_
    · simp -dsimp only [go_sem]<;>simp
    · simp -dsimp only [go_sem]<;>simp
   | false=>
   have h3:ts.length < n + f:=by
    rcases h3 with h3 | h3
    · cases h3
    · exact h3
   simp only at h1
   obtain ⟨f,rfl⟩:∃ g,f=g + 1:=⟨f - 1,by omega⟩
   rw [lY,Bool.false_or] at h4
   simp (maxSteps:=9^6) -dsimp only [go_sem]
   refine k9 ht.e h1 ?_
   simp only at h4
   cases hk:(aU ts n).k == 0 with
   | true=>
    rw [hk,aN] at h4
    have hk':((aU ts n).k != 0)=false:=by rw [bne,hk]; rfl
    simp (maxSteps:=9^6) -dsimp only [go_sem,gV,hk']
    refine cJ 5 (fin _ h4.symm) ?_ ?_
    · simp -dsimp only [go_sem]<;>simp
    · simp -dsimp only [go_sem]<;>simp
   | false=>
   rw [hk,aH] at h4
   have hk':((aU ts n).k != 0)=true:=by rw [bne,hk]; rfl
   clear fin
   simp (maxSteps:=9^6) -dsimp only [go_sem,gV,hk']
   refine AI (z:=⟨false,oo,n⟩) (fT ht h1 ?_)
   rw [show bl (mk [101,110,117,109])=fQ from rfl]
   cases he:aP 1 fQ ts ⟨false,oo,n⟩ with
   | true=>
    rw [he,aN] at h4
    obtain ⟨q1,q2,q3⟩:=qW (by decide) ht.e h1 he
    have e1:bB 1 fQ ts ⟨false,oo,n⟩=⟨false,oo,n + 1⟩:=by unfold bB; rw [he,q1]; rfl
    rw [e1] at h4 ⊢
    simp (maxSteps:=9^6) -dsimp only [go_sem]
    refine aW rfl (.done ?_)
    simp (maxSteps:=9^6) -dsimp only [go_sem,pN]
    refine AI (z:=⟨false,oo,n + 1⟩) (RQ ht q2 ?_)
    have g1:=NE (z:=⟨false,oo,n + 1⟩) q2
    generalize fB ts ⟨false,oo,n + 1⟩=r at *
    obtain ⟨en,z4⟩:=r
    simp only at h4 g1 ⊢
    simp (maxSteps:=9^6) -dsimp only [go_sem,aQ]
    refine ⟨by omega,?_⟩
    refine aD (f,es ++ [en],ss,z4) 5 ⟨g1.2,?_,?_,.inr ?_,h4⟩ (by simp) ?_ ?_
    · simp only [List.length_append,List.length_singleton]; omega
    · simp only; omega
    · simp only at g1 ⊢; omega
    · simp -dsimp only [go_sem]<;>simp
    · simp -dsimp only [go_sem,aQ]<;>simp [aQ]
   | false=>
   rw [he,aH] at h4
   rw [fA he]
   simp (maxSteps:=9^6) -dsimp only [go_sem]
   refine AI (z:=⟨false,oo,n⟩) (fT ht h1 ?_)
   rw [show bl (mk [115,116,114,117,99,116])=iB from rfl]
   cases hs:aP 1 iB ts ⟨false,oo,n⟩ with
   | true=>
    rw [hs,aN] at h4
    obtain ⟨q1,q2,q3⟩:=qW (by decide) ht.e h1 hs
    have e1:bB 1 iB ts ⟨false,oo,n⟩=⟨false,oo,n + 1⟩:=by unfold bB; rw [hs,q1]; rfl
    rw [e1] at h4 ⊢
    simp (maxSteps:=9^6) -dsimp only [go_sem]
    refine aW rfl (.done ?_)
    simp (maxSteps:=9^6) -dsimp only [go_sem,pK]
    refine AI (z:=⟨false,oo,n + 1⟩) (Q3 ht q2 ?_)
    have g1:=MO (z:=⟨false,oo,n + 1⟩) q2
    generalize fU ts ⟨false,oo,n + 1⟩=r at *
    obtain ⟨st,z4⟩:=r
    simp only at h4 g1 ⊢
    simp (maxSteps:=9^6) -dsimp only [go_sem,aO]
    refine ⟨by omega,?_⟩
    refine aD (f,es,ss ++ [st],z4) 5 ⟨g1.2,?_,?_,.inr ?_,h4⟩ (by simp) ?_ ?_
    · simp only; omega
    · simp only [List.length_append,List.length_singleton]; omega
    · simp only at g1 ⊢; omega
    · simp -dsimp only [go_sem]<;>simp
    · simp -dsimp only [go_sem,aO]<;>simp [aO]
   | false=>
   rw [hs,aH] at h4
   rw [fA hs]
   simp (maxSteps:=9^6) -dsimp only [go_sem]
   refine aW rfl (.done ?_)
   simp (maxSteps:=9^6) -dsimp only [go_sem,qD]
   refine AI (z:=⟨false,oo,n⟩) (hJ ht h1 ?_)
   simp (maxSteps:=9^6) -dsimp only [go_sem]
   refine aD (f,es,ss,dF ts ⟨false,oo,n⟩) 5 ⟨h1,?_,?_,.inl rfl,?_⟩ (by simp) ?_ ?_
   · simp only; omega
   · simp only; omega
   · rw [<-h4]; exact E4 _ _ _ _ rfl
   · simp -dsimp only [go_sem]<;>simp
   · simp -dsimp only [go_sem]<;>simp
  refine fT (o:=⟨0,[],[]⟩) (z:=⟨false,0,0⟩) ht ht.e.pos ?_
  rw [show bl (mk [118,101,114,115,105,111,110])=GM from rfl]
  unfold vD mF at t7
  cases hk:aP 1 GM ts ⟨false,0,0⟩ with
  | true=>
   rw [hk,aN] at t7
   have hF:bB 1 GM ts ⟨false,0,0⟩=⟨false,0,dE ts 0⟩:=by unfold bB; rw [hk]; rfl
   rw [hF]
   simp (maxSteps:=9^6) -dsimp only [go_sem]
   refine cJ 5 t7 ?_ ?_
   · simp -dsimp only [go_sem]<;>simp
   · simp -dsimp only [go_sem]<;>simp
  | false=>
   rw [hk,aH] at t7
   rw [fA hk]
   simp (maxSteps:=9^6) -dsimp only [go_sem]
   refine hJ (o:=⟨0,[],[]⟩) (z:=⟨false,0,0⟩) ht ht.e.pos ?_
   simp (maxSteps:=9^6) -dsimp only [go_sem]
   refine cJ 5 t7 ?_ ?_
   · simp -dsimp only [go_sem]<;>simp
   · simp -dsimp only [go_sem]<;>simp
theorem IR:Meets Tryz.prog 12 kN:=OU N6
end Go.Proofs.YtgogpogophflhaaGreatDoor
namespace Go.Proofs.YtgogpogophflhaaGreatDoor
open Go.W
attribute [-go_sem] eC fV dX iC eK iN
end Go.Proofs.YtgogpogophflhaaGreatDoor
namespace Go.Proofs.YtgogpogophflhaaGreatDoor
open Go.W
inductive PlK (t:Ty):Prop
 | b (k:t.k=1) (s:t.s=0) (n:bl t.n=[])
 | u (k:t.k=3) (s:t.s=8\/t.s=16\/t.s=32) (n:bl t.n=[])
 | i (k:t.k=2) (s:t.s=8\/t.s=16\/t.s=32\/t.s=64) (n:bl t.n=[])
 | x (k:t.k=4) (s:0<=t.s) (n:bl t.n=[])
 | n (k:t.k=6\/t.k=7) (s:t.s=0) (m:bU (bl t.n)=true) (c:BO (bl t.n)=true)
structure EnG (e:En):Prop where
 n:mC (bl e.nm)=true
 p:0 < e.ns.length
 l:e.ns.length=e.vs.length
 m:e.ns.length<=16
 a:∀ n ∈ e.ns,bU (bl n)=true
 b:∀ v ∈ e.vs,0<=v/\v<=127
structure StG (ss:List St) (es:List En) (t:St):Prop where
 n:mC (bl t.nm)=true
 m:t.fs.length<=16
 f:∀ f ∈ t.fs,(1<=f.num/\f.num<=127)/\bU (bl f.nm)=true/\valF ss es f.ty=true
structure ScG (s:Sc):Prop where
 v:1<=s.ver/\s.ver<=999
 l:s.es.length<=16/\s.ss.length<=16
 a:∀ e ∈ s.es,EnG e
 b:∀ t ∈ s.ss,StG s.ss s.es t
theorem NJ {e:En} {k:Nat} {n:ByteArray} {v:Int} (h1:e.ns[k]? = some n) (h2:e.vs[k]? = some v) (h:jK e k=0):bU (bl n)=true/\0<=v/\v<=127:=by
 unfold jK at h
 rw [h1,h2] at h
 simp only at h
 cases c1:bU (bl n) with
 | false=>rw [c1] at h; simp at h
 | true=>
 rw [c1] at h
 simp only [Bool.not_true,aH] at h
 cases c2:b6 (e.ns.take k) n with
 | true=>rw [c2] at h; simp at h
 | false=>
 rw [c2,aH] at h
 cases c3:decide (v < 0) || decide (127 < v) with
 | true=>rw [c3] at h; simp at h
 | false=>
 simp only [Bool.or_eq_false_iff,decide_eq_false_iff_not] at c3
 exact ⟨rfl,by omega,by omega⟩
theorem N9 {e:En} (h:mZ e=0):0 < e.ns.length/\e.ns.length=e.vs.length/\∀ i < e.ns.length,jK e i=0:=by
 unfold mZ at h
 cases c:decide (e.ns.length=0) || decide (e.ns.length ≠ e.vs.length) with
 | true=>rw [c] at h; simp at h
 | false=>
 rw [c,aH] at h
 simp only [Bool.or_eq_false_iff,decide_eq_false_iff_not,Decidable.not_not] at c
 exact ⟨by omega,c.2,nK (m:=e.ns.length) h⟩
theorem OC {s:Sc} (hf:s.fit) (h:dJ s=0):ScG s:=by
 obtain ⟨_,_,h2,h3,h4,h5,h6,_⟩:=FH hf h
 obtain ⟨l1,l2,l3,l4⟩:=rX h4
 refine ⟨⟨h5,h6⟩,⟨l1,by omega⟩,fun e he=>?_,fun t ht=>?_⟩
 · obtain ⟨i,hi⟩:=List.mem_iff_getElem?.1 he
   obtain ⟨n1,_,n3⟩:=OW hi (nK h2 i (aY.1 hi).1)
   obtain ⟨g1,g2,g3⟩:=N9 n3
   refine ⟨n1,g1,g2,l3 e he,fun n hn=>?_,fun v hv=>?_⟩
   · obtain ⟨k,hk⟩:=List.mem_iff_getElem?.1 hn
     have hl:=(aY.1 hk).1
     exact (NJ hk (aT (l:=e.vs) (i:=k) (by omega)) (g3 k hl)).1
   · obtain ⟨k,hk⟩:=List.mem_iff_getElem?.1 hv
     have hl:=(aY.1 hk).1
     exact (NJ (aT (l:=e.ns) (i:=k) (by omega)) hk (g3 k (by omega))).2
 · obtain ⟨i,hi⟩:=List.mem_iff_getElem?.1 ht
   obtain ⟨n1,n2⟩:=DC hi (nK h3 i (aY.1 hi).1)
   exact ⟨(D6 n1).1,l4 t ht,fun f hf=>DW n2 f hf⟩
theorem HM {x:List UInt8} (h:mC x=true):bU x=true:=by unfold mC at h; rw [Bool.and_eq_true] at h; exact h.1
def xV:Nat->List ByteArray->List Int->List UInt8
 | k,n :: ns,v :: vs=>(bif decide (0 < (k:Int)) then [44,32] else []) ++ (bl n ++ ([32,61,32] ++ bX v)) ++ xV (k + 1) ns vs
 | _,_,_=>[]
def wEnumB:List UInt8:=[101,110,117,109,32]
def wStB:List UInt8:=[115,116,114,117,99,116,32]
def wVerB:List UInt8:=[118,101,114,115,105,111,110,32]
def DN (e:En):List UInt8:=wEnumB ++ (bl e.nm ++ [32,123,32]) ++ (xV 0 e.ns e.vs ++ [32,125,10])
def sC (f:Fl):List UInt8:=[32,32] ++ (bX f.num ++ ([32] ++ (bl f.nm ++ ([58,32] ++ fF 6 f.ty)))) ++ ((bif f.opt then [63] else []) ++ [59,10])
def y8 (t:St):List UInt8:=wStB ++ (bl t.nm ++ [32,123,10]) ++ (t.fs.flatMap sC ++ [125,10])
def m0 (s:Sc):List UInt8:=bif dJ s != 0 then [] else wVerB ++ (bX s.ver ++ [59,10]) ++ (s.es.flatMap DN ++ s.ss.flatMap y8)
noncomputable def fmFn:Fun:=rP zR C.sc fun s=>.string (mk (m0 s))
attribute [go_sem] fmFn
theorem NV:∀ (f:Nat) (t:Ty),TyOk t->(fF f t).length<=30 + 31 * f:=fun f=>by
 induction f with
 | zero=>
  intro t ht
  cases h:t.k == 5
  · rw [AX h]; exact w5 ht.s
  · rw [LT h]; exact Nat.zero_le _
 | succ f ih=>
  intro t ht
  cases h:t.k == 5
  · rw [AX h]; have:=w5 ht.s; omega
  · rw [tJ h]
    cases c:decide (t.s < 0) || !(bl t.n == []) || (t.e.length:Int) != 1
    · rw [aH]
      refine eZ (Nat.zero_le _) ?_
      have hd:(bX t.s).length<=21:=fR ht.s.1 ht.s.2
      have hu:TyOk (t.e.headD default):=by
       simp only [Bool.or_eq_false_iff,bne_eq_false_iff_eq] at c
       match he:t.e with
       | []=>rw [he] at c; simp at c
       | a :: r=>exact ht.e a (by rw [he]; exact List.mem_cons_self ..)
      have:=ih _ hu
      simp only [vK,List.length_append,show wOfs.length=5 from rfl,List.length_cons,List.length_nil]
      omega
    · exact Nat.zero_le _
theorem J3 (k:Nat) (n:ByteArray) (ns:List ByteArray) (v:Int) (vs:List Int):xV k (n :: ns) (v :: vs)=(bif decide (0 < (k:Int)) then [44,32] else []) ++ (bl n ++ ([32,61,32] ++ bX v)) ++ xV (k + 1) ns vs:=rfl
theorem O6:Meets Tryz.prog 10 fmFn.sp:=by
 refine aG Tryz.func10 YB 1 (by rw [Tryz.ntmps10]; decide) (aK zP (aK IB (aK HX (aB _)))) kS ?_
 rintro av H K ⟨⟨h,rfl⟩,hK⟩
 obtain ⟨_,rfl,s,rfl,hs⟩:=fG h
 have hK:K (tS (mk (m0 s))) []:=by
  have:fmFn.val [.va (.gs (aM s))]=tA (mk (m0 s)):=by simp -dsimp only [go_sem]
  rw [this] at hK; exact hK
 clear h
 have fin:∀ (x:List UInt8) (R:Hp),m0 s=x->W.Fin 0 K (tS (mk x)) R:=fun x R h1=>by
  rw [h1] at hK
  exact .z (hK)
 simp (maxSteps:=9^6) -dsimp only [go_sem,aM,PZ,TP]
 rw [show C.sc [C.vl (Value.int IntKind.i64 s.ver),C.fz (List.map aQ s.es),C.fz (List.map aO s.ss)]=s from m9 s]
 refine ⟨⟨_,rfl,hs⟩,fun hc=>fin _ _ (by unfold m0; rw [hc]; rfl),fun hc=>?_⟩
 have g:=OC hs (bne_eq_false_iff_eq.1 hc)
 have hfm:m0 s=wVerB ++ (bX s.ver ++ [59,10]) ++ (s.es.flatMap DN ++ s.ss.flatMap y8):=by unfold m0; rw [hc]; rfl
 have hvi:=hs.ok.ver
 have hdv:(bX s.ver).length<=21:=fR hvi.1 hvi.2
 have hl16:=g.l
 refine ⟨⟨hvi.1,hvi.2⟩,by omega,by omega,?_⟩
 refine cI (α:=Nat × List UInt8) (fun z=>[(1,.va (.c1 (.pt 0 0))),(2,tS (mk [])),(3,tS (mk z.2)),(21,.va (.c1 (.fz (s.es.map aQ)))),(22,iS .i64 s.es.length),(23,iS .i64 z.1)]) (fun z=>[.cells (aM s) 25])
  (fun z=>z.1<=s.es.length/\m0 s=z.2 ++ ((s.es.drop z.1).flatMap DN ++ s.ss.flatMap y8)/\z.2.length<=40 + 1000 * z.1) (fun z=>s.es.length - z.1) (gZ (0,wVerB ++ (bX s.ver ++ [59,10])) 1 ⟨Nat.zero_le _,hfm,?_⟩ ?_ ?_) ?_
 · simp only [List.length_append,show wVerB.length=8 from rfl,List.length_cons,List.length_nil]; omega
 · simp -dsimp only [go_sem,wVerB]<;>simp
 · simp -dsimp only [go_sem,aM]<;>simp
 rintro ⟨i,out⟩ ⟨hi,ho,hol⟩
 simp only at hi ho hol
 rcases bQ i s.es.length with hlt | hge
 · have hg:decide ((i:Int) < (s.es.length:Int))=true:=by simp; omega
   obtain ⟨e,he⟩:∃ a,s.es[i]? = some a:=⟨_,aT hlt⟩
   have ge:=g.a e (bH he)
   have q1:=a7 (row:=aQ) he
   have hnl:=jH (HM ge.n)
   have hnl':=ge.m
   have hvl:=ge.l
   rw [List.drop_eq_getElem_cons hlt,show s.es[i]=e from (aY.1 he).2,List.flatMap_cons] at ho
   simp (maxSteps:=9^6) -dsimp only [go_sem,aM,hg,↓q1,aQ]
   refine ⟨by omega,by omega,by omega,by omega,?_⟩
   have hg0:=hg
   refine cI (α:=Nat × List UInt8) (fun z=>[(1,.va (.c1 (.pt 0 0))),(2,tS (mk [])),(3,tS (mk z.2)),(21,.va (.c1 (.fz (s.es.map aQ)))),(22,iS .i64 s.es.length),(23,iS .i64 i),(5,.va (.c1 (.pt 1 0))),(34,.va (.c1 (.fz (e.ns.map cC)))),(35,iS .i64 e.ns.length),(36,iS .i64 z.1)]) (fun z=>[.cells (aM s) 25,.cells (aQ e) 62])
    (fun z=>z.1<=e.ns.length/\m0 s=z.2 ++ (xV z.1 (e.ns.drop z.1) (e.vs.drop z.1) ++ ([32,125,10] ++ ((s.es.drop (i + 1)).flatMap DN ++ s.ss.flatMap y8)))/\z.2.length<=100 + 1000 * i + 50 * z.1) (fun z=>e.ns.length - z.1) (gZ (0,out ++ (wEnumB ++ (bl e.nm ++ [32,123,32]))) 2 ⟨Nat.zero_le _,?_,?_⟩ ?_ ?_) ?_
   · rw [ho]; simp [DN]
   · simp only [List.length_append,show wEnumB.length=5 from rfl,List.length_cons,List.length_nil]; omega
   · simp -dsimp only [go_sem,wEnumB]<;>simp
   · simp -dsimp only [go_sem,aM,aQ]<;>simp
   clear ho hol
   rintro ⟨k,out⟩ ⟨hk,ho,hol⟩
   simp only at hk ho hol
   rcases bQ k e.ns.length with hkt | hkg
   · have hg:decide ((k:Int) < (e.ns.length:Int))=true:=by simp; omega
     obtain ⟨n,hn⟩:∃ a,e.ns[k]? = some a:=⟨_,aT hkt⟩
     obtain ⟨v,hv⟩:∃ a,e.vs[k]? = some a:=⟨_,aT (by omega)⟩
     have q1:=a7 (row:=cC) hn
     have q2:=a7 (row:=gM) hv
     have hnn:=jH (ge.a n (bH hn))
     have hvv:=ge.b v (bH hv)
     have hdl:(bX v).length<=21:=fR (by omega) (by omega)
     rw [List.drop_eq_getElem_cons hkt,show e.ns[k]=n from (aY.1 hn).2,List.drop_eq_getElem_cons (show k < e.vs.length by omega),show e.vs[k]=v from (aY.1 hv).2,J3] at ho
     simp (maxSteps:=9^6) -dsimp only [go_sem,aM,hg,↓q1,↓q2,aQ]
     have hE:∀ (o:List UInt8),(k=0->o=out)->(0 < k->o=out ++ [44,32])->m0 s=o ++ (bl n ++ ([32,61,32] ++ bX v)) ++ (xV (k + 1) (e.ns.drop (k + 1)) (e.vs.drop (k + 1)) ++ ([32,125,10] ++ ((s.es.drop (i + 1)).flatMap DN ++ s.ss.flatMap y8))):=fun o h0 h1=>by
      rw [ho]
      rcases Nat.eq_zero_or_pos k with hz | hz
      · rw [h0 hz,decide_eq_false (show ¬ 0 < (k:Int) by omega)]; simp
      · rw [h1 hz,decide_eq_true (show 0 < (k:Int) by omega)]; simp
     refine ⟨by omega,fun hc=>⟨by omega,by omega,by omega,by omega,by omega,by omega,by omega,?_⟩,fun hc=>⟨by omega,by omega,by omega,by omega,by omega,by omega,?_⟩⟩
     · have hk0:0 < k:=by have:=of_decide_eq_true hc; omega
       refine aD (k + 1,(out ++ [44,32]) ++ (bl n ++ ([32,61,32] ++ bX v))) 2 ⟨hkt,hE _ (fun h=>by omega) fun _=>rfl,?_⟩ (by simp only; omega) ?_ ?_
       · simp only [List.length_append,List.length_cons,List.length_nil]; omega
       · simp -dsimp only [go_sem]<;>simp
       · simp -dsimp only [go_sem,aM,aQ]<;>simp
     · have hk0:k=0:=by have:=of_decide_eq_false hc; omega
       refine aD (k + 1,out ++ (bl n ++ ([32,61,32] ++ bX v))) 2 ⟨hkt,hE _ (fun _=>rfl) fun h=>by omega,?_⟩ (by simp only; omega) ?_ ?_
       · simp only [List.length_append,List.length_cons,List.length_nil]; omega
       · simp -dsimp only [go_sem]<;>simp
       · simp -dsimp only [go_sem,aM,aQ]<;>simp
   · obtain rfl:k=e.ns.length:=by omega
     have hg:decide ((e.ns.length:Int) < (e.ns.length:Int))=false:=by simp
     simp (maxSteps:=9^6) -dsimp only [go_sem,aM,hg,aQ]
     rw [List.drop_length,show xV e.ns.length [] (e.vs.drop e.ns.length)=[] by unfold xV; rfl] at ho
     refine ⟨by omega,by omega,?_⟩
     refine aD (i + 1,out ++ [32,125,10]) 1 ⟨hlt,by rw [ho]; simp,?_⟩ (by simp only; omega) ?_ ?_
     · simp only [List.length_append,List.length_cons,List.length_nil]; omega
     · simp -dsimp only [go_sem]<;>simp
     · simp -dsimp only [go_sem,aM,aQ]<;>simp
 · obtain rfl:i=s.es.length:=by omega
   have hg:decide ((s.es.length:Int) < (s.es.length:Int))=false:=by simp
   simp (maxSteps:=9^6) -dsimp only [go_sem,aM,hg]
   rw [List.drop_length,List.flatMap_nil,List.nil_append] at ho
   refine cI (α:=Nat × List UInt8) (fun z=>[(1,.va (.c1 (.pt 0 0))),(2,tS (mk [])),(3,tS (mk z.2)),(61,.va (.c1 (.fz (s.ss.map aO)))),(62,iS .i64 s.ss.length),(63,iS .i64 z.1)]) (fun z=>[.cells (aM s) 25])
    (fun z=>z.1<=s.ss.length/\m0 s=z.2 ++ (s.ss.drop z.1).flatMap y8/\z.2.length<=20000 + 10000 * z.1) (fun z=>s.ss.length - z.1) (gZ (0,out) 1 ⟨Nat.zero_le _,ho,?_⟩ ?_ ?_) ?_
   · simp only; omega
   · simp -dsimp only [go_sem]<;>simp
   · simp -dsimp only [go_sem,aM]<;>simp
   clear ho hol
   rintro ⟨i,out⟩ ⟨hi,ho,hol⟩
   simp only at hi ho hol
   rcases bQ i s.ss.length with hlt | hge
   · have hg:decide ((i:Int) < (s.ss.length:Int))=true:=by simp; omega
     obtain ⟨t,ht⟩:∃ a,s.ss[i]? = some a:=⟨_,aT hlt⟩
     have gt:=g.b t (bH ht)
     have hok:=hs.ok.ss t (bH ht)
     have q1:=a7 (row:=aO) ht
     have hnl:=jH (HM gt.n)
     have hml:=gt.m
     rw [List.drop_eq_getElem_cons hlt,show s.ss[i]=t from (aY.1 ht).2,List.flatMap_cons] at ho
     simp (maxSteps:=9^6) -dsimp only [go_sem,aM,hg,↓q1,aO]
     refine ⟨by omega,by omega,by omega,by omega,?_⟩
     refine cI (α:=Nat × List UInt8) (fun z=>[(1,.va (.c1 (.pt 0 0))),(2,tS (mk [])),(3,tS (mk z.2)),(61,.va (.c1 (.fz (s.ss.map aO)))),(62,iS .i64 s.ss.length),(63,iS .i64 i),(9,.va (.c1 (.pt 1 0))),(74,.va (.c1 (.fz (t.fs.map bI)))),(75,iS .i64 t.fs.length),(76,iS .i64 z.1)]) (fun z=>[.cells (aM s) 25,.cells (aO t) 56])
      (fun z=>z.1<=t.fs.length/\m0 s=z.2 ++ ((t.fs.drop z.1).flatMap sC ++ ([125,10] ++ (s.ss.drop (i + 1)).flatMap y8))/\z.2.length<=20100 + 10000 * i + 500 * z.1) (fun z=>t.fs.length - z.1) (gZ (0,out ++ (wStB ++ (bl t.nm ++ [32,123,10]))) 2 ⟨Nat.zero_le _,?_,?_⟩ ?_ ?_) ?_
     · rw [ho]; simp [y8]
     · simp only [List.length_append,show wStB.length=7 from rfl,List.length_cons,List.length_nil]; omega
     · simp -dsimp only [go_sem,wStB]<;>simp
     · simp -dsimp only [go_sem,aM,aO]<;>simp
     clear ho hol
     rintro ⟨k,out⟩ ⟨hk,ho,hol⟩
     simp only at hk ho hol
     rcases bQ k t.fs.length with hkt | hkg
     · have hg:decide ((k:Int) < (t.fs.length:Int))=true:=by simp; omega
       obtain ⟨f,hf⟩:∃ a,t.fs[k]? = some a:=⟨_,aT hkt⟩
       have q1:=a7 (row:=bI) hf
       obtain ⟨gf1,gf2,gf3⟩:=gt.f f (bH hf)
       have hfo:=hok.fs f (bH hf)
       have hnn:=jH gf2
       have hdl:(bX f.num).length<=21:=fR (by omega) (by omega)
       have htl:=NV 6 f.ty hfo.ty
       rw [List.drop_eq_getElem_cons hkt,show t.fs[k]=f from (aY.1 hf).2,List.flatMap_cons] at ho
       simp (maxSteps:=9^6) -dsimp only [go_sem,aM,hg,↓q1,aO,bI,kR]
       refine ⟨by omega,by omega,by omega,by omega,by omega,by omega,⟨_,rfl,hfo.ty⟩,by omega,by omega,fun hc=>⟨by omega,by omega,by omega,?_⟩,fun hc=>⟨by omega,by omega,?_⟩⟩
       · refine aD (k + 1,out ++ sC f) 2 ⟨hkt,by rw [ho]; simp,?_⟩ (by simp only; omega) ?_ ?_
         · unfold sC; rw [hc]; simp only [aN,List.length_append,List.length_cons,List.length_nil]; omega
         · simp -dsimp only [go_sem,sC,hc]<;>simp [sC,hc]
         · simp -dsimp only [go_sem,aM,aO]<;>simp
       · refine aD (k + 1,out ++ sC f) 2 ⟨hkt,by rw [ho]; simp,?_⟩ (by simp only; omega) ?_ ?_
         · unfold sC; rw [hc]; simp only [aH,List.length_append,List.length_cons,List.length_nil]; omega
         · simp -dsimp only [go_sem,sC,hc]<;>simp [sC,hc]
         · simp -dsimp only [go_sem,aM,aO]<;>simp
     · obtain rfl:k=t.fs.length:=by omega
       have hg:decide ((t.fs.length:Int) < (t.fs.length:Int))=false:=by simp
       simp (maxSteps:=9^6) -dsimp only [go_sem,aM,hg,aO]
       rw [List.drop_length,List.flatMap_nil,List.nil_append] at ho
       refine ⟨by omega,by omega,?_⟩
       refine aD (i + 1,out ++ [125,10]) 1 ⟨hlt,by rw [ho]; simp,?_⟩ (by simp only; omega) ?_ ?_
       · simp only [List.length_append,List.length_cons,List.length_nil]; omega
       · simp -dsimp only [go_sem]<;>simp
       · simp -dsimp only [go_sem,aM,aO]<;>simp
   · obtain rfl:i=s.ss.length:=by omega
     have hg:decide ((s.ss.length:Int) < (s.ss.length:Int))=false:=by simp
     simp (maxSteps:=9^6) -dsimp only [go_sem,aM,hg]
     refine fin _ _ ?_
     rw [ho,List.drop_length,List.flatMap_nil,List.append_nil]
theorem O4 {x e:List UInt8} (hx:l8 x) (he:l8 e):l8 (x ++ e):=fun c hc=>by
 cases x with
 | nil=>exact he c hc
 | cons a x=>exact hx c (by simpa using hc)
theorem x5 {l e:List UInt8} (he:LH e) (hse:l8 e):∀ (us:EO) (f a:Nat),zL us->a<=l.length->l.length < f + a->l.drop a=fZ us ++ e->
 ∃ ms,dZ f l a=.ok ms/\ms.map nB=us.map (fun u=>LK u.2) ++ [(0,[],0)]
 | [],f,a,_,hle,hlt,h=>by
  have h:l.drop a=e:=h
  have hlen:=congrArg List.length h
  rw [List.length_drop] at hlen
  obtain ⟨f,rfl⟩:∃ g,f=g + 1:=⟨f - 1,by omega⟩
  have hsk:bL l a=l.length:=by
   have:=he []
   rw [List.append_nil,show dI false []=0 from rfl] at this
   unfold bL
   rw [h,this]; omega
  have hn:l[l.length]? = none:=List.getElem?_eq_none (Nat.le_refl _)
  exact ⟨[⟨0,[],0,l.length⟩],by rw [dZ,hsk]; simp [dM,hn],rfl⟩
 | (g,u) :: us,f,a,⟨hg,hf,ho,hs,hok⟩,hle,hlt,h=>by
  have h':l.drop a=g ++ (pQ u ++ (fZ us ++ e)):=by rw [h,fZ]; simp [List.append_assoc]
  have h1:l.drop (a + g.length)=pQ u ++ (fZ us ++ e):=by rw [<-List.drop_drop,h',List.drop_left]
  obtain ⟨ht,hk,c,hc,hb,hh⟩:=EJ hf ho h1 fun q=>O4 (hs q) hse
  have hlc:=(aY.1 hc).1
  obtain ⟨f,rfl⟩:∃ g,f=g + 1:=⟨f - 1,by omega⟩
  have hsk:bL l a=a + g.length:=by
   have e:=v6 hc hb hh
   unfold bL at e ⊢
   rw [h',hg,<-h1]
   omega
  have h2:l.drop (a + g.length + (pQ u).length)=fZ us ++ e:=by rw [<-List.drop_drop,h1,List.drop_left]
  have hlen:a + g.length + (pQ u).length<=l.length:=by
   have:=congrArg List.length h1
   rw [List.length_drop,List.length_append] at this
   omega
  have hne:0 < (pQ u).length:=by
   rcases Nat.eq_zero_or_pos (pQ u).length with h0 | h0
   · have e0:pQ u=[]:=List.eq_nil_of_length_eq_zero h0
     obtain ⟨_,_,c,hc,_⟩:=EJ (l:=pQ u) (a:=0) (rest:=[]) hf ho (by simp) (fun _ c hc=>by cases hc)
     rw [e0] at hc; cases hc
   · exact h0
  obtain ⟨ms,hm,hmm⟩:=x5 he hse us f (a + g.length + (pQ u).length) hok hlen (by omega) h2
  have hk0:(u.k == 0)=false:=by simpa using hk
  refine ⟨⟨u.k,u.x,u.n,a + g.length⟩ :: ms,?_,by simp [hmm]⟩
  rw [dZ,hsk,ht]
  simp only [hk0,aH,hm,SR.cons]
theorem H3 {us:EO} {e:List UInt8} (he:LH e) (hse:l8 e) (hok:zL us) (hl:(fZ us ++ e).length<=4000):(aL (fZ us ++ e)).err=0/\(aL (fZ us ++ e)).toks.map nB=us.map (fun u=>LK u.2) ++ [(0,[],0)]:=by
 obtain ⟨ms,h1,h2⟩:=x5 (l:=fZ us ++ e) he hse us ((fZ us ++ e).length + 1) 0 hok (Nat.zero_le _) (by omega) rfl
 have h4:decide (4000 < (fZ us ++ e).length)=false:=by simp only [decide_eq_false_iff_not]; omega
 unfold aL
 rw [h4,aH,h1]
 exact ⟨rfl,h2⟩
structure TyG (t:Ty):Prop where
 x:fF 6 t ≠ []
 o:TyOk t
section
variable {ts:List Tk} {n:Nat} {o:Int} {R:List NG}
end
section
variable {ts:List Tk} {n:Nat} {o:Int} {R:List NG}
def X9 (f:Fl):Fl:=⟨f.num,f.nm,XC f.ty,f.opt⟩
end
def stS (t:St):St:=⟨t.nm,t.fs.map X9⟩
structure Bk (s:Sc):Prop where
 g:ScG s
 x:∀ t ∈ s.ss,∀ f ∈ t.fs,TyG f.ty
 r:s.ss.map (fun t=>mP (s.es.map En.nm) (stS t))=s.ss
def Al (z y:Fs):Prop:=z.bad=y.bad/\z.n=y.n
theorem SM (z:Fs):Al z z:=⟨rfl,rfl⟩
section
variable {ts us:List Tk} (h:ts.map nB=us.map nB)
include h
theorem qJ:ts.length=us.length:=by
 have:=congrArg List.length h
 simpa using this
theorem nL (n:Nat):(aU ts n).k=(aU us n).k/\(aU ts n).x=(aU us n).x/\(aU ts n).n=(aU us n).n:=by
 have h1:=congrArg (fun l:List NG=>l[n]?) h
 simp only [List.getElem?_map] at h1
 unfold aU
 rw [List.getD_eq_getElem?_getD,List.getD_eq_getElem?_getD]
 cases ht:ts[n]? with
 | none=>
  rw [ht] at h1
  cases hu:us[n]? with
  | none=>exact ⟨rfl,rfl,rfl⟩
  | some u=>rw [hu] at h1; cases h1
 | some t=>
  rw [ht] at h1
  cases hu:us[n]? with
  | none=>rw [hu] at h1; cases h1
  | some u=>
   rw [hu] at h1
   have h1:nB t=nB u:=aZ h1
   simp only [nB,Prod.mk.injEq] at h1
   exact h1
theorem mV {z y:Fs} (hz:Al z y):dE ts z.n=dE us y.n:=by
 unfold dE
 rw [hz.2,qJ h]
theorem dQ {k:Int} {w:List UInt8} {z y:Fs} (hz:Al z y):aP k w ts z=aP k w us y:=by
 have:=nL h y.n
 unfold aP eR
 rw [hz.1,hz.2,this.1,this.2.1]
omit h in
theorem hY {z y:Fs} (hz:Al z y):Al (dF ts z) (dF us y):=by
 unfold dF
 rw [hz.1]
 cases hb:y.bad
 · exact ⟨rfl,hz.2⟩
 · exact hz
theorem fX {k:Int} {w:List UInt8} {z y:Fs} (hz:Al z y):Al (bB k w ts z) (bB k w us y):=by
 unfold bB
 rw [dQ h hz]
 cases aP k w us y
 · exact hz
 · exact ⟨rfl,mV h hz⟩
theorem fI {w:List UInt8} {z y:Fs} (hz:Al z y):Al (bK w ts z) (bK w us y):=by
 unfold bK
 rw [dQ h hz]
 cases aP 4 w us y
 · exact hY hz
 · exact ⟨rfl,mV h hz⟩
theorem KM {w:List UInt8} {z y:Fs} (hz:Al z y):Al (mF w ts z) (mF w us y):=by
 unfold mF
 rw [dQ h hz]
 cases aP 1 w us y
 · exact hY hz
 · exact ⟨rfl,mV h hz⟩
theorem TF {z y:Fs} (hz:Al z y):Al (oV ts z) (oV us y):=by
 unfold oV
 rw [dQ h hz]
 cases aP 1 DK us y
 · exact hY hz
 · exact ⟨rfl,mV h hz⟩
theorem K3 {c:Bool} {z y:Fs} (hz:Al z y):f7 c ts z=f7 c us y:=by
 have:=nL h y.n
 unfold f7
 rw [hz.1,hz.2,this.1,this.2.1]
theorem m5 {c:Bool} {z y:Fs} (hz:Al z y):cW c ts z=cW c us y/\Al (b7 c ts z) (b7 c us y):=by
 have:=nL h y.n
 unfold cW b7
 rw [K3 h hz]
 cases f7 c us y
 · exact ⟨rfl,hY hz⟩
 · exact ⟨by rw [aN,aN,hz.2,this.2.1],rfl,mV h hz⟩
theorem SD {c:Bool} {z y:Fs} (hz:Al z y):i7 c ts z=i7 c us y:=by
 have:=nL h y.n
 unfold i7
 rw [hz.1,hz.2,this.1,this.2.2]
theorem zJ {c:Bool} {z y:Fs} (hz:Al z y):gL c ts z=gL c us y/\Al (gK c ts z) (gK c us y):=by
 have:=nL h y.n
 unfold gL gK
 rw [SD h hz]
 cases i7 c us y
 · exact ⟨rfl,hY hz⟩
 · exact ⟨by rw [aN,aN,hz.2,this.2.2],rfl,mV h hz⟩
theorem H8 {z y:Fs} (hz:Al z y):jP ts z=jP us y/\Al (jL ts z) (jL us y):=by
 have h1:=fI h (w:=[91]) hz
 have h2:=zJ h (c:=true) h1
 exact ⟨h2.1,fI h h2.2⟩
theorem IY {z y:Fs} (hz:Al z y):∀ l:List Int,(gR ts z l).1=(gR us y l).1/\Al (gR ts z l).2 (gR us y l).2
 | []=>by
  have h1:=m5 h (c:=true) hz
  rw [gR,gR]
  exact ⟨by simp only [h1.1],h1.2⟩
 | s :: r=>by
  rw [gR,gR,dQ h (w:=nX s) hz,dQ h (w:=kJ s) hz]
  cases aP 1 (nX s) us y
  · cases decide (s < 64) && aP 1 (kJ s) us y
    · exact IY hz r
    · exact ⟨rfl,fX h hz⟩
  · exact ⟨rfl,fX h hz⟩
theorem QD {z y:Fs} (hz:Al z y):(gS ts z).1=(gS us y).1/\Al (gS ts z).2 (gS us y).2:=by
 unfold gS
 rw [dQ h (w:=jU) hz,dQ h (w:=wText) hz]
 cases aP 1 jU us y
 · cases aP 1 wText us y
   · exact IY h hz szs
   · have h1:=H8 h (fX h (k:=1) (w:=wText) hz)
     exact ⟨by simp only [aN,aH,h1.1],h1.2⟩
 · exact ⟨rfl,fX h hz⟩
theorem I0:∀ (f:Nat) (d:List Int) (z y:Fs),Al z y->(iM ts f d z).1=(iM us f d y).1/\Al (iM ts f d z).2 (iM us f d y).2
 | 0,d,z,y,hz=>⟨rfl,hz⟩
 | f + 1,d,z,y,hz=>by
  rw [kZ,kZ,dQ h hz]
  cases aP 1 eJ us y
  · exact ⟨rfl,hz⟩
  · have h1:=H8 h (fX h (k:=1) (w:=eJ) hz)
    rw [h1.1]
    exact I0 f _ _ _ (TF h h1.2)
theorem P9 {z y:Fs} (hz:Al z y):(jC ts z).1=(jC us y).1/\Al (jC ts z).2 (jC us y).2:=by
 unfold jC
 rw [qJ h]
 have h1:=I0 h (us.length + 1) [] z y hz
 have h2:=QD h h1.2
 exact ⟨by simp only [h1.1,h2.1],h2.2⟩
theorem I6:∀ (f:Nat) (a:List ByteArray) (b:List Int) (z y:Fs),Al z y->(iY ts f a b z).1=(iY us f a b y).1/\Al (iY ts f a b z).2 (iY us f a b y).2
 | 0,a,b,z,y,hz=>⟨rfl,hz⟩
 | f + 1,a,b,z,y,hz=>by
  have h1:=m5 h (c:=false) hz
  have h2:=fI h (w:=[61]) h1.2
  have h3:=zJ h (c:=false) h2
  have h4:Al (lB ts z) (lB us y):=h3.2
  rw [lD,lD,hz.1,h1.1,h3.1,dQ h h4]
  cases y.bad
  · cases aP 4 [44] us (lB us y)
    · exact ⟨rfl,h4⟩
    · exact I6 f _ _ _ _ (fX h h4)
  · exact ⟨rfl,hz⟩
theorem RZ {z y:Fs} (hz:Al z y):(fB ts z).1=(fB us y).1/\Al (fB ts z).2 (fB us y).2:=by
 have h1:=m5 h (c:=true) hz
 have h2:=fI h (w:=[123]) h1.2
 have h3:=I6 h (us.length + 1) [] [] _ _ h2
 unfold fB
 rw [qJ h]
 exact ⟨by simp only [h1.1,h3.1],fI h h3.2⟩
theorem TX {z y:Fs} (hz:Al z y):(kH ts z).1=(kH us y).1/\Al (kH ts z).2 (kH us y).2:=by
 have h1:=zJ h (c:=false) hz
 have h2:=m5 h (c:=false) h1.2
 have h3:=fI h (w:=[58]) h2.2
 have h4:=P9 h h3
 have h5:Al (EL ts z) (EL us y):=h4.2
 have h6:(jC ts (DI ts z)).1=(jC us (DI us y)).1:=h4.1
 unfold kH
 exact ⟨by simp only [h1.1,h2.1,h6,dQ h h5],fI h (fX h h5)⟩
theorem HW:∀ (f:Nat) (l:List Fl) (z y:Fs),Al z y->(kE ts f l z).1=(kE us f l y).1/\Al (kE ts f l z).2 (kE us f l y).2
 | 0,l,z,y,hz=>⟨rfl,hz⟩
 | f + 1,l,z,y,hz=>by
  have h1:=TX h hz
  rw [lC,lC,hz.1,hz.2,dQ h hz,(nL h y.n).1,h1.1]
  cases y.bad
  · cases aP 4 [125] us y
    · cases (aU us y.n).k != 2
      · exact HW f _ _ _ h1.2
      · exact ⟨rfl,hY hz⟩
    · exact ⟨rfl,fX h hz⟩
  · exact ⟨rfl,hz⟩
theorem P6 {z y:Fs} (hz:Al z y):(fU ts z).1=(fU us y).1/\Al (fU ts z).2 (fU us y).2:=by
 have h1:=m5 h (c:=true) hz
 have h2:=fI h (w:=[123]) h1.2
 have h3:=HW h (us.length + 1) [] _ _ h2
 unfold fU
 rw [qJ h]
 exact ⟨by simp only [h1.1,h3.1],h3.2⟩
theorem CN:∀ (f:Nat) (a:List En) (b:List St) (z y:Fs),Al z y->(jB ts f a b z).1=(jB us f a b y).1/\Al (jB ts f a b z).2 (jB us f a b y).2
 | 0,a,b,z,y,hz=>⟨rfl,hz⟩
 | f + 1,a,b,z,y,hz=>by
  have h1:=RZ h (fX h (k:=1) (w:=fQ) hz)
  have h2:=P6 h (fX h (k:=1) (w:=iB) hz)
  rw [lY,lY,hz.1,hz.2,dQ h (w:=fQ) hz,dQ h (w:=iB) hz,(nL h y.n).1,h1.1,h2.1]
  cases y.bad || (aU us y.n).k == 0
  · cases aP 1 fQ us y
    · cases aP 1 iB us y
      · exact ⟨rfl,hY hz⟩
      · exact CN f _ _ _ _ h2.2
    · exact CN f _ _ _ _ h1.2
  · exact ⟨rfl,hz⟩
theorem TA:MT ts=MT us/\(kG ts).1=(kG us).1/\Al (kG ts).2 (kG us).2:=by
 have h1:Al (vD ts) (vD us):=KM h (SM _)
 have h2:=zJ h (c:=false) h1
 have h3:=fI h (w:=[59]) h2.2
 have h4:=CN h (us.length + 1) [] [] _ _ h3
 refine ⟨h2.1,?_⟩
 unfold kG
 rw [qJ h]
 exact h4
end
theorem N3 {x y:List UInt8} (hx:(aL x).err=0) (hy:(aL y).err=0) (h:(aL x).toks.map nB=(aL y).toks.map nB):(kD x).1=(kD y).1/\(kD x).2.1=(kD y).2.1:=by
 obtain ⟨h1,h2,h3⟩:=TA h
 have h4:oQ (aL x).toks=oQ (aL y).toks:=by
  unfold oQ
  rw [h1,h2]
 unfold kD
 rw [hx,hy,h3.1,h4]
 cases (kG (aL y).toks).2.bad
 · cases dJ (oQ (aL y).toks) != 0<;>exact ⟨rfl,rfl⟩
 · exact ⟨rfl,rfl⟩
def i6 (k:Int):List UInt8:=bif k == 0 then [10] else bif k == 1 then [9] else bif k == 2 then [32,32] else bif k == 3 then [35,32,59,32,125,10] else [32]
theorem DZ (k:Int):LH (i6 k):=fun rest=>by
 unfold i6
 cases k == 0<;>cases k == 1<;>cases k == 2<;>cases k == 3<;>simp [dI]<;>omega
theorem J5 (k:Int):∃ c r,i6 k=c :: r/\bG c=false/\(c == 45)=false:=by
 unfold i6
 cases k == 0<;>cases k == 1<;>cases k == 2<;>cases k == 3<;>exact ⟨_,_,rfl,by decide,by decide⟩
theorem wO (k:Int):(i6 k).length<=6:=by
 unfold i6
 cases k == 0<;>cases k == 1<;>cases k == 2<;>cases k == 3<;>decide
def gpC (c:UInt8):Int:=(c.toNat:Int).tmod 5
def oW (gs:List UInt8) (i:Nat):Int:=bif decide (0 < i) && decide (0 < gs.length) then gpC (gs.getD (i % gs.length) 0) else 4
def tx (t:Tk):Tx:=⟨t.k,t.x,t.n,t.a⟩
def gD (gs:List UInt8):Nat->List Tk->List UInt8
 | _,[]=>[]
 | i,t :: r=>i6 (oW gs i) ++ (dL [tx t] ++ gD gs (i + 1) r)
theorem sM (gs:List UInt8) (t:Tk):∀ (i:Nat) (l:List Tk),gD gs i (l ++ [t])=gD gs i l ++ i6 (oW gs (i + l.length)) ++ dL [tx t]
 | i,[]=>by simp [gD]
 | i,u :: l=>by
  rw [List.cons_append,gD,gD,sM gs t (i + 1) l,List.length_cons,show i + 1 + l.length=i + (l.length + 1) by omega]
  simp [List.append_assoc]
def uL (gs:List UInt8):Nat->List Tk->EO
 | _,[]=>[]
 | i,t :: r=>(i6 (oW gs i),tx t) :: uL gs (i + 1) r
theorem D9 (gs:List UInt8):∀ (i:Nat) (l:List Tk),(uL gs i l).map (fun u=>LK u.2)=l.map nB
 | _,[]=>rfl
 | i,t :: r=>by rw [uL,List.map_cons,D9 gs (i + 1) r]; rfl
theorem HA {t:Tk} (h:ID (tx t)=true):dL [tx t]=pQ (tx t):=by
 have h:iV (tx t).k (tx t).x (tx t).n=true:=h
 simp [dL,nN,h]
theorem xK (gs:List UInt8):∀ (i:Nat) (l:List Tk),(∀ t ∈ l,ID (tx t)=true)->fZ (uL gs i l)=gD gs i l
 | _,[],_=>rfl
 | i,t :: r,h=>by rw [uL,fZ,gD,HA (h t (by simp)),xK gs (i + 1) r fun u hu=>h u (by simp [hu])]
theorem I7 (k:Int) (r:List UInt8):l8 (i6 k ++ r):=by
 obtain ⟨c,r',h,h1,h2⟩:=J5 k
 rw [h]; exact J9 h1 h2
theorem OX (gs:List UInt8) (i:Nat) (l:List Tk):l8 (fZ (uL gs i l)):=by
 cases l with
 | nil=>exact fun c hc=>by cases hc
 | cons t l=>rw [uL,fZ]; exact I7 _ _
theorem HS (gs:List UInt8):∀ (i:Nat) (l:List Tk),(∀ t ∈ l,ID (tx t)=true/\TkFit (tx t))->zL (uL gs i l)
 | _,[],_=>trivial
 | i,t :: r,h=>⟨DZ _,(h t (by simp)).2,(h t (by simp)).1,fun _=>OX gs (i + 1) r,HS gs (i + 1) r fun u hu=>h u (by simp [hu])⟩
theorem H4 {t:Tk} (h:Gtk t.k t.x t.n):TkFit (tx t):=⟨h.i.1,h.i.2,by have:=h.len; show t.x.length<=100000; omega⟩
theorem F6 {l:List UInt8} (h:(aL l).err=0):∃ us e,(aL l).toks=us ++ [e]/\(e.k=0/\e.x=[]/\e.n=0)/\∀ t ∈ us,ID (tx t)=true/\TkFit (tx t):=by
 have hg:=n9 l
 have he:=(uU h).e
 generalize (aL l).toks=ts at *
 have hne:ts ≠ []:=fun h=>by have:=he.pos; rw [h] at this; exact absurd this (by decide)
 obtain ⟨us,e,rfl⟩:∃ us e,ts=us ++ [e]:=⟨ts.dropLast,ts.getLast hne,(List.dropLast_concat_getLast hne).symm⟩
 have hk:e.k=0:=(he.last us.length e (by simp)).2 (by simp)
 refine ⟨us,e,rfl,⟨hk,(hg e (by simp)).e hk⟩,fun t ht=>?_⟩
 have hgt:=hg t (by simp [ht])
 refine ⟨hgt.o fun h0=>?_,H4 hgt⟩
 obtain ⟨i,hi,hti⟩:=List.getElem_of_mem ht
 have:=(he.last i t (by rw [List.getElem?_append_left hi,aT hi,hti])).1 h0
 simp at this
 omega
theorem JX {x gs:List UInt8} (h:(aL x).err=0) (hl:(gD gs 0 (aL x).toks).length<=4000):(aL (gD gs 0 (aL x).toks)).err=0/\(aL (gD gs 0 (aL x).toks)).toks.map nB=(aL x).toks.map nB:=by
 obtain ⟨us,e,h1,⟨h2,h3,h4⟩,h5⟩:=F6 h
 rw [h1] at hl ⊢
 have hp:dL [tx e]=[]:=by simp [dL,nN,tx,h2,iV]
 have e1:gD gs 0 (us ++ [e])=fZ (uL gs 0 us) ++ i6 (oW gs (0 + us.length)):=by
  rw [sM,hp,List.append_nil,xK gs 0 us fun t ht=>(h5 t ht).1]
 rw [e1] at hl ⊢
 have hsg:=I7 (oW gs (0 + us.length)) []
 rw [List.append_nil] at hsg
 obtain ⟨k1,k2⟩:=H3 (DZ _) hsg (HS gs 0 us h5) hl
 refine ⟨k1,?_⟩
 rw [k2,D9,List.map_append]
 simp [nB,h2,h3,h4]
def txA:List UInt8:=[118,101,114,115,105,111,110,32,50,59,32,115,116,114,117,99,116,32,65,32,123,32,49,32,98,58,32,66,59,32,125,32,101,110,117,109,32,66,32,123,32,99,32,61,32,48,32,125]
def txB:List UInt8:=[118,101,114,115,105,111,110,32,49]
def exA:Sc:=⟨2,[⟨mk [66],[mk [99]],[0]⟩],[⟨mk [65],[⟨1,mk [98],.mk 7 0 (mk [66]) [],false⟩]⟩]⟩
def H5:Ty:=.mk 5 4 (mk []) [.mk 4 16 (mk []) []]
theorem SP:kD txA=(exA,0,0):=by kernel_rfl
theorem Z0:kD txB=(sc0,2,9):=by kernel_rfl
theorem X8:fF 6 H5=[108,105,115,116,91,52,93,32,111,102,32,116,101,120,116,91,49,54,93]:=by kernel_rfl
theorem ZC:m0 exA=[118,101,114,115,105,111,110,32,50,59,10,101,110,117,109,32,66,32,123,32,99,32,61,32,48,32,125,10,115,116,114,117,99,116,32,65,32,123,10,32,32,49,32,98,58,32,66,59,10,125,10]:=by kernel_rfl
theorem NZ:exA.fit:=by
 have h:=SP
 have hP:ScP exA:=⟨⟨by decide,by decide⟩,by decide,by decide,fun e he=>by
  rw [List.mem_singleton.1 he]
  exact ⟨by decide,by decide,by decide,fun n hn=>by rw [List.mem_singleton.1 hn]; decide,fun n hn=>by rw [List.mem_singleton.1 hn]; exact ⟨by decide,by decide⟩⟩,fun t ht=>by
  rw [List.mem_singleton.1 ht]
  exact ⟨by decide,by decide,fun f hf=>by
   rw [List.mem_singleton.1 hf]
   exact ⟨⟨by decide,by decide⟩,by decide,⟨[],_,rfl,⟨by decide,by decide⟩,by decide,rfl,by decide,⟨by decide,by decide⟩,by decide,fun s hs=>by cases hs⟩⟩⟩⟩
 exact hP.fit
theorem TM:TyOk H5:=.mk ⟨by decide,by decide⟩ ⟨by decide,by decide⟩ (by decide) (by decide) fun u hu=>by
 rw [List.mem_singleton.1 hu]
 exact .mk ⟨by decide,by decide⟩ ⟨by decide,by decide⟩ (by decide) (by decide) fun u hu=>by cases hu
theorem u6 {x:ByteArray} {r:Sc × Int × Int} {K:S->Hp->Prop} (h:kD (bl x)=r) (hK:K (.tu [.gs (aM r.1),iA .i64 r.2.1,iA .i64 r.2.2]) []):kN [tS x] [] K:=⟨x,rfl,rfl,by rw [h]; exact hK⟩
noncomputable def M2:cF:=[(12,.s kN),(16,.f txFn),(10,.f fmFn)]
theorem RM:sp M2 12=kN:=rfl
theorem P5:iW M2 16=some txFn:=rfl
theorem SJ:iW M2 10=some fmFn:=rfl
attribute [local go_sem] RM P5 SJ
theorem OD:Meets Tryz.prog 11 qTrue.sp:=by
 refine aG (Γ:=M2) Tryz.func11 Z9 0 (by rw [Tryz.ntmps11]; decide) (aA IR (aK IB (aK O6 (aB _)))) H0 ?_
 rintro av H K ⟨⟨h,rfl⟩,hK⟩
 obtain rfl:av=[]:=h
 have hK:K (bS true) []:=hK
 have fin:∀ R:Hp,W.Fin 0 K (bS true) R:=fun R=>.z ((by simpa [go_sem] using hK))
 clear hK
 simp (maxSteps:=9^6) -dsimp only [go_sem,SN,P4]
 refine u6 SP ?_
 simp (maxSteps:=9^6) -dsimp only [go_sem,exA,aM,List.map_cons,List.map_nil]
 refine aW rfl (.done ?_)
 simp (maxSteps:=9^6) -dsimp only [go_sem,z7]
 refine u6 Z0 ?_
 simp (maxSteps:=9^6) -dsimp only [go_sem,sc0,aM,List.map_cons,List.map_nil]
 have g1:((0:Int) != 0)=false:=rfl
 have g2:((2:Int) != 2)=false:=rfl
 have g3:((9:Int) != 9)=false:=rfl
 have g4:((1:Int) != 1)=false:=rfl
 refine cJ (up:=[(1,.va (.c1 (.pt 0 0))),(2,iS .i64 0),(5,iS .i64 2),(6,iS .i64 9)]) (Hs:=[.cells [.vl (.int .i64 2),.fz [[.vl (.string (mk [66])),.fz [cC (mk [99])],.fz [gM 0]]],.fz [[.vl (.string (mk [65])),.fz [[.vl (.int .i64 1),.vl (.string (mk [98])),.vl (.int .i64 7),.vl (.int .i64 0),.vl (.string (mk [66])),.fz [],.vl (.bool false)]]]]] 25]) 1 ?_ ?_ ?_
 · simp (maxSteps:=9^6) -dsimp only [go_sem,CF,g1,g2,g3,g4,List.length_cons,List.length_nil,Nat.zero_add,Int.ofNat_one,forall_eq']
   refine ⟨by decide,?_⟩
   refine cJ (up:=[(1,.va (.c1 (.pt 0 0)))]) (Hs:=[.cells [.vl (.int .i64 2),.fz [[.vl (.string (mk [66])),.fz [cC (mk [99])],.fz [gM 0]]],.fz [[.vl (.string (mk [65])),.fz [[.vl (.int .i64 1),.vl (.string (mk [98])),.vl (.int .i64 7),.vl (.int .i64 0),.vl (.string (mk [66])),.fz [],.vl (.bool false)]]]]] 25]) 1 ?_ ?_ ?_
   · simp (maxSteps:=9^6) -dsimp only [go_sem,B4]
     refine aW rfl (.opn 1 _ _ _ rfl (.nfr 1 _ _ _ rfl (.shu 1 _ _ _ rfl ?_ (.pub 1 _ _ _ rfl (.done ?_)))))
     · simp [C.nf,C.shut]
     have k1:iQ [.vl (.int .i64 5),.vl (.int .i64 4),.vl (.string (mk [])),.fz [[.vl (.int .i64 4),.vl (.int .i64 16),.vl (.string (mk [])),.fz []]]]:=iG (t:=H5) TM
     have k2:C.ty [.vl (.int .i64 5),.vl (.int .i64 4),.vl (.string (mk [])),.fz [[.vl (.int .i64 4),.vl (.int .i64 16),.vl (.string (mk [])),.fz []]]]=H5:=pC H5
     have k3:zR [.vl (.int .i64 2),.fz [[.vl (.string (mk [66])),.fz [cC (mk [99])],.fz [gM 0]]],.fz [[.vl (.string (mk [65])),.fz [[.vl (.int .i64 1),.vl (.string (mk [98])),.vl (.int .i64 7),.vl (.int .i64 0),.vl (.string (mk [66])),.fz [],.vl (.bool false)]]]]]:=KV (s:=exA) NZ
     have k4:C.sc [.vl (.int .i64 2),.fz [[.vl (.string (mk [66])),.fz [cC (mk [99])],.fz [gM 0]]],.fz [[.vl (.string (mk [65])),.fz [[.vl (.int .i64 1),.vl (.string (mk [98])),.vl (.int .i64 7),.vl (.int .i64 0),.vl (.string (mk [66])),.fz [],.vl (.bool false)]]]]]=exA:=m9 exA
     have e7:((7:Int) == 7)=true:=rfl
     simp (maxSteps:=9^6) -dsimp only [go_sem,dO,C.nf,C.pub,CC,forall_eq',k1,k2,k3,k4,e7,X8,ZC,Bool.true_and,beq_self_eq_true]
     exact ⟨by decide,by decide,fin _⟩
   · simp -dsimp only [go_sem]<;>simp
   · simp -dsimp only [go_sem]<;>simp
 · simp -dsimp only [go_sem]<;>simp
 · simp -dsimp only [go_sem]<;>simp [aQ,aO,bI]
   exact ⟨rfl,rfl,rfl,rfl⟩
noncomputable def eqB {α:Type} (a b:α):Bool:=@decide (a=b) (Classical.propDecidable _)
theorem l0 {α:Type} {a b:α} (h:a=b):eqB a b=true:=by unfold eqB; simp [h]
theorem j9 {α:Type} {a b:α} (h:a ≠ b):eqB a b=false:=by unfold eqB; simp [h]
theorem rD {α:Type} {a b:α}:eqB a b=true ↔ a=b:=by unfold eqB; simp
def zG (p:List C->Prop):List S->Prop:=fun av=>match av with
 | [.va (.gs r),.va (.gs q)]=>p r/\p q
 | _=>False
theorem iL {p:List C->Prop} {av:List S} (h:zG p av):∃ r q,av=[.va (.gs r),.va (.gs q)]/\p r/\p q:=by
 unfold zG at h
 split at h
 · exact ⟨_,_,rfl,h⟩
 · exact h.elim
def M4 {α:Type} (d:List C->α) (f:α->α->Value):List S->A:=fun av=>match av with
 | [.va (.gs r),.va (.gs q)]=>.c1 (.vl (f (d r) (d q)))
 | _=>.gs []
noncomputable def CY {α:Type} (p:List C->Prop) (d:List C->α) (f:α->α->Value):Fun:=⟨zG p,M4 d f,fun av h=>by obtain ⟨r,q,rfl,_⟩:=iL h; trivial⟩
theorem sL {α:Type} {p:List C->Prop} {d:List C->α} {f:α->α->Value}:∀ av H K,(CY p d f).sp av H K->av.length=2:=fun av H K h=>by obtain ⟨r,q,rfl,_⟩:=iL h.1.1; rfl
attribute [go_sem] CY zG M4
noncomputable def ssFn:Fun:=CY GT C.st fun a b=>.bool (eqB a b)
noncomputable def seFn:Fun:=CY tC C.en fun a b=>.bool (eqB a b)
attribute [go_sem] ssFn seFn
theorem S4 (a b:Fl):eqB a b=(a.num == b.num && decide (a.nm=b.nm) && (a.opt == b.opt) && oO a.ty b.ty):=by
 obtain ⟨a1,a2,a3,a4⟩:=a
 obtain ⟨b1,b2,b3,b4⟩:=b
 rw [Bool.eq_iff_iff,rD]
 simp only [Fl.mk.injEq,Bool.and_eq_true,beq_iff_eq,decide_eq_true_eq,EY]
 constructor
 · rintro ⟨rfl,rfl,rfl,rfl⟩; exact ⟨⟨⟨rfl,rfl⟩,rfl⟩,rfl⟩
 · rintro ⟨⟨⟨rfl,rfl⟩,rfl⟩,rfl⟩; exact ⟨rfl,rfl,rfl,rfl⟩
theorem gT {α:Type} {a b:List α} (hl:a.length=b.length) (h:∀ j,j < a.length->a[j]? = b[j]?):a=b:=List.ext_getElem? fun j=>by
 rcases bQ j a.length with h4 | h4
 · exact h j h4
 · rw [List.getElem?_eq_none h4,List.getElem?_eq_none (by omega)]
def Q2:PC:=.seq (.reg [.e 2 (.bx 25 (.t 0)),.e 3 (.bx 25 (.t 1)),.q 4 (.mv (.k (.bool false)))]) (.seq (.seq (.reg [.q 7 (.fa 0 (.t 2)),.l 8 (.ld1 (.t 7)),.q 9 (.fa 0 (.t 3)),.l 10 (.ld1 (.t 9)),.q 11 (.bin .neq true (.t 8) (.t 10)),.v 12 11,⟨some 13,(some (12,false)),.q (.fa 1 (.t 2))⟩,⟨some 14,(some (12,false)),.l (.ld1 (.t 13))⟩,⟨some 15,(some (12,false)),.q (.lnL (.t 14))⟩,⟨some 16,(some (12,false)),.q (.fa 1 (.t 3))⟩,⟨some 17,(some (12,false)),.l (.ld1 (.t 16))⟩,⟨some 18,(some (12,false)),.q (.lnL (.t 17))⟩,⟨some 19,(some (12,false)),.q (.bin .neq true (.t 15) (.t 18))⟩,.a 20 (.pick (.t 12) (.k (.bool true)) (.t 19)),.v 21 20,⟨some 22,(some (21,false)),.q (.fa 2 (.t 2))⟩,⟨some 23,(some (21,false)),.l (.ld1 (.t 22))⟩,⟨some 24,(some (21,false)),.q (.lnL (.t 23))⟩,⟨some 25,(some (21,false)),.q (.fa 2 (.t 3))⟩,⟨some 26,(some (21,false)),.l (.ld1 (.t 25))⟩,⟨some 27,(some (21,false)),.q (.lnL (.t 26))⟩,⟨some 28,(some (21,false)),.q (.bin .neq true (.t 24) (.t 27))⟩,.a 29 (.pick (.t 21) (.k (.bool true)) (.t 28))]) (.cond (.t 29) (.seq (.reg [.q 4 (.mv (.k (.bool false)))]) .ret) .skip)) (.seq (.seq (.reg [.q 5 (.mv (.i 0))]) (.block 0 (.loop (.seq (.seq (.reg [.v 30 5,.q 31 (.fa 1 (.t 2)),.l 32 (.ld1 (.t 31)),.q 33 (.lnL (.t 32)),.q 34 (.bin .lss true (.t 30) (.t 33))]) (.cond (.t 34) .skip (.exit 0))) (.seq (.block 1 (.seq (.reg [.q 37 (.fa 1 (.t 2)),.l 38 (.ld1 (.t 37)),.v 39 5,.l 40 (.ia 3 (.t 38) (.t 39)),.l 41 (.ldn 3 (.t 40)),.q 42 (.fa 1 (.t 3)),.l 43 (.ld1 (.t 42)),.v 44 5,.l 45 (.ia 3 (.t 43) (.t 44)),.l 46 (.ldn 3 (.t 45)),.a 47 (.cq 42 [(.t 41),(.t 46)]),.q 48 (.not (.t 47))]) (.cond (.t 48) (.seq (.reg [.q 4 (.mv (.k (.bool false)))]) .ret) .skip))) (.reg [.v 35 5,.q 36 (.bin .add true (.t 35) (.i 1)),.v 5 36])))))) (.seq (.seq (.reg [.q 6 (.mv (.i 0))]) (.block 2 (.loop (.seq (.seq (.reg [.v 49 6,.q 50 (.fa 2 (.t 2)),.l 51 (.ld1 (.t 50)),.q 52 (.lnL (.t 51)),.q 53 (.bin .lss true (.t 49) (.t 52))]) (.cond (.t 53) .skip (.exit 2))) (.seq (.block 3 (.seq (.reg [.q 56 (.fa 2 (.t 2)),.l 57 (.ld1 (.t 56)),.v 58 6,.l 59 (.ia 2 (.t 57) (.t 58)),.l 60 (.ldn 2 (.t 59)),.q 61 (.fa 2 (.t 3)),.l 62 (.ld1 (.t 61)),.v 63 6,.l 64 (.ia 2 (.t 62) (.t 63)),.l 65 (.ldn 2 (.t 64)),.a 66 (.cq 43 [(.t 60),(.t 65)]),.q 67 (.not (.t 66))]) (.cond (.t 67) (.seq (.reg [.q 4 (.mv (.k (.bool false)))]) .ret) .skip))) (.reg [.v 54 6,.q 55 (.bin .add true (.t 54) (.i 1)),.v 6 55])))))) (.seq (.reg [.q 4 (.mv (.k (.bool true)))]) .ret))))
def P7:List RV:=[.mv (.t 4)]
theorem ZF:aV Tryz.prog true ⟨fun r k=>if r=6/\k=10 then .q else if r=11/\k=10 then .q else .own [],fun _=>false⟩ Tryz.f13=some (Q2,P7):=by kernel_rfl
def P3:PC:=.seq (.reg [.e 2 (.bx 37 (.t 0)),.e 3 (.bx 37 (.t 1)),.q 4 (.mv (.k (.bool false)))]) (.seq (.seq (.reg [.q 6 (.fa 0 (.t 2)),.l 7 (.ld1 (.t 6)),.q 8 (.fa 0 (.t 3)),.l 9 (.ld1 (.t 8)),.q 10 (.bin .neq true (.t 7) (.t 9)),.v 11 10,⟨some 12,(some (11,false)),.q (.fa 1 (.t 2))⟩,⟨some 13,(some (11,false)),.l (.ld1 (.t 12))⟩,⟨some 14,(some (11,false)),.q (.fa 1 (.t 3))⟩,⟨some 15,(some (11,false)),.l (.ld1 (.t 14))⟩,⟨some 16,(some (11,false)),.q (.bin .neq true (.t 13) (.t 15))⟩,.a 17 (.pick (.t 11) (.k (.bool true)) (.t 16)),.v 18 17,⟨some 19,(some (18,false)),.q (.fa 2 (.t 2))⟩,⟨some 20,(some (18,false)),.l (.ld1 (.t 19))⟩,⟨some 21,(some (18,false)),.q (.fa 2 (.t 3))⟩,⟨some 22,(some (18,false)),.l (.ld1 (.t 21))⟩,⟨some 23,(some (18,false)),.q (.bin .neq true (.t 20) (.t 22))⟩,.a 24 (.pick (.t 18) (.k (.bool true)) (.t 23)),.v 25 24,⟨some 26,(some (25,false)),.q (.fa 3 (.t 2))⟩,⟨some 27,(some (25,false)),.l (.ld1 (.t 26))⟩,⟨some 28,(some (25,false)),.q (.lnL (.t 27))⟩,⟨some 29,(some (25,false)),.q (.fa 3 (.t 3))⟩,⟨some 30,(some (25,false)),.l (.ld1 (.t 29))⟩,⟨some 31,(some (25,false)),.q (.lnL (.t 30))⟩,⟨some 32,(some (25,false)),.q (.bin .neq true (.t 28) (.t 31))⟩,.a 33 (.pick (.t 25) (.k (.bool true)) (.t 32))]) (.cond (.t 33) (.seq (.reg [.q 4 (.mv (.k (.bool false)))]) .ret) .skip)) (.seq (.seq (.reg [.q 5 (.mv (.i 0))]) (.block 0 (.loop (.seq (.seq (.reg [.v 34 5,.q 35 (.fa 3 (.t 2)),.l 36 (.ld1 (.t 35)),.q 37 (.lnL (.t 36)),.q 38 (.bin .lss true (.t 34) (.t 37))]) (.cond (.t 38) .skip (.exit 0))) (.seq (.block 1 (.seq (.reg [.q 41 (.fa 3 (.t 2)),.l 42 (.ld1 (.t 41)),.v 43 5,.l 44 (.ia 4 (.t 42) (.t 43)),.l 45 (.ldn 4 (.t 44)),.q 46 (.fa 3 (.t 3)),.l 47 (.ld1 (.t 46)),.v 48 5,.l 49 (.ia 4 (.t 47) (.t 48)),.l 50 (.ldn 4 (.t 49)),.a 51 (.cq 19 [(.t 45),(.t 50)]),.q 52 (.not (.t 51))]) (.cond (.t 52) (.seq (.reg [.q 4 (.mv (.k (.bool false)))]) .ret) .skip))) (.reg [.v 39 5,.q 40 (.bin .add true (.t 39) (.i 1)),.v 5 40])))))) (.seq (.reg [.q 4 (.mv (.k (.bool true)))]) .ret)))
def S8:List RV:=[.mv (.t 4)]
theorem X4:aV Tryz.prog true ⟨fun r k=>if r=6/\k=10 then .q else .own [],fun _=>false⟩ Tryz.f19=some (P3,S8):=by kernel_rfl
def UB:PC:=.seq (.reg [.e 2 (.bx 62 (.t 0)),.e 3 (.bx 62 (.t 1)),.q 4 (.mv (.k (.bool false)))]) (.seq (.seq (.reg [.q 7 (.fa 0 (.t 2)),.l 8 (.ld1 (.t 7)),.q 9 (.fa 0 (.t 3)),.l 10 (.ld1 (.t 9)),.q 11 (.bin .neq true (.t 8) (.t 10)),.v 12 11,⟨some 13,(some (12,false)),.q (.fa 1 (.t 2))⟩,⟨some 14,(some (12,false)),.l (.ld1 (.t 13))⟩,⟨some 15,(some (12,false)),.q (.lnL (.t 14))⟩,⟨some 16,(some (12,false)),.q (.fa 1 (.t 3))⟩,⟨some 17,(some (12,false)),.l (.ld1 (.t 16))⟩,⟨some 18,(some (12,false)),.q (.lnL (.t 17))⟩,⟨some 19,(some (12,false)),.q (.bin .neq true (.t 15) (.t 18))⟩,.a 20 (.pick (.t 12) (.k (.bool true)) (.t 19)),.v 21 20,⟨some 22,(some (21,false)),.q (.fa 2 (.t 2))⟩,⟨some 23,(some (21,false)),.l (.ld1 (.t 22))⟩,⟨some 24,(some (21,false)),.q (.lnL (.t 23))⟩,⟨some 25,(some (21,false)),.q (.fa 2 (.t 3))⟩,⟨some 26,(some (21,false)),.l (.ld1 (.t 25))⟩,⟨some 27,(some (21,false)),.q (.lnL (.t 26))⟩,⟨some 28,(some (21,false)),.q (.bin .neq true (.t 24) (.t 27))⟩,.a 29 (.pick (.t 21) (.k (.bool true)) (.t 28))]) (.cond (.t 29) (.seq (.reg [.q 4 (.mv (.k (.bool false)))]) .ret) .skip)) (.seq (.seq (.reg [.q 5 (.mv (.i 0))]) (.block 0 (.loop (.seq (.seq (.reg [.v 30 5,.q 31 (.fa 1 (.t 2)),.l 32 (.ld1 (.t 31)),.q 33 (.lnL (.t 32)),.q 34 (.bin .lss true (.t 30) (.t 33))]) (.cond (.t 34) .skip (.exit 0))) (.seq (.block 1 (.seq (.reg [.q 37 (.fa 1 (.t 2)),.l 38 (.ld1 (.t 37)),.v 39 5,.l 40 (.ia 1 (.t 38) (.t 39)),.l 41 (.ld1 (.t 40)),.q 42 (.fa 1 (.t 3)),.l 43 (.ld1 (.t 42)),.v 44 5,.l 45 (.ia 1 (.t 43) (.t 44)),.l 46 (.ld1 (.t 45)),.q 47 (.bin .neq true (.t 41) (.t 46))]) (.cond (.t 47) (.seq (.reg [.q 4 (.mv (.k (.bool false)))]) .ret) .skip))) (.reg [.v 35 5,.q 36 (.bin .add true (.t 35) (.i 1)),.v 5 36])))))) (.seq (.seq (.reg [.q 6 (.mv (.i 0))]) (.block 2 (.loop (.seq (.seq (.reg [.v 48 6,.q 49 (.fa 2 (.t 2)),.l 50 (.ld1 (.t 49)),.q 51 (.lnL (.t 50)),.q 52 (.bin .lss true (.t 48) (.t 51))]) (.cond (.t 52) .skip (.exit 2))) (.seq (.block 3 (.seq (.reg [.q 55 (.fa 2 (.t 2)),.l 56 (.ld1 (.t 55)),.v 57 6,.l 58 (.ia 1 (.t 56) (.t 57)),.l 59 (.ld1 (.t 58)),.q 60 (.fa 2 (.t 3)),.l 61 (.ld1 (.t 60)),.v 62 6,.l 63 (.ia 1 (.t 61) (.t 62)),.l 64 (.ld1 (.t 63)),.q 65 (.bin .neq true (.t 59) (.t 64))]) (.cond (.t 65) (.seq (.reg [.q 4 (.mv (.k (.bool false)))]) .ret) .skip))) (.reg [.v 53 6,.q 54 (.bin .add true (.t 53) (.i 1)),.v 6 54])))))) (.seq (.reg [.q 4 (.mv (.k (.bool true)))]) .ret))))
def PY:List RV:=[.mv (.t 4)]
theorem Z2:aV Tryz.prog true ⟨fun _ _=>.own [],fun _=>false⟩ Tryz.f42=some (UB,PY):=by kernel_rfl
def R0:PC:=.seq (.reg [.e 2 (.bx 56 (.t 0)),.e 3 (.bx 56 (.t 1)),.q 4 (.mv (.k (.bool false)))]) (.seq (.seq (.reg [.q 8 (.fa 0 (.t 2)),.l 9 (.ld1 (.t 8)),.q 10 (.fa 0 (.t 3)),.l 11 (.ld1 (.t 10)),.q 12 (.bin .neq true (.t 9) (.t 11)),.v 13 12,⟨some 14,(some (13,false)),.q (.fa 1 (.t 2))⟩,⟨some 15,(some (13,false)),.l (.ld1 (.t 14))⟩,⟨some 16,(some (13,false)),.q (.lnL (.t 15))⟩,⟨some 17,(some (13,false)),.q (.fa 1 (.t 3))⟩,⟨some 18,(some (13,false)),.l (.ld1 (.t 17))⟩,⟨some 19,(some (13,false)),.q (.lnL (.t 18))⟩,⟨some 20,(some (13,false)),.q (.bin .neq true (.t 16) (.t 19))⟩,.a 21 (.pick (.t 13) (.k (.bool true)) (.t 20))]) (.cond (.t 21) (.seq (.reg [.q 4 (.mv (.k (.bool false)))]) .ret) .skip)) (.seq (.seq (.reg [.q 5 (.mv (.i 0))]) (.block 0 (.loop (.seq (.seq (.reg [.v 22 5,.q 23 (.fa 1 (.t 2)),.l 24 (.ld1 (.t 23)),.q 25 (.lnL (.t 24)),.q 26 (.bin .lss true (.t 22) (.t 25))]) (.cond (.t 26) .skip (.exit 0))) (.seq (.block 1 (.seq (.ord  [.q (.q 29 (.fa 1 (.t 2))),.q (.l 30 (.ld1 (.t 29))),.q (.v 31 5),.q (.l 32 (.ia 7 (.t 30) (.t 31))),.q (.l 33 (.ldn 7 (.t 32))),.q (.q 34 (.fa 1 (.t 3))),.q (.l 35 (.ld1 (.t 34))),.q (.v 36 5),.q (.l 37 (.ia 7 (.t 35) (.t 36))),.q (.l 38 (.ldn 7 (.t 37))),.m (.e 6 (.al (.agg #[(.int .i64 0),(.string (mk [])),(.int .i64 0),(.int .i64 0),(.string (mk [])),(.slice none 0 0),(.bool false)]) 64)),.rc (.q 29 (.fa 1 (.t 2))),.rc (.l 30 (.ld1 (.t 29))),.rc (.v 31 5),.rc (.l 32 (.ia 7 (.t 30) (.t 31))),.rc (.l 33 (.ldn 7 (.t 32))),.rc (.q 34 (.fa 1 (.t 3))),.rc (.l 35 (.ld1 (.t 34))),.rc (.v 36 5),.rc (.l 37 (.ia 7 (.t 35) (.t 36))),.rc (.l 38 (.ldn 7 (.t 37))),.m (.e 7 (.al (.agg #[(.int .i64 0),(.string (mk [])),(.int .i64 0),(.int .i64 0),(.string (mk [])),(.slice none 0 0),(.bool false)]) 64)),.rc (.q 29 (.fa 1 (.t 2))),.rc (.l 30 (.ld1 (.t 29))),.rc (.v 31 5),.rc (.l 32 (.ia 7 (.t 30) (.t 31))),.rc (.l 33 (.ldn 7 (.t 32))),.rc (.q 34 (.fa 1 (.t 3))),.rc (.l 35 (.ld1 (.t 34))),.rc (.v 36 5),.rc (.l 37 (.ia 7 (.t 35) (.t 36))),.rc (.l 38 (.ldn 7 (.t 37))),.m (.s (.st 7 (.t 6) (.t 33))),.rc (.q 34 (.fa 1 (.t 3))),.rc (.l 35 (.ld1 (.t 34))),.rc (.v 36 5),.rc (.l 37 (.ia 7 (.t 35) (.t 36))),.rc (.l 38 (.ldn 7 (.t 37))),.m (.s (.st 7 (.t 7) (.t 38)))]) (.seq (.reg [.q 39 (.fa 0 (.t 6)),.l 40 (.ld1 (.t 39)),.q 41 (.fa 0 (.t 7)),.l 42 (.ld1 (.t 41)),.q 43 (.bin .neq true (.t 40) (.t 42)),.v 44 43,⟨some 45,(some (44,false)),.q (.fa 1 (.t 6))⟩,⟨some 46,(some (44,false)),.l (.ld1 (.t 45))⟩,⟨some 47,(some (44,false)),.q (.fa 1 (.t 7))⟩,⟨some 48,(some (44,false)),.l (.ld1 (.t 47))⟩,⟨some 49,(some (44,false)),.q (.bin .neq true (.t 46) (.t 48))⟩,.a 50 (.pick (.t 44) (.k (.bool true)) (.t 49)),.v 51 50,⟨some 52,(some (51,false)),.q (.fa 6 (.t 6))⟩,⟨some 53,(some (51,false)),.l (.ld1 (.t 52))⟩,⟨some 54,(some (51,false)),.q (.fa 6 (.t 7))⟩,⟨some 55,(some (51,false)),.l (.ld1 (.t 54))⟩,⟨some 56,(some (51,false)),.q (.eqB true (.t 53) (.t 55))⟩,.a 57 (.pick (.t 51) (.k (.bool true)) (.t 56)),.v 58 57,⟨some 59,(some (58,false)),.q (.fa 2 (.t 6))⟩,⟨some 60,(some (58,false)),.l (.ldn 4 (.t 59))⟩,⟨some 61,(some (58,false)),.q (.fa 2 (.t 7))⟩,⟨some 62,(some (58,false)),.l (.ldn 4 (.t 61))⟩,⟨some 63,(some (58,false)),.cq 19 [(.t 60),(.t 62)]⟩,⟨some 64,(some (58,false)),.q (.not (.t 63))⟩,.a 65 (.pick (.t 58) (.k (.bool true)) (.t 64))]) (.cond (.t 65) (.seq (.reg [.q 4 (.mv (.k (.bool false)))]) .ret) .skip)))) (.reg [.v 27 5,.q 28 (.bin .add true (.t 27) (.i 1)),.v 5 28])))))) (.seq (.reg [.q 4 (.mv (.k (.bool true)))]) .ret)))
def R8:List RV:=[.mv (.t 4)]
theorem aAK:aV Tryz.prog true ⟨fun r k=>if r=7/\k=24 then .q else .own [],fun _=>false⟩ Tryz.f43=some (R0,R8):=by kernel_rfl
theorem CE:∀ N,Meets Tryz.prog 19 (GG N).sp
 | 0=>⟨by kernel_rfl,by rintro xs vs E ro w K _ _ _ ⟨⟨h,_⟩,_⟩; obtain ⟨a,_,_,_,_,h⟩:=kP h; have:=a.h_pos; omega⟩
 | N + 1=>by
  refine aG Tryz.func19 X4 2 (by rw [Tryz.ntmps19]; decide) (aK (CE N) (aB _)) J2 ?_
  rintro av H K ⟨⟨h,rfl⟩,hK⟩
  obtain ⟨a,b,rfl,ha,hb,hh⟩:=kP h
  have hK:K (bS (oO a b)) []:=by
   have:(GG (N + 1)).val [.va (.gs (aX a)),.va (.gs (aX b))]=bA (oO a b):=by simp -dsimp only [go_sem]
   rw [this] at hK; exact hK
  clear h
  have fin:∀ (x:Bool) (R:Hp),oO a b=x->W.Fin 0 K (bS x) R:=fun x R h=>by
   rw [h] at hK
   exact .z ((by simpa [go_sem] using hK))
  obtain ⟨k,s,n,e⟩:=a
  obtain ⟨k',s',n',e'⟩:=b
  have hla:=ha.len
  have hoa:=ha.e
  have hob:=hb.e
  simp only [Ty.e] at hla hoa hob
  simp (maxSteps:=9^6) -dsimp only [go_sem,aX,bN,P3,S8,eX]
  refine ⟨fun h1=>fin false _ (HO fun he=>?_),fun h1=>?_⟩
  · obtain ⟨rfl,rfl,rfl,rfl⟩:=FA.1 he
    simp at h1
  simp only [Bool.or_eq_false_iff,bne_eq_false_iff_eq,Bool.not_eq_false',decide_eq_true_eq] at h1
  obtain ⟨⟨⟨rfl,rfl⟩,rfl⟩,hl⟩:=h1
  have hl:e.length=e'.length:=by omega
  refine a6 (α:=Nat) (fun i=>[(2,.va (.c1 (.pt 0 0))),(3,.va (.c1 (.pt 1 0))),(5,iS .i64 i)]) (fun i=>[.cells (aX (.mk k s n e)) 37,.cells (aX (.mk k s n e')) 37])
   (fun i=>i<=e.length/\∀ j,j < i->e[j]? = e'[j]?) (fun i=>e.length - i) 0 2 ⟨Nat.zero_le _,fun j hj=>by omega⟩ ?_ ?_ ?_
  · simp -dsimp only [go_sem]<;>simp
  · simp -dsimp only [go_sem,aX,bN]<;>simp
  rintro i ⟨hi,ho⟩
  rcases bQ i e.length with hlt | hge
  · have hg:decide ((i:Int) < (e.length:Int))=true:=by simp; omega
    obtain ⟨u,hx⟩:∃ t,e[i]? = some t:=⟨_,aT hlt⟩
    obtain ⟨v,hy⟩:∃ t,e'[i]? = some t:=⟨_,aT (by omega)⟩
    have q1:=a7 (row:=aX) hx
    have q2:=a7 (row:=aX) hy
    have hu:iQ (aX u):=iG (hoa u (bH hx))
    have hv:iQ (aX v):=iG (hob v (bH hy))
    have huh:u.h<=N:=by have:=Ty.hs_mem (bH hx); rw [Ty.h] at hh; omega
    simp (maxSteps:=9^6) -dsimp only [go_sem,hg,aX,bN]
    simp (maxSteps:=9^6) -dsimp only [go_sem,dP,hu,hv,hx,hy,aC,forall_eq']
    refine ⟨by omega,by omega,huh,fun h1=>fin false _ (HO fun he=>?_),fun h1=>?_⟩
    · obtain ⟨_,_,_,rfl⟩:=FA.1 he
      rw [hx] at hy
      rw [G8 (aZ hy)] at h1
      simp at h1
    · have h1:u=v:=EY.1 (by simpa using h1)
      subst h1
      refine ⟨by omega,aD (i + 1) 2 ⟨by omega,fun j hj=>?_⟩ (by omega) ?_ ?_⟩
      · rcases bQ j i with h4 | h4
        · exact ho j h4
        · obtain rfl:j=i:=by omega
          rw [hx,hy]
      · simp -dsimp only [go_sem]<;>simp
      · simp -dsimp only [go_sem,aX,bN]<;>simp
  · have hg:decide ((i:Int) < (e.length:Int))=false:=by simp; omega
    obtain rfl:i=e.length:=by omega
    simp (maxSteps:=9^6) -dsimp only [go_sem,hg,aX,bN]
    refine fin true _ (G8 ?_)
    rw [FA]
    refine ⟨rfl,rfl,rfl,List.ext_getElem? fun j=>?_⟩
    rcases bQ j e.length with h4 | h4
    · exact ho j h4
    · rw [List.getElem?_eq_none h4,List.getElem?_eq_none (by omega)]
theorem PM:Meets Tryz.prog 19 sFn.sp:=mA 0 CE fun av H K ⟨⟨h,e⟩,hK⟩=>by
 obtain ⟨a,b,rfl,ha,hb⟩:=x8 h
 exact ⟨a.h,⟨⟨⟨iG ha,iG hb,by rw [pC]; exact Nat.le_refl _⟩,e⟩,hK⟩⟩
theorem FN:Meets Tryz.prog 42 seFn.sp:=by
 refine aG Tryz.func42 Z2 2 (by rw [Tryz.ntmps42]; decide) (aB _) sL ?_
 rintro av H K ⟨⟨h,rfl⟩,hK⟩
 obtain ⟨_,_,rfl,⟨a,rfl,ha⟩,⟨b,rfl,hb⟩⟩:=iL h
 have hK:K (bS (eqB a b)) []:=by
  have:seFn.val [.va (.gs (aQ a)),.va (.gs (aQ b))]=bA (eqB a b):=by simp -dsimp only [go_sem]
  rw [this] at hK; exact hK
 clear h
 have fin:∀ (x:Bool) (R:Hp),eqB a b=x->W.Fin 0 K (bS x) R:=fun x R h=>by
  rw [h] at hK
  exact .z ((by simpa [go_sem] using hK))
 obtain ⟨n,e,d⟩:=a
 obtain ⟨n',e',d'⟩:=b
 obtain ⟨_,hla,hla2,_,_⟩:=ha
 simp only at hla hla2
 simp (maxSteps:=9^6) -dsimp only [go_sem,aQ,UB,PY,eX]
 refine ⟨fun h1=>fin false _ (j9 fun he=>?_),fun h1=>?_⟩
 · obtain ⟨rfl,rfl,rfl⟩:n=n'/\e=e'/\d=d':=by simpa using he
   simp at h1
 simp only [Bool.or_eq_false_iff,bne_eq_false_iff_eq,Bool.not_eq_false',decide_eq_true_eq] at h1
 obtain ⟨⟨rfl,hl⟩,hl2⟩:=h1
 have hl:e.length=e'.length:=by omega
 have hl2:d.length=d'.length:=by omega
 refine a6 (α:=Nat) (fun i=>[(2,.va (.c1 (.pt 0 0))),(3,.va (.c1 (.pt 1 0))),(5,iS .i64 i)]) (fun i=>[.cells (aQ ⟨n,e,d⟩) 62,.cells (aQ ⟨n,e',d'⟩) 62])
  (fun i=>i<=e.length/\∀ j,j < i->e[j]? = e'[j]?) (fun i=>e.length - i) 0 2 ⟨Nat.zero_le _,fun j hj=>by omega⟩ ?_ ?_ ?_
 · simp -dsimp only [go_sem]<;>simp
 · simp -dsimp only [go_sem,aQ]<;>simp
 rintro i ⟨hi,ho⟩
 rcases bQ i e.length with hlt | hge
 · have hg:decide ((i:Int) < (e.length:Int))=true:=by simp; omega
   obtain ⟨u,hx⟩:∃ t,e[i]? = some t:=⟨_,aT hlt⟩
   obtain ⟨v,hy⟩:∃ t,e'[i]? = some t:=⟨_,aT (by omega)⟩
   have q1:=a7 (row:=cC) hx
   have q2:=a7 (row:=cC) hy
   simp (maxSteps:=9^6) -dsimp only [go_sem,hg,aQ]
   simp (maxSteps:=9^6) -dsimp only [go_sem,eX,hx,hy,aC,forall_eq']
   refine ⟨by omega,by omega,fun h1=>fin false _ (j9 fun he=>?_),fun h1=>?_⟩
   · obtain ⟨rfl,rfl⟩:e=e'/\d=d':=by simpa using he
     rw [hx] at hy
     obtain rfl:=aZ hy
     simp at h1
   · have h1:u=v:=by simpa using h1
     subst h1
     refine ⟨by omega,aD (i + 1) 2 ⟨by omega,fun j hj=>?_⟩ (by omega) ?_ ?_⟩
     · rcases bQ j i with h4 | h4
       · exact ho j h4
       · obtain rfl:j=i:=by omega
         rw [hx,hy]
     · simp -dsimp only [go_sem]<;>simp
     · simp -dsimp only [go_sem,aQ]<;>simp
 · have hg:decide ((i:Int) < (e.length:Int))=false:=by simp; omega
   obtain rfl:i=e.length:=by omega
   obtain rfl:=gT hl ho
   simp (maxSteps:=9^6) -dsimp only [go_sem,hg,aQ]
   refine a6 (α:=Nat) (fun i=>[(2,.va (.c1 (.pt 0 0))),(3,.va (.c1 (.pt 1 0))),(6,iS .i64 i)]) (fun i=>[.cells (aQ ⟨n,e,d⟩) 62,.cells (aQ ⟨n,e,d'⟩) 62])
    (fun i=>i<=d.length/\∀ j,j < i->d[j]? = d'[j]?) (fun i=>d.length - i) 0 2 ⟨Nat.zero_le _,fun j hj=>by omega⟩ ?_ ?_ ?_
   · simp -dsimp only [go_sem]<;>simp
   · simp -dsimp only [go_sem,aQ]<;>simp
   clear ho hi hg hge
   rintro i ⟨hi,ho⟩
   rcases bQ i d.length with hlt | hge
   · have hg:decide ((i:Int) < (d.length:Int))=true:=by simp; omega
     obtain ⟨u,hx⟩:∃ t,d[i]? = some t:=⟨_,aT hlt⟩
     obtain ⟨v,hy⟩:∃ t,d'[i]? = some t:=⟨_,aT (by omega)⟩
     have q1:=a7 (row:=gM) hx
     have q2:=a7 (row:=gM) hy
     simp (maxSteps:=9^6) -dsimp only [go_sem,hg,aQ]
     simp (maxSteps:=9^6) -dsimp only [go_sem,hx,hy,aC,forall_eq']
     refine ⟨by omega,by omega,fun h1=>fin false _ (j9 fun he=>?_),fun h1=>?_⟩
     · obtain rfl:d=d':=by simpa using he
       rw [hx] at hy
       obtain rfl:=aZ hy
       simp at h1
     · have h1:u=v:=by simpa using h1
       subst h1
       refine ⟨by omega,aD (i + 1) 2 ⟨by omega,fun j hj=>?_⟩ (by omega) ?_ ?_⟩
       · rcases bQ j i with h4 | h4
         · exact ho j h4
         · obtain rfl:j=i:=by omega
           rw [hx,hy]
       · simp -dsimp only [go_sem]<;>simp
       · simp -dsimp only [go_sem,aQ]<;>simp
   · have hg:decide ((i:Int) < (d.length:Int))=false:=by simp; omega
     obtain rfl:i=d.length:=by omega
     simp (maxSteps:=9^6) -dsimp only [go_sem,hg,aQ]
     exact fin true _ (l0 (by rw [gT hl2 ho]))
theorem AO:Meets Tryz.prog 43 ssFn.sp:=by
 refine aG Tryz.func43 aAK 2 (by rw [Tryz.ntmps43]; decide) (aK PM (aB _)) sL ?_
 rintro av H K ⟨⟨h,rfl⟩,hK⟩
 obtain ⟨_,_,rfl,⟨a,rfl,ha⟩,⟨b,rfl,hb⟩⟩:=iL h
 have hK:K (bS (eqB a b)) []:=by
  have:ssFn.val [.va (.gs (aO a)),.va (.gs (aO b))]=bA (eqB a b):=by simp -dsimp only [go_sem]
  rw [this] at hK; exact hK
 clear h
 have fin:∀ (x:Bool) (R:Hp),eqB a b=x->W.Fin 0 K (bS x) R:=fun x R h=>by
  rw [h] at hK
  exact .z ((by simpa [go_sem] using hK))
 obtain ⟨n,e⟩:=a
 obtain ⟨n',e'⟩:=b
 obtain ⟨_,hla,hoa⟩:=ha
 obtain ⟨_,hlb,hob⟩:=hb
 simp only at hla hlb hoa hob
 simp (maxSteps:=9^6) -dsimp only [go_sem,aO,R0,R8,eX]
 refine ⟨fun h1=>fin false _ (j9 fun he=>?_),fun h1=>?_⟩
 · obtain ⟨rfl,rfl⟩:n=n'/\e=e':=by simpa using he
   simp at h1
 simp only [Bool.or_eq_false_iff,bne_eq_false_iff_eq,Bool.not_eq_false',decide_eq_true_eq] at h1
 obtain ⟨rfl,hl⟩:=h1
 have hl:e.length=e'.length:=by omega
 refine a6 (α:=Nat) (fun i=>[(2,.va (.c1 (.pt 0 0))),(3,.va (.c1 (.pt 1 0))),(5,iS .i64 i)]) (fun i=>[.cells (aO ⟨n,e⟩) 56,.cells (aO ⟨n,e'⟩) 56])
  (fun i=>i<=e.length/\∀ j,j < i->e[j]? = e'[j]?) (fun i=>e.length - i) 0 2 ⟨Nat.zero_le _,fun j hj=>by omega⟩ ?_ ?_ ?_
 · simp -dsimp only [go_sem]<;>simp
 · simp -dsimp only [go_sem,aO]<;>simp
 rintro i ⟨hi,ho⟩
 rcases bQ i e.length with hlt | hge
 · have hg:decide ((i:Int) < (e.length:Int))=true:=by simp; omega
   obtain ⟨u,hx⟩:∃ t,e[i]? = some t:=⟨_,aT hlt⟩
   obtain ⟨v,hy⟩:∃ t,e'[i]? = some t:=⟨_,aT (by omega)⟩
   have q1:=a7 (row:=bI) hx
   have q2:=a7 (row:=bI) hy
   have hu:iQ (aX u.ty):=iG (hoa u (bH hx)).ty
   have hv:iQ (aX v.ty):=iG (hob v (bH hy)).ty
   simp (maxSteps:=9^6) -dsimp only [go_sem,hg,aO,↓q1,↓q2,bI,kR,eX,hu,hv]
   rw [show (u.num != v.num || !decide (u.nm=v.nm) || !(u.opt == v.opt) || !oO u.ty v.ty)=!(eqB u v) by rw [S4]; simp only [Bool.not_and]; rfl]
   refine ⟨by omega,by omega,by omega,by omega,by omega,by omega,by omega,fun h1=>fin false _ (j9 fun he=>?_),fun h1=>?_⟩
   · obtain rfl:e=e':=by simpa using he
     rw [hx] at hy
     rw [l0 (aZ hy)] at h1
     simp at h1
   · have h1:u=v:=rD.1 (by simpa using h1)
     subst h1
     refine ⟨by omega,aD (i + 1) 2 ⟨by omega,fun j hj=>?_⟩ (by omega) ?_ ?_⟩
     · rcases bQ j i with h4 | h4
       · exact ho j h4
       · obtain rfl:j=i:=by omega
         rw [hx,hy]
     · simp -dsimp only [go_sem]<;>simp
     · simp -dsimp only [go_sem,aO]<;>simp
 · have hg:decide ((i:Int) < (e.length:Int))=false:=by simp; omega
   obtain rfl:i=e.length:=by omega
   simp (maxSteps:=9^6) -dsimp only [go_sem,hg,aO]
   exact fin true _ (l0 (by rw [gT hl ho]))
noncomputable def sqFn:Fun:=CY sO C.sc fun a b=>.bool (eqB a b)
attribute [go_sem] sqFn
theorem QO:Meets Tryz.prog 13 sqFn.sp:=by
 refine aG Tryz.func13 ZF 2 (by rw [Tryz.ntmps13]; decide) (aK FN (aK AO (aB _))) sL ?_
 rintro av H K ⟨⟨h,rfl⟩,hK⟩
 obtain ⟨_,_,rfl,⟨a,rfl,ha⟩,⟨b,rfl,hb⟩⟩:=iL h
 have hK:K (bS (eqB a b)) []:=by
  have:sqFn.val [.va (.gs (aM a)),.va (.gs (aM b))]=bA (eqB a b):=by simp -dsimp only [go_sem]
  rw [this] at hK; exact hK
 clear h
 have fin:∀ (x:Bool) (R:Hp),eqB a b=x->W.Fin 0 K (bS x) R:=fun x R h=>by
  rw [h] at hK
  exact .z ((by simpa [go_sem] using hK))
 obtain ⟨n,e,d⟩:=a
 obtain ⟨n',e',d'⟩:=b
 obtain ⟨_,hle,hls,hoe,hos⟩:=ha
 obtain ⟨_,hle',hls',hoe',hos'⟩:=hb
 simp only at hle hls hoe hos hle' hls' hoe' hos'
 simp (maxSteps:=9^6) -dsimp only [go_sem,aM,Q2,P7,eX]
 refine ⟨fun h1=>fin false _ (j9 fun he=>?_),fun h1=>?_⟩
 · obtain ⟨rfl,rfl,rfl⟩:n=n'/\e=e'/\d=d':=by simpa using he
   simp at h1
 simp only [Bool.or_eq_false_iff,bne_eq_false_iff_eq,Bool.not_eq_false',decide_eq_true_eq] at h1
 obtain ⟨⟨rfl,hl⟩,hl2⟩:=h1
 have hl:e.length=e'.length:=by omega
 have hl2:d.length=d'.length:=by omega
 refine a6 (α:=Nat) (fun i=>[(2,.va (.c1 (.pt 0 0))),(3,.va (.c1 (.pt 1 0))),(5,iS .i64 i)]) (fun i=>[.cells (aM ⟨n,e,d⟩) 25,.cells (aM ⟨n,e',d'⟩) 25])
  (fun i=>i<=e.length/\∀ j,j < i->e[j]? = e'[j]?) (fun i=>e.length - i) 0 2 ⟨Nat.zero_le _,fun j hj=>by omega⟩ ?_ ?_ ?_
 · simp -dsimp only [go_sem]<;>simp
 · simp -dsimp only [go_sem,aM]<;>simp
 rintro i ⟨hi,ho⟩
 rcases bQ i e.length with hlt | hge
 · have hg:decide ((i:Int) < (e.length:Int))=true:=by simp; omega
   obtain ⟨u,hx⟩:∃ t,e[i]? = some t:=⟨_,aT hlt⟩
   obtain ⟨v,hy⟩:∃ t,e'[i]? = some t:=⟨_,aT (by omega)⟩
   have q1:=a7 (row:=aQ) hx
   have q2:=a7 (row:=aQ) hy
   have hu:tC (aQ u):=w4 (hoe u (bH hx))
   have hv:tC (aQ v):=w4 (hoe' v (bH hy))
   have hud:=BE u
   have hvd:=BE v
   simp only [aQ] at hu hv hud hvd
   simp (maxSteps:=9^6) -dsimp only [go_sem,hg,aM,↓q1,↓q2]
   simp (maxSteps:=9^6) -dsimp only [go_sem,aQ,hu,hv,hud,hvd]
   refine ⟨by omega,by omega,fun h1=>fin false _ (j9 fun he=>?_),fun h1=>?_⟩
   · obtain ⟨rfl,rfl⟩:e=e'/\d=d':=by simpa using he
     rw [hx] at hy
     rw [l0 (aZ hy)] at h1
     simp at h1
   · have h1:u=v:=rD.1 (by simpa using h1)
     subst h1
     refine ⟨by omega,aD (i + 1) 2 ⟨by omega,fun j hj=>?_⟩ (by omega) ?_ ?_⟩
     · rcases bQ j i with h4 | h4
       · exact ho j h4
       · obtain rfl:j=i:=by omega
         rw [hx,hy]
     · simp -dsimp only [go_sem]<;>simp
     · simp -dsimp only [go_sem,aM]<;>simp
 · have hg:decide ((i:Int) < (e.length:Int))=false:=by simp; omega
   obtain rfl:i=e.length:=by omega
   obtain rfl:=gT hl ho
   simp (maxSteps:=9^6) -dsimp only [go_sem,hg,aM]
   refine a6 (α:=Nat) (fun i=>[(2,.va (.c1 (.pt 0 0))),(3,.va (.c1 (.pt 1 0))),(6,iS .i64 i)]) (fun i=>[.cells (aM ⟨n,e,d⟩) 25,.cells (aM ⟨n,e,d'⟩) 25])
    (fun i=>i<=d.length/\∀ j,j < i->d[j]? = d'[j]?) (fun i=>d.length - i) 0 2 ⟨Nat.zero_le _,fun j hj=>by omega⟩ ?_ ?_ ?_
   · simp -dsimp only [go_sem]<;>simp
   · simp -dsimp only [go_sem,aM]<;>simp
   clear ho hi hg hge
   rintro i ⟨hi,ho⟩
   rcases bQ i d.length with hlt | hge
   · have hg:decide ((i:Int) < (d.length:Int))=true:=by simp; omega
     obtain ⟨u,hx⟩:∃ t,d[i]? = some t:=⟨_,aT hlt⟩
     obtain ⟨v,hy⟩:∃ t,d'[i]? = some t:=⟨_,aT (by omega)⟩
     have q1:=a7 (row:=aO) hx
     have q2:=a7 (row:=aO) hy
     have hu:GT (aO u):=DL (hos u (bH hx))
     have hv:GT (aO v):=DL (hos' v (bH hy))
     have hud:=HI u
     have hvd:=HI v
     simp only [aO] at hu hv hud hvd
     simp (maxSteps:=9^6) -dsimp only [go_sem,hg,aM,↓q1,↓q2]
     simp (maxSteps:=9^6) -dsimp only [go_sem,aO,hu,hv,hud,hvd]
     refine ⟨by omega,by omega,fun h1=>fin false _ (j9 fun he=>?_),fun h1=>?_⟩
     · obtain rfl:d=d':=by simpa using he
       rw [hx] at hy
       rw [l0 (aZ hy)] at h1
       simp at h1
     · have h1:u=v:=rD.1 (by simpa using h1)
       subst h1
       refine ⟨by omega,aD (i + 1) 2 ⟨by omega,fun j hj=>?_⟩ (by omega) ?_ ?_⟩
       · rcases bQ j i with h4 | h4
         · exact ho j h4
         · obtain rfl:j=i:=by omega
           rw [hx,hy]
       · simp -dsimp only [go_sem]<;>simp
       · simp -dsimp only [go_sem,aM]<;>simp
   · have hg:decide ((i:Int) < (d.length:Int))=false:=by simp; omega
     obtain rfl:i=d.length:=by omega
     simp (maxSteps:=9^6) -dsimp only [go_sem,hg,aM]
     exact fin true _ (l0 (by rw [gT hl2 ho]))
attribute [go_sem ↓] lO
def zV:List S->Prop:=fun av=>match av with
 | [.va (.c1 (.vl (.int .u8 c)))]=>0<=c/\c < 256
 | _=>False
def LQ:List S->A:=fun av=>match av with
 | [.va (.c1 (.vl (.int .u8 c)))]=>tA (mk (i6 (c.tmod 5)))
 | _=>.gs []
theorem oC {av:List S} (h:zV av):∃ c:Int,av=[.va (.c1 (.vl (.int .u8 c)))]/\0<=c/\c < 256:=by
 unfold zV at h
 split at h
 · exact ⟨_,rfl,h⟩
 · exact h.elim
def gpFn:Fun:=⟨zV,LQ,fun av h=>by obtain ⟨c,rfl,_⟩:=oC h; trivial⟩
attribute [go_sem] gpFn zV LQ
theorem V7:Meets Tryz.prog 23 gpFn.sp:=by
 refine aG Tryz.func23 aAR 1 (by rw [Tryz.ntmps23]; decide) (aB _) (fun av H K h=>by obtain ⟨_,rfl,_⟩:=oC h.1.1; rfl) ?_
 rintro av H K ⟨⟨h,rfl⟩,hK⟩
 obtain ⟨c,rfl,h1,h2⟩:=oC h
 have hK:K (tS (mk (i6 (c.tmod 5)))) []:=hK
 clear h
 have fin:∀ (x:List UInt8) (R:Hp),i6 (c.tmod 5)=x->W.Fin 0 K (tS (mk x)) R:=fun x R h=>by
  rw [h] at hK
  exact .z (hK)
 clear hK
 unfold i6 at fin
 simp (maxSteps:=9^6) -dsimp only [go_sem,SS,ST]
 generalize c.tmod 5=k at *
 repeat' first | (intro _) | (refine And.intro ?_ ?_)
 all_goals first
  | (refine fin _ _ ?_; simp only [*,aN,aH]; done)
  | (refine fin _ _ ?_; simp only [*,aN,aH]; rfl)
  | (simp; done)
  | omega
  | skip
def zM:List S->Prop:=fun av=>match av with
 | [.va (.c1 (.vl (.string x))),.va (.c1 (.fz f))]=>x.size<=9223372036854775807/\∃ l:List UInt8,f=l.map eE
 | _=>False
theorem v7 {av:List S} (h:zM av):∃ x,∃ l:List UInt8,av=[tS x,.va (.c1 (.fz (l.map eE)))]/\x.size<=9223372036854775807:=by
 unfold zM at h
 split at h
 · obtain ⟨h3,l,rfl⟩:=h; exact ⟨_,l,rfl,h3⟩
 · exact h.elim
def llFn:Fun:=⟨zM,fun _=>bA true,fun _ _=>trivial⟩
attribute [go_sem] llFn zM
theorem VC (x:List UInt8):(kD x).1.ok:=by
 have h0:sc0.ok:=⟨⟨by decide,by decide⟩,by decide,by decide,(fun e he=>by cases he),(fun t ht=>by cases ht)⟩
 unfold kD
 by_cases hx:(aL x).err=0
 case neg=>
  have hx':((aL x).err != 0)=true:=bne_iff_ne.2 hx
  rw [hx']; exact h0
 have ht:=uU hx
 rw [hx]
 show (bif (kG (aL x).toks).2.bad then _ else _:Sc × Int × Int).1.ok
 cases (kG (aL x).toks).2.bad
 · cases dJ (oQ (aL x).toks) != 0
   · exact (WN ht).fit.ok
   · exact h0
 · exact h0
theorem wA {t:Tk} (h:TkFit (tx t)):(dL [tx t]).length<=200003:=by
 have:=C0 (acc:=[]) h
 simpa [dL] using this
theorem A0 {gs:List UInt8} {ts:List Tk} {i:Nat} {t:Tk} (h:ts[i]? = some t):gD gs 0 (ts.take (i + 1))=gD gs 0 (ts.take i) ++ i6 (oW gs i) ++ dL [tx t]:=by
 have hi:=(aY.1 h).1
 have e:ts.take (i + 1)=ts.take i ++ [t]:=by rw [List.take_add_one,h]; rfl
 rw [e,sM,List.length_take,Nat.zero_add,Nat.min_eq_left (by omega)]
theorem DE {gs:List UInt8} {ts:List Tk} (hf:∀ t ∈ ts,TkFit (tx t)):∀ i,i<=ts.length->(gD gs 0 (ts.take i)).length<=i * 200013
 | 0,_=>by simp [gD]
 | i + 1,hi=>by
  have ht:ts[i]? = some ts[i]:=aT (by omega)
  have h1:=DE (gs:=gs) hf i (by omega)
  have h2:=wA (hf _ (bH ht))
  have h3:=wO (oW gs i)
  rw [A0 ht,List.length_append,List.length_append]
  omega
noncomputable def sR:cF:=[(22,.s lO),(11,.f qTrue),(23,.f gpFn),(24,.f prtFn),(12,.s kN),(13,.f sqFn)]
theorem QX:sp sR 22=lO:=rfl
theorem Q8:iW sR 11=some qTrue:=rfl
theorem SF:iW sR 23=some gpFn:=rfl
theorem TC:iW sR 24=some prtFn:=rfl
theorem SI:sp sR 12=kN:=rfl
theorem UK:iW sR 13=some sqFn:=rfl
attribute [local go_sem] QX Q8 SF TC SI UK
theorem C5:Meets Tryz.prog 8 llFn.sp:=by
 refine aG (Γ:=sR) Tryz.func8 ok8 2 (by rw [Tryz.ntmps8]; decide) (aA M7 (aK OD (aK V7 (aK Q4 (aA IR (aK QO (aB _))))))) (fun av H K h=>by obtain ⟨_,_,rfl,_⟩:=v7 h.1.1; rfl) ?_
 rintro av H K ⟨⟨h,rfl⟩,hK⟩
 obtain ⟨x,l,rfl,hx⟩:=v7 h
 have hK:K (bS true) []:=hK
 clear h
 have fin:∀ R:Hp,W.Fin 0 K (bS true) R:=fun R=>.z ((by simpa [go_sem] using hK))
 clear hK
 rw [eY] at hx
 simp (maxSteps:=9^6) -dsimp only [go_sem,XI,W8]
 refine aW rfl (.done ?_)
 cases h4:(aL (bl x)).err != 0 with
 | true=>
  simp (maxSteps:=9^6) -dsimp only [go_sem,zE,h4]
  exact fin _
 | false=>
 have h0:(aL (bl x)).err=0:=by simpa using h4
 simp (maxSteps:=9^6) -dsimp only [go_sem,zE,h4]
 refine aW rfl (.done ?_)
 simp (maxSteps:=9^6) -dsimp only [go_sem,FR]
 refine aW rfl (.done ?_)
 simp (maxSteps:=9^6) -dsimp only [go_sem,GA]
 have he:=(uU h0).e
 have hgo:=n9 (bl x)
 have hos:=JX (gs:=l) h0
 have hps:=fun y h2 h3=>N3 (x:=bl x) h0 (y:=y) h2 h3
 have hle:=he.le
 generalize hts:(aL (bl x)).toks=ts at *
 have htf:∀ t ∈ ts,TkFit (tx t):=fun t ht=>H4 (hgo t ht)
 refine a6 (α:=Nat) (fun i=>[(0,tS x),(1,.va (.c1 (.fz (l.map eE)))),(5,.va (.c1 (.fz (ts.map gV)))),(8,tS (mk (gD l 0 (ts.take i)))),(9,iS .i64 i)]) (fun _=>[]) (fun i=>i<=ts.length) (fun i=>ts.length - i) 0 0 (by omega) ?_ rfl ?_
 · simp [go_sem,gD]
 intro i hi
 have hol:=DE (gs:=l) htf i hi
 cases h5:decide ((i:Int) < (ts.length:Int)) with
 | false=>
  obtain rfl:i=ts.length:=by simp at h5; omega
  simp (maxSteps:=9^6) -dsimp only [go_sem,h5]
  refine aW rfl (.done ?_)
  rw [List.take_length] at hol ⊢
  generalize gD l 0 ts=y at *
  cases h7:decide (4000 < (y.length:Int)) with
  | true=>
   simp (maxSteps:=9^6) -dsimp only [go_sem,oY,h7]
   exact fin _
  | false=>
  obtain ⟨b1,b2⟩:=hos (by have:=of_decide_eq_false h7; omega)
  obtain ⟨c1,c2⟩:=hps y b1 b2.symm
  have hok:=VC y
  simp (maxSteps:=9^6) -dsimp only [go_sem,oY,h7]
  refine aW rfl (.done ?_)
  simp (maxSteps:=9^6) -dsimp only [go_sem,BB]
  refine u6 rfl ?_
  generalize kD (bl x)=r at *
  generalize hq:kD y=q at *
  obtain ⟨v,e,a⟩:=r
  obtain ⟨v',e',a'⟩:=q
  have c1:v=v':=c1
  have c2:e=e':=c2
  have hok:v'.ok:=hok
  subst c1; subst c2
  simp (maxSteps:=9^6) -dsimp only [go_sem,aM]
  refine aW rfl (.done ?_)
  simp (maxSteps:=9^6) -dsimp only [go_sem,AQ]
  refine u6 (r:=(v,e,a')) hq ?_
  simp (maxSteps:=9^6) -dsimp only [go_sem,aM]
  refine aW rfl (.done ?_)
  have k1:sO [C.vl (Value.int IntKind.i64 v.ver),C.fz (List.map aQ v.es),C.fz (List.map aO v.ss)]:=D3 hok
  have k2:C.sc [C.vl (Value.int IntKind.i64 v.ver),C.fz (List.map aQ v.es),C.fz (List.map aO v.ss)]=v:=m9 v
  have s3:eqB v v=true:=l0 rfl
  simp (maxSteps:=9^6) -dsimp only [go_sem,z6,k1,k2,s3,beq_self_eq_true]
  exact fin _
 | true=>
  have hlt:i < ts.length:=by simp at h5; omega
  cases h8:decide (((gD l 0 (ts.take i)).length:Int)<=4000) with
  | false=>
   simp (maxSteps:=9^6) -dsimp only [go_sem,h5,h8]
   refine aW rfl (.done ?_)
   have h7:decide (4000 < ((gD l 0 (ts.take i)).length:Int))=true:=by have:=of_decide_eq_false h8; simp; omega
   simp (maxSteps:=9^6) -dsimp only [go_sem,oY,h7]
   exact fin _
  | true=>
  have h80:=of_decide_eq_true h8
  have hg:ts[i]? = some ts[i]:=aT hlt
  generalize ts[i]=u at hg
  have hst:=A0 (gs:=l) hg
  have hsl:List.drop i (List.take ((i:Int) + 1).toNat (ts.map gV))=[rO (tx u)]:=by
   rw [show ((i:Int) + 1).toNat=i + 1 by omega,List.drop_take,show i + 1 - i=1 by omega,List.take_one,List.head?_drop,List.getElem?_map,hg]; rfl
  have hut:=htf u (bH hg)
  have hpl:=wA hut
  have hpv:uK [.va (.c1 (.fz [rO (tx u)]))]=tA (mk (dL [tx u])):=pI [tx u]
  have hpp:vB [.va (.c1 (.fz [rO (tx u)]))]=True:=eq_true ⟨[tx u],rfl,by simp,fun t ht=>by rw [List.mem_singleton] at ht; subst ht; exact hut⟩
  have hrl:(∀ r,r ∈ ts.map gV->r.length=4)=True:=eq_true fun r hr=>by
   obtain ⟨a,_,rfl⟩:=List.mem_map.1 hr; rfl
  have hstep:∀ w,i6 (oW l i)=w->mk (gD l 0 (ts.take i) ++ (w ++ dL [tx u]))=mk (gD l 0 (ts.take (i + 1))):=fun w hw=>by rw [hst,hw,List.append_assoc]
  cases h6:decide (0 < (i:Int)) && decide (0 < (l.length:Int)) with
  | false=>
   have hk:i6 (oW l i)=[32]:=by
    unfold oW
    rw [show decide (0 < i)=decide (0 < (i:Int)) from decide_eq_decide.2 (by omega),show decide (0 < l.length)=decide (0 < (l.length:Int)) from decide_eq_decide.2 (by omega),h6]; rfl
   simp (maxSteps:=9^6) -dsimp only [go_sem,h5,h8,h6]
   refine ⟨by omega,.done ?_⟩
   simp (maxSteps:=9^6) -dsimp only [go_sem,prtFn,hsl,hpv,hpp,hrl]
   refine ⟨by omega,by omega,by omega,by omega,aD (i + 1) 0 (by omega) (by omega) ?_ rfl⟩
   simp [go_sem]
   exact hstep [32] hk
  | true=>
   have h6':=(Bool.and_eq_true_iff.1 h6)
   have hl0:0 < l.length:=by have:=of_decide_eq_true h6'.2; omega
   have hm1:((i:Int)).tmod (l.length:Int)=((i % l.length:Nat):Int):=rfl
   have hm2:=Nat.mod_lt i hl0
   simp (maxSteps:=9^6) -dsimp only [go_sem,h5,h8,h6]
   rw [hm1]
   refine ⟨by omega,⟨by omega,by omega⟩,fun c hc=>⟨⟨by omega,by have:=c.toNat_lt; omega⟩,by have:=wO ((c.toNat:Int).tmod 5); omega,.done ?_⟩⟩
   have hk:oW l i=(c.toNat:Int).tmod 5:=by
    unfold oW
    rw [show decide (0 < i)=decide (0 < (i:Int)) from decide_eq_decide.2 (by omega),show decide (0 < l.length)=decide (0 < (l.length:Int)) from decide_eq_decide.2 (by omega),h6]
    rw [Int.toNat_natCast] at hc
    rw [List.getD_eq_getElem?_getD,hc]; rfl
   simp (maxSteps:=9^6) -dsimp only [go_sem,prtFn,hsl,hpv,hpp,hrl]
   have hgl:=wO ((c.toNat:Int).tmod 5)
   refine ⟨by omega,by omega,by omega,by omega,aD (i + 1) 0 (by omega) (by omega) ?_ rfl⟩
   simp [go_sem]
   exact hstep _ (by rw [hk])
end Go.Proofs.YtgogpogophflhaaGreatDoor
namespace Go.W
open Go.RowKit
def lF (W:World):RO:=⟨fun b off=>W.cell? ⟨b,off,none⟩,fun _=>0⟩
theorem RP (W:World):∀ (b off:Nat) (v:Value),lF W b off=some v->W.cell? ⟨b,off,none⟩=some v:=fun _ _ _ h=>h
theorem RH (ro:RO):FzR ro [] (.slice none 0 0):=
 FzR.mk [] 1 none none (fun h=>absurd rfl h) 0 (fun _=>.bool true) (by simp) (by simp) (by simp) (by simp) (by simp) (by simp) (by simp) (by simp)
def oA (P:Program):Bool:=(List.range P.types.size).all fun t=>match P.underlying t with | some (.slice e)=>decide (0 < P.cellsOf e) | _=>true
section
variable {H:Type} {enc:TypeId × Value->H} {P:Program}
theorem IV {W W':World} (h:Stay W W') {p:MemPlace} (hp:p.block < W.heap.size):W.sameAt W' p:=by
 cases p with
 | cell b off=>exact h.cell (a:=⟨b,off,none⟩) hp
 | map b=>exact h.keep b hp
theorem pX {W W':World} {sp:Nat->Bool} (hl:laidOutB P=true) (hm:mapsRowed P=true) (hs:oA P=true) (hst:Stay W W') :
 ∀ {ts:List TypeId} {vs:List Value} {ds:List (DataW H)} {ps:List MemPlace},(∀ t ∈ ts,t < P.types.size)->DataW.TrodAll enc P W 0 (fun _=>true) true ts vs ds ps->(∀ p ∈ ps,p.block < W.heap.size)->(∀ p ∈ ps,sp p.block=true)->
  DataW.TrodAll enc P W' 0 sp true ts vs ds ps
 | [],[],[],ps,_,h,_,_=>h
 | t :: ts,v :: vs,d :: ds,ps,ht,h,hb,hp=>by
  obtain ⟨p,q,⟨n,h1⟩,h2,rfl⟩:=h
  have hsz:∀ {t e:TypeId},t < P.types.size->P.underlying t=some (.slice e)->0 < P.cellsOf e:=fun {t e} ht hu=>by
   have:=List.all_eq_true.1 hs t (List.mem_range.2 ht)
   rw [hu] at this
   simpa using this
  exact ⟨p,q,⟨n,DataW.trod_stays (T:=(· < P.types.size)) (kids_rows hl hm) hsz (fun h=>by cases h) (ht t (by simp)) h1 (fun x hx=>IV hst (hb x (by simp [hx]))) (fun x hx=>hp x (by simp [hx]))⟩,
   pX hl hm hs hst (fun u hu=>ht u (by simp [hu])) h2 (fun x hx=>hb x (by simp [hx])) (fun x hx=>hp x (by simp [hx])),rfl⟩
 | [],_ :: _,_,_,_,h,_,_=>h.elim
 | [],[],_ :: _,_,_,h,_,_=>h.elim
 | _ :: _,[],_,_,_,h,_,_=>h.elim
 | _ :: _,_ :: _,[],_,_,h,_,_=>h.elim
theorem KU {f:Func} {s:ChangeSpec} {apart fresh handsOn again:Bool} {W W':World} {args:Array Value} {ds gs:List (DataW H)} {before:List MemPlace} {tb:TypeId}
 (hl:laidOutB P=true) (hm:mapsRowed P=true) (hsr:oA P=true) (hps:∀ t ∈ f.params.toList,t < P.types.size) (hrt:f.resultTypes=#[tb]) (htb:P.underlying tb=some .bool)
 (hvars:s.vars=[]) (hW:DataW.Whole enc P f.params.toList s.vars apart W args.toList ds gs before) (hfn:s.fn H (ds ++ gs)={ results:=[.lit (.bool true)],args:=ds,vars:=[] }) (hst:Stay W W') :
 s.post enc P f apart fresh handsOn again W args (.bool true) W':=by
 have hlt:∀ p ∈ before,p.block < W.heap.size:=fun p hp=>hW.lt p hp
 obtain ⟨p,q,hA,hV,hb,_,_⟩:=id hW
 have hq:q=[]:=by
  rw [hvars] at hV
  cases gs with
  | nil=>exact hV
  | cons g gs=>exact hV.elim
 subst hq
 have hbp:before=p:=by rw [hb]; simp
 refine A4 (pa:=p) (pv:=[]) hW (fun b sp hd=>?_) (fun sp hsp=>?_) (fun sp hsp=>?_) hb hst ?_
 · rw [hrt,hfn]
   exact ⟨[],[],⟨1,by simp [DataW.trod,Value.cells,htb]⟩,rfl,rfl⟩
 · rw [hfn]
   rw [hbp] at hlt hsp
   exact pX hl hm hsr hst hps hA hlt hsp
 · rw [hfn,hvars]; rfl
 · intro j t r h1 h2
   rw [hrt] at h1 h2
   match j with
   | 0=>
    cases h1
    cases h2
    simp [Value.okWide,Cell.okWide,Cell.ok,htb]
   | j + 1=>cases h1
end
open Go.RowKit
inductive Fit (P:Program):TypeId->List C->Prop
 | int {t:TypeId} {k:IntKind} {n:Int}:P.underlying t=some (.int k)->(Lit.int k n).wf=true->Fit P t [.vl (.int k n)]
 | bool {t:TypeId} {b:Bool}:P.underlying t=some .bool->Fit P t [.vl (.bool b)]
 | str {t:TypeId} {s:ByteArray}:P.underlying t=some .string->s.size<=maxLen->Fit P t [.vl (.string s)]
 | sl {t e:TypeId} {xs:List (List C)}:P.underlying t=some (.slice e)->xs.length<=maxLen->(∀ r ∈ xs,Fit P e r)->Fit P t [.fz xs]
 | st {t:TypeId} {fs:Array Field} {parts:List (List C)}:P.underlying t=some (.struct fs)->parts.length=fs.size->(∀ (i:Nat) (f:Field) (p:List C),fs[i]? = some f->parts[i]? = some p->Fit P f.type p)->Fit P t parts.flatten
section
variable {P:Program} {t e:TypeId} {xs:List C}
theorem Fit.inv_int {k:IntKind} (ht:P.underlying t=some (.int k)) (h:Fit P t xs):∃ n:Int,xs=[.vl (.int k n)]/\(Lit.int k n).wf=true:=by
 cases h with
 | int h1 h2=>rw [ht] at h1; cases h1; exact ⟨_,rfl,h2⟩
 | bool h1=>rw [ht] at h1; cases h1
 | str h1=>rw [ht] at h1; cases h1
 | sl h1=>rw [ht] at h1; cases h1
 | st h1=>rw [ht] at h1; cases h1
theorem Fit.inv_str (ht:P.underlying t=some .string) (h:Fit P t xs):∃ s:ByteArray,xs=[.vl (.string s)]/\s.size<=maxLen:=by
 cases h with
 | int h1 h2=>rw [ht] at h1; cases h1
 | bool h1=>rw [ht] at h1; cases h1
 | str h1 h2=>exact ⟨_,rfl,h2⟩
 | sl h1=>rw [ht] at h1; cases h1
 | st h1=>rw [ht] at h1; cases h1
theorem Fit.inv_sl (ht:P.underlying t=some (.slice e)) (h:Fit P t xs):∃ ys:List (List C),xs=[.fz ys]/\ys.length<=maxLen/\∀ r ∈ ys,Fit P e r:=by
 cases h with
 | int h1 h2=>rw [ht] at h1; cases h1
 | bool h1=>rw [ht] at h1; cases h1
 | str h1=>rw [ht] at h1; cases h1
 | sl h1 h2 h3=>rw [ht] at h1; cases h1; exact ⟨_,rfl,h2,h3⟩
 | st h1=>rw [ht] at h1; cases h1
end
theorem Fit.rows {P:Program} {e:TypeId} {α:Type} {row:α->List C} {Q:α->Prop} {ys:List (List C)} (hi:∀ r,Fit P e r->∃ a,r=row a/\Q a) (h:∀ r ∈ ys,Fit P e r):∃ l:List α,ys=l.map row/\∀ a ∈ l,Q a:=by
 induction ys with
 | nil=>exact ⟨[],rfl,fun a h=>by cases h⟩
 | cons r ys ih=>
  obtain ⟨l,h1,h2⟩:=ih fun r hr=>h r (List.mem_cons_of_mem _ hr)
  obtain ⟨a,h3,h4⟩:=hi r (h r (by simp))
  refine ⟨a :: l,by rw [h1,h3]; rfl,fun x hx=>?_⟩
  rcases List.mem_cons.1 hx with rfl | hx
  · exact h4
  · exact h2 x hx
def C4 (P:Program):Nat->List Field->Option Nat
 | o,[]=>some o
 | o,f :: r=>if f.offset=o then C4 P (o + P.cellsOf f.type) r else none
def GE (P:Program) (ts:List TypeId):Bool:=ts.all fun t=>match P.underlying t with
 | some (.int _) | some .bool | some .string=>true
 | some (.slice e)=>ts.contains e && decide (0 < P.cellsOf e)
 | some (.struct fs)=>fs.toList.all (fun f=>ts.contains f.type) && C4 P 0 fs.toList == some (P.cellsOf t)
 | _=>false
theorem R3 {P:Program} {R:C->Value->Prop} {Q:Field->List C->Prop} {cs:List Value}:∀ (fs:List Field) (o:Nat),C4 P o fs=some cs.length->
 (∀ (i:Nat) (f:Field),fs[i]? = some f->∃ p,Q f p/\All2 R p ((cs.drop f.offset).take (P.cellsOf f.type)))->
 ∃ parts:List (List C),parts.length=fs.length/\(∀ (i:Nat) (f:Field) (p:List C),fs[i]? = some f->parts[i]? = some p->Q f p)/\All2 R parts.flatten (cs.drop o)
 | [],o,ho,_=>by
  simp only [C4,aC] at ho
  subst ho
  exact ⟨[],rfl,fun i f p h=>by simp at h,by simpa using All2.nil⟩
 | f :: fs,o,ho,h=>by
  simp only [C4] at ho
  split at ho
  · rename_i hf
    obtain ⟨parts,h1,h2,h3⟩:=R3 fs _ ho fun i f hf=>h (i + 1) f (by simpa using hf)
    obtain ⟨p,h4,h5⟩:=h 0 f rfl
    refine ⟨p :: parts,by simp [h1],fun i g q hg hq=>?_,?_⟩
    · cases i with
      | zero=>simp at hg hq; subst hg hq; exact h4
      | succ i=>exact h2 i g q (by simpa using hg) (by simpa using hq)
    · have:cs.drop o=(cs.drop f.offset).take (P.cellsOf f.type) ++ cs.drop (o + P.cellsOf f.type):=by
       rw [hf,<-List.drop_drop,List.take_append_drop]
      rw [List.flatten_cons,this]
      exact h5.app h3
  · cases ho
section
variable {H:Type} {enc:TypeId × Value->H} {P:Program} {W:World} {ts:List TypeId}
theorem G7 {b off len cap sz:Nat} {oa:Option Addr} (hoa:len ≠ 0->oa=some ⟨b,off,none⟩) (hsz:0 < sz) (X:Nat->List C) (hl:∀ i,i < len->(X i).length=sz) (hc:len<=cap)
 (h:∀ i,i < len->∀ j c,(X i)[j]? = some c->∃ v,W.cell? ⟨b,off + (i * sz + j),none⟩=some v/\c.fv (lF W) v/\c.shut=true) :
 FzR (lF W) ((List.range len).map X) (.slice oa len cap):=by
 have hz:∀ x ∈ (List.range len).map X,x.length=sz:=fun x hx=>by
  obtain ⟨i,hi,rfl⟩:=List.mem_map.1 hx
  exact hl i (List.mem_range.1 hi)
 have hfl:∀ k c,((List.range len).map X).flatten[k]? = some c->∃ v,W.cell? ⟨b,off + k,none⟩=some v/\c.fv (lF W) v/\c.shut=true:=fun k c hk=>by
  have hkl:k < len * sz:=by
   have h1:=(aY.1 hk).1
   rw [hZ _ hz] at h1
   simpa using h1
  have hi:k / sz < len:=(Nat.div_lt_iff_lt_mul hsz).2 hkl
  have hj:=Nat.mod_lt k hsz
  have hg:=fP hz (i:=k / sz) (j:=k % sz) (by simpa using hi) hj
  rw [Nat.mul_comm,Nat.div_add_mod,hk] at hg
  have hxi:((List.range len).map X)[k / sz]? = some (X (k / sz)):=by simp [hi]
  rw [hxi,Option.bind_some] at hg
  have:=h (k / sz) hi (k % sz) c hg.symm
  rwa [Nat.mul_comm,Nat.div_add_mod] at this
 have hr:=FzR.mk (ro:=lF W) ((List.range len).map X) sz (some (b,off)) oa (fun hne=>hoa (fun e=>by subst e; simp at hne)) cap (fun k=>(W.cell? ⟨b,off + k,none⟩).getD undef) hz (by simpa using hc) (fun _=>rfl)
  (fun k c hk=>by
    obtain ⟨v,h2,_⟩:=hfl k c hk
    simp [lF,h2])
  (fun k v hk=>by
    obtain ⟨u,h1,h2,_⟩:=hfl k _ hk
    have:u=v:=h2
    simp [h1,this])
  (fun k ys hk=>by
    obtain ⟨u,h1,h2,_⟩:=hfl k _ hk
    have:FzR (lF W) ys u:=h2
    simpa [h1] using this)
  (fun c hc=>by
    obtain ⟨k,hk⟩:=List.mem_iff_getElem?.1 hc
    obtain ⟨u,_,_,h3⟩:=hfl k c hk
    exact h3)
  (fun _ _ _=>.inl rfl)
 simpa using hr
theorem mS (hok:GE P ts=true):∀ (n:Nat) (t:TypeId) (cs:List Value) (y:DataW H × List MemPlace),t ∈ ts->DataW.trod enc P W 0 (fun _=>true) true n t cs=some y->
 ∃ xs,Fit P t xs/\All2 (C.fv (lF W)) xs cs/\∀ c ∈ xs,c.shut=true
 | 0,t,cs,y,_,h=>by simp [DataW.trod] at h
 | n + 1,t,cs,y,ht,h=>by
  have h1:=List.all_eq_true.1 hok t ht
  split at h1
  · rename_i k hu
    obtain ⟨m,rfl,_,hw⟩:=DataW.trod_int hu h
    exact ⟨_,.int hu hw,.cons rfl .nil,fun c hc=>by simp at hc; subst hc; rfl⟩
  · rename_i hu
    obtain ⟨b,rfl,_⟩:=DataW.trod_bool hu h
    exact ⟨_,.bool hu,.cons rfl .nil,fun c hc=>by simp at hc; subst hc; rfl⟩
  · rename_i hu
    obtain ⟨s,rfl,_,hs⟩:=DataW.trod_string hu h
    exact ⟨_,.str hu hs,.cons rfl .nil,fun c hc=>by simp at hc; subst hc; rfl⟩
  · rename_i e hu
    simp only [Bool.and_eq_true,List.contains_iff_mem,decide_eq_true_eq] at h1
    obtain ⟨he,hpos⟩:=h1
    rcases DataW.trod_slice hu h with ⟨rfl,_⟩ | ⟨a,len,cap,elems,rest,n',hn',rfl,_,_,hl,hm,hel,hi,_⟩
    · exact ⟨_,.sl hu (Nat.zero_le _) (fun r hr=>by cases hr),.cons (RH _) .nil,fun c hc=>by simp at hc; subst hc; rfl⟩
    · obtain rfl:n=n':=by omega
      have hall:∀ i,i < len->∃ x:List C,Fit P e x/\x.length=P.cellsOf e/\(∀ j c,x[j]? = some c->∃ v,W.cell? ((a.add (i * P.cellsOf e)).add j)=some v/\c.fv (lF W) v/\c.shut=true):=fun i hil=>by
       have h1:=hi i hil
       rw [aT (by omega)] at h1
       obtain ⟨cs',h2,h3⟩:=Option.bind_eq_some_iff.1 h1
       obtain ⟨x,h4,h5,h6⟩:=mS hok n e cs' _ he h3
       obtain ⟨_,h7,h8⟩:=World.cells?_some h2
       refine ⟨x,h4,h5.1.trans h7,fun j c hj=>?_⟩
       obtain ⟨v,h9,h10⟩:=h5.get hj
       have hjl:j < P.cellsOf e:=by rw [<-h7,<-h5.1]; exact (aY.1 hj).1
       refine ⟨v,?_,h10,h6 c (bH hj)⟩
       have:=h8 j hjl
       rwa [h9] at this
      by_cases h0:len=0
      · subst h0
        refine ⟨[.fz []],.sl hu (Nat.zero_le _) (fun r hr=>by cases hr),.cons ?_ .nil,fun c hc=>by simp at hc; subst hc; rfl⟩
        exact G7 (b:=0) (off:=0) (fun h=>absurd rfl h) hpos (fun _=>[]) (fun i hi=>by omega) (Nat.zero_le _) (fun i hi=>by omega)
      · obtain ⟨x0,_,hx0l,hx0⟩:=hall 0 (by omega)
        have hsp:a.spot=none:=by
         have hx:∃ c,x0[0]? = some c:=⟨_,aT (by omega)⟩
         obtain ⟨c,hc⟩:=hx
         obtain ⟨v,hv,_⟩:=hx0 0 c hc
         unfold World.cell? at hv
         split at hv
         · split at hv
           · cases hv
           · rename_i hs; simpa [Addr.add] using hs
         · cases hv
        obtain ⟨b,off,spot⟩:=a
        obtain rfl:spot=none:=hsp
        haveI:Inhabited (List C):=⟨[]⟩
        obtain ⟨X,hX⟩:=Go.Deep.choose_lt hall
        refine ⟨[.fz ((List.range len).map X)],.sl hu (by simp; omega) (fun r hr=>?_),.cons ?_ .nil,fun c hc=>by simp at hc; subst hc; rfl⟩
        · obtain ⟨i,hi,rfl⟩:=List.mem_map.1 hr
          exact (hX i (List.mem_range.1 hi)).1
        · exact G7 (fun _=>rfl) hpos X (fun i hi=>(hX i hi).2.1) hl (fun i hi j c hj=>by
           obtain ⟨v,h2,h3⟩:=(hX i hi).2.2 j c hj
           exact ⟨v,by simpa [Go.WideShapes.add_plain,Nat.add_assoc] using h2,h3⟩)
  · rename_i fs hu
    simp only [Bool.and_eq_true,List.all_eq_true,List.contains_iff_mem,beq_iff_eq] at h1
    obtain ⟨hft,hof⟩:=h1
    obtain ⟨ys,n',hn,_,hcl,hyl,hf⟩:=DataW.trod_struct hu h
    obtain rfl:n=n':=by omega
    obtain ⟨parts,k1,k2,k3⟩:=R3 (P:=P) (R:=fun c v=>C.fv (lF W) c v/\c.shut=true) (Q:=fun f p=>Fit P f.type p) (cs:=cs) fs.toList 0 (by rw [hcl]; exact hof) (fun i f hfi=>by
     have hfi':fs[i]? = some f:=by simpa using hfi
     have h2:=hf i f hfi'
     have hil:i < fs.size:=(Array.getElem?_eq_some_iff.1 hfi').1
     rw [aT (by omega)] at h2
     obtain ⟨x,h4,h5,h6⟩:=mS hok n f.type _ _ (hft f (bH hfi)) h2
     exact ⟨x,h4,⟨h5.1,fun j c v hc hv=>⟨h5.2 j c v hc hv,h6 c (bH hc)⟩⟩⟩)
    refine ⟨parts.flatten,.st hu (by simpa using k1) (fun i f p hfi hp=>k2 i f p (by simpa using hfi) hp),?_,fun c hc=>?_⟩
    · simpa using k3.imp (fun _ _ h=>h.1)
    · obtain ⟨j,hj⟩:=List.mem_iff_getElem?.1 hc
      obtain ⟨v,_,_,h3⟩:=k3.get hj
      exact h3
  · cases h1
theorem vC (hok:GE P ts=true) {t:TypeId} {v:Value} {d:DataW H} {ps:List MemPlace} (ht:t ∈ ts) (h:DataW.Trod enc P W 0 (fun _=>true) true t v d ps):∃ xs,Fit P t xs/\All2 (C.fv (lF W)) xs v.cells.toList/\∀ c ∈ xs,c.shut=true:=by
 obtain ⟨n,h⟩:=h
 exact mS hok n t _ _ ht h
theorem IW {c:C} {v:Value} (h:All2 (C.fv (lF W)) [c] v.cells.toList) (hv:v.cells.toList=[v]) (hs:c.shut=true):(S.va (.c1 c)).rel (gm []) (lF W) v:=by
 rw [hv] at h
 exact (C.rel_shut hs).2 (h.2 0 c v rfl rfl)
end
end Go.W
