/- Lemmas and walks for the proof. -/
import Derived.Test.YtgogpogophflhaaGreatDoorRd
import Derived.Test.YtgogpogophflhaaGreatDoorProg
set_option maxRecDepth 100000
set_option maxHeartbeats 8000000
namespace Go.Proofs.YtgogpogophflhaaGreatDoor
open Go.W
def wOfs:List UInt8:=[93,32,111,102,32]
def qV (s:Int):List UInt8:=[108,105,115,116,91] ++ (bM s ++ wOfs)
def dG:Nat->Ty->List UInt8
 | f,t=>bif t.k == 5 then (match f with
  | 0=>[]
  | f + 1=>bif decide (t.s < 0) || !(bl t.n == []) || (t.e.length:Int) != 1 then [] else
   bif dG f (t.e.headD default) == [] then [] else qV t.s ++ dG f (t.e.headD default)) else jG t
noncomputable def txFn:Fun:=mX e8 C.ty fun t=>.string (mk (dG 6 t))
attribute [go_sem] txFn
theorem jL {f:Nat} {t:Ty} (h:(t.k == 5)=false):dG f t=jG t:=by unfold dG; rw [h]; rfl
theorem wF {t:Ty} (h:(t.k == 5)=true):dG 0 t=[]:=by unfold dG; rw [h]; rfl
theorem j4 {f:Nat} {t:Ty} (h:(t.k == 5)=true):dG (f + 1) t=bif decide (t.s < 0) || !(bl t.n == []) || (t.e.length:Int) != 1 then [] else
 bif dG f (t.e.headD default) == [] then [] else qV t.s ++ dG f (t.e.headD default):=by rw [dG,h]; rfl
theorem gP {b:Bool} {x y:List UInt8} {n:Nat} (hx:x.length<=n) (hy:y.length<=n):(bif b then x else y).length<=n:=by cases b<;>assumption
theorem QC (t:Ty):(DA t).length<=30:=by
 unfold DA
 cases h:t.s == 0 && bR (bl t.n) && kF (bl t.n)
 · exact Nat.zero_le _
 · rw [Bool.and_eq_true,Bool.and_eq_true] at h
   have:=jZ h.1.2
   rw [aM]; omega
theorem y9 {t:Ty} (h:cD t.s):(jG t).length<=30:=by
 have hd:(bM t.s).length<=21:=iZ h.1 h.2
 have h0:([]:List UInt8).length<=30:=by decide
 unfold jG GO
 refine gP h0 (gP (gP (by decide) h0) (gP (gP ?_ h0) (gP (gP ?_ h0) (gP (gP ?_ h0) (gP (QC t) h0)))))
 · rw [List.length_append,show wUint.length=4 from rfl]; omega
 · rw [List.length_append,show wInt.length=3 from rfl]; omega
 · rw [List.length_append,List.length_append,List.length_append,show wText.length=4 from rfl]; simp only [List.length_singleton]; omega
theorem K6:Meets Tryz.prog 16 txFn.sp:=by
 refine aI Tryz.func16 aEQ 1 (by rw [Tryz.ntmps16]; decide) (aL BQ (aL I1 (aC _))) iE ?_
 rintro av H K ⟨⟨h,rfl⟩,hK⟩
 obtain ⟨_,rfl,t,rfl,hs⟩:=eK h
 have hK:K (tS (mk (dG 6 t))) []:=by
  have:txFn.val [.va (.gs (aP t))]=tA (mk (dG 6 t)):=by simp -dsimp only [go_sem]
  rw [this] at hK; exact hK
 clear h
 have fin:∀ (x:List UInt8) (R:Hp),dG 6 t=x->W.Fin 0 K (tS (mk x)) R:=fun x R h1=>by
  rw [h1] at hK
  exact .z (hK)
 simp (maxSteps:=9^6) -dsimp only [go_sem,XL,TF,bX t]
 refine cQ (α:=Nat × List UInt8 × Ty) (fun x=>[(1,.va (.c1 (.pt 0 0))),(2,tS (mk [])),(3,tS (mk x.2.1)),(4,iS .i64 (6 - x.1:Int))])
  (fun x=>[.cells (aP x.2.2) 37])
  (fun x=>x.1<=6/\x.2.1.length + 31 * x.1<=186/\TyOk x.2.2/\dG 6 t=bif dG x.1 x.2.2 == [] then [] else x.2.1 ++ dG x.1 x.2.2)
  (fun x=>x.1) (iO (6,[],t) 1 ⟨by simp,by simp,hs,?_⟩ ?_ ?_) ?_
 · show _=bif dG 6 t == [] then [] else [] ++ dG 6 t
   cases h:dG 6 t == []
   · rfl
   · exact eq_of_beq h
 · simp -dsimp only [go_sem]<;>simp
 · simp -dsimp only [go_sem]<;>simp [bX t]
 rintro ⟨f,out,u⟩ ⟨h1,h2,h3,h4⟩
 simp only at h1 h2 h3 h4
 have hsn:=h3.s
 have hd:(bM u.s).length<=21:=iZ hsn.1 hsn.2
 simp (maxSteps:=9^6) -dsimp only [go_sem,bX u]
 have hplen:=y9 hsn
 refine ⟨fun hk=>⟨fun hc=>?_,fun hc=>⟨⟨hsn.1,hsn.2⟩,by omega,by omega,by omega,⟨⟨by omega,?_⟩,fun x hx=>dO x⟩,fun x hx=>⟨by rw [dO]; decide,⟨fun c hc=>(WG _ c hc).2,dO _⟩,by rw [dO]; decide,?_⟩⟩⟩,fun hk=>?_⟩
 · refine fin _ _ ?_
   match f,h1,h2,h4,hc with
   | 0,_,_,h4,_=>rw [h4,wF hk]; rfl
   | f + 1,h1,_,h4,hc=>
    rw [show ((6 - ((f + 1:Nat):Int)) == 6)=false from beq_eq_false_iff_ne.2 (by omega),Bool.or_false] at hc
    rw [h4,j4 hk,hc]; rfl
 · simp only [Bool.or_eq_false_iff] at hc
   have:=hc.1.2
   rw [bne_eq_false_iff_eq] at this
   omega
 · match f,h1,h2,h4,hc with
   | 0,_,_,_,hc=>simp at hc
   | f + 1,h1,h2,h4,hc=>
    rw [show ((6 - ((f + 1:Nat):Int)) == 6)=false from beq_eq_false_iff_ne.2 (by omega),Bool.or_false] at hc
    rw [j4 hk,hc,aG] at h4
    have he:u.e.headD default=x:=by
     cases hu:u.e with
     | nil=>rw [hu] at hx; cases hx
     | cons a r=>rw [hu] at hx; exact bJ hx
    rw [he] at h4
    refine ⟨by omega,?_⟩
    refine aB (f,out ++ qV u.s,x) 1 ⟨by omega,?_,h3.e x (bT hx),?_⟩ (by simp) ?_ ?_
    · simp only [qV,List.length_append,show wOfs.length=5 from rfl,List.length_cons,List.length_nil] at h2 ⊢
      omega
    · rw [h4]
      cases hq:dG f x == []
      · rw [aG,aG,List.append_assoc]
        rw [show (qV u.s ++ dG f x == [])=false by simp [qV]]
        rfl
      · rw [aM,aM]; rfl
    · simp -dsimp only [go_sem,qV,wOfs]<;>simp [qV,wOfs]
      omega
    · simp -dsimp only [go_sem]<;>simp [bX x]
 · rw [jL hk] at h4
   rw [show C.ty [C.vl (Value.int IntKind.i64 u.k),C.vl (Value.int IntKind.i64 u.s),C.vl (Value.string u.n),C.fz (List.map aP u.e)]=u by rw [<-bX u]; exact iC u]
   refine ⟨⟨u,(bX u).symm,h3⟩,fun hc=>fin _ _ ?_,fun hc=>⟨by omega,fin _ _ ?_⟩⟩
   · rw [h4,hc]; rfl
   · rw [h4,hc]; rfl
def ID:PC:=.seq (.gh (.reg [.v 30 5,.q 31 (.bin .eql true (.t 30) (.i 0)),.v 32 31,⟨some 33,(some (32,true)),.q (.mv (.t 6))⟩,⟨some 34,(some (32,true)),.q (.bin .eql true (.t 33) (.i 0))⟩,.a 35 (.pick (.t 32) (.t 34) (.k (.bool false))),.v 36 35,⟨some 37,(some (36,true)),.l (.ldn 3 (.t 4))⟩,⟨some 38,(some (36,true)),.l (.ldn 3 (.t 1))⟩,⟨some 39,(some (36,true)),.cq 13 [(.t 37),(.t 38)]⟩,.a 40 (.pick (.t 36) (.t 39) (.k (.bool false))),.v 41 40,⟨some 42,(some (41,true)),.cq 11 []⟩,.a 43 (.pick (.t 41) (.t 42) (.k (.bool false))),.v 2 43])) .ret
@[go_sem ↓] theorem aFF:cW ID:=cZ _
def H5:PC:=.seq (.gh (.reg [.v 25 3,.a 26 (.cl 12 [(.t 25)] []),.v 24 26,.q 27 (.ex (.t 24) 0),.q 28 (.ex (.t 24) 1),.q 29 (.ex (.t 24) 2),.e 4 (.al (.agg #[(.int .i64 0),(.slice none 0 0),(.slice none 0 0)]) 25),.s (.st 3 (.t 4) (.t 27)),.v 5 28,.v 6 29])) (ID)
@[go_sem ↓] theorem aE6:cW H5:=cZ _
def BR:PC:=.seq (.seq (.gh (.reg [.v 20 3,.q 21 (.lnS (.t 20)),.q 22 (.bin .gtr true (.t 21) (.i 4000))])) (.cond (.t 22) (.seq (.reg [.a 23 (.cq 11 []),.v 2 23]) .ret) .skip)) (H5)
@[go_sem ↓] theorem aFZ:cW BR:=cZ _
def IM:PC:=.seq (.seq (.gh (.reg [.v 18 3,.q 19 (.bin .eql true (.t 18) (.k (.string (mk []))))])) (.cond (.t 19) (.seq (.reg [.q 2 (.mv (.k (.bool false)))]) .ret) .skip)) (BR)
@[go_sem ↓] theorem aFH:cW IM:=cZ _
def XD:PC:=.seq (.reg [.e 1 (.bx 25 (.t 0)),.q 2 (.mv (.k (.bool false)))]) (.seq (.seq (.reg [.l 7 (.ldn 3 (.t 1)),.a 8 (.cq 9 [(.t 7)]),.q 9 (.bin .neq true (.t 8) (.i 0))]) (.cond (.t 9) (.seq (.reg [.l 10 (.ldn 3 (.t 1)),.a 11 (.cq 10 [(.t 10)]),.q 12 (.bin .eql true (.t 11) (.k (.string (mk [])))),.v 13 12,⟨some 14,(some (13,true)),.cq 11 []⟩,.a 15 (.pick (.t 13) (.t 14) (.k (.bool false))),.v 2 15]) .ret) .skip)) (.seq (.reg [.l 16 (.ldn 3 (.t 1)),.a 17 (.cq 10 [(.t 16)]),.v 3 17]) (IM)))
def X3:List RV:=[.mv (.t 2)]
theorem ok3:aY Tryz.prog true ⟨fun r k=>if r=1/\k=1 then .q else if r=2/\k=1 then .q else if r=2/\k=4 then .q else if r=3/\k=1 then .q else if r=7/\k=0 then .q else if r=9/\k=9 then .q else if r=9/\k=12 then .q else .own [],fun r=>[4,6,8,9].contains r⟩ Tryz.f3=some (XD,X3):=by kernel_rfl
def EJ:PC:=.seq (.gh (.reg [.q 52 (.fa 2 (.t 1)),.l 53 (.ld1 (.t 52)),.l 54 (.ia 2 (.t 53) (.i 0)),.q 55 (.fa 1 (.t 54)),.l 56 (.ld1 (.t 55)),.l 57 (.ia 7 (.t 56) (.i 0)),.q 58 (.fa 2 (.t 57)),.q 59 (.fa 0 (.t 58)),.l 60 (.ld1 (.t 59)),.q 61 (.bin .eql true (.t 60) (.i 7)),.v 62 61,⟨some 63,(some (62,true)),.l (.ldn 4 (.t 7))⟩,⟨some 64,(some (62,true)),.cq 16 [(.t 63)]⟩,⟨some 65,(some (62,true)),.q (.bin .eql true (.t 64) (.k (.string (mk [108,105,115,116,91,52,93,32,111,102,32,116,101,120,116,91,49,54,93]))))⟩,.a 66 (.pick (.t 62) (.t 65) (.k (.bool false))),.v 67 66,⟨some 68,(some (67,true)),.l (.ldn 3 (.t 1))⟩,⟨some 69,(some (67,true)),.cq 10 [(.t 68)]⟩,⟨some 70,(some (67,true)),.q (.bin .eql true (.t 69) (.k (.string (mk [118,101,114,115,105,111,110,32,50,59,10,101,110,117,109,32,66,32,123,32,99,32,61,32,48,32,125,10,115,116,114,117,99,116,32,65,32,123,10,32,32,49,32,98,58,32,66,59,10,125,10]))))⟩,.a 71 (.pick (.t 67) (.t 70) (.k (.bool false))),.v 0 71])) .ret
@[go_sem ↓] theorem aC6:cW EJ:=cZ _
def D8:PC:=.seq (.gh (.reg [.q 49 (.bd [(.int .i64 0),(.int .i64 0),(.string (mk [])),(.slice none 0 0)] [(0,1,(.i 4)),(1,1,(.i 16))]),.e 50 (.bsl 37 4 [(.t 49)]),.q 51 (.bd [(.int .i64 0),(.int .i64 0),(.string (mk [])),(.slice none 0 0)] [(0,1,(.i 5)),(1,1,(.i 4)),(3,1,(.t 50))]),.e 7 (.al (.agg #[(.int .i64 0),(.int .i64 0),(.string (mk [])),(.slice none 0 0)]) 37),.s (.st 4 (.t 7) (.t 51))])) (EJ)
@[go_sem ↓] theorem aEN:cW D8:=cZ _
def EN:PC:=.seq (.seq (.gh (.reg [.v 18 2,.q 19 (.bin .neq true (.t 18) (.i 0)),.v 20 19,⟨some 21,(some (20,false)),.q (.mv (.t 5))⟩,⟨some 22,(some (20,false)),.q (.bin .neq true (.t 21) (.i 2))⟩,.a 23 (.pick (.t 20) (.k (.bool true)) (.t 22)),.v 24 23,⟨some 25,(some (24,false)),.q (.mv (.t 6))⟩,⟨some 26,(some (24,false)),.q (.bin .neq true (.t 25) (.i 9))⟩,.a 27 (.pick (.t 24) (.k (.bool true)) (.t 26)),.v 28 27,⟨some 29,(some (28,false)),.q (.fa 2 (.t 1))⟩,⟨some 30,(some (28,false)),.l (.ld1 (.t 29))⟩,⟨some 31,(some (28,false)),.q (.lnL (.t 30))⟩,⟨some 32,(some (28,false)),.q (.bin .neq true (.t 31) (.i 1))⟩,.a 33 (.pick (.t 28) (.k (.bool true)) (.t 32)),.v 34 33,⟨some 35,(some (34,false)),.q (.fa 2 (.t 1))⟩,⟨some 36,(some (34,false)),.l (.ld1 (.t 35))⟩,⟨some 37,(some (34,false)),.l (.ia 2 (.t 36) (.i 0))⟩,⟨some 38,(some (34,false)),.q (.fa 1 (.t 37))⟩,⟨some 39,(some (34,false)),.l (.ld1 (.t 38))⟩,⟨some 40,(some (34,false)),.q (.lnL (.t 39))⟩,⟨some 41,(some (34,false)),.q (.bin .neq true (.t 40) (.i 1))⟩,.a 42 (.pick (.t 34) (.k (.bool true)) (.t 41)),.v 43 42,⟨some 44,(some (43,false)),.q (.fa 1 (.t 1))⟩,⟨some 45,(some (43,false)),.l (.ld1 (.t 44))⟩,⟨some 46,(some (43,false)),.q (.lnL (.t 45))⟩,⟨some 47,(some (43,false)),.q (.bin .neq true (.t 46) (.i 1))⟩,.a 48 (.pick (.t 43) (.k (.bool true)) (.t 47))])) (.cond (.t 48) (.seq (.reg [.q 0 (.mv (.k (.bool false)))]) .ret) .skip)) (D8)
@[go_sem ↓] theorem aDB:cW EN:=cZ _
def B5:PC:=.seq (.gh (.reg [.a 14 (.cl 12 [(.k (.string (mk [118,101,114,115,105,111,110,32,49])))] []),.v 13 14,.q 15 (.ex (.t 13) 0),.q 16 (.ex (.t 13) 1),.q 17 (.ex (.t 13) 2),.e 4 (.al (.agg #[(.int .i64 0),(.slice none 0 0),(.slice none 0 0)]) 25),.s (.st 3 (.t 4) (.t 15)),.v 5 16,.v 6 17])) (EN)
@[go_sem ↓] theorem aC4:cW B5:=cZ _
def V1:PC:=.seq (.reg [.q 0 (.mv (.k (.bool false)))]) (.seq (.reg [.a 9 (.cl 12 [(.k (.string (mk [118,101,114,115,105,111,110,32,50,59,32,115,116,114,117,99,116,32,65,32,123,32,49,32,98,58,32,66,59,32,125,32,101,110,117,109,32,66,32,123,32,99,32,61,32,48,32,125])))] []),.v 8 9,.q 10 (.ex (.t 8) 0),.q 11 (.ex (.t 8) 1),.q 12 (.ex (.t 8) 2),.e 1 (.al (.agg #[(.int .i64 0),(.slice none 0 0),(.slice none 0 0)]) 25),.s (.st 3 (.t 1) (.t 10)),.v 2 11,.v 3 12]) (B5))
def S9:List RV:=[.mv (.t 0)]
theorem aD2:aY Tryz.prog true ⟨fun r k=>if r=6/\k=12 then .q else if r=6/\k=17 then .q else .own [],fun r=>[2,3,5,6].contains r⟩ Tryz.f11=some (V1,S9):=by kernel_rfl
mutual
def rL:Ty->Ty
 | .mk k s n e=>.mk (bif k == 7 then 6 else k) s n (TS e)
def TS:List Ty->List Ty
 | []=>[]
 | u :: r=>rL u :: TS r
end
def iM (rest:List UInt8):Prop:=∀ c,rest[0]? = some c->aW c=false/\(c == 45)=false
theorem MA {p:UInt8->Bool} (hp:∀ c,aW c=false->p c=false) {x rest:List UInt8} (hx:∀ c ∈ x,p c=true) (hr:iM rest):(x ++ rest).takeWhile p=x:=by
 induction x with
 | nil=>
  cases rest with
  | nil=>rfl
  | cons c r=>rw [List.nil_append,List.takeWhile_cons,hp c (hr c rfl).1]; rfl
 | cons c x ih=>rw [List.cons_append,List.takeWhile_cons,if_pos (hx c (by simp)),ih fun d hd=>hx d (by simp [hd])]
theorem EW {p:UInt8->Bool} (hp:∀ c,aW c=false->p c=false) {l x rest:List UInt8} {a:Nat} (h:l.drop a=x ++ rest) (hx:∀ c ∈ x,p c=true) (hr:iM rest):b8 p l a=a + x.length:=by
 rw [b8,h,MA hp hx hr]
theorem M3 (c:UInt8) (h:aW c=false):bV c=false:=by
 have:=cU (p:=fun c=>aW c || !bV c) (by decide +kernel) c
 rw [h] at this
 simpa using this
theorem CU {l x rest:List UInt8} {a:Nat} (h:l.drop a=x ++ rest) (hr:iM rest) (hx:bR x=true):eT l a=.ok 1 x 0 (a + x.length)/\∃ c,l[a]? = some c/\(c == 32 || c == 9 || c == 10)=false/\(c == 35)=false:=by
 obtain ⟨c,h0,h1,h2,h3⟩:=(D9 x).1 hx
 have hc:l[a]? = some c:=by
  cases x with
  | nil=>cases h0
  | cons d x=>simp at h0; subst h0; exact sE h
 have hz:b8 aW l a=a + x.length:=EW (fun _ h=>h) h h3 hr
 have hsk:=cU (p:=fun c=>!(bQ c.toNat) || (!(c == 32 || c == 9 || c == 10) && !(c == 35))) (by decide +kernel) c
 simp only [h2,Bool.not_true,Bool.false_or,Bool.and_eq_true,Bool.not_eq_true'] at hsk
 refine ⟨?_,c,hc,hsk⟩
 have hn:(l[a + x.length]? == some 45)=false:=by
  have:=CE h 0
  rw [Nat.add_zero] at this
  rw [this]
  cases hq:rest[0]? with
  | none=>rfl
  | some d=>exact (hr d hq).2
 have h16:decide (16 < a + x.length - a)=false:=by simp; omega
 simp only [eT,hc,h2,aM,jS,hz,h16,hn,aG,D2 h]
theorem FS {l rest:List UInt8} {a:Nat} {n:Int} (h:l.drop a=bM n ++ rest) (hr:iM rest) (h1:-9223372036854775808<=n) (h2:n<=9223372036854775807) :
 eT l a=.ok 2 [] n (a + (bM n).length)/\∃ c,l[a]? = some c/\(c == 32 || c == 9 || c == 10)=false/\(c == 35)=false:=by
 have hm:n.natAbs < 10 ^ (19 + 1):=by omega
 have hd:=uP 19 n.natAbs hm
 obtain ⟨c0,ds,hds⟩:∃ c ds,digs n.natAbs=c :: ds:=by
  cases hq:digs n.natAbs with
  | nil=>exact absurd hq (zI _)
  | cons c ds=>exact ⟨c,ds,rfl⟩
 have hc0:=lE.1 (hd c0 (by rw [hds]; simp))
 have hlim:∀ neg,neg=decide (n < 0)->valL (dY neg) 0 (digs n.natAbs)=some n.natAbs/\signed neg n.natAbs=n:=fun neg hn=>by
  rw [C7 (by cases neg<;>decide) _ _ (Nat.zero_le _) hd,rE 19 _ hm]
  have:n.natAbs<=dY neg:=by subst hn; unfold dY; cases hh:decide (n < 0)<;>simp at hh ⊢<;>omega
  refine ⟨by simp [this],?_⟩
  subst hn; unfold signed; cases hh:decide (n < 0)<;>simp at hh ⊢<;>omega
 have fin:∀ (f:Nat) (neg:Bool),neg=decide (n < 0)->l.drop f=digs n.natAbs ++ rest->(l[a]? == some 45)=neg->(bif neg then a + 1 else a)=f->kN l a=.ok 2 [] n (f + (digs n.natAbs).length):=fun f neg hn hf hng hff=>by
  have hz:b8 bV l f=f + (digs n.natAbs).length:=EW M3 hf hd hr
  have hw:pO l (f + (digs n.natAbs).length)=false:=by
   have:=CE hf 0
   rw [Nat.add_zero] at this
   unfold pO
   rw [this]
   cases hq:rest[0]? with
   | none=>rfl
   | some d=>show (aW d && !bV d || d == 45)=false; rw [(hr d hq).1,(hr d hq).2]; rfl
  have hs:((digs n.natAbs == []) || ((digs n.natAbs)[0]? == some 48 && (decide (1 < (digs n.natAbs).length) || neg)))=false:=by
   rcases bG 0 n.natAbs with h0 | h0
   · have h3:=sK 19 n.natAbs hm h0
     have e1:((digs n.natAbs)[0]? == some 48)=false:=by rw [beq_eq_false_iff_ne]; exact h3
     have e2:(digs n.natAbs == [])=false:=by rw [beq_eq_false_iff_ne]; exact zI _
     rw [e1,e2]; rfl
   · obtain rfl:n=0:=by omega
     subst hn
     rw [show (0:Int).natAbs=0 from rfl,mO (by omega)]; decide
  simp only [kN,hng,hff,hz,D2 hf,hs,aG,(hlim neg hn).1,hw,(hlim neg hn).2]
 cases hn:decide (n < 0) with
 | true=>
  have e:bM n=45 :: digs n.natAbs:=by simp only [bM,hn,aM]
  rw [e] at h ⊢
  have hc:=sE h
  refine ⟨?_,45,hc,by decide,by decide⟩
  have e1:bQ ((45:UInt8).toNat:Int)=false:=by decide
  have e2:(bV 45 || (45:UInt8) == 45)=true:=by decide
  simp only [eT,hc,e1,e2,aG,aM]
  rw [fin (a + 1) true hn.symm (GJ h) (by rw [hc]; decide) rfl]
  simp; omega
 | false=>
  have e:bM n=digs n.natAbs:=by simp only [bM,hn,aG]
  rw [e] at h ⊢
  have hc:l[a]? = some c0:=by rw [hds] at h; exact sE h
  have hsk:=cU (p:=fun c=>!(bV c) || ((!(c == 32 || c == 9 || c == 10) && !(c == 35)) && (!(bQ c.toNat) && !(c == 45)))) (by decide +kernel) c0
  have hd0:=hd c0 (by rw [hds]; simp)
  simp only [hd0,Bool.not_true,Bool.false_or,Bool.and_eq_true,Bool.not_eq_true'] at hsk
  obtain ⟨h3,h4,h5⟩:=hsk
  refine ⟨?_,c0,hc,h3⟩
  simp only [eT,hc,h4,hd0,Bool.true_or,aG,aM]
  exact fin a false hn.symm h (by rw [hc]; simpa using h5) rfl
theorem GS {l rest:List UInt8} {a:Nat} {t:Tx} (hf:TkFit t) (ho:G4 t.k t.x t.n=true) (h:l.drop a=hZ t.k t.x t.n ++ rest) (hr:t.k=1\/t.k=2->iM rest) :
 eT l a=.ok t.k t.x t.n (a + (hZ t.k t.x t.n).length)/\t.k ≠ 0/\∃ c,l[a]? = some c/\(c == 32 || c == 9 || c == 10)=false/\(c == 35)=false:=by
 obtain ⟨k,x,n,b⟩:=t
 have hlo:=hf.lo; have hhi:=hf.hi
 simp only at ho h hlo hhi ⊢
 unfold G4 at ho
 cases h1:k == 1 with
 | true=>
  obtain rfl:k=1:=by simpa using h1
  simp only [h1,aM,Bool.and_eq_true,beq_iff_eq] at ho
  obtain ⟨rfl,ho⟩:=ho
  have e:hZ 1 x 0=x:=rfl
  rw [e] at h ⊢
  exact ⟨(CU h (hr (.inl rfl)) ho).1,by decide,(CU h (hr (.inl rfl)) ho).2⟩
 | false=>
 cases h2:k == 2 with
 | true=>
  obtain rfl:k=2:=by simpa using h2
  simp only [h1,h2,aM,aG,beq_iff_eq] at ho
  subst ho
  have e:hZ 2 [] n=bM n:=rfl
  rw [e] at h ⊢
  exact ⟨(FS h (hr (.inr rfl)) hlo hhi).1,by decide,(FS h (hr (.inr rfl)) hlo hhi).2⟩
 | false=>
 cases h3:k == 3 with
 | true=>
  obtain rfl:k=3:=by simpa using h3
  simp only [h1,h2,h3,aM,aG,Bool.and_eq_true,beq_iff_eq,decide_eq_true_eq] at ho
  obtain ⟨rfl,hl,hx⟩:=ho
  have e:hZ 3 x 0=yC x:=rfl
  rw [e] at h ⊢
  exact ⟨(zR h hl hx).1,by decide,(zR h hl hx).2⟩
 | false=>
 cases h4:k == 4 with
 | false=>simp only [h1,h2,h3,h4,aG] at ho; cases ho
 | true=>
  obtain rfl:k=4:=by simpa using h4
  simp only [h1,h2,h3,h4,aM,aG,Bool.and_eq_true,beq_iff_eq] at ho
  obtain ⟨rfl,ho⟩:=ho
  have e:hZ 4 x 0=x:=rfl
  rw [e] at h ⊢
  match x,ho with
  | [c],ho=>exact ⟨(AO h ho).1,by decide,(AO h ho).2⟩
  | [],ho=>cases ho
  | _ :: _ :: _,ho=>cases ho
def qL (g:List UInt8):Prop:=∀ rest,c8 false (g ++ rest)=g.length + c8 false rest
theorem f7:qL []:=fun rest=>by simp
abbrev fY:Type:=List (List UInt8 × Tx)
def bU:fY->List UInt8
 | []=>[]
 | (g,t) :: r=>g ++ (iW t ++ bU r)
def cJ:fY->Prop
 | []=>True
 | (g,t) :: r=>qL g/\TkFit t/\okT t=true/\(t.k=1\/t.k=2->iM (bU r))/\cJ r
theorem iY:∀ (a b:fY),bU (a ++ b)=bU a ++ bU b
 | [],b=>rfl
 | (g,t) :: r,b=>by rw [List.cons_append,bU,bU,iY r b]; simp [List.append_assoc]
def dE (c:UInt8):Tx:=⟨4,[c],0,0⟩
def eJ (x:List UInt8):Tx:=⟨1,x,0,0⟩
theorem gO:qL [32]:=fun rest=>by
 rw [List.cons_append,List.nil_append]
 show c8 false (32 :: rest)=1 + c8 false rest
 rw [Nat.add_comm]
 simp [c8]
theorem lC {c:UInt8} {r:List UInt8} (h1:aW c=false) (h2:(c == 45)=false):iM (c :: r):=fun d hd=>by
 simp at hd; subst hd; exact ⟨h1,h2⟩
theorem eH {c:UInt8} {g:List UInt8} {r:fY} (hg:qL g) (hc:eS c.toNat=true) (hr:cJ r):cJ ((g,dE c) :: r):=by
 refine ⟨hg,⟨by show (-9223372036854775808:Int)<=0; decide,by show (0:Int)<=9223372036854775807; decide,by show 1<=100000; decide⟩,?_,fun h=>(by rcases h with h | h<;>cases h),hr⟩
 show ((0:Int) == 0 && eS c.toNat)=true
 rw [hc]; rfl
theorem eC {x g:List UInt8} {r:fY} (hg:qL g) (hx:bR x=true) (hr:cJ r) (hs:iM (bU r)):cJ ((g,eJ x) :: r):=by
 refine ⟨hg,⟨by show (-9223372036854775808:Int)<=0; decide,by show (0:Int)<=9223372036854775807; decide,by show x.length<=100000; have:=jZ hx; omega⟩,?_,fun _=>hs,hr⟩
 show ((0:Int) == 0 && bR x)=true
 rw [hx]; rfl
abbrev kS:Type:=Int × List UInt8 × Int
def cI (l:fY):List kS:=l.map fun u=>CD u.2
theorem y8 (a b:fY):cI (a ++ b)=cI a ++ cI b:=List.map_append
theorem bC {ts:List Tk} {n:Nat} {k m:Int} {x:List UInt8} {R:List kS} (h:(ts.map bY).drop n=(k,x,m) :: R):n < ts.length/\(bB ts n).k=k/\(bB ts n).x=x/\(bB ts n).n=m/\(ts.map bY).drop (n + 1)=R:=by
 have h1:n < (ts.map bY).length:=by
  rcases bG n (ts.map bY).length with h1 | h1
  · exact h1
  · rw [List.drop_eq_nil_iff.2 h1] at h; cases h
 rw [List.drop_eq_getElem_cons h1] at h
 obtain ⟨h2,h3⟩:=List.cons.inj h
 have hn:n < ts.length:=by simpa using h1
 have e:bB ts n=ts[n]:=by unfold bB; simp [List.getD_eq_getElem?_getD,aV hn]
 rw [List.getElem_map] at h2
 simp only [bY,Prod.mk.injEq] at h2
 exact ⟨hn,by rw [e]; exact h2.1,by rw [e]; exact h2.2.1,by rw [e]; exact h2.2.2,h3⟩
theorem kZ {ts:List Tk} {n:Nat} {y:kS} {R:List kS} (h:(ts.map bY).drop n=y :: R) (hR:R ≠ []):n + 1 < ts.length/\cP ts n=n + 1:=by
 have h1:n + 1 < ts.length:=by
  have:=congrArg List.length h
  rw [List.length_drop,List.length_map,List.length_cons] at this
  have:0 < R.length:=List.length_pos_iff.2 hR
  omega
 exact ⟨h1,if_pos h1⟩
theorem m8 {ts:List Tk} {n:Nat} {xs R:List kS} (h:(ts.map bY).drop n=xs ++ R):(ts.map bY).drop (n + xs.length)=R:=by
 rw [<-List.drop_drop,h,List.drop_left]
abbrev cN (c:UInt8):kS:=(4,[c],0)
def FD:PC:=.gh (.ord  [.q (.v 53 8),.q (.v 54 8),.q (.q 55 (.nc (.t 54))),.q (.q 56 (.fa 3 (.t 55))),.q (.q 57 (.fa 1 (.t 56))),.q (.l 58 (.ld1 (.t 57))),.q (.v 59 8),.m (.a 60 (.cl 39 [(.t 59)] [2,1,3,4])),.rc (.v 53 8),.rc (.v 54 8),.rc (.q 55 (.nc (.t 54))),.rc (.q 56 (.fa 3 (.t 55))),.rc (.q 57 (.fa 1 (.t 56))),.rc (.l 58 (.ld1 (.t 57))),.m (.e 61 (.bsl 62 3 [(.t 60)])),.rc (.v 53 8),.rc (.v 54 8),.rc (.q 55 (.nc (.t 54))),.rc (.q 56 (.fa 3 (.t 55))),.rc (.q 57 (.fa 1 (.t 56))),.rc (.l 58 (.ld1 (.t 57))),.m (.e 62 (.ap 62 3 64 (.t 58) (.t 61))),.rc (.v 53 8),.q (.q 63 (.nc (.t 53))),.q (.q 64 (.fa 3 (.t 63))),.q (.q 65 (.fa 1 (.t 64))),.m (.s (.st 1 (.t 65) (.t 62)))])
@[go_sem ↓] theorem aAJ:cW FD:=cZ _
def DU:PC:=.gh (.ord  [.q (.v 69 8),.q (.v 70 8),.q (.q 71 (.nc (.t 70))),.q (.q 72 (.fa 3 (.t 71))),.q (.q 73 (.fa 2 (.t 72))),.q (.l 74 (.ld1 (.t 73))),.q (.v 75 8),.m (.a 76 (.cl 40 [(.t 75)] [2,1,3,4])),.rc (.v 69 8),.rc (.v 70 8),.rc (.q 71 (.nc (.t 70))),.rc (.q 72 (.fa 3 (.t 71))),.rc (.q 73 (.fa 2 (.t 72))),.rc (.l 74 (.ld1 (.t 73))),.m (.e 77 (.bsl 56 2 [(.t 76)])),.rc (.v 69 8),.rc (.v 70 8),.rc (.q 71 (.nc (.t 70))),.rc (.q 72 (.fa 3 (.t 71))),.rc (.q 73 (.fa 2 (.t 72))),.rc (.l 74 (.ld1 (.t 73))),.m (.e 78 (.ap 56 2 40 (.t 74) (.t 77))),.rc (.v 69 8),.q (.q 79 (.nc (.t 69))),.q (.q 80 (.fa 3 (.t 79))),.q (.q 81 (.fa 2 (.t 80))),.m (.s (.st 1 (.t 81) (.t 78)))])
@[go_sem ↓] theorem aAG:cW DU:=cZ _
def DQ:PC:=.gh (.reg [.v 48 8,.a 49 (.cl 35 [(.t 48)] [2,1,3,4])])
@[go_sem ↓] theorem YM:cW DQ:=cZ _
def nG:PC:=.seq (.seq (.gh (.reg [.v 93 8,.q 94 (.nc (.t 93)),.q 95 (.fa 3 (.t 94)),.l 96 (.ldn 3 (.t 95)),.a 97 (.cq 31 [(.t 96)]),.v 9 97])) (.seq (.reg [.v 98 9,.q 99 (.bin .neq true (.t 98) (.i 0))]) (.cond (.t 99) (.seq (.reg [.q 100 (.bd [(.int .i64 0),(.slice none 0 0),(.slice none 0 0)] []),.v 101 9,.s (.st 3 (.t 2) (.t 100)),.v 3 101,.q 4 (.mv (.i 0))]) .ret) .skip))) (.seq (.reg [.v 102 8,.q 103 (.nc (.t 102)),.q 104 (.fa 3 (.t 103)),.l 105 (.ldn 3 (.t 104)),.s (.st 3 (.t 2) (.t 105)),.q 3 (.mv (.i 0)),.q 4 (.mv (.i 0))]) .ret)
@[go_sem ↓] theorem Y7:cW nG:=cZ _
def CZ:PC:=.seq (.seq (.gh (.reg [.v 82 8,.q 83 (.nc (.t 82)),.q 84 (.fa 1 (.t 83)),.l 85 (.ld1 (.t 84))])) (.cond (.t 85) (.seq (.ord  [.q (.q 86 (.bd [(.int .i64 0),(.slice none 0 0),(.slice none 0 0)] [])),.q (.v 87 8),.q (.q 88 (.nc (.t 87))),.q (.q 89 (.fa 2 (.t 88))),.q (.l 90 (.ld1 (.t 89))),.m (.s (.st 3 (.t 2) (.t 86))),.rc (.v 87 8),.rc (.q 88 (.nc (.t 87))),.rc (.q 89 (.fa 2 (.t 88))),.rc (.l 90 (.ld1 (.t 89))),.m (.q 3 (.mv (.i 2))),.rc (.v 87 8),.rc (.q 88 (.nc (.t 87))),.rc (.q 89 (.fa 2 (.t 88))),.rc (.l 90 (.ld1 (.t 89))),.m (.v 4 90)]) .ret) .skip)) (.seq (.reg [.v 91 8,.a 92 (.cl 41 [(.t 91)] [0])]) (nG))
@[go_sem ↓] theorem aAC:cW CZ:=cZ _
def HB:PC:=.seq (.gh (.reg [.v 35 8,.a 36 (.cl 37 [(.t 35),(.k (.string (mk [59])))] [2,1,3,4])])) (.seq (.block 0 (.loop (.seq (.seq (.reg [.v 37 8,.q 38 (.nc (.t 37)),.q 39 (.fa 1 (.t 38)),.l 40 (.ld1 (.t 39)),.q 41 (.not (.t 40)),.v 42 41,⟨some 43,(some (42,true)),.q (.mv (.t 5))⟩,⟨some 44,(some (42,true)),.cl 38 [(.t 43)] [1]⟩,⟨some 45,(some (42,true)),.q (.fld1 0 (.t 44))⟩,⟨some 46,(some (42,true)),.q (.bin .neq true (.t 45) (.i 0))⟩,.a 47 (.pick (.t 42) (.t 46) (.k (.bool false)))]) (.cond (.t 47) .skip (.exit 0))) (.block 1 (.block 2 (.seq (.reg [.v 51 8,.a 52 (.cl 34 [(.t 51),(.k (.string (mk [101,110,117,109])))] [2,1,3,4]),.v 50 52]) (.cond (.t 50) (FD) (.seq (.reg [.v 67 8,.a 68 (.cl 34 [(.t 67),(.k (.string (mk [115,116,114,117,99,116])))] [2,1,3,4]),.v 66 68]) (.cond (.t 66) (DU) (DQ)))))))))) (CZ))
@[go_sem ↓] theorem aBD:cW HB:=cZ _
def F9:PC:=.seq (.gh (.reg [.v 29 8,.v 30 8,.a 31 (.cl 36 [(.t 30),(.k (.bool false))] [2,1,3,4]),.q 32 (.nc (.t 29)),.q 33 (.fa 3 (.t 32)),.q 34 (.fa 0 (.t 33)),.s (.st 1 (.t 34) (.t 31))])) (HB)
@[go_sem ↓] theorem aA7:cW F9:=cZ _
def G9:PC:=.seq (.seq (.gh (.reg [.v 24 8,.a 25 (.cl 34 [(.t 24),(.k (.string (mk [118,101,114,115,105,111,110])))] [2,1,3,4]),.q 26 (.not (.t 25))])) (.cond (.t 26) (.reg [.v 27 8,.a 28 (.cl 35 [(.t 27)] [2,1,3,4])]) .skip)) (F9)
@[go_sem ↓] theorem aA1:cW G9:=cZ _
def PE:PC:=.seq (.reg [.e 2 (.al (.agg #[(.int .i64 0),(.slice none 0 0),(.slice none 0 0)]) 25),.q 3 (.mv (.i 0)),.q 4 (.mv (.i 0))]) (.seq (.reg [.v 11 0,.a 12 (.cl 33 [(.t 11)] []),.v 10 12,.q 13 (.ex (.t 10) 0),.q 14 (.ex (.t 10) 1),.q 15 (.ex (.t 10) 2),.v 5 13,.v 6 14,.v 7 15]) (.seq (.seq (.reg [.v 16 6,.q 17 (.bin .neq true (.t 16) (.i 0))]) (.cond (.t 17) (.seq (.reg [.q 18 (.bd [(.int .i64 0),(.slice none 0 0),(.slice none 0 0)] []),.v 19 6,.v 20 7,.s (.st 3 (.t 2) (.t 18)),.v 3 19,.v 4 20]) .ret) .skip)) (.seq (.reg [.v 21 5,.q 22 (.bd [(.pointer none),(.bool false),(.int .i64 0),(.int .i64 0),(.slice none 0 0),(.slice none 0 0)] [(0,1,(.t 21))]),.e 23 (.bx 70 (.t 22)),.v 8 23]) (G9))))
def lO:List RV:=[.ld (.ldn 3 (.t 2)),.mv (.t 3),.mv (.t 4)]
theorem YN:aY Tryz.prog true ⟨fun r k=>if r=5/\k=1 then .own [2,1,3,4] else if r=6/\k=1 then .own [2,1,3,4] else if r=7/\k=2 then .own [2,1,3,4] else if r=8/\k=1 then .own [2,1,3,4] else if r=9/\k=7 then .own [1] else if r=11/\k=1 then .own [2,1,3,4] else if r=12/\k=7 then .own [2,1,3,4] else if r=13/\k=1 then .own [2,1,3,4] else if r=14/\k=7 then .own [2,1,3,4] else if r=10/\k=1 then .own [2,1,3,4] else if r=17/\k=1 then .own [0] else if r=18/\k=4 then .q else .own [],fun r=>[5,7,8,15,18,10,12,14].contains r⟩ Tryz.f12=some (PE,lO):=by kernel_rfl
def rP:PC:=.gh (.ord  [.q (.v 53 8),.q (.v 54 8),.q (.q 55 (.nc (.t 54))),.q (.q 56 (.fa 3 (.t 55))),.q (.q 57 (.fa 1 (.t 56))),.q (.l 58 (.ld1 (.t 57))),.q (.v 59 8),.m (.a 60 (.cl 39 [(.t 59)] [2,1,3,4])),.rc (.v 53 8),.rc (.v 54 8),.rc (.q 55 (.nc (.t 54))),.rc (.q 56 (.fa 3 (.t 55))),.rc (.q 57 (.fa 1 (.t 56))),.rc (.l 58 (.ld1 (.t 57))),.m (.e 61 (.bsl 62 3 [(.t 60)])),.rc (.v 53 8),.rc (.v 54 8),.rc (.q 55 (.nc (.t 54))),.rc (.q 56 (.fa 3 (.t 55))),.rc (.q 57 (.fa 1 (.t 56))),.rc (.l 58 (.ld1 (.t 57))),.m (.e 62 (.ap 62 3 64 (.t 58) (.t 61))),.rc (.v 53 8),.q (.q 63 (.nc (.t 53))),.q (.q 64 (.fa 3 (.t 63))),.q (.q 65 (.fa 1 (.t 64))),.m (.s (.st 1 (.t 65) (.t 62)))])
@[go_sem ↓] theorem YG:cW rP:=cZ _
def rN:PC:=.gh (.ord  [.q (.v 69 8),.q (.v 70 8),.q (.q 71 (.nc (.t 70))),.q (.q 72 (.fa 3 (.t 71))),.q (.q 73 (.fa 2 (.t 72))),.q (.l 74 (.ld1 (.t 73))),.q (.v 75 8),.m (.a 76 (.cl 40 [(.t 75)] [2,1,3,4])),.rc (.v 69 8),.rc (.v 70 8),.rc (.q 71 (.nc (.t 70))),.rc (.q 72 (.fa 3 (.t 71))),.rc (.q 73 (.fa 2 (.t 72))),.rc (.l 74 (.ld1 (.t 73))),.m (.e 77 (.bsl 56 2 [(.t 76)])),.rc (.v 69 8),.rc (.v 70 8),.rc (.q 71 (.nc (.t 70))),.rc (.q 72 (.fa 3 (.t 71))),.rc (.q 73 (.fa 2 (.t 72))),.rc (.l 74 (.ld1 (.t 73))),.m (.e 78 (.ap 56 2 40 (.t 74) (.t 77))),.rc (.v 69 8),.q (.q 79 (.nc (.t 69))),.q (.q 80 (.fa 3 (.t 79))),.q (.q 81 (.fa 2 (.t 80))),.m (.s (.st 1 (.t 81) (.t 78)))])
@[go_sem ↓] theorem YC:cW rN:=cZ _
def sL:PC:=.gh (.reg [.v 48 8,.a 49 (.cl 35 [(.t 48)] [2,1,3,4])])
@[go_sem ↓] theorem YE:cW sL:=cZ _
def pcG12m_15:PC:=.seq (.seq (.gh (.reg [.v 82 8,.q 83 (.nc (.t 82)),.q 84 (.fa 1 (.t 83)),.l 85 (.ld1 (.t 84))])) (.cond (.t 85) (.seq (.ord  [.q (.q 86 (.bd [(.int .i64 0),(.slice none 0 0),(.slice none 0 0)] [])),.q (.v 87 8),.q (.q 88 (.nc (.t 87))),.q (.q 89 (.fa 2 (.t 88))),.q (.l 90 (.ld1 (.t 89))),.m (.s (.st 3 (.t 2) (.t 86))),.rc (.v 87 8),.rc (.q 88 (.nc (.t 87))),.rc (.q 89 (.fa 2 (.t 88))),.rc (.l 90 (.ld1 (.t 89))),.m (.q 3 (.mv (.i 2))),.rc (.v 87 8),.rc (.q 88 (.nc (.t 87))),.rc (.q 89 (.fa 2 (.t 88))),.rc (.l 90 (.ld1 (.t 89))),.m (.v 4 90)]) .ret) .skip)) .skip
@[go_sem ↓] theorem YD:cW pcG12m_15:=cZ _
def uX:PC:=.seq (.gh (.reg [.v 35 8,.a 36 (.cl 37 [(.t 35),(.k (.string (mk [59])))] [2,1,3,4])])) (.seq (.block 0 (.loop (.seq (.seq (.reg [.v 37 8,.q 38 (.nc (.t 37)),.q 39 (.fa 1 (.t 38)),.l 40 (.ld1 (.t 39)),.q 41 (.not (.t 40)),.v 42 41,⟨some 43,(some (42,true)),.q (.mv (.t 5))⟩,⟨some 44,(some (42,true)),.cl 38 [(.t 43)] [1]⟩,⟨some 45,(some (42,true)),.q (.fld1 0 (.t 44))⟩,⟨some 46,(some (42,true)),.q (.bin .neq true (.t 45) (.i 0))⟩,.a 47 (.pick (.t 42) (.t 46) (.k (.bool false)))]) (.cond (.t 47) .skip (.exit 0))) (.block 1 (.block 2 (.seq (.reg [.v 51 8,.a 52 (.cl 34 [(.t 51),(.k (.string (mk [101,110,117,109])))] [2,1,3,4]),.v 50 52]) (.cond (.t 50) (rP) (.seq (.reg [.v 67 8,.a 68 (.cl 34 [(.t 67),(.k (.string (mk [115,116,114,117,99,116])))] [2,1,3,4]),.v 66 68]) (.cond (.t 66) (rN) (sL)))))))))) (pcG12m_15))
@[go_sem ↓] theorem Z3:cW uX:=cZ _
def pcG12m_7:PC:=.seq (.gh (.reg [.v 29 8,.v 30 8,.a 31 (.cl 36 [(.t 30),(.k (.bool false))] [2,1,3,4]),.q 32 (.nc (.t 29)),.q 33 (.fa 3 (.t 32)),.q 34 (.fa 0 (.t 33)),.s (.st 1 (.t 34) (.t 31))])) (uX)
@[go_sem ↓] theorem aAS:cW pcG12m_7:=cZ _
def uZ:PC:=.seq (.seq (.gh (.reg [.v 24 8,.a 25 (.cl 34 [(.t 24),(.k (.string (mk [118,101,114,115,105,111,110])))] [2,1,3,4]),.q 26 (.not (.t 25))])) (.cond (.t 26) (.reg [.v 27 8,.a 28 (.cl 35 [(.t 27)] [2,1,3,4])]) .skip)) (pcG12m_7)
@[go_sem ↓] theorem Y9:cW uZ:=cZ _
def wZ:PC:=.seq (.reg [.e 2 (.al (.agg #[(.int .i64 0),(.slice none 0 0),(.slice none 0 0)]) 25),.q 3 (.mv (.i 0)),.q 4 (.mv (.i 0))]) (.seq (.reg [.v 11 0,.a 12 (.cl 33 [(.t 11)] []),.v 10 12,.q 13 (.ex (.t 10) 0),.q 14 (.ex (.t 10) 1),.q 15 (.ex (.t 10) 2),.v 5 13,.v 6 14,.v 7 15]) (.seq (.seq (.reg [.v 16 6,.q 17 (.bin .neq true (.t 16) (.i 0))]) (.cond (.t 17) (.seq (.reg [.q 18 (.bd [(.int .i64 0),(.slice none 0 0),(.slice none 0 0)] []),.v 19 6,.v 20 7,.s (.st 3 (.t 2) (.t 18)),.v 3 19,.v 4 20]) .ret) .skip)) (.seq (.reg [.v 21 5,.q 22 (.bd [(.pointer none),(.bool false),(.int .i64 0),(.int .i64 0),(.slice none 0 0),(.slice none 0 0)] [(0,1,(.t 21))]),.e 23 (.bx 70 (.t 22)),.v 8 23]) (uZ))))
theorem T5:tD 9 PE=some (wZ,nG):=by kernel_rfl
attribute [-go_sem] fU iB fC j0 gA kC
def vU:List UInt8:=[118,101,114,115,105,111,110]
def fZ:List UInt8:=[101,110,117,109]
def iT:List UInt8:=[115,116,114,117,99,116]
def tQ (w:List UInt8) (ts:List Tk) (z:Fs):Fs:=bif aX 1 w ts z then ⟨false,z.off,cP ts z.n⟩ else fG ts z
theorem SB {w:List UInt8} {ts:List Tk} {z:Fs} (h:z.n < ts.length):z.n<=(tQ w ts z).n/\(tQ w ts z).n < ts.length:=by
 unfold tQ
 cases aX 1 w ts z
 · rw [aG,j8]; exact ⟨Nat.le_refl _,h⟩
 · exact nJ h
def j9 (ts:List Tk):Nat->List En->List St->Fs->(List En × List St) × Fs
 | 0,a,b,z=>((a,b),z)
 | f + 1,a,b,z=>bif z.bad || (bB ts z.n).k == 0 then ((a,b),z) else
  bif aX 1 fZ ts z then j9 ts f (a ++ [(iU ts (bK 1 fZ ts z)).1]) b (iU ts (bK 1 fZ ts z)).2
  else bif aX 1 iT ts z then j9 ts f a (b ++ [(jF ts (bK 1 iT ts z)).1]) (jF ts (bK 1 iT ts z)).2
  else ((a,b),fG ts z)
theorem lH (ts:List Tk) (f:Nat) (a:List En) (b:List St) (z:Fs):j9 ts (f + 1) a b z=bif z.bad || (bB ts z.n).k == 0 then ((a,b),z) else
 bif aX 1 fZ ts z then j9 ts f (a ++ [(iU ts (bK 1 fZ ts z)).1]) b (iU ts (bK 1 fZ ts z)).2
 else bif aX 1 iT ts z then j9 ts f a (b ++ [(jF ts (bK 1 iT ts z)).1]) (jF ts (bK 1 iT ts z)).2
 else ((a,b),fG ts z):=rfl
def xL (ts:List Tk):Fs:=tQ vU ts ⟨false,0,0⟩
def PF (ts:List Tk):Int:=jM false ts (xL ts)
def IJ (ts:List Tk):Fs:=cA [59] ts (jK false ts (xL ts))
def xZ (ts:List Tk):(List En × List St) × Fs:=j9 ts (ts.length + 1) [] [] (IJ ts)
def F0 (ts:List Tk):Sc:=⟨PF ts,(xZ ts).1.1,(xZ ts).1.2.map (oM ((xZ ts).1.1.map En.nm))⟩
def LU:Sc:=⟨0,[],[]⟩
def v7 (x:List UInt8):Sc × Int × Int:=
 bif (bH x).err != 0 then (LU,(bH x).err,(bH x).off) else
 bif (xZ (bH x).toks).2.bad then (LU,2,(xZ (bH x).toks).2.off) else
 bif cH (F0 (bH x).toks) != 0 then (LU,cH (F0 (bH x).toks),0) else (F0 (bH x).toks,0,0)
theorem JB {ts:List Tk} (h:Tks ts):∀ (f:Nat) (a:List En) (b:List St) (z:Fs),z.n < ts.length->(∀ x ∈ a,EnP x)->(∀ x ∈ b,StP x)->
 ((∀ x ∈ (j9 ts f a b z).1.1,EnP x)/\∀ x ∈ (j9 ts f a b z).1.2,StP x)/\(j9 ts f a b z).1.1.length<=a.length + f/\(j9 ts f a b z).1.2.length<=b.length + f
 | 0,a,b,z,_,ha,hb=>⟨⟨ha,hb⟩,Nat.le_refl _,Nat.le_refl _⟩
 | f + 1,a,b,z,hn,ha,hb=>by
  rw [lH]
  cases z.bad || (bB ts z.n).k == 0
  · cases aX 1 fZ ts z
    · cases aX 1 iT ts z
      · refine ⟨⟨ha,hb⟩,?_,?_⟩<;>(simp only [aG]; omega)
      · have h1:=fW (k:=1) (w:=iT) hn
        have ih:=JB h f a (b ++ [(jF ts (bK 1 iT ts z)).1]) _ (O8 h1.2).2 ha fun x hx=>by
         rcases List.mem_append.1 hx with hx | hx
         · exact hb x hx
         · rw [List.mem_singleton.1 hx]; exact aAD h h1.2
        rw [aG,aG,aM]
        refine ⟨ih.1,?_,?_⟩
        · have:=ih.2.1; omega
        · have:=ih.2.2; rw [List.length_append,List.length_singleton] at this; omega
    · have h1:=fW (k:=1) (w:=fZ) hn
      have ih:=JB h f (a ++ [(iU ts (bK 1 fZ ts z)).1]) b _ (PZ h1.2).2 (fun x hx=>by
       rcases List.mem_append.1 hx with hx | hx
       · exact ha x hx
       · rw [List.mem_singleton.1 hx]; exact aAE h h1.2) hb
      rw [aG,aM]
      refine ⟨ih.1,?_,?_⟩
      · have:=ih.2.1; rw [List.length_append,List.length_singleton] at this; omega
      · have:=ih.2.2; omega
  · refine ⟨⟨ha,hb⟩,?_,?_⟩<;>(simp only [aM]; omega)
theorem ZG {ts:List Tk} (h:Tks ts):(xL ts).n < ts.length:=(SB (z:=⟨false,0,0⟩) h.e.pos).2
def mI:W.Spec:=fun av H K=>∃ x,av=[tS x]/\H=[]/\K (.tu [.gs (aA (v7 (bl x)).1),iA .i64 (v7 (bl x)).2.1,iA .i64 (v7 (bl x)).2.2]) []
noncomputable def j1:dH:=[(33,.s kC),(34,.s sS),(35,.s pF),(36,.s m9),(37,.s mS),(38,.s (fU 123)),(39,.s HR),(40,.s IX),(31,.f ckFn)]
theorem IA:gG Tryz.prog j1:=aD aCD (aD EY (aD oX (aD xK (aD v6 (aD qG (aD WU (aD MC (aL KR (aC _)))))))))
theorem QV:sp j1 33=kC:=rfl
theorem QB:sp j1 34=sS:=rfl
theorem RY:sp j1 35=pF:=rfl
theorem RU:sp j1 36=m9:=rfl
theorem RB:sp j1 37=mS:=rfl
theorem R5:sp j1 38=fU 123:=rfl
theorem R4:sp j1 39=HR:=rfl
theorem SJ:sp j1 40=IX:=rfl
theorem QL:kO j1 31=some ckFn:=rfl
theorem W7 {x:ByteArray} {K:S->Hp->Prop} (h:(bH (bl x)).err=0) (hK:K (.tu [.c1 (.pt 0 0),iA .i64 0,iA .i64 0]) [fQ 123 (bH (bl x)).toks 0]):kC [tS x] [] K:=⟨fun _=>hK,fun h'=>absurd h h'⟩
theorem RW {x:ByteArray} {K:S->Hp->Prop} (h:(bH (bl x)).err ≠ 0) (hK:K (.tu [.c1 (.vl (.pointer none)),iA .i64 (bH (bl x)).err,iA .i64 (bH (bl x)).off]) []):kC [tS x] [] K:=⟨fun h'=>absurd h' h,fun _=>hK⟩
abbrev zSc:B:=.cells [.vl (.int .i64 0),.vl (.slice none 0 0),.vl (.slice none 0 0)] 25
abbrev EG (b1:B) (ver:Int) (z:Fs) (es:List En) (ss:List St):Hp:=[zSc,b1,.cells (psC ver z.bad z.off es.length ss.length) 70,.row (es.map aQ) 62 3,.row (ss.map aJ) 56 2]
abbrev II:Fr:=eL [(2,.va (.c1 (.pt 0 0))),(8,.va (.c1 (.pt 2 0)))]
def sI (K:S->Hp->Prop) (fr:Fr) (H:Hp):Prop:=∃ b1 ver z es ss,fr 2=.va (.c1 (.pt 0 0))/\fr 8=.va (.c1 (.pt 2 0))/\H=EG b1 ver z es ss/\(es.length<=1000000/\ss.length<=1000000/\∀ s ∈ ss,s.fs.length<=1000000/\∀ f ∈ s.fs,∃ d t0,A0 d t0 f.ty)/\
 vc j1 0 nG II (EG .dead ver z es (ss.map (oM (es.map En.nm)))) (gW 0 lO K)
theorem yH:lZ Tryz.prog 41=true:=by kernel_rfl
theorem RM (hs:∀ av K,mI av [] K->vc j1 0 wZ (tU av) [] (rR (sI K) (gW 0 lO K))):Meets Tryz.prog 12 mI:=by
 have hb:Tryz.f12.body=some _:=rfl
 refine LH (n:=9) Tryz.func12 hb YN rfl T5 IA (fun av H K h=>?_) (fun av H K h=>?_) (Mid:=sI) hs ?_
 · obtain ⟨x,rfl,_⟩:=h
   rw [Tryz.ntmps12]
   show 1<=_
   decide
 · obtain ⟨x,rfl,rfl,_⟩:=h
   exact ⟨rfl,fun y hy=>⟨_,List.mem_singleton.1 hy⟩⟩
 intro K w0 ro0 fr E ro a w h0 hM hf hR hG Q hQ
 obtain ⟨b1,ver,z,es,ss,h2,h8,hH,⟨l1,l2,l3⟩,hv⟩:=hM
 match E,hH with
 | [(g0,k0),(g1,k1),(g2,k2),(g3,k3),(g4,k4)],hH=>
 simp only [hp,List.map_cons,List.map_nil,List.cons.injEq,and_true] at hH
 obtain ⟨rfl,rfl,rfl,rfl,rfl⟩:=hH
 have hRs:=ZE hR h0 fun s hs f hf=>(l3 s hs).2 f hf
 obtain ⟨bp,hbp,c3,c4,c5⟩:=M0 hR
 have s8:=hf.slot 8
 rw [h8] at s8
 obtain ⟨gg,bb,e1,e2,e3,e4⟩:=s8
 obtain rfl:g2=gg:=bJ e1
 rw [hbp] at e3
 obtain rfl:=bJ e3
 refine Q7 (v:=.pointer (some ⟨bp,0,none⟩)) rfl rfl rfl rfl rfl e4 (by rw [hf.size,Tryz.ntmps12]; decide) yH
  (DJ w bp ver g3.ob g4.ob g3.cap g4.cap es ss (es.map En.nm) ro hRs l1 l2 (fun s hs=>(l3 s hs).1) c3 c4 c5) ?_
 rintro e w' ⟨rfl,L,hL,hC,hD⟩
 refine ⟨_,rfl,?_⟩
 have hT:=aCA hR h0 rfl hL hC hD
 refine hQ II _ (n4 L ro) _ w' ?hv ⟨by simp only [Act.put]; simpa using hf.size,fun i=>?_,hf.defers⟩ hT
 case hv=>exact hv
 have s2:=hf.slot 2
 rw [h2] at s2
 unfold II
 by_cases i2:i=2
 · subst i2
   rw [show eL [(2,S.va (.c1 (.pt 0 0))),(8,.va (.c1 (.pt 2 0)))] 2=.va (.c1 (.pt 0 0)) from rfl]
   simp only [Act.put]
   rw [Array.getD_eq_getD_getElem?,Array.getElem?_setIfInBounds_ne (by decide),Array.getElem?_setIfInBounds_ne (by decide),<-Array.getD_eq_getD_getElem?]
   exact s2
 · by_cases i8:i=8
   · subst i8
     rw [show eL [(2,S.va (.c1 (.pt 0 0))),(8,.va (.c1 (.pt 2 0)))] 8=.va (.c1 (.pt 2 0)) from rfl]
     simp only [Act.put]
     rw [Array.getD_eq_getD_getElem?,Array.getElem?_setIfInBounds_ne (by decide),Array.getElem?_setIfInBounds_ne (by decide),<-Array.getD_eq_getD_getElem?]
     have s8:=hf.slot 8
     rw [h8] at s8
     exact s8
   · have:eL [(2,S.va (.c1 (.pt 0 0))),(8,.va (.c1 (.pt 2 0)))] i=.un:=by
      simp [eL,put,i2,i8]
     rw [this]; trivial
end Go.Proofs.YtgogpogophflhaaGreatDoor
namespace Go.Proofs.YtgogpogophflhaaGreatDoor
open Go.W
attribute [-go_sem] fU iB fC j0 gA kC
attribute [local go_sem] QV QB RY RU RB R5 R4 SJ QL
@[local go_sem] theorem aGM (Mid:Fr->Hp->Prop) (K:Ex->Fr->Hp->Prop) (fr:Fr) (H:Hp):rR Mid K .r fr H=K .r fr H:=rfl
@[local go_sem] theorem aH7 (Mid:Fr->Hp->Prop) (K:Ex->Fr->Hp->Prop) (fr:Fr) (H:Hp):rR Mid K .n fr H=Mid fr H:=rfl
theorem HH {ts:List Tk}:∀ (f:Nat) (a:List En) (b:List St) (z:Fs),z.bad=true->j9 ts f a b z=((a,b),z)
 | 0,_,_,_,_=>rfl
 | f + 1,a,b,z,h=>by rw [lH,h,Bool.true_or,aM]
abbrev pM (ver:Int) (es:List En) (ss:List St) (ts:List Tk) (z:Fs):Hp:=[.cells [.pt 1 0,.vl (.bool z.bad),.vl (.int .i64 z.off),.vl (.int .i64 ver),.sl 2 es.length,.sl 3 ss.length] 70,fQ 123 ts z.n,.row (es.map aQ) 62 3,.row (ss.map aJ) 56 2]
theorem CJ {s:W.Spec} {ver:Int} {es:List En} {ss:List St} {ts:List Tk} {z:Fs} {av:List S} {K:S->Hp->Prop} (h:s av (pH ⟨ver,es.map aQ,ss.map aJ⟩ ts z) K):s av (pM ver es ss ts z) K:=by
 have e:pH ⟨ver,es.map aQ,ss.map aJ⟩ ts z=pM ver es ss ts z:=by simp [pH,pM]
 rw [<-e]; exact h
theorem QU:∀ av K,mI av [] K->vc j1 0 wZ (tU av) [] (rR (sI K) (gW 0 lO K)):=by
 rintro av K ⟨x,rfl,-,hK⟩
 unfold v7 at hK
 simp (maxSteps:=9^6) -dsimp only [go_sem,wZ,lO]
 by_cases hx:(bH (bl x)).err=0
 case neg=>
  refine RW hx ?_
  have hx':((bH (bl x)).err != 0)=true:=bne_iff_ne.2 hx
  rw [hx',aM] at hK
  simp (maxSteps:=9^6) -dsimp only [go_sem,hx']
  refine .sel [] (by simp) (by simp [dA]) rfl (.done ?_)
  simp (maxSteps:=9^6) -dsimp only [go_sem,dA]
  exact hK
 case pos=>
  refine W7 hx ?_
  have hx':((bH (bl x)).err != 0)=false:=by rw [hx]; rfl
  rw [hx',aG] at hK
  have ht:=KU hx
  generalize (bH (bl x)).toks=ts at *
  simp (maxSteps:=9^6) -dsimp only [go_sem]
  refine ⟨fun h=>(by cases h),fun _=>bL rfl ?_⟩
  refine .nilc 2 4 62 3 _ _ rfl rfl ?_
  refine .nilc 2 5 56 2 _ _ rfl rfl (.done ?_)
  simp (maxSteps:=9^6) -dsimp only [go_sem,uZ]
  have t7:vc j1 0 pcG12m_7.ungh (eL [(2,.va (.c1 (.pt 0 0))),(5,.va (.c1 (.pt 1 0))),(8,.va (.c1 (.pt 2 0)))]) (EG (fQ 123 ts (xL ts).n) 0 (xL ts) [] []) (rR (sI K) (gW 0 lO K)):=by
   have hn1:=ZG ht
   have hle:=ht.e.le
   unfold F0 xZ IJ PF at hK
   generalize xL ts=z1 at *
   simp (maxSteps:=9^6) -dsimp only [go_sem,pcG12m_7,lO]
   refine tR (o:=⟨0,[],[]⟩) (z:=z1) ht hn1 ?_
   simp (maxSteps:=9^6) -dsimp only [go_sem]
   have hn2:=(n5 (c:=false) hn1).2
   have hvi:=xJ (c:=false) ht hn1
   generalize jM false ts z1=ver at *
   generalize jK false ts z1=z2 at *
   refine bL rfl (.done ?_)
   simp (maxSteps:=9^6) -dsimp only [go_sem,uX]
   refine gX (o:=⟨ver,[],[]⟩) (z:=z2) ht hn2 ?_
   rw [show bl (mk [59])=[59] from rfl]
   have hn3:=(dC (w:=[59]) hn2).2
   generalize cA [59] ts z2=z3 at *
   simp (maxSteps:=9^6) -dsimp only [go_sem]
   refine cQ (α:=Nat × List En × List St × Fs) (fun x=>[(2,.va (.c1 (.pt 0 0))),(5,.va (.c1 (.pt 1 0))),(8,.va (.c1 (.pt 2 0)))])
    (fun x=>EG (fQ 123 ts x.2.2.2.n) ver x.2.2.2 x.2.1 x.2.2.1)
    (fun x=>x.2.2.2.n < ts.length/\x.2.1.length + x.1<=ts.length + 1/\x.2.2.1.length + x.1<=ts.length + 1/\(x.2.2.2.bad=true\/ts.length < x.2.2.2.n + x.1)/\j9 ts x.1 x.2.1 x.2.2.1 x.2.2.2=j9 ts (ts.length + 1) [] [] z3)
    (fun x=>x.1) (iO (ts.length + 1,[],[],z3) 5 ⟨hn3,by simp,by simp,Or.inr (by simp only; omega),rfl⟩ ?_ ?_) ?_
   · simp -dsimp only [go_sem]<;>simp
   · simp -dsimp only [go_sem]<;>simp
   rintro ⟨f,es,ss,z⟩ ⟨h1,h2,h2',h3,h4⟩
   simp only at h1 h2 h2' h3 h4
   have fin:∀ z',j9 ts (ts.length + 1) [] [] z3=((es,ss),z')->vc j1 0 pcG12m_15.ungh (eL [(2,.va (.c1 (.pt 0 0))),(8,.va (.c1 (.pt 2 0)))]) (EG (fQ 123 ts z'.n) ver z' es ss) (rR (sI K) (gW 0 lO K)):=fun z' e=>by
    have hP:=JB ht (ts.length + 1) [] [] z3 hn3 (fun x hx=>by cases hx) fun x hx=>by cases hx
    rw [e] at hK hP
    obtain ⟨⟨p1,p2⟩,p3,p4⟩:=hP
    simp only [List.length_nil,Nat.zero_add] at p1 p2 p3 p4 hK
    simp (maxSteps:=9^6) -dsimp only [go_sem,pcG12m_15,lO]
    refine ⟨fun hb=>?_,fun hb=>?_⟩
    · rw [hb,aM] at hK
      refine .sel [] (by simp) (by simp [dA]) rfl (.done ?_)
      simp (maxSteps:=9^6) -dsimp only [go_sem,dA]
      exact hK
    rw [hb,aG] at hK
    refine ⟨_,ver,z',es,ss,rfl,rfl,rfl,⟨by omega,by omega,fun s hs=>⟨by have:=(p2 s hs).l; omega,fun f hf=>((p2 s hs).f f hf).t.wrp⟩⟩,?_⟩
    have hP:ScP ⟨ver,es,ss.map (oM (es.map En.nm))⟩:=⟨hvi,by simp only; omega,by simp only [List.length_map]; omega,p1,fun t ht=>by
     obtain ⟨s,hs,rfl⟩:=List.mem_map.1 ht
     exact (p2 s hs).rs _⟩
    generalize ss.map (oM (es.map En.nm))=rr at *
    refine bL rfl (.pub 3 _ _ _ rfl (.pub 4 _ _ _ rfl (.done ?_)))
    simp (maxSteps:=9^6) -dsimp only [go_sem,nG,lO,dA]
    refine ⟨⟨_,rfl,hP.fit⟩,?_⟩
    rw [show C.sc [C.vl (Value.int IntKind.i64 ver),C.fz (List.map aQ es),C.fz (List.map aJ rr)]=⟨ver,es,rr⟩ from fX ⟨ver,es,rr⟩]
    refine ⟨fun hc=>?_,fun hc=>?_⟩
    · rw [hc,aM] at hK
      refine .sel [] (by simp) (by simp [dA]) rfl (.done ?_)
      simp (maxSteps:=9^6) -dsimp only [go_sem,dA]
      exact hK
    · rw [hc,aG] at hK
      refine .sel [] (by simp) (by simp [dA]) rfl (.done ?_)
      simp (maxSteps:=9^6) -dsimp only [go_sem,dA]
      exact hK
   obtain ⟨bb,oo,n⟩:=z
   cases bb with
   | true=>
    rw [HH _ _ _ _ rfl] at h4
    simp (maxSteps:=9^6) -dsimp only [go_sem]
    refine dW 5 (fin _ h4.symm) ?_ ?_
    · simp -dsimp only [go_sem]<;>simp
    · simp -dsimp only [go_sem]<;>simp
   | false=>
   have h3:ts.length < n + f:=by
    rcases h3 with h3 | h3
    · cases h3
    · exact h3
   simp only at h1
   obtain ⟨f,rfl⟩:∃ g,f=g + 1:=⟨f - 1,by omega⟩
   rw [lH,Bool.false_or] at h4
   simp (maxSteps:=9^6) -dsimp only [go_sem]
   refine mW ht.e h1 ?_
   simp only at h4
   cases hk:(bB ts n).k == 0 with
   | true=>
    rw [hk,aM] at h4
    have hk':((bB ts n).k != 0)=false:=by rw [bne,hk]; rfl
    simp (maxSteps:=9^6) -dsimp only [go_sem,kU,hk']
    refine dW 5 (fin _ h4.symm) ?_ ?_
    · simp -dsimp only [go_sem]<;>simp
    · simp -dsimp only [go_sem]<;>simp
   | false=>
   rw [hk,aG] at h4
   have hk':((bB ts n).k != 0)=true:=by rw [bne,hk]; rfl
   clear fin
   simp (maxSteps:=9^6) -dsimp only [go_sem,kU,hk']
   refine CJ (z:=⟨false,oo,n⟩) (hY ht h1 ?_)
   rw [show bl (mk [101,110,117,109])=fZ from rfl]
   cases he:aX 1 fZ ts ⟨false,oo,n⟩ with
   | true=>
    rw [he,aM] at h4
    obtain ⟨q1,q2,q3⟩:=tF (by decide) ht.e h1 he
    have e1:bK 1 fZ ts ⟨false,oo,n⟩=⟨false,oo,n + 1⟩:=by unfold bK; rw [he,q1]; rfl
    rw [e1] at h4 ⊢
    simp (maxSteps:=9^6) -dsimp only [go_sem]
    refine bL rfl (.done ?_)
    simp (maxSteps:=9^6) -dsimp only [go_sem,rP]
    refine CJ (z:=⟨false,oo,n + 1⟩) (U0 ht q2 ?_)
    have g1:=PZ (z:=⟨false,oo,n + 1⟩) q2
    generalize iU ts ⟨false,oo,n + 1⟩=r at *
    obtain ⟨en,z4⟩:=r
    simp only at h4 g1 ⊢
    simp (maxSteps:=9^6) -dsimp only [go_sem,aQ]
    refine ⟨by omega,?_⟩
    refine aB (f,es ++ [en],ss,z4) 5 ⟨g1.2,?_,?_,.inr ?_,h4⟩ (by simp) ?_ ?_
    · simp only [List.length_append,List.length_singleton]; omega
    · simp only; omega
    · simp only at g1 ⊢; omega
    · simp -dsimp only [go_sem]<;>simp
    · simp -dsimp only [go_sem,aQ]<;>simp [aQ]
   | false=>
   rw [he,aG] at h4
   rw [f8 he]
   simp (maxSteps:=9^6) -dsimp only [go_sem]
   refine CJ (z:=⟨false,oo,n⟩) (hY ht h1 ?_)
   rw [show bl (mk [115,116,114,117,99,116])=iT from rfl]
   cases hs:aX 1 iT ts ⟨false,oo,n⟩ with
   | true=>
    rw [hs,aM] at h4
    obtain ⟨q1,q2,q3⟩:=tF (by decide) ht.e h1 hs
    have e1:bK 1 iT ts ⟨false,oo,n⟩=⟨false,oo,n + 1⟩:=by unfold bK; rw [hs,q1]; rfl
    rw [e1] at h4 ⊢
    simp (maxSteps:=9^6) -dsimp only [go_sem]
    refine bL rfl (.done ?_)
    simp (maxSteps:=9^6) -dsimp only [go_sem,rN]
    refine CJ (z:=⟨false,oo,n + 1⟩) (UB ht q2 ?_)
    have g1:=O8 (z:=⟨false,oo,n + 1⟩) q2
    generalize jF ts ⟨false,oo,n + 1⟩=r at *
    obtain ⟨st,z4⟩:=r
    simp only at h4 g1 ⊢
    simp (maxSteps:=9^6) -dsimp only [go_sem,aJ]
    refine ⟨by omega,?_⟩
    refine aB (f,es,ss ++ [st],z4) 5 ⟨g1.2,?_,?_,.inr ?_,h4⟩ (by simp) ?_ ?_
    · simp only; omega
    · simp only [List.length_append,List.length_singleton]; omega
    · simp only at g1 ⊢; omega
    · simp -dsimp only [go_sem]<;>simp
    · simp -dsimp only [go_sem,aJ]<;>simp [aJ]
   | false=>
   rw [hs,aG] at h4
   rw [f8 hs]
   simp (maxSteps:=9^6) -dsimp only [go_sem]
   refine bL rfl (.done ?_)
   simp (maxSteps:=9^6) -dsimp only [go_sem,sL]
   refine CJ (z:=⟨false,oo,n⟩) (jW ht h1 ?_)
   simp (maxSteps:=9^6) -dsimp only [go_sem]
   refine aB (f,es,ss,fG ts ⟨false,oo,n⟩) 5 ⟨h1,?_,?_,.inl rfl,?_⟩ (by simp) ?_ ?_
   · simp only; omega
   · simp only; omega
   · rw [<-h4]; exact HH _ _ _ _ rfl
   · simp -dsimp only [go_sem]<;>simp
   · simp -dsimp only [go_sem]<;>simp
  refine hY (o:=⟨0,[],[]⟩) (z:=⟨false,0,0⟩) ht ht.e.pos ?_
  rw [show bl (mk [118,101,114,115,105,111,110])=vU from rfl]
  unfold xL tQ at t7
  cases hk:aX 1 vU ts ⟨false,0,0⟩ with
  | true=>
   rw [hk,aM] at t7
   have hF:bK 1 vU ts ⟨false,0,0⟩=⟨false,0,cP ts 0⟩:=by unfold bK; rw [hk]; rfl
   rw [hF]
   simp (maxSteps:=9^6) -dsimp only [go_sem]
   refine dW 5 t7 ?_ ?_
   · simp -dsimp only [go_sem]<;>simp
   · simp -dsimp only [go_sem]<;>simp
  | false=>
   rw [hk,aG] at t7
   rw [f8 hk]
   simp (maxSteps:=9^6) -dsimp only [go_sem]
   refine jW (o:=⟨0,[],[]⟩) (z:=⟨false,0,0⟩) ht ht.e.pos ?_
   simp (maxSteps:=9^6) -dsimp only [go_sem]
   refine dW 5 t7 ?_ ?_
   · simp -dsimp only [go_sem]<;>simp
   · simp -dsimp only [go_sem]<;>simp
theorem LL:Meets Tryz.prog 12 mI:=RM QU
end Go.Proofs.YtgogpogophflhaaGreatDoor
namespace Go.Proofs.YtgogpogophflhaaGreatDoor
open Go.W
attribute [-go_sem] fU iB fC j0 gA kC
end Go.Proofs.YtgogpogophflhaaGreatDoor
namespace Go.Proofs.YtgogpogophflhaaGreatDoor
open Go.W
def lQ (n:Int):Tx:=⟨2,[],n,0⟩
def lI (t:Ty) (g:List UInt8):fY:=
 bif t.k == 1 then [(g,eJ gM)] else bif t.k == 3 then [(g,eJ (wUint ++ bM t.s))] else bif t.k == 2 then [(g,eJ (wInt ++ bM t.s))]
 else bif t.k == 4 then [(g,eJ wText),([],dE 91),([],lQ t.s),([],dE 93)] else [(g,eJ (bl t.n))]
def dR:Nat->Ty->List UInt8->fY
 | 0,t,g=>lI t g
 | f + 1,t,g=>bif t.k == 5 then (g,eJ eW) :: ([],dE 91) :: ([],lQ t.s) :: ([],dE 93) :: ([32],eJ tZ) :: dR f (t.e.headD default) [32] else lI t g
inductive PlK (t:Ty):Prop
 | b (k:t.k=1) (s:t.s=0) (n:bl t.n=[])
 | u (k:t.k=3) (s:t.s=8\/t.s=16\/t.s=32) (n:bl t.n=[])
 | i (k:t.k=2) (s:t.s=8\/t.s=16\/t.s=32\/t.s=64) (n:bl t.n=[])
 | x (k:t.k=4) (s:0<=t.s) (n:bl t.n=[])
 | n (k:t.k=6\/t.k=7) (s:t.s=0) (m:bR (bl t.n)=true) (c:kF (bl t.n)=true)
theorem pQ {t:Ty} (h:jG t ≠ []):t.e=[]/\PlK t:=by
 unfold jG GO DA at h
 cases c0:decide (0 < (t.e.length:Int)) with
 | true=>rw [c0] at h; exact absurd rfl h
 | false=>
 rw [c0,aG] at h
 have he:t.e=[]:=List.eq_nil_of_length_eq_zero (by have:=of_decide_eq_false c0; omega)
 refine ⟨he,?_⟩
 cases c1:t.k == 1 with
 | true=>
  rw [c1,aM] at h
  cases c:t.s == 0 && bl t.n == []
  · rw [c] at h; exact absurd rfl h
  · rw [Bool.and_eq_true] at c
    exact .b (eq_of_beq c1) (eq_of_beq c.1) (eq_of_beq c.2)
 | false=>
 rw [c1,aG] at h
 cases c3:t.k == 3 with
 | true=>
  rw [c3,aM] at h
  have hk:=eq_of_beq c3
  cases c:bl t.n == [] && (t.s == 8 || t.s == 16 || t.s == 32 || (t.s == 64 && t.k == 2))
  · rw [c] at h; exact absurd rfl h
  · rw [hk] at c
    simp at c
    refine .u hk ?_ c.1
    rcases c.2 with (h | h) | h
    · exact .inl h
    · exact .inr (.inl h)
    · exact .inr (.inr h)
 | false=>
 rw [c3,aG] at h
 cases c2:t.k == 2 with
 | true=>
  rw [c2,aM] at h
  have hk:=eq_of_beq c2
  cases c:bl t.n == [] && (t.s == 8 || t.s == 16 || t.s == 32 || (t.s == 64 && true))
  · rw [c] at h; exact absurd rfl h
  · simp at c
    refine .i hk ?_ c.1
    rcases c.2 with ((h | h) | h) | h
    · exact .inl h
    · exact .inr (.inl h)
    · exact .inr (.inr (.inl h))
    · exact .inr (.inr (.inr h))
 | false=>
 rw [c2,aG] at h
 cases c4:t.k == 4 with
 | true=>
  rw [c4,aM] at h
  cases c:decide (0<=t.s) && bl t.n == []
  · rw [c] at h; exact absurd rfl h
  · rw [Bool.and_eq_true] at c
    exact .x (eq_of_beq c4) (of_decide_eq_true c.1) (eq_of_beq c.2)
 | false=>
 rw [c4,aG] at h
 cases c6:t.k == 6 || t.k == 7 with
 | false=>rw [c6] at h; exact absurd rfl h
 | true=>
  rw [c6,aM] at h
  cases c:t.s == 0 && bR (bl t.n) && kF (bl t.n)
  · rw [c] at h; exact absurd rfl h
  · rw [Bool.and_eq_true,Bool.and_eq_true] at c
    rw [Bool.or_eq_true] at c6
    exact .n (c6.imp eq_of_beq eq_of_beq) (eq_of_beq c.1.1) c.1.2 c.2
theorem KX {t:Ty} (h:jG t ≠ []) (g:List UInt8):bU (lI t g)=g ++ jG t:=by
 obtain ⟨he,hp⟩:=pQ h
 have h0:decide (0 < (t.e.length:Int))=false:=by rw [he]; rfl
 unfold lI jG GO DA
 rw [h0]
 cases hp with
 | b k s n=>rw [k,s,n]; simp [bU,eJ,iW,hZ]
 | u k s n=>rw [k,n]; rcases s with s | s | s<;>rw [s]<;>simp [bU,eJ,iW,hZ]
 | i k s n=>rw [k,n]; rcases s with s | s | s | s<;>rw [s]<;>simp [bU,eJ,iW,hZ]
 | x k s n=>rw [k,n,decide_eq_true s]; simp [bU,eJ,dE,lQ,iW,hZ]
 | n k s m c=>rw [s,m,c]; rcases k with k | k<;>rw [k]<;>simp [bU,eJ,iW,hZ]
theorem E9:∀ (f:Nat) (t:Ty) (g:List UInt8),dG f t ≠ []->bU (dR f t g)=g ++ dG f t
 | 0,t,g,h=>by
  cases hk:t.k == 5
  · rw [jL hk] at h ⊢; exact KX h g
  · rw [wF hk] at h; exact absurd rfl h
 | f + 1,t,g,h=>by
  cases hk:t.k == 5
  · rw [jL hk] at h ⊢; rw [dR,hk,aG]; exact KX h g
  · rw [j4 hk] at h ⊢
    cases c:decide (t.s < 0) || !(bl t.n == []) || (t.e.length:Int) != 1 with
    | true=>rw [c] at h; exact absurd rfl h
    | false=>
     rw [c,aG] at h
     rw [aG]
     cases q:dG f (t.e.headD default) == [] with
     | true=>rw [q] at h; exact absurd rfl h
     | false=>
      have ih:=E9 f (t.e.headD default) [32] fun e=>by rw [e] at q; cases q
      rw [dR,hk,aM,aG]
      generalize t.e.headD default=u at *
      simp [bU,ih,eJ,dE,lQ,iW,hZ,qV,wOfs,eW,tZ]
theorem LM (n:Int):n=8\/n=16\/n=32\/n=64->bR (wInt ++ bM n)=true/\bR (wUint ++ bM n)=true:=fun h=>by
 rcases h with h | h | h | h<;>rw [h]<;>exact ⟨by kernel_rfl,by kernel_rfl⟩
theorem oV {n:Int} {g:List UInt8} {r:fY} (hg:qL g) (h:cD n) (hr:cJ r) (hs:iM (bU r)):cJ ((g,lQ n) :: r):=by
 refine ⟨hg,⟨h.1,h.2,by show 0<=100000; decide⟩,?_,fun _=>hs,hr⟩
 rfl
theorem GC {t:Ty} (h:jG t ≠ []) (ht:cD t.s) {g:List UInt8} {r:fY} (hg:qL g) (hr:cJ r) (hs:iM (bU r)):cJ (lI t g ++ r):=by
 obtain ⟨_,hp⟩:=pQ h
 have sm:∀ {c:UInt8} {r:fY},aW c=false->(c == 45)=false->iM (bU (([],dE c) :: r)):=fun h1 h2=>lC h1 h2
 unfold lI
 cases hp with
 | b k s n=>rw [k]; exact eC hg (by kernel_rfl) hr hs
 | u k s n=>rw [k]; exact eC hg (LM t.s (by omega)).2 hr hs
 | i k s n=>rw [k]; exact eC hg (LM t.s s).1 hr hs
 | x k s n=>rw [k]; exact eC hg (by kernel_rfl) (eH f7 (by decide) (oV f7 ht (eH f7 (by decide) hr) (sm (by decide) (by decide)))) (sm (by decide) (by decide))
 | n k s m c=>rcases k with k | k<;>rw [k]<;>exact eC hg m hr hs
theorem G7:∀ (f:Nat) (t:Ty) (g:List UInt8) (r:fY),dG f t ≠ []->TyOk t->qL g->cJ r->iM (bU r)->cJ (dR f t g ++ r)
 | 0,t,g,r,h,ht,hg,hr,hs=>by
  cases hk:t.k == 5
  · rw [jL hk] at h; exact GC h ht.s hg hr hs
  · rw [wF hk] at h; exact absurd rfl h
 | f + 1,t,g,r,h,ht,hg,hr,hs=>by
  cases hk:t.k == 5
  · rw [jL hk] at h; rw [dR,hk,aG]; exact GC h ht.s hg hr hs
  · rw [j4 hk] at h
    cases c:decide (t.s < 0) || !(bl t.n == []) || (t.e.length:Int) != 1 with
    | true=>rw [c] at h; exact absurd rfl h
    | false=>
     rw [c,aG] at h
     cases q:dG f (t.e.headD default) == [] with
     | true=>rw [q] at h; exact absurd rfl h
     | false=>
      have hu:TyOk (t.e.headD default):=by
       simp only [Bool.or_eq_false_iff,bne_eq_false_iff_eq] at c
       match he:t.e with
       | []=>rw [he] at c; simp at c
       | a :: r=>exact ht.e a (by rw [he]; exact List.mem_cons_self ..)
      have ih:=G7 f (t.e.headD default) [32] r (fun e=>by rw [e] at q; cases q) hu gO hr hs
      rw [dR,hk,aM]
      have sm:∀ {c:UInt8} {r:fY},aW c=false->(c == 45)=false->iM (bU (([],dE c) :: r)):=fun h1 h2=>lC h1 h2
      have sp:iM (bU (dR f (t.e.headD default) [32] ++ r)):=by
       rw [iY,E9 _ _ _ fun e=>by rw [e] at q; cases q]
       exact lC (by decide) (by decide)
      exact eC hg (by kernel_rfl) (eH f7 (by decide) (oV f7 ht.s (eH f7 (by decide) (eC gO (by kernel_rfl) ih sp)) (sm (by decide) (by decide)))) (sm (by decide) (by decide))
section
variable {ts:List Tk} {n:Nat} {o:Int} {R:List kS}
theorem aK {k k' m:Int} {x w:List UInt8} (h:(ts.map bY).drop n=(k,x,m) :: R):aX k' w ts ⟨false,o,n⟩=(k == k' && x == w):=by
 obtain ⟨_,h1,h2,_⟩:=bC h
 unfold aX gH
 simp only [h1,h2,Bool.not_false,Bool.true_and]
theorem eQ {k m:Int} {x:List UInt8} (h:(ts.map bY).drop n=(k,x,m) :: R) (hR:R ≠ []):bK k x ts ⟨false,o,n⟩=⟨false,o,n + 1⟩:=by
 unfold bK
 rw [aK h,beq_self_eq_true,beq_self_eq_true,(kZ h hR).2]; rfl
theorem iG {c:UInt8} (h:(ts.map bY).drop n=cN c :: R) (hR:R ≠ []):cA [c] ts ⟨false,o,n⟩=⟨false,o,n + 1⟩:=by
 unfold cA
 rw [aK h,beq_self_eq_true,beq_self_eq_true,(kZ h hR).2]; rfl
theorem xP {c:Bool} {m:Int} (h:(ts.map bY).drop n=(2,[],m) :: R) (hR:R ≠ []) (hc:c=true->0<=m):jM c ts ⟨false,o,n⟩=m/\jK c ts ⟨false,o,n⟩=⟨false,o,n + 1⟩:=by
 obtain ⟨_,h1,_,h3,_⟩:=bC h
 have e:mA c ts ⟨false,o,n⟩=true:=by
  unfold mA
  simp only [h1,h3]
  cases c
  · rfl
  · simp [hc rfl]
 unfold jM jK
 rw [e]
 exact ⟨h3,by simp only [aM,(kZ h hR).2]⟩
theorem wU {m:Int} (h:(ts.map bY).drop n=cN 91 :: (2,[],m) :: cN 93 :: R) (hR:R ≠ []) (hm:0<=m):kR ts ⟨false,o,n⟩=m/\kL ts ⟨false,o,n⟩=⟨false,o,n + 3⟩:=by
 have h1:=(bC h).2.2.2.2
 have h2:=(bC h1).2.2.2.2
 unfold kR kL
 rw [iG h (by simp),(xP h1 (by simp) fun _=>hm).1,(xP h1 (by simp) fun _=>hm).2,iG h2 hR]
 exact ⟨rfl,rfl⟩
theorem s7 {x:List UInt8} (h:(ts.map bY).drop n=(1,x,0) :: R) (hR:R ≠ []) (hc:kF x=true):dM true ts ⟨false,o,n⟩=mk x/\cO true ts ⟨false,o,n⟩=⟨false,o,n + 1⟩:=by
 obtain ⟨_,h1,h2,_,_⟩:=bC h
 have e:iL true ts ⟨false,o,n⟩=true:=by
  unfold iL
  unfold kF at hc
  simp only [h1,h2,beq_self_eq_true,Bool.not_false,Bool.not_true,Bool.false_or,Bool.true_and]
  exact hc
 unfold dM cO
 rw [e]
 exact ⟨by simp only [aM,h2],by simp only [aM,(kZ h hR).2]⟩
end
theorem KH {x w:List UInt8} {b:UInt8} {r:List UInt8} (hc:kF x=true) (hw:w=b :: r) (hb:97<=b):(x == w)=false:=by
 subst hw
 cases x with
 | nil=>rfl
 | cons a l=>
  rw [beq_eq_false_iff_ne]
  intro h
  obtain ⟨rfl,_⟩:=List.cons.inj h
  unfold kF at hc
  rw [Bool.and_eq_true] at hc
  have:=UInt8.le_iff_toNat_le.1 (of_decide_eq_true hc.2)
  have h2:=UInt8.le_iff_toNat_le.1 hb
  have e1:(90:UInt8).toNat=90:=rfl
  have e2:(97:UInt8).toNat=97:=rfl
  omega
theorem wB {t:Ty} (h:bl t.n=[]):t.n=mk []:=by
 have:t.n.data.toList=[]:=h
 cases hn:t.n with
 | mk d=>
  rw [hn] at this
  rw [mk]
  congr 1
  exact Array.toList_inj.1 (by rw [this])
theorem aAO (ts:List Tk) (z:Fs):kG ts z=bif aX 1 gM ts z then (.mk 1 0 (mk []) [],bK 1 gM ts z) else bif aX 1 wText ts z then (.mk 4 (kR ts (bK 1 wText ts z)) (mk []) [],kL ts (bK 1 wText ts z)) else
 bif aX 1 [105,110,116,56] ts z then (.mk 2 8 (mk []) [],bK 1 [105,110,116,56] ts z) else bif aX 1 [117,105,110,116,56] ts z then (.mk 3 8 (mk []) [],bK 1 [117,105,110,116,56] ts z) else
 bif aX 1 [105,110,116,49,54] ts z then (.mk 2 16 (mk []) [],bK 1 [105,110,116,49,54] ts z) else bif aX 1 [117,105,110,116,49,54] ts z then (.mk 3 16 (mk []) [],bK 1 [117,105,110,116,49,54] ts z) else
 bif aX 1 [105,110,116,51,50] ts z then (.mk 2 32 (mk []) [],bK 1 [105,110,116,51,50] ts z) else bif aX 1 [117,105,110,116,51,50] ts z then (.mk 3 32 (mk []) [],bK 1 [117,105,110,116,51,50] ts z) else
 bif aX 1 [105,110,116,54,52] ts z then (.mk 2 64 (mk []) [],bK 1 [105,110,116,54,52] ts z) else (.mk 6 0 (dM true ts z) [],cO true ts z):=by
 unfold kG
 simp only [szs,nY,rT,nP,SZ,L4,NI,V7]
 rfl
theorem XK {ts:List Tk} {n:Nat} {o:Int} {R:List kS} {t:Ty} {g:List UInt8} (hp:jG t ≠ []) (h:(ts.map bY).drop n=cI (lI t g) ++ R) (hR:R ≠ []):kG ts ⟨false,o,n⟩=(rL t,⟨false,o,n + (lI t g).length⟩):=by
 obtain ⟨he,hk⟩:=pQ hp
 obtain ⟨k,s,nm,e⟩:=t
 have he:e=[]:=he
 subst he
 unfold lI at h ⊢
 rw [aAO]
 cases hk with
 | b h1 h2 h3=>
  obtain rfl:k=1:=h1
  obtain rfl:s=0:=h2
  obtain rfl:nm=mk []:=wB h3
  have h:(ts.map bY).drop n=(1,gM,0) :: R:=h
  rw [aK h,eQ h hR]
  rfl
 | u h1 h2 h3=>
  obtain rfl:k=3:=h1
  obtain rfl:nm=mk []:=wB h3
  have h2:s=8\/s=16\/s=32:=h2
  rcases h2 with rfl | rfl | rfl
  · have h:(ts.map bY).drop n=(1,wUint ++ bM 8,0) :: R:=h
    rw [SZ] at h
    have h:(ts.map bY).drop n=(1,[117,105,110,116,56],0) :: R:=h
    rw [aK h,aK h,aK h,aK h,aK h,aK h,aK h,aK h,aK h,eQ h hR]
    rfl
  · have h:(ts.map bY).drop n=(1,wUint ++ bM 16,0) :: R:=h
    rw [L4] at h
    have h:(ts.map bY).drop n=(1,[117,105,110,116,49,54],0) :: R:=h
    rw [aK h,aK h,aK h,aK h,aK h,aK h,aK h,aK h,aK h,eQ h hR]
    rfl
  · have h:(ts.map bY).drop n=(1,wUint ++ bM 32,0) :: R:=h
    rw [NI] at h
    have h:(ts.map bY).drop n=(1,[117,105,110,116,51,50],0) :: R:=h
    rw [aK h,aK h,aK h,aK h,aK h,aK h,aK h,aK h,aK h,eQ h hR]
    rfl
 | i h1 h2 h3=>
  obtain rfl:k=2:=h1
  obtain rfl:nm=mk []:=wB h3
  have h2:s=8\/s=16\/s=32\/s=64:=h2
  rcases h2 with rfl | rfl | rfl | rfl
  · have h:(ts.map bY).drop n=(1,wInt ++ bM 8,0) :: R:=h
    rw [SZ] at h
    have h:(ts.map bY).drop n=(1,[105,110,116,56],0) :: R:=h
    rw [aK h,aK h,aK h,aK h,aK h,aK h,aK h,aK h,aK h,eQ h hR]
    rfl
  · have h:(ts.map bY).drop n=(1,wInt ++ bM 16,0) :: R:=h
    rw [L4] at h
    have h:(ts.map bY).drop n=(1,[105,110,116,49,54],0) :: R:=h
    rw [aK h,aK h,aK h,aK h,aK h,aK h,aK h,aK h,aK h,eQ h hR]
    rfl
  · have h:(ts.map bY).drop n=(1,wInt ++ bM 32,0) :: R:=h
    rw [NI] at h
    have h:(ts.map bY).drop n=(1,[105,110,116,51,50],0) :: R:=h
    rw [aK h,aK h,aK h,aK h,aK h,aK h,aK h,aK h,aK h,eQ h hR]
    rfl
  · have h:(ts.map bY).drop n=(1,wInt ++ bM 64,0) :: R:=h
    rw [V7] at h
    have h:(ts.map bY).drop n=(1,[105,110,116,54,52],0) :: R:=h
    rw [aK h,aK h,aK h,aK h,aK h,aK h,aK h,aK h,aK h,eQ h hR]
    rfl
 | x h1 h2 h3=>
  obtain rfl:k=4:=h1
  obtain rfl:nm=mk []:=wB h3
  have h:(ts.map bY).drop n=(1,wText,0) :: cN 91 :: (2,[],s) :: cN 93 :: R:=h
  rw [aK h,aK h,eQ h (by simp),(wU (bC h).2.2.2.2 hR h2).1,(wU (bC h).2.2.2.2 hR h2).2]
  rfl
 | n h1 h2 h3 h4=>
  obtain rfl:s=0:=h2
  have h1:k=6\/k=7:=h1
  have h4:kF (bl nm)=true:=h4
  have hb:mk (bl nm)=nm:=rfl
  have c:∀ {w:List UInt8} {b:UInt8} {r:List UInt8},w=b :: r->97<=b->(bl nm == w)=false:=fun h1 h2=>KH h4 h1 h2
  have h:(ts.map bY).drop n=(1,bl nm,0) :: R:=by rcases h1 with rfl | rfl<;>exact h
  rw [aK h,aK h,aK h,aK h,aK h,aK h,aK h,aK h,aK h,(s7 h hR h4).1,(s7 h hR h4).2]
  rw [c (w:=gM) rfl (by decide),c (w:=wText) rfl (by decide),c (w:=[105,110,116,56]) rfl (by decide),c (w:=[117,105,110,116,56]) rfl (by decide),c (w:=[105,110,116,49,54]) rfl (by decide),c (w:=[117,105,110,116,49,54]) rfl (by decide),c (w:=[105,110,116,51,50]) rfl (by decide),c (w:=[117,105,110,116,51,50]) rfl (by decide),c (w:=[105,110,116,54,52]) rfl (by decide)]
  rcases h1 with rfl | rfl<;>rfl
structure EnG (e:En):Prop where
 n:gQ (bl e.nm)=true
 p:0 < e.ns.length
 l:e.ns.length=e.vs.length
 m:e.ns.length<=16
 a:∀ n ∈ e.ns,bR (bl n)=true
 b:∀ v ∈ e.vs,0<=v/\v<=127
structure StG (ss:List St) (es:List En) (t:St):Prop where
 n:gQ (bl t.nm)=true
 m:t.fs.length<=16
 f:∀ f ∈ t.fs,(1<=f.num/\f.num<=127)/\bR (bl f.nm)=true/\valF ss es f.ty=true
structure ScG (s:Sc):Prop where
 v:1<=s.ver/\s.ver<=999
 l:s.es.length<=16/\s.ss.length<=16
 a:∀ e ∈ s.es,EnG e
 b:∀ t ∈ s.ss,StG s.ss s.es t
theorem P3 {e:En} {k:Nat} {n:ByteArray} {v:Int} (h1:e.ns[k]? = some n) (h2:e.vs[k]? = some v) (h:fV e k=0):bR (bl n)=true/\0<=v/\v<=127:=by
 unfold fV at h
 rw [h1,h2] at h
 simp only at h
 cases c1:bR (bl n) with
 | false=>rw [c1] at h; simp at h
 | true=>
 rw [c1] at h
 simp only [Bool.not_true,aG] at h
 cases c2:b5 (e.ns.take k) n with
 | true=>rw [c2] at h; simp at h
 | false=>
 rw [c2,aG] at h
 cases c3:decide (v < 0) || decide (127 < v) with
 | true=>rw [c3] at h; simp at h
 | false=>
 simp only [Bool.or_eq_false_iff,decide_eq_false_iff_not] at c3
 exact ⟨rfl,by omega,by omega⟩
theorem QY {e:En} (h:lT e=0):0 < e.ns.length/\e.ns.length=e.vs.length/\∀ i < e.ns.length,fV e i=0:=by
 unfold lT at h
 cases c:decide (e.ns.length=0) || decide (e.ns.length ≠ e.vs.length) with
 | true=>rw [c] at h; simp at h
 | false=>
 rw [c,aG] at h
 simp only [Bool.or_eq_false_iff,decide_eq_false_iff_not,Decidable.not_not] at c
 exact ⟨by omega,c.2,mT (m:=e.ns.length) h⟩
theorem FY {s:Sc} (hf:s.fit) (h:cH s=0):ScG s:=by
 obtain ⟨_,_,h2,h3,h4,h5,h6,_⟩:=wA hf h
 obtain ⟨l1,l2,l3,l4⟩:=uD h4
 refine ⟨⟨h5,h6⟩,⟨l1,by omega⟩,fun e he=>?_,fun t ht=>?_⟩
 · obtain ⟨i,hi⟩:=List.mem_iff_getElem?.1 he
   obtain ⟨n1,_,n3⟩:=RQ hi (mT h2 i (a8.1 hi).1)
   obtain ⟨g1,g2,g3⟩:=QY n3
   refine ⟨n1,g1,g2,l3 e he,fun n hn=>?_,fun v hv=>?_⟩
   · obtain ⟨k,hk⟩:=List.mem_iff_getElem?.1 hn
     have hl:=(a8.1 hk).1
     exact (P3 hk (aV (l:=e.vs) (i:=k) (by omega)) (g3 k hl)).1
   · obtain ⟨k,hk⟩:=List.mem_iff_getElem?.1 hv
     have hl:=(a8.1 hk).1
     exact (P3 (aV (l:=e.ns) (i:=k) (by omega)) hk (g3 k (by omega))).2
 · obtain ⟨i,hi⟩:=List.mem_iff_getElem?.1 ht
   obtain ⟨n1,n2⟩:=yB hi (mT h3 i (a8.1 hi).1)
   exact ⟨(yW n1).1,l4 t ht,fun f hf=>F8 n2 f hf⟩
theorem rK {x:List UInt8} (h:gQ x=true):bR x=true:=by unfold gQ at h; rw [Bool.and_eq_true] at h; exact h.1
def qQ:Nat->List ByteArray->List Int->List UInt8
 | k,n :: ns,v :: vs=>(bif decide (0 < (k:Int)) then [44,32] else []) ++ (bl n ++ ([32,61,32] ++ bM v)) ++ qQ (k + 1) ns vs
 | _,_,_=>[]
def wEnumB:List UInt8:=[101,110,117,109,32]
def wStB:List UInt8:=[115,116,114,117,99,116,32]
def wVerB:List UInt8:=[118,101,114,115,105,111,110,32]
def wK (e:En):List UInt8:=wEnumB ++ (bl e.nm ++ [32,123,32]) ++ (qQ 0 e.ns e.vs ++ [32,125,10])
def pC (f:Fl):List UInt8:=[32,32] ++ (bM f.num ++ ([32] ++ (bl f.nm ++ ([58,32] ++ dG 6 f.ty)))) ++ ((bif f.opt then [63] else []) ++ [59,10])
def pK (t:St):List UInt8:=wStB ++ (bl t.nm ++ [32,123,10]) ++ (t.fs.flatMap pC ++ [125,10])
def iJ (s:Sc):List UInt8:=bif cH s != 0 then [] else wVerB ++ (bM s.ver ++ [59,10]) ++ (s.es.flatMap wK ++ s.ss.flatMap pK)
noncomputable def fmFn:Fun:=mX jT C.sc fun s=>.string (mk (iJ s))
attribute [go_sem] fmFn
theorem QG:∀ (f:Nat) (t:Ty),TyOk t->(dG f t).length<=30 + 31 * f:=fun f=>by
 induction f with
 | zero=>
  intro t ht
  cases h:t.k == 5
  · rw [jL h]; exact y9 ht.s
  · rw [wF h]; exact Nat.zero_le _
 | succ f ih=>
  intro t ht
  cases h:t.k == 5
  · rw [jL h]; have:=y9 ht.s; omega
  · rw [j4 h]
    cases c:decide (t.s < 0) || !(bl t.n == []) || (t.e.length:Int) != 1
    · rw [aG]
      refine gP (Nat.zero_le _) ?_
      have hd:(bM t.s).length<=21:=iZ ht.s.1 ht.s.2
      have hu:TyOk (t.e.headD default):=by
       simp only [Bool.or_eq_false_iff,bne_eq_false_iff_eq] at c
       match he:t.e with
       | []=>rw [he] at c; simp at c
       | a :: r=>exact ht.e a (by rw [he]; exact List.mem_cons_self ..)
      have:=ih _ hu
      simp only [qV,List.length_append,show wOfs.length=5 from rfl,List.length_cons,List.length_nil]
      omega
    · exact Nat.zero_le _
theorem uW (k:Nat) (n:ByteArray) (ns:List ByteArray) (v:Int) (vs:List Int):qQ k (n :: ns) (v :: vs)=(bif decide (0 < (k:Int)) then [44,32] else []) ++ (bl n ++ ([32,61,32] ++ bM v)) ++ qQ (k + 1) ns vs:=rfl
theorem GV:Meets Tryz.prog 10 fmFn.sp:=by
 refine aI Tryz.func10 aBS 1 (by rw [Tryz.ntmps10]; decide) (aL BQ (aL K6 (aL KR (aC _)))) iE ?_
 rintro av H K ⟨⟨h,rfl⟩,hK⟩
 obtain ⟨_,rfl,s,rfl,hs⟩:=eK h
 have hK:K (tS (mk (iJ s))) []:=by
  have:fmFn.val [.va (.gs (aA s))]=tA (mk (iJ s)):=by simp -dsimp only [go_sem]
  rw [this] at hK; exact hK
 clear h
 have fin:∀ (x:List UInt8) (R:Hp),iJ s=x->W.Fin 0 K (tS (mk x)) R:=fun x R h1=>by
  rw [h1] at hK
  exact .z (hK)
 simp (maxSteps:=9^6) -dsimp only [go_sem,aA,S1,XA]
 rw [show C.sc [C.vl (Value.int IntKind.i64 s.ver),C.fz (List.map aQ s.es),C.fz (List.map aJ s.ss)]=s from fX s]
 refine ⟨⟨_,rfl,hs⟩,fun hc=>fin _ _ (by unfold iJ; rw [hc]; rfl),fun hc=>?_⟩
 have g:=FY hs (bne_eq_false_iff_eq.1 hc)
 have hfm:iJ s=wVerB ++ (bM s.ver ++ [59,10]) ++ (s.es.flatMap wK ++ s.ss.flatMap pK):=by unfold iJ; rw [hc]; rfl
 have hvi:=hs.ok.ver
 have hdv:(bM s.ver).length<=21:=iZ hvi.1 hvi.2
 have hl16:=g.l
 refine ⟨⟨hvi.1,hvi.2⟩,by omega,by omega,?_⟩
 refine cQ (α:=Nat × List UInt8) (fun z=>[(1,.va (.c1 (.pt 0 0))),(2,tS (mk [])),(3,tS (mk z.2)),(21,.va (.c1 (.fz (s.es.map aQ)))),(22,iS .i64 s.es.length),(23,iS .i64 z.1)]) (fun z=>[.cells (aA s) 25])
  (fun z=>z.1<=s.es.length/\iJ s=z.2 ++ ((s.es.drop z.1).flatMap wK ++ s.ss.flatMap pK)/\z.2.length<=40 + 1000 * z.1) (fun z=>s.es.length - z.1) (iO (0,wVerB ++ (bM s.ver ++ [59,10])) 1 ⟨Nat.zero_le _,hfm,?_⟩ ?_ ?_) ?_
 · simp only [List.length_append,show wVerB.length=8 from rfl,List.length_cons,List.length_nil]; omega
 · simp -dsimp only [go_sem,wVerB]<;>simp
 · simp -dsimp only [go_sem,aA]<;>simp
 rintro ⟨i,out⟩ ⟨hi,ho,hol⟩
 simp only at hi ho hol
 rcases bG i s.es.length with hlt | hge
 · have hg:decide ((i:Int) < (s.es.length:Int))=true:=by simp; omega
   obtain ⟨e,he⟩:∃ a,s.es[i]? = some a:=⟨_,aV hlt⟩
   have ge:=g.a e (bT he)
   have q1:=aN (row:=aQ) he
   have hnl:=jZ (rK ge.n)
   have hnl':=ge.m
   have hvl:=ge.l
   rw [List.drop_eq_getElem_cons hlt,show s.es[i]=e from (a8.1 he).2,List.flatMap_cons] at ho
   simp (maxSteps:=9^6) -dsimp only [go_sem,aA,hg,↓q1,aQ]
   refine ⟨by omega,by omega,by omega,by omega,?_⟩
   have hg0:=hg
   refine cQ (α:=Nat × List UInt8) (fun z=>[(1,.va (.c1 (.pt 0 0))),(2,tS (mk [])),(3,tS (mk z.2)),(21,.va (.c1 (.fz (s.es.map aQ)))),(22,iS .i64 s.es.length),(23,iS .i64 i),(5,.va (.c1 (.pt 1 0))),(34,.va (.c1 (.fz (e.ns.map bI)))),(35,iS .i64 e.ns.length),(36,iS .i64 z.1)]) (fun z=>[.cells (aA s) 25,.cells (aQ e) 62])
    (fun z=>z.1<=e.ns.length/\iJ s=z.2 ++ (qQ z.1 (e.ns.drop z.1) (e.vs.drop z.1) ++ ([32,125,10] ++ ((s.es.drop (i + 1)).flatMap wK ++ s.ss.flatMap pK)))/\z.2.length<=100 + 1000 * i + 50 * z.1) (fun z=>e.ns.length - z.1) (iO (0,out ++ (wEnumB ++ (bl e.nm ++ [32,123,32]))) 2 ⟨Nat.zero_le _,?_,?_⟩ ?_ ?_) ?_
   · rw [ho]; simp [wK]
   · simp only [List.length_append,show wEnumB.length=5 from rfl,List.length_cons,List.length_nil]; omega
   · simp -dsimp only [go_sem,wEnumB]<;>simp
   · simp -dsimp only [go_sem,aA,aQ]<;>simp
   clear ho hol
   rintro ⟨k,out⟩ ⟨hk,ho,hol⟩
   simp only at hk ho hol
   rcases bG k e.ns.length with hkt | hkg
   · have hg:decide ((k:Int) < (e.ns.length:Int))=true:=by simp; omega
     obtain ⟨n,hn⟩:∃ a,e.ns[k]? = some a:=⟨_,aV hkt⟩
     obtain ⟨v,hv⟩:∃ a,e.vs[k]? = some a:=⟨_,aV (by omega)⟩
     have q1:=aN (row:=bI) hn
     have q2:=aN (row:=dS) hv
     have hnn:=jZ (ge.a n (bT hn))
     have hvv:=ge.b v (bT hv)
     have hdl:(bM v).length<=21:=iZ (by omega) (by omega)
     rw [List.drop_eq_getElem_cons hkt,show e.ns[k]=n from (a8.1 hn).2,List.drop_eq_getElem_cons (show k < e.vs.length by omega),show e.vs[k]=v from (a8.1 hv).2,uW] at ho
     simp (maxSteps:=9^6) -dsimp only [go_sem,aA,hg,↓q1,↓q2,aQ]
     have hE:∀ (o:List UInt8),(k=0->o=out)->(0 < k->o=out ++ [44,32])->iJ s=o ++ (bl n ++ ([32,61,32] ++ bM v)) ++ (qQ (k + 1) (e.ns.drop (k + 1)) (e.vs.drop (k + 1)) ++ ([32,125,10] ++ ((s.es.drop (i + 1)).flatMap wK ++ s.ss.flatMap pK))):=fun o h0 h1=>by
      rw [ho]
      rcases Nat.eq_zero_or_pos k with hz | hz
      · rw [h0 hz,decide_eq_false (show ¬ 0 < (k:Int) by omega)]; simp
      · rw [h1 hz,decide_eq_true (show 0 < (k:Int) by omega)]; simp
     refine ⟨by omega,fun hc=>⟨by omega,by omega,by omega,by omega,by omega,by omega,by omega,?_⟩,fun hc=>⟨by omega,by omega,by omega,by omega,by omega,by omega,?_⟩⟩
     · have hk0:0 < k:=by have:=of_decide_eq_true hc; omega
       refine aB (k + 1,(out ++ [44,32]) ++ (bl n ++ ([32,61,32] ++ bM v))) 2 ⟨hkt,hE _ (fun h=>by omega) fun _=>rfl,?_⟩ (by simp only; omega) ?_ ?_
       · simp only [List.length_append,List.length_cons,List.length_nil]; omega
       · simp -dsimp only [go_sem]<;>simp
       · simp -dsimp only [go_sem,aA,aQ]<;>simp
     · have hk0:k=0:=by have:=of_decide_eq_false hc; omega
       refine aB (k + 1,out ++ (bl n ++ ([32,61,32] ++ bM v))) 2 ⟨hkt,hE _ (fun _=>rfl) fun h=>by omega,?_⟩ (by simp only; omega) ?_ ?_
       · simp only [List.length_append,List.length_cons,List.length_nil]; omega
       · simp -dsimp only [go_sem]<;>simp
       · simp -dsimp only [go_sem,aA,aQ]<;>simp
   · obtain rfl:k=e.ns.length:=by omega
     have hg:decide ((e.ns.length:Int) < (e.ns.length:Int))=false:=by simp
     simp (maxSteps:=9^6) -dsimp only [go_sem,aA,hg,aQ]
     rw [List.drop_length,show qQ e.ns.length [] (e.vs.drop e.ns.length)=[] by unfold qQ; rfl] at ho
     refine ⟨by omega,by omega,?_⟩
     refine aB (i + 1,out ++ [32,125,10]) 1 ⟨hlt,by rw [ho]; simp,?_⟩ (by simp only; omega) ?_ ?_
     · simp only [List.length_append,List.length_cons,List.length_nil]; omega
     · simp -dsimp only [go_sem]<;>simp
     · simp -dsimp only [go_sem,aA,aQ]<;>simp
 · obtain rfl:i=s.es.length:=by omega
   have hg:decide ((s.es.length:Int) < (s.es.length:Int))=false:=by simp
   simp (maxSteps:=9^6) -dsimp only [go_sem,aA,hg]
   rw [List.drop_length,List.flatMap_nil,List.nil_append] at ho
   refine cQ (α:=Nat × List UInt8) (fun z=>[(1,.va (.c1 (.pt 0 0))),(2,tS (mk [])),(3,tS (mk z.2)),(61,.va (.c1 (.fz (s.ss.map aJ)))),(62,iS .i64 s.ss.length),(63,iS .i64 z.1)]) (fun z=>[.cells (aA s) 25])
    (fun z=>z.1<=s.ss.length/\iJ s=z.2 ++ (s.ss.drop z.1).flatMap pK/\z.2.length<=20000 + 10000 * z.1) (fun z=>s.ss.length - z.1) (iO (0,out) 1 ⟨Nat.zero_le _,ho,?_⟩ ?_ ?_) ?_
   · simp only; omega
   · simp -dsimp only [go_sem]<;>simp
   · simp -dsimp only [go_sem,aA]<;>simp
   clear ho hol
   rintro ⟨i,out⟩ ⟨hi,ho,hol⟩
   simp only at hi ho hol
   rcases bG i s.ss.length with hlt | hge
   · have hg:decide ((i:Int) < (s.ss.length:Int))=true:=by simp; omega
     obtain ⟨t,ht⟩:∃ a,s.ss[i]? = some a:=⟨_,aV hlt⟩
     have gt:=g.b t (bT ht)
     have hok:=hs.ok.ss t (bT ht)
     have q1:=aN (row:=aJ) ht
     have hnl:=jZ (rK gt.n)
     have hml:=gt.m
     rw [List.drop_eq_getElem_cons hlt,show s.ss[i]=t from (a8.1 ht).2,List.flatMap_cons] at ho
     simp (maxSteps:=9^6) -dsimp only [go_sem,aA,hg,↓q1,aJ]
     refine ⟨by omega,by omega,by omega,by omega,?_⟩
     refine cQ (α:=Nat × List UInt8) (fun z=>[(1,.va (.c1 (.pt 0 0))),(2,tS (mk [])),(3,tS (mk z.2)),(61,.va (.c1 (.fz (s.ss.map aJ)))),(62,iS .i64 s.ss.length),(63,iS .i64 i),(9,.va (.c1 (.pt 1 0))),(74,.va (.c1 (.fz (t.fs.map bD)))),(75,iS .i64 t.fs.length),(76,iS .i64 z.1)]) (fun z=>[.cells (aA s) 25,.cells (aJ t) 56])
      (fun z=>z.1<=t.fs.length/\iJ s=z.2 ++ ((t.fs.drop z.1).flatMap pC ++ ([125,10] ++ (s.ss.drop (i + 1)).flatMap pK))/\z.2.length<=20100 + 10000 * i + 500 * z.1) (fun z=>t.fs.length - z.1) (iO (0,out ++ (wStB ++ (bl t.nm ++ [32,123,10]))) 2 ⟨Nat.zero_le _,?_,?_⟩ ?_ ?_) ?_
     · rw [ho]; simp [pK]
     · simp only [List.length_append,show wStB.length=7 from rfl,List.length_cons,List.length_nil]; omega
     · simp -dsimp only [go_sem,wStB]<;>simp
     · simp -dsimp only [go_sem,aA,aJ]<;>simp
     clear ho hol
     rintro ⟨k,out⟩ ⟨hk,ho,hol⟩
     simp only at hk ho hol
     rcases bG k t.fs.length with hkt | hkg
     · have hg:decide ((k:Int) < (t.fs.length:Int))=true:=by simp; omega
       obtain ⟨f,hf⟩:∃ a,t.fs[k]? = some a:=⟨_,aV hkt⟩
       have q1:=aN (row:=bD) hf
       obtain ⟨gf1,gf2,gf3⟩:=gt.f f (bT hf)
       have hfo:=hok.fs f (bT hf)
       have hnn:=jZ gf2
       have hdl:(bM f.num).length<=21:=iZ (by omega) (by omega)
       have htl:=QG 6 f.ty hfo.ty
       rw [List.drop_eq_getElem_cons hkt,show t.fs[k]=f from (a8.1 hf).2,List.flatMap_cons] at ho
       simp (maxSteps:=9^6) -dsimp only [go_sem,aA,hg,↓q1,aJ,bD,jC]
       refine ⟨by omega,by omega,by omega,by omega,by omega,by omega,⟨_,rfl,hfo.ty⟩,by omega,by omega,fun hc=>⟨by omega,by omega,by omega,?_⟩,fun hc=>⟨by omega,by omega,?_⟩⟩
       · refine aB (k + 1,out ++ pC f) 2 ⟨hkt,by rw [ho]; simp,?_⟩ (by simp only; omega) ?_ ?_
         · unfold pC; rw [hc]; simp only [aM,List.length_append,List.length_cons,List.length_nil]; omega
         · simp -dsimp only [go_sem,pC,hc]<;>simp [pC,hc]
         · simp -dsimp only [go_sem,aA,aJ]<;>simp
       · refine aB (k + 1,out ++ pC f) 2 ⟨hkt,by rw [ho]; simp,?_⟩ (by simp only; omega) ?_ ?_
         · unfold pC; rw [hc]; simp only [aG,List.length_append,List.length_cons,List.length_nil]; omega
         · simp -dsimp only [go_sem,pC,hc]<;>simp [pC,hc]
         · simp -dsimp only [go_sem,aA,aJ]<;>simp
     · obtain rfl:k=t.fs.length:=by omega
       have hg:decide ((t.fs.length:Int) < (t.fs.length:Int))=false:=by simp
       simp (maxSteps:=9^6) -dsimp only [go_sem,aA,hg,aJ]
       rw [List.drop_length,List.flatMap_nil,List.nil_append] at ho
       refine ⟨by omega,by omega,?_⟩
       refine aB (i + 1,out ++ [125,10]) 1 ⟨hlt,by rw [ho]; simp,?_⟩ (by simp only; omega) ?_ ?_
       · simp only [List.length_append,List.length_cons,List.length_nil]; omega
       · simp -dsimp only [go_sem]<;>simp
       · simp -dsimp only [go_sem,aA,aJ]<;>simp
   · obtain rfl:i=s.ss.length:=by omega
     have hg:decide ((s.ss.length:Int) < (s.ss.length:Int))=false:=by simp
     simp (maxSteps:=9^6) -dsimp only [go_sem,aA,hg]
     refine fin _ _ ?_
     rw [ho,List.drop_length,List.flatMap_nil,List.append_nil]
theorem A4 {ts:List Tk} {n:Nat} {o:Int} {R:List kS} {t:Ty} {g:List UInt8} (hp:jG t ≠ []) (h:(ts.map bY).drop n=cI (lI t g) ++ R):aX 1 eW ts ⟨false,o,n⟩=false:=by
 obtain ⟨he,hk⟩:=pQ hp
 obtain ⟨k,s,nm,e⟩:=t
 unfold lI at h
 cases hk with
 | b h1 h2 h3=>
  obtain rfl:k=1:=h1
  have h:(ts.map bY).drop n=(1,gM,0) :: R:=h
  rw [aK h]; rfl
 | u h1 h2 h3=>
  obtain rfl:k=3:=h1
  have h:(ts.map bY).drop n=(1,wUint ++ bM s,0) :: R:=h
  rw [aK h,beq_self_eq_true,Bool.true_and]; rfl
 | i h1 h2 h3=>
  obtain rfl:k=2:=h1
  have h:(ts.map bY).drop n=(1,wInt ++ bM s,0) :: R:=h
  rw [aK h,beq_self_eq_true,Bool.true_and]; rfl
 | x h1 h2 h3=>
  obtain rfl:k=4:=h1
  have h:(ts.map bY).drop n=(1,wText,0) :: cN 91 :: (2,[],s) :: cN 93 :: R:=h
  rw [aK h]; rfl
 | n h1 h2 h3 h4=>
  have h1:k=6\/k=7:=h1
  have h4:kF (bl nm)=true:=h4
  have h:(ts.map bY).drop n=(1,bl nm,0) :: R:=by rcases h1 with rfl | rfl<;>exact h
  rw [aK h,KH (w:=eW) h4 rfl (by decide)]; rfl
theorem aAR {ts:List Tk} {n:Nat} {o:Int} {R:List kS} (h:(ts.map bY).drop n=(1,tZ,0) :: R) (hR:R ≠ []):sD ts ⟨false,o,n⟩=⟨false,o,n + 1⟩:=by
 unfold sD
 rw [aK h,beq_self_eq_true,beq_self_eq_true,(kZ h hR).2]; rfl
theorem JL {f:Nat} {t:Ty} {g:List UInt8} {R:List kS} (hR:R ≠ []):cI (dR f t g) ++ R ≠ []:=by
 intro h
 exact hR (List.append_eq_nil_iff.1 h).2
theorem ZP {ts:List Tk} {o:Int} {R:List kS} (hR:R ≠ []):∀ (f:Nat) (t:Ty) (g:List UInt8) (n:Nat) (d:List Int) (F:Nat),dG f t ≠ []->(ts.map bY).drop n=cI (dR f t g) ++ R->n<=ts.length->ts.length < n + F->
 ∃ ds leaf g' m,lR ts F d ⟨false,o,n⟩=(d ++ ds,⟨false,o,m⟩)/\jG leaf ≠ []/\(ts.map bY).drop m=cI (lI leaf g') ++ R/\rL t=cT ds (rL leaf)/\ds.length<=f:=fun f=>by
 induction f with
 | zero=>
  intro t g n d F hx h hn hF
  obtain ⟨F,rfl⟩:∃ G,F=G + 1:=⟨F - 1,by omega⟩
  cases hk:t.k == 5
  · rw [jL hk] at hx
    refine ⟨[],t,g,n,?_,hx,h,rfl,Nat.le_refl _⟩
    rw [kX,A4 hx h,List.append_nil]; rfl
  · rw [wF hk] at hx; exact absurd rfl hx
 | succ f ih=>
  intro t g n d F hx h hn hF
  obtain ⟨F,rfl⟩:∃ G,F=G + 1:=⟨F - 1,by omega⟩
  cases hk:t.k == 5
  · rw [jL hk] at hx
    rw [dR,hk,aG] at h
    refine ⟨[],t,g,n,?_,hx,h,rfl,Nat.zero_le _⟩
    rw [kX,A4 hx h,List.append_nil]; rfl
  · rw [j4 hk] at hx
    cases c:decide (t.s < 0) || !(bl t.n == []) || (t.e.length:Int) != 1 with
    | true=>rw [c] at hx; exact absurd rfl hx
    | false=>
     rw [c,aG] at hx
     cases q:dG f (t.e.headD default) == [] with
     | true=>rw [q] at hx; exact absurd rfl hx
     | false=>
      rw [dR,hk,aM] at h
      simp only [Bool.or_eq_false_iff,bne_eq_false_iff_eq,decide_eq_false_iff_not,Bool.not_eq_false'] at c
      obtain ⟨⟨c1,c2⟩,c3⟩:=c
      obtain ⟨k,s,nm,e⟩:=t
      obtain rfl:k=5:=eq_of_beq hk
      obtain rfl:nm=mk []:=wB (eq_of_beq c2)
      have c3:(e.length:Int)=1:=c3
      obtain ⟨u,rfl⟩:∃ u,e=[u]:=by
       match e,c3 with
       | [u],_=>exact ⟨u,rfl⟩
       | [],h=>simp at h
       | _ :: _ :: _,h=>simp at h; omega
      have q:(dG f u == [])=false:=q
      have h:(ts.map bY).drop n=(1,eW,0) :: cN 91 :: (2,[],s) :: cN 93 :: (1,tZ,0) :: (cI (dR f u [32]) ++ R):=h
      have c1:0<=s:=by have:¬ s < 0:=c1; omega
      have h1:=(bC h).2.2.2.2
      have h4:(ts.map bY).drop (n + 1 + 3)=(1,tZ,0) :: (cI (dR f u [32]) ++ R):=by
       have:=(bC (bC (bC h1).2.2.2.2).2.2.2.2).2.2.2.2
       exact this
      have h5:=(bC h4).2.2.2.2
      obtain ⟨ds,leaf,g',m,k1,k2,k3,k4,k5⟩:=ih u [32] (n + 1 + 3 + 1) (d ++ [s]) F (fun e=>by rw [e] at q; cases q) h5 (by have:=(bC h4).1; omega) (by omega)
      refine ⟨s :: ds,leaf,g',m,?_,k2,k3,?_,by simp; omega⟩
      · rw [kX,aK h,beq_self_eq_true,beq_self_eq_true,eQ h (by simp),(wU h1 (by simp) c1).1,(wU h1 (by simp) c1).2,aAR h4 (JL hR)]
        show lR ts F (d ++ [s]) ⟨false,o,n + 1 + 3 + 1⟩=_
        rw [k1,List.append_assoc]; rfl
      · show Ty.mk 5 s (mk []) [rL u]=Ty.mk 5 s (mk []) [cT ds (rL leaf)]
        rw [k4]
theorem RZ {x e:List UInt8} (hx:iM x) (he:iM e):iM (x ++ e):=fun c hc=>by
 cases x with
 | nil=>exact he c hc
 | cons a x=>exact hx c (by simpa using hc)
theorem AE {l e:List UInt8} (he:qL e) (hse:iM e):∀ (us:fY) (f a:Nat),cJ us->a<=l.length->l.length < f + a->l.drop a=bU us ++ e->
 ∃ ms,fI f l a=.ok ms/\ms.map bY=us.map (fun u=>CD u.2) ++ [(0,[],0)]
 | [],f,a,_,hle,hlt,h=>by
  have h:l.drop a=e:=h
  have hlen:=congrArg List.length h
  rw [List.length_drop] at hlen
  obtain ⟨f,rfl⟩:∃ g,f=g + 1:=⟨f - 1,by omega⟩
  have hsk:b6 l a=l.length:=by
   have:=he []
   rw [List.append_nil,show c8 false []=0 from rfl] at this
   unfold b6
   rw [h,this]; omega
  have hn:l[l.length]? = none:=List.getElem?_eq_none (Nat.le_refl _)
  exact ⟨[⟨0,[],0,l.length⟩],by rw [fI,hsk]; simp [eT,hn],rfl⟩
 | (g,u) :: us,f,a,⟨hg,hf,ho,hs,hok⟩,hle,hlt,h=>by
  have h':l.drop a=g ++ (iW u ++ (bU us ++ e)):=by rw [h,bU]; simp [List.append_assoc]
  have h1:l.drop (a + g.length)=iW u ++ (bU us ++ e):=by rw [<-List.drop_drop,h',List.drop_left]
  obtain ⟨ht,hk,c,hc,hb,hh⟩:=GS hf ho h1 fun q=>RZ (hs q) hse
  have hlc:=(a8.1 hc).1
  obtain ⟨f,rfl⟩:∃ g,f=g + 1:=⟨f - 1,by omega⟩
  have hsk:b6 l a=a + g.length:=by
   have e:=x3 hc hb hh
   unfold b6 at e ⊢
   rw [h',hg,<-h1]
   omega
  have h2:l.drop (a + g.length + (iW u).length)=bU us ++ e:=by rw [<-List.drop_drop,h1,List.drop_left]
  have hlen:a + g.length + (iW u).length<=l.length:=by
   have:=congrArg List.length h1
   rw [List.length_drop,List.length_append] at this
   omega
  have hne:0 < (iW u).length:=by
   rcases Nat.eq_zero_or_pos (iW u).length with h0 | h0
   · have e0:iW u=[]:=List.eq_nil_of_length_eq_zero h0
     obtain ⟨_,_,c,hc,_⟩:=GS (l:=iW u) (a:=0) (rest:=[]) hf ho (by simp) (fun _ c hc=>by cases hc)
     rw [e0] at hc; cases hc
   · exact h0
  obtain ⟨ms,hm,hmm⟩:=AE he hse us f (a + g.length + (iW u).length) hok hlen (by omega) h2
  have hk0:(u.k == 0)=false:=by simpa using hk
  refine ⟨⟨u.k,u.x,u.n,a + g.length⟩ :: ms,?_,by simp [hmm]⟩
  rw [fI,hsk,ht]
  simp only [hk0,aG,hm,SR.cons]
theorem KW {us:fY} {e:List UInt8} (he:qL e) (hse:iM e) (hok:cJ us) (hl:(bU us ++ e).length<=4000):(bH (bU us ++ e)).err=0/\(bH (bU us ++ e)).toks.map bY=us.map (fun u=>CD u.2) ++ [(0,[],0)]:=by
 obtain ⟨ms,h1,h2⟩:=AE (l:=bU us ++ e) he hse us ((bU us ++ e).length + 1) 0 hok (Nat.zero_le _) (by omega) rfl
 have h4:decide (4000 < (bU us ++ e).length)=false:=by simp only [decide_eq_false_iff_not]; omega
 unfold bH
 rw [h4,aG,h1]
 exact ⟨rfl,h2⟩
def cG:Bool->List ByteArray->List Int->fY
 | c,n :: ns,v :: vs=>(bif c then [([],dE 44)] else []) ++ (([32],eJ (bl n)) :: ([32],dE 61) :: ([32],lQ v) :: cG true ns vs)
 | _,_,_=>[]
theorem rQ (c:Bool) (n:ByteArray) (ns:List ByteArray) (v:Int) (vs:List Int):cG c (n :: ns) (v :: vs)=(bif c then [([],dE 44)] else []) ++ (([32],eJ (bl n)) :: ([32],dE 61) :: ([32],lQ v) :: cG true ns vs):=rfl
def eZ (e:En):fY:=([10],eJ fZ) :: ([32],eJ (bl e.nm)) :: ([32],dE 123) :: (cG false e.ns e.vs ++ [([32],dE 125)])
def cR (f:Fl):fY:=([10,32,32],lQ f.num) :: ([32],eJ (bl f.nm)) :: ([],dE 58) :: (dR 6 f.ty [32] ++ ((bif f.opt then [([],dE 63)] else []) ++ [([],dE 59)]))
def fJ (t:St):fY:=([10],eJ iT) :: ([32],eJ (bl t.nm)) :: ([32],dE 123) :: (t.fs.flatMap cR ++ [([10],dE 125)])
def H8 (s:Sc):fY:=([],eJ vU) :: ([32],lQ s.ver) :: ([],dE 59) :: (s.es.flatMap eZ ++ s.ss.flatMap fJ)
theorem KE:∀ (ns:List ByteArray) (vs:List Int) (k:Nat),bU (cG true ns vs)=qQ (k + 1) ns vs
 | n :: ns,v :: vs,k=>by
  rw [rQ,uW,decide_eq_true (show (0:Int) < ((k + 1:Nat):Int) by omega),aM,aM,iY]
  simp [bU,dE,eJ,lQ,iW,hZ,KE ns vs (k + 1)]
 | [],_,_=>by unfold cG qQ; rfl
 | _ :: _,[],_=>by unfold cG qQ; rfl
theorem UG (n:ByteArray) (ns:List ByteArray) (v:Int) (vs:List Int):bU (cG false (n :: ns) (v :: vs))=32 :: qQ 0 (n :: ns) (v :: vs):=by
 rw [rQ,uW,decide_eq_false (show ¬ (0:Int) < ((0:Nat):Int) by omega),aG,aG,List.nil_append,List.nil_append]
 simp [bU,dE,eJ,lQ,iW,hZ,KE ns vs 0]
theorem TL {e:En} (h:EnG e):bU (eZ e) ++ [10]=10 :: wK e:=by
 obtain ⟨nm,ns,vs⟩:=e
 have hp:0 < ns.length:=h.p
 have hl:ns.length=vs.length:=h.l
 match ns,vs,hp,hl with
 | n :: ns,v :: vs,_,_=>
  unfold eZ wK
  simp only [bU,iY,UG]
  simp [dE,eJ,iW,hZ,fZ,wEnumB]
theorem S5 {f:Fl} (h:dG 6 f.ty ≠ []):bU (cR f) ++ [10]=10 :: pC f:=by
 unfold cR pC
 simp only [bU,iY,E9 6 f.ty [32] h]
 cases f.opt<;>simp [bU,dE,eJ,lQ,iW,hZ]
theorem wL {α:Type} {F:α->fY} {G:α->List UInt8}:∀ l:List α,(∀ x ∈ l,bU (F x) ++ [10]=10 :: G x)->bU (l.flatMap F) ++ [10]=10 :: l.flatMap G
 | [],_=>rfl
 | x :: l,h=>by
  have ih:=wL l fun y hy=>h y (List.mem_cons_of_mem _ hy)
  rw [List.flatMap_cons,List.flatMap_cons,iY,List.append_assoc,ih]
  have:=h x (List.mem_cons_self ..)
  rw [show bU (F x) ++ 10 :: l.flatMap G=(bU (F x) ++ [10]) ++ l.flatMap G by simp,this]; rfl
theorem WH {t:St} (h:∀ f ∈ t.fs,dG 6 f.ty ≠ []):bU (fJ t) ++ [10]=10 :: pK t:=by
 have h1:=wL (F:=cR) (G:=pC) t.fs fun f hf=>S5 (h f hf)
 unfold fJ pK
 simp only [bU,iY]
 rw [show [10] ++ (iW (dE 125) ++ [])=[10] ++ [125] from rfl]
 rw [<-List.append_assoc (bU (t.fs.flatMap cR)),h1]
 simp [dE,eJ,iW,hZ,iT,wStB]
theorem X6 {s:Sc} (g:ScG s) (h0:cH s=0) (h:∀ t ∈ s.ss,∀ f ∈ t.fs,dG 6 f.ty ≠ []):bU (H8 s) ++ [10]=iJ s:=by
 have h1:=wL (F:=eZ) (G:=wK) s.es fun e he=>TL (g.a e he)
 have h2:=wL (F:=fJ) (G:=pK) s.ss fun t ht=>WH (h t ht)
 unfold H8 iJ
 simp only [bU,iY,h0,bne_self_eq_false,aG]
 simp only [List.append_assoc]
 rw [h2,show bU (s.es.flatMap eZ) ++ 10 :: s.ss.flatMap pK=(bU (s.es.flatMap eZ) ++ [10]) ++ s.ss.flatMap pK by simp,h1]
 simp [dE,eJ,lQ,iW,hZ,vU,wVerB]
theorem wN:qL [10]:=fun rest=>by
 show c8 false (10 :: rest)=1 + c8 false rest
 rw [Nat.add_comm]
 simp [c8]
theorem S4:qL [10,32,32]:=fun rest=>by
 show c8 false (10 :: 32 :: 32 :: rest)=3 + c8 false rest
 simp [c8]
 omega
theorem x9 {c:UInt8} {r:fY} (h1:aW c=false) (h2:(c == 45)=false):iM (bU (([],dE c) :: r)):=lC h1 h2
theorem kM {t:Tx} {r:fY} {g:List UInt8}:iM (bU ((32 :: g,t) :: r)):=lC (by decide) (by decide)
theorem GN {r:fY} (hr:cJ r) (hs:iM (bU r)):∀ (ns:List ByteArray) (vs:List Int) (c:Bool),(∀ n ∈ ns,bR (bl n)=true)->(∀ v ∈ vs,0<=v/\v<=127)->cJ (cG c ns vs ++ r)/\iM (bU (cG c ns vs ++ r))
 | n :: ns,v :: vs,c,h1,h2=>by
  have ih:=GN hr hs ns vs true (fun m hm=>h1 m (List.mem_cons_of_mem _ hm)) fun m hm=>h2 m (List.mem_cons_of_mem _ hm)
  have hv:=h2 v (List.mem_cons_self ..)
  have hb:cJ (([32],eJ (bl n)) :: ([32],dE 61) :: ([32],lQ v) :: (cG true ns vs ++ r)):=eC gO (h1 n (List.mem_cons_self ..)) (eH gO (by decide) (oV gO ⟨by omega,by omega⟩ ih.1 ih.2)) kM
  rw [rQ]
  cases c
  · exact ⟨hb,kM⟩
  · exact ⟨eH f7 (by decide) hb,x9 (by decide) (by decide)⟩
 | [],_,_,_,_=>by unfold cG; exact ⟨hr,hs⟩
 | _ :: _,[],_,_,_=>by unfold cG; exact ⟨hr,hs⟩
theorem RH {e:En} {r:fY} (g:EnG e) (hr:cJ r):cJ (eZ e ++ r):=by
 have h1:cJ (([32],dE 125) :: r):=eH gO (by decide) hr
 have h2:=(GN h1 kM e.ns e.vs false g.a g.b).1
 have h3:cJ (([10],eJ fZ) :: ([32],eJ (bl e.nm)) :: ([32],dE 123) :: (cG false e.ns e.vs ++ ([32],dE 125) :: r)):=eC wN (by kernel_rfl) (eC gO (rK g.n) (eH gO (by decide) h2) kM) kM
 unfold eZ
 simpa using h3
theorem RN {f:Fl} {r:fY} (h1:1<=f.num/\f.num<=127) (h2:bR (bl f.nm)=true) (h3:dG 6 f.ty ≠ []) (h4:TyOk f.ty) (hr:cJ r):cJ (cR f ++ r):=by
 have h5:cJ ((bif f.opt then [([],dE 63)] else []) ++ ([],dE 59) :: r)/\iM (bU ((bif f.opt then [([],dE 63)] else []) ++ ([],dE 59) :: r)):=by
  have h6:cJ (([],dE 59) :: r):=eH f7 (by decide) hr
  cases f.opt
  · exact ⟨h6,x9 (by decide) (by decide)⟩
  · exact ⟨eH f7 (by decide) h6,x9 (by decide) (by decide)⟩
 have h7:=G7 6 f.ty [32] _ h3 h4 gO h5.1 h5.2
 have h8:cJ (([10,32,32],lQ f.num) :: ([32],eJ (bl f.nm)) :: ([],dE 58) :: (dR 6 f.ty [32] ++ ((bif f.opt then [([],dE 63)] else []) ++ ([],dE 59) :: r))):=oV S4 ⟨by omega,by omega⟩ (eC gO h2 (eH f7 (by decide) h7) (x9 (by decide) (by decide))) kM
 unfold cR
 simpa using h8
theorem sX {α:Type} {F:α->fY} {r:fY} (hr:cJ r):∀ l:List α,(∀ x ∈ l,∀ r,cJ r->cJ (F x ++ r))->cJ (l.flatMap F ++ r)
 | [],_=>hr
 | x :: l,h=>by
  rw [List.flatMap_cons,List.append_assoc]
  exact h x (List.mem_cons_self ..) _ (sX hr l fun y hy=>h y (List.mem_cons_of_mem _ hy))
structure TyG (t:Ty):Prop where
 x:dG 6 t ≠ []
 o:TyOk t
theorem RS {ss:List St} {es:List En} {t:St} {r:fY} (g:StG ss es t) (h:∀ f ∈ t.fs,TyG f.ty) (hr:cJ r):cJ (fJ t ++ r):=by
 have h1:cJ (([10],dE 125) :: r):=eH wN (by decide) hr
 have h2:=sX (F:=cR) h1 t.fs fun f hf r hr=>RN (g.f f hf).1 (g.f f hf).2.1 (h f hf).x (h f hf).o hr
 have h3:cJ (([10],eJ iT) :: ([32],eJ (bl t.nm)) :: ([32],dE 123) :: (t.fs.flatMap cR ++ ([10],dE 125) :: r)):=eC wN (by kernel_rfl) (eC gO (rK g.n) (eH gO (by decide) h2) kM) kM
 unfold fJ
 simpa using h3
theorem SN {s:Sc} (g:ScG s) (h:∀ t ∈ s.ss,∀ f ∈ t.fs,TyG f.ty):cJ (H8 s):=by
 have h1:=sX (F:=fJ) (r:=[]) trivial s.ss fun t ht r hr=>RS (g.b t ht) (h t ht) hr
 rw [List.append_nil] at h1
 have h2:=sX (F:=eZ) h1 s.es fun e he r hr=>RH (g.a e he) hr
 exact eC f7 (by kernel_rfl) (oV gO ⟨by have:=g.v; omega,by have:=g.v; omega⟩ (eH f7 (by decide) h2) (x9 (by decide) (by decide))) kM
theorem QW (l:fY):(cI l).length=l.length:=List.length_map ..
section
variable {ts:List Tk} {n:Nat} {o:Int} {R:List kS}
theorem OS {x:List UInt8} (h:(ts.map bY).drop n=(1,x,0) :: R) (hR:R ≠ []):dM false ts ⟨false,o,n⟩=mk x/\cO false ts ⟨false,o,n⟩=⟨false,o,n + 1⟩:=by
 obtain ⟨_,h1,h2,_,_⟩:=bC h
 have e:iL false ts ⟨false,o,n⟩=true:=by
  unfold iL
  simp only [h1,beq_self_eq_true,Bool.not_false,Bool.true_or,Bool.true_and]
 unfold dM cO
 rw [e]
 exact ⟨by simp only [aM,h2],by simp only [aM,(kZ h hR).2]⟩
theorem VO {t:Ty} {g:List UInt8} (hx:dG 6 t ≠ []) (h:(ts.map bY).drop n=cI (dR 6 t g) ++ R) (hR:R ≠ []):oZ ts ⟨false,o,n⟩=(rL t,⟨false,o,n + (dR 6 t g).length⟩):=by
 have hn:n<=ts.length:=by
  rcases bG ts.length n with h1 | h1
  · rw [List.drop_eq_nil_iff.2 (by rw [List.length_map]; omega)] at h
    exact absurd h.symm (JL hR)
  · exact h1
 obtain ⟨ds,leaf,g',m,k1,k2,k3,k4,k5⟩:=ZP (o:=o) hR 6 t g n [] (ts.length + 1) hx h hn (by omega)
 unfold oZ
 rw [k1]
 simp only [List.nil_append]
 rw [XK k2 k3 hR,<-k4]
 have l1:=congrArg List.length h
 have l2:=congrArg List.length k3
 simp only [List.length_drop,List.length_map,List.length_append,QW] at l1 l2
 have hp:0 < R.length:=List.length_pos_iff.2 hR
 rw [show m + (lI leaf g').length=n + (dR 6 t g).length by omega]
end
theorem aC8 (n0:ByteArray) (ns:List ByteArray) (v:Int) (vs:List Int):cI (cG false (n0 :: ns) (v :: vs))=(1,bl n0,0) :: cN 61 :: (2,[],v) :: cI (cG true ns vs):=rfl
theorem aD3 (n0:ByteArray) (ns:List ByteArray) (v:Int) (vs:List Int):cI (cG true (n0 :: ns) (v :: vs))=cN 44 :: cI (cG false (n0 :: ns) (v :: vs)):=rfl
theorem aDF (n0:ByteArray) (ns:List ByteArray) (v:Int) (vs:List Int):(cG false (n0 :: ns) (v :: vs)).length=(cG true ns vs).length + 3:=rfl
theorem aC7 (n0:ByteArray) (ns:List ByteArray) (v:Int) (vs:List Int):(cG true (n0 :: ns) (v :: vs)).length=(cG false (n0 :: ns) (v :: vs)).length + 1:=rfl
theorem aB5 (c:Bool) (vs:List Int):cG c [] vs=[]:=by unfold cG; rfl
theorem LN {ts:List Tk} {o:Int} {R:List kS}:∀ (ns:List ByteArray) (vs:List Int) (a:List ByteArray) (b:List Int) (n F:Nat),ns ≠ []->ns.length=vs.length->(ts.map bY).drop n=cI (cG false ns vs) ++ cN 125 :: R->ts.length < n + F->
 l8 ts F a b ⟨false,o,n⟩=((a ++ ns,b ++ vs),⟨false,o,n + (cG false ns vs).length⟩)
 | n0 :: ns,v :: vs,a,b,n,F,_,hl,h,hF=>by
  rw [aC8] at h
  have h:(ts.map bY).drop n=(1,bl n0,0) :: cN 61 :: (2,[],v) :: (cI (cG true ns vs) ++ cN 125 :: R):=h
  have h0:=(bC h).1
  obtain ⟨F,rfl⟩:∃ G,F=G + 1:=⟨F - 1,by omega⟩
  have h1:=(bC h).2.2.2.2
  have h2:=(bC h1).2.2.2.2
  have h3:=(bC h2).2.2.2.2
  have e1:=OS (o:=o) h (by simp)
  have e2:=iG (o:=o) h1 (by simp)
  have e3:=xP (c:=false) (o:=o) h2 (by simp) fun h=>by cases h
  have eR:nT ts ⟨false,o,n⟩=⟨false,o,n + 1 + 1 + 1⟩:=by unfold nT; rw [e1.2,e2,e3.2]
  rw [pP,eR,e1.1,e1.2,e2,e3.1,aDF]
  show (bif aX 4 [44] ts ⟨false,o,n + 1 + 1 + 1⟩ then _ else _)=_
  match ns,vs,hl with
  | [],[],_=>
   rw [aB5] at h3 ⊢
   have h3:(ts.map bY).drop (n + 1 + 1 + 1)=cN 125 :: R:=h3
   rw [aK h3]
   rfl
  | n1 :: ns,w :: vs,hl=>
   rw [aD3] at h3
   have h3:(ts.map bY).drop (n + 1 + 1 + 1)=cN 44 :: (cI (cG false (n1 :: ns) (w :: vs)) ++ cN 125 :: R):=h3
   have h4:=(bC h3).2.2.2.2
   rw [aK h3,eQ h3 (by simp)]
   show l8 ts F (a ++ [mk (bl n0)]) (b ++ [v]) ⟨false,o,n + 1 + 1 + 1 + 1⟩=_
   rw [LN (n1 :: ns) (w :: vs) (a ++ [mk (bl n0)]) (b ++ [v]) (n + 1 + 1 + 1 + 1) F (by simp) (by simpa using hl) h4 (by omega),aC7,List.append_assoc,List.append_assoc]
   rw [show n + 1 + 1 + 1 + 1 + (cG false (n1 :: ns) (w :: vs)).length=n + ((cG false (n1 :: ns) (w :: vs)).length + 1 + 3) by omega]
   rfl
theorem FC {x:List UInt8} (h:gQ x=true):kF x=true:=by
 unfold gQ at h
 rw [Bool.and_eq_true] at h
 cases x with
 | nil=>exact absurd h.2 (by simp)
 | cons c r=>
  have h2:(decide (65<=(c.toNat:Int)) && decide ((c.toNat:Int)<=90))=true:=h.2
  rw [Bool.and_eq_true,decide_eq_true_eq,decide_eq_true_eq] at h2
  show (decide (65<=c) && decide (c<=90))=true
  rw [Bool.and_eq_true,decide_eq_true_eq,decide_eq_true_eq,UInt8.le_iff_toNat_le,UInt8.le_iff_toNat_le]
  have e1:(65:UInt8).toNat=65:=rfl
  have e2:(90:UInt8).toNat=90:=rfl
  omega
section
variable {ts:List Tk} {n:Nat} {o:Int} {R:List kS}
theorem aAU {e:En} (g:EnG e) (h:(ts.map bY).drop n=(1,bl e.nm,0) :: cN 123 :: (cI (cG false e.ns e.vs) ++ cN 125 :: R)) (hR:R ≠ []):iU ts ⟨false,o,n⟩=(e,⟨false,o,n + ((cG false e.ns e.vs).length + 3)⟩):=by
 have h1:=(bC h).2.2.2.2
 have h2:=(bC h1).2.2.2.2
 have e1:=s7 (o:=o) h (by simp) (FC g.n)
 have e2:=iG (o:=o) h1 (by simp)
 have e3:=LN (o:=o) e.ns e.vs [] [] (n + 1 + 1) (ts.length + 1) (List.length_pos_iff.1 g.p) g.l h2 (by omega)
 have h3:=m8 h2
 rw [show (cI (cG false e.ns e.vs)).length=(cG false e.ns e.vs).length from List.length_map ..] at h3
 have e4:=iG (o:=o) h3 hR
 unfold iU
 rw [e1.1,e1.2,e2,e3,e4]
 rw [show n + 1 + 1 + (cG false e.ns e.vs).length + 1=n + ((cG false e.ns e.vs).length + 3) by omega]
 rfl
def uN (f:Fl):Fl:=⟨f.num,f.nm,rL f.ty,f.opt⟩
theorem J9 (f:Fl):cI (cR f)=(2,[],f.num) :: (1,bl f.nm,0) :: cN 58 :: (cI (dR 6 f.ty [32]) ++ ((bif f.opt then [cN 63] else []) ++ [cN 59])):=by
 unfold cR
 cases f.opt<;>simp [cI,CD,lQ,eJ,dE]
theorem Y4 {f:Fl} (hx:dG 6 f.ty ≠ []) (h:(ts.map bY).drop n=cI (cR f) ++ R) (hR:R ≠ []):pD ts ⟨false,o,n⟩=(uN f,⟨false,o,n + (cR f).length⟩):=by
 have hl:(cR f).length=(dR 6 f.ty [32]).length + (bif f.opt then 5 else 4):=by
  unfold cR
  cases f.opt<;>simp<;>omega
 rw [J9] at h
 have h:(ts.map bY).drop n=(2,[],f.num) :: (1,bl f.nm,0) :: cN 58 :: (cI (dR 6 f.ty [32]) ++ ((bif f.opt then [cN 63] else []) ++ (cN 59 :: R))):=by rw [h]; simp
 have h1:=(bC h).2.2.2.2
 have h2:=(bC h1).2.2.2.2
 have h3:=(bC h2).2.2.2.2
 have e1:=xP (c:=false) (o:=o) h (by simp) fun h=>by cases h
 have e2:=OS (o:=o) h1 (by simp)
 have e3:=iG (o:=o) h2 (by simp)
 have eA:FP ts ⟨false,o,n⟩=⟨false,o,n + 1 + 1 + 1⟩:=by unfold FP; rw [e1.2,e2.2,e3]
 have hb:mk (bl f.nm)=f.nm:=rfl
 have e4:=VO (o:=o) hx h3 (by simp)
 have h4:=m8 h3
 rw [show (cI (dR 6 f.ty [32])).length=(dR 6 f.ty [32]).length from List.length_map ..] at h4
 have eB:GU ts ⟨false,o,n⟩=⟨false,o,n + 1 + 1 + 1 + (dR 6 f.ty [32]).length⟩:=by unfold GU; rw [eA,e4]
 unfold pD uN
 rw [eA,eB,e4,e1.1,e1.2,e2.1,hl,hb]
 cases ho:f.opt with
 | true=>
  rw [ho] at h4
  have h4:(ts.map bY).drop (n + 1 + 1 + 1 + (dR 6 f.ty [32]).length)=cN 63 :: cN 59 :: R:=h4
  rw [aK h4,eQ h4 (by simp),iG (bC h4).2.2.2.2 hR]
  rw [show n + 1 + 1 + 1 + (dR 6 f.ty [32]).length + 1 + 1=n + ((dR 6 f.ty [32]).length + (bif true then 5 else 4)) by simp only [aM]; omega]
  rfl
 | false=>
  rw [ho] at h4
  have h4:(ts.map bY).drop (n + 1 + 1 + 1 + (dR 6 f.ty [32]).length)=cN 59 :: R:=h4
  have hno:aX 4 [63] ts ⟨false,o,n + 1 + 1 + 1 + (dR 6 f.ty [32]).length⟩=false:=by rw [aK h4]; rfl
  rw [hno,f8 hno,iG h4 hR]
  rw [show n + 1 + 1 + 1 + (dR 6 f.ty [32]).length + 1=n + ((dR 6 f.ty [32]).length + (bif false then 5 else 4)) by simp only [aG]; omega]
end
theorem KF {ts:List Tk} {o:Int} {R:List kS} (hR:R ≠ []):∀ (fs l:List Fl) (n F:Nat),(∀ f ∈ fs,dG 6 f.ty ≠ [])->(ts.map bY).drop n=cI (fs.flatMap cR) ++ cN 125 :: R->ts.length < n + F->
 nR ts F l ⟨false,o,n⟩=(l ++ fs.map uN,⟨false,o,n + ((fs.flatMap cR).length + 1)⟩)
 | [],l,n,F,_,h,hF=>by
  have h:(ts.map bY).drop n=cN 125 :: R:=h
  have h0:=(bC h).1
  obtain ⟨F,rfl⟩:∃ G,F=G + 1:=⟨F - 1,by omega⟩
  rw [mZ,aK h,eQ h hR,List.map_nil,List.append_nil]
  rfl
 | f :: fs,l,n,F,hx,h,hF=>by
  rw [List.flatMap_cons,y8,List.append_assoc] at h
  have h':=h
  rw [J9] at h'
  have h':(ts.map bY).drop n=(2,[],f.num) :: _:=h'
  have h0:=(bC h').1
  have hk:((bB ts n).k != 2)=false:=by rw [(bC h').2.1]; rfl
  obtain ⟨F,rfl⟩:∃ G,F=G + 1:=⟨F - 1,by omega⟩
  have h1:=m8 h
  rw [show (cI (cR f)).length=(cR f).length from List.length_map ..] at h1
  have hp:0 < (cR f).length:=by unfold cR; simp
  rw [mZ,aK h',Y4 (hx f (List.mem_cons_self ..)) h (by simp)]
  show (bif (bB ts n).k != 2 then _ else nR ts F (l ++ [uN f]) ⟨false,o,n + (cR f).length⟩)=_
  rw [hk,aG,KF hR fs (l ++ [uN f]) (n + (cR f).length) F (fun g hg=>hx g (List.mem_cons_of_mem _ hg)) h1 (by omega),List.append_assoc,List.flatMap_cons,List.length_append]
  rw [show n + (cR f).length + ((fs.flatMap cR).length + 1)=n + ((cR f).length + (fs.flatMap cR).length + 1) by omega]
  rfl
def FQ (t:St):St:=⟨t.nm,t.fs.map uN⟩
theorem ZV {ts:List Tk} {n:Nat} {o:Int} {R:List kS} {t:St} (hn:gQ (bl t.nm)=true) (hx:∀ f ∈ t.fs,dG 6 f.ty ≠ []) (h:(ts.map bY).drop n=(1,bl t.nm,0) :: cN 123 :: (cI (t.fs.flatMap cR) ++ cN 125 :: R)) (hR:R ≠ []) :
 jF ts ⟨false,o,n⟩=(FQ t,⟨false,o,n + ((t.fs.flatMap cR).length + 3)⟩):=by
 have h1:=(bC h).2.2.2.2
 have h2:=(bC h1).2.2.2.2
 have e1:=s7 (o:=o) h (by simp) (FC hn)
 have e2:=iG (o:=o) h1 (by simp)
 have e3:=KF (o:=o) hR t.fs [] (n + 1 + 1) (ts.length + 1) hx h2 (by omega)
 unfold jF
 rw [e1.1,e1.2,e2,e3]
 rw [show n + 1 + 1 + ((t.fs.flatMap cR).length + 1)=n + ((t.fs.flatMap cR).length + 3) by omega]
 rfl
theorem SQ (e:En):cI (eZ e)=(1,fZ,0) :: (1,bl e.nm,0) :: cN 123 :: (cI (cG false e.ns e.vs) ++ [cN 125]):=by
 unfold eZ
 simp [cI,CD,eJ,dE]
theorem VQ (t:St):cI (fJ t)=(1,iT,0) :: (1,bl t.nm,0) :: cN 123 :: (cI (t.fs.flatMap cR) ++ [cN 125]):=by
 unfold fJ
 simp [cI,CD,eJ,dE]
theorem DL (e:En):(eZ e).length=(cG false e.ns e.vs).length + 4:=by unfold eZ; simp
theorem CO (t:St):(fJ t).length=(t.fs.flatMap cR).length + 4:=by unfold fJ; simp
theorem JV {ts:List Tk} {o:Int} {R:List kS} (hR:R ≠ []):∀ (es a:List En) (b:List St) (n F:Nat),(∀ e ∈ es,EnG e)->(ts.map bY).drop n=cI (es.flatMap eZ) ++ R->ts.length < n + F->
 ∃ F',j9 ts F a b ⟨false,o,n⟩=j9 ts F' (a ++ es) b ⟨false,o,n + (es.flatMap eZ).length⟩/\ts.length < n + (es.flatMap eZ).length + F'
 | [],a,b,n,F,_,_,hF=>⟨F,by rw [List.append_nil]; rfl,by simpa using hF⟩
 | e :: es,a,b,n,F,hg,h,hF=>by
  rw [List.flatMap_cons,y8,List.append_assoc,SQ] at h
  have h:(ts.map bY).drop n=(1,fZ,0) :: (1,bl e.nm,0) :: cN 123 :: (cI (cG false e.ns e.vs) ++ cN 125 :: (cI (es.flatMap eZ) ++ R)):=by rw [h]; simp
  have h0:=(bC h).1
  obtain ⟨F,rfl⟩:∃ G,F=G + 1:=⟨F - 1,by omega⟩
  have hk:((bB ts n).k == 0)=false:=by rw [(bC h).2.1]; rfl
  have hne:cI (es.flatMap eZ) ++ R ≠ []:=fun q=>hR (List.append_eq_nil_iff.1 q).2
  have h1:=(bC h).2.2.2.2
  have e1:=aAU (o:=o) (hg e (List.mem_cons_self ..)) h1 hne
  have h2:=(bC (bC h1).2.2.2.2).2.2.2.2
  have h3:=(bC (m8 h2)).2.2.2.2
  rw [show (cI (cG false e.ns e.vs)).length=(cG false e.ns e.vs).length from List.length_map ..,show n + 1 + 1 + 1 + (cG false e.ns e.vs).length + 1=n + (eZ e).length by rw [DL]; omega] at h3
  obtain ⟨F',k1,k2⟩:=JV hR es (a ++ [e]) b (n + (eZ e).length) F (fun x hx=>hg x (List.mem_cons_of_mem _ hx)) h3 (by rw [DL]; omega)
  refine ⟨F',?_,?_⟩
  · rw [lH,aK h,eQ h (by simp),e1,hk,beq_self_eq_true,beq_self_eq_true]
    show j9 ts F (a ++ [e]) b ⟨false,o,n + 1 + ((cG false e.ns e.vs).length + 3)⟩=_
    rw [show n + 1 + ((cG false e.ns e.vs).length + 3)=n + (eZ e).length by rw [DL]; omega,k1,List.append_assoc,List.flatMap_cons,List.length_append,Nat.add_assoc]
    rfl
  · rw [List.flatMap_cons,List.length_append]; omega
theorem KI {ts:List Tk} {o:Int} {R:List kS} (hR:R ≠ []):∀ (ss:List St) (a:List En) (b:List St) (n F:Nat),(∀ t ∈ ss,gQ (bl t.nm)=true/\∀ f ∈ t.fs,dG 6 f.ty ≠ [])->(ts.map bY).drop n=cI (ss.flatMap fJ) ++ R->ts.length < n + F->
 ∃ F',j9 ts F a b ⟨false,o,n⟩=j9 ts F' a (b ++ ss.map FQ) ⟨false,o,n + (ss.flatMap fJ).length⟩/\ts.length < n + (ss.flatMap fJ).length + F'
 | [],a,b,n,F,_,_,hF=>⟨F,by rw [List.map_nil,List.append_nil]; rfl,by simpa using hF⟩
 | t :: ss,a,b,n,F,hg,h,hF=>by
  rw [List.flatMap_cons,y8,List.append_assoc,VQ] at h
  have h:(ts.map bY).drop n=(1,iT,0) :: (1,bl t.nm,0) :: cN 123 :: (cI (t.fs.flatMap cR) ++ cN 125 :: (cI (ss.flatMap fJ) ++ R)):=by rw [h]; simp
  have h0:=(bC h).1
  obtain ⟨F,rfl⟩:∃ G,F=G + 1:=⟨F - 1,by omega⟩
  have hk:((bB ts n).k == 0)=false:=by rw [(bC h).2.1]; rfl
  have hne:cI (ss.flatMap fJ) ++ R ≠ []:=fun q=>hR (List.append_eq_nil_iff.1 q).2
  have h1:=(bC h).2.2.2.2
  obtain ⟨g1,g2⟩:=hg t (List.mem_cons_self ..)
  have e1:=ZV (o:=o) g1 g2 h1 hne
  have h2:=(bC (bC h1).2.2.2.2).2.2.2.2
  have h3:=(bC (m8 h2)).2.2.2.2
  rw [show (cI (t.fs.flatMap cR)).length=(t.fs.flatMap cR).length from List.length_map ..,show n + 1 + 1 + 1 + (t.fs.flatMap cR).length + 1=n + (fJ t).length by rw [CO]; omega] at h3
  obtain ⟨F',k1,k2⟩:=KI hR ss a (b ++ [FQ t]) (n + (fJ t).length) F (fun x hx=>hg x (List.mem_cons_of_mem _ hx)) h3 (by rw [CO]; omega)
  have hno:aX 1 fZ ts ⟨false,o,n⟩=false:=by rw [aK h]; rfl
  refine ⟨F',?_,?_⟩
  · rw [lH,hno,aK h,eQ h (by simp),e1,hk,beq_self_eq_true,beq_self_eq_true]
    show j9 ts F a (b ++ [FQ t]) ⟨false,o,n + 1 + ((t.fs.flatMap cR).length + 3)⟩=_
    rw [show n + 1 + ((t.fs.flatMap cR).length + 3)=n + (fJ t).length by rw [CO]; omega,k1,List.append_assoc,List.flatMap_cons,List.length_append,Nat.add_assoc]
    rfl
  · rw [List.flatMap_cons,List.length_append]; omega
theorem KP {ss:List St} {es:List En} (hap:∀ n,eM ss n=true->dB es n=false):∀ (N:Nat) (t:Ty),t.h<=N->valF ss es t=true->jN (es.map En.nm) (rL t)=t
 | 0,t,h,_=>absurd h (by have:=t.h_pos; omega)
 | N + 1,.mk k s n e,h,hv=>by
  have hin:∀ n,rG (es.map En.nm) n=dB es n:=fun n=>by
   unfold rG dB; rw [List.any_map]; rfl
  cases k5:k == 5 with
  | true=>
   obtain rfl:k=5:=by simpa using k5
   obtain ⟨u,rfl,hu⟩:=qE hv
   have ih:=KP hap N u (by rw [Ty.h,Ty.hs,Ty.hs] at h; omega) hu
   show jN _ (.mk 5 s n [rL u])=_
   rw [jN,zK,zK,ih]; rfl
  | false=>
   rw [valF] at hv
   have e0:∀ {q:Bool},(q && (e.length:Int) == 0)=true->e=[]:=fun h=>by
    rw [Bool.and_eq_true,beq_iff_eq] at h
    exact List.eq_nil_of_length_eq_zero (by omega)
   cases k1:k == 1 with
   | true=>
    rw [k1,aM] at hv
    obtain rfl:=e0 hv
    obtain rfl:k=1:=by simpa using k1
    rfl
   | false=>
   rw [k1,aG] at hv
   cases k2:k == 2 with
   | true=>
    rw [k2,aM] at hv
    obtain rfl:=e0 hv
    obtain rfl:k=2:=by simpa using k2
    rfl
   | false=>
   rw [k2,aG] at hv
   cases k3:k == 3 with
   | true=>
    rw [k3,aM] at hv
    obtain rfl:=e0 hv
    obtain rfl:k=3:=by simpa using k3
    rfl
   | false=>
   rw [k3,aG] at hv
   cases k4:k == 4 with
   | true=>
    rw [k4,aM] at hv
    obtain rfl:=e0 hv
    obtain rfl:k=4:=by simpa using k4
    rfl
   | false=>
   rw [k4,aG,k5,aG] at hv
   cases k6:k == 6 with
   | true=>
    rw [k6,aM] at hv
    obtain rfl:=e0 hv
    obtain rfl:k=6:=by simpa using k6
    rw [Bool.and_eq_true,Bool.and_eq_true] at hv
    show jN _ (.mk 6 s n [])=_
    rw [jN,hin,hap n hv.1.1]; rfl
   | false=>
   rw [k6,aG] at hv
   cases k7:k == 7 with
   | true=>
    rw [k7,aM] at hv
    obtain rfl:=e0 hv
    obtain rfl:k=7:=by simpa using k7
    rw [Bool.and_eq_true,Bool.and_eq_true] at hv
    show jN _ (.mk 6 s n [])=_
    rw [jN,hin,hv.1.1]; rfl
   | false=>rw [k7] at hv; cases hv
theorem LA {ss:List St} {es:List En} (hs:∀ n,eM ss n=true->gQ (bl n)=true) (he:∀ n,dB es n=true->gQ (bl n)=true):∀ (f:Nat) (t:Ty),valF ss es t=true->(bO t).1<=f->dG f t ≠ []
 | f,.mk k s n e,hv,hl=>by
  have e0:∀ {q:Bool},(q && (e.length:Int) == 0)=true->e=[]/\q=true:=fun h=>by
   rw [Bool.and_eq_true,beq_iff_eq] at h
   exact ⟨List.eq_nil_of_length_eq_zero (by omega),h.1⟩
  cases k5:k == 5 with
  | true=>
   obtain rfl:k=5:=by simpa using k5
   obtain ⟨u,rfl,hu⟩:=qE hv
   have hl:(bO u).1 + 1<=f:=by rw [bO] at hl; exact hl
   match f,hl with
   | f + 1,hl=>
   have ih:=LA hs he f u hu (by omega)
   rw [valF] at hv
   simp only [show ((5:Int) == 1)=false from rfl,show ((5:Int) == 2)=false from rfl,show ((5:Int) == 3)=false from rfl,show ((5:Int) == 4)=false from rfl,show ((5:Int) == 5)=true from rfl,aM,aG,Bool.and_eq_true,decide_eq_true_eq] at hv
   have q1:(decide (s < 0) || !(bl n == []) || (([u]:List Ty).length:Int) != 1)=false:=by
    rw [hv.1.2,decide_eq_false (show ¬ s < 0 by omega)]; rfl
   have q2:(dG f u == [])=false:=beq_eq_false_iff_ne.2 ih
   intro h
   rw [j4 (by rfl)] at h
   have h:(bif (decide (s < 0) || !(bl n == []) || (([u]:List Ty).length:Int) != 1) then [] else bif dG f u == [] then [] else qV s ++ dG f u)=[]:=h
   rw [q1,q2] at h
   simp [qV] at h
  | false=>
   rw [jL (t:=.mk k s n e) k5]
   rw [valF] at hv
   unfold jG GO DA
   cases k1:k == 1 with
   | true=>
    rw [k1,aM] at hv
    obtain ⟨rfl,q⟩:=e0 hv
    obtain rfl:k=1:=by simpa using k1
    show (bif s == 0 && bl n == [] then gM else []) ≠ []
    rw [q]; simp [gM]
   | false=>
   rw [k1,aG] at hv
   cases k2:k == 2 with
   | true=>
    rw [k2,aM] at hv
    obtain ⟨rfl,q⟩:=e0 hv
    obtain rfl:k=2:=by simpa using k2
    rw [Bool.and_eq_true] at q
    show (bif bl n == [] && (s == 8 || s == 16 || s == 32 || (s == 64 && true)) then wInt ++ bM s else []) ≠ []
    rw [q.2,Bool.and_true,q.1]; simp [wInt]
   | false=>
   rw [k2,aG] at hv
   cases k3:k == 3 with
   | true=>
    rw [k3,aM] at hv
    obtain ⟨rfl,q⟩:=e0 hv
    obtain rfl:k=3:=by simpa using k3
    rw [Bool.and_eq_true] at q
    show (bif bl n == [] && (s == 8 || s == 16 || s == 32 || (s == 64 && false)) then wUint ++ bM s else []) ≠ []
    rw [q.2,q.1]; simp [wUint]
   | false=>
   rw [k3,aG] at hv
   cases k4:k == 4 with
   | true=>
    rw [k4,aM] at hv
    obtain ⟨rfl,q⟩:=e0 hv
    obtain rfl:k=4:=by simpa using k4
    rw [Bool.and_eq_true,Bool.and_eq_true,decide_eq_true_eq] at q
    show (bif decide (0<=s) && bl n == [] then wText ++ [91] ++ bM s ++ [93] else []) ≠ []
    rw [q.2,decide_eq_true (show 0<=s by omega)]; simp [wText]
   | false=>
   rw [k4,aG,k5,aG] at hv
   have nm:gQ (bl n)=true->(bif (0:Int) == 0 && bR (bl n) && kF (bl n) then bl n else []) ≠ []:=fun h=>by
    have h1:=rK h
    rw [h1,FC h]
    intro q
    rw [show bl n=[] from q] at h1; cases h1
   cases k6:k == 6 with
   | true=>
    rw [k6,aM] at hv
    obtain ⟨rfl,q⟩:=e0 hv
    obtain rfl:k=6:=by simpa using k6
    rw [Bool.and_eq_true,beq_iff_eq] at q
    obtain ⟨q,rfl⟩:=q
    exact nm (hs n q)
   | false=>
   rw [k6,aG] at hv
   cases k7:k == 7 with
   | true=>
    rw [k7,aM] at hv
    obtain ⟨rfl,q⟩:=e0 hv
    obtain rfl:k=7:=by simpa using k7
    rw [Bool.and_eq_true,beq_iff_eq] at q
    obtain ⟨q,rfl⟩:=q
    exact nm (he n q)
   | false=>rw [k7] at hv; cases hv
structure Bk (s:Sc):Prop where
 g:ScG s
 x:∀ t ∈ s.ss,∀ f ∈ t.fs,TyG f.ty
 r:s.ss.map (fun t=>oM (s.es.map En.nm) (FQ t))=s.ss
theorem Z7 {s:Sc} (hf:s.fit) (h:cH s=0):Bk s:=by
 have g:=FY hf h
 obtain ⟨gd,ha,h2,h3,h4,_,_,h7⟩:=wA hf h
 have hS:∀ n,eM s.ss n=true->gQ (bl n)=true/\dB s.es n=false:=fun n hn=>by
  unfold eM at hn
  rw [List.any_eq_true] at hn
  obtain ⟨t,ht,q⟩:=hn
  obtain rfl:t.nm=n:=of_decide_eq_true q
  obtain ⟨i,hi⟩:=List.mem_iff_getElem?.1 ht
  have:=yW (yB hi (mT h3 i (a8.1 hi).1)).1
  exact ⟨this.1,this.2.1⟩
 have hE:∀ n,dB s.es n=true->gQ (bl n)=true:=fun n hn=>by
  unfold dB at hn
  rw [List.any_eq_true] at hn
  obtain ⟨e,he,q⟩:=hn
  obtain rfl:e.nm=n:=of_decide_eq_true q
  exact (g.a e he).n
 refine ⟨g,fun t ht f hm=>⟨LA (fun n hn=>(hS n hn).1) hE 6 f.ty (gd.val t ht f hm) ?_,((hf.ok.ss t ht).fs f hm).ty⟩,?_⟩
 · have q1:=BP gd ha (gd.nd t ht)
   have q2:=HC (dp:=dD s.ss) hm
   have q3:=h7 t ht
   have q4:((bO f.ty).1:Int)<=cB (dD s.ss) f.ty:=by
    unfold cB
    have:=B0 s.ss (bO f.ty).2.n
    cases (bO f.ty).2.k == 6
    · simp only [aG]; omega
    · simp only [aM]; omega
   omega
 · rw [List.map_congr_left (g:=id) fun t ht=>?_,List.map_id]
   obtain ⟨nm,fs⟩:=t
   show (⟨nm,(fs.map uN).map (JC (s.es.map En.nm))⟩:St)=⟨nm,fs⟩
   rw [List.map_map,List.map_congr_left (g:=id) fun f hm=>?_,List.map_id]
   obtain ⟨a,b,c,d⟩:=f
   show (⟨a,b,jN (s.es.map En.nm) (rL c),d⟩:Fl)=⟨a,b,c,d⟩
   rw [KP (fun n hn=>(hS n hn).2) c.h c (Nat.le_refl _) (gd.val _ ht _ hm)]
theorem RD {s:Sc} (hf:s.fit) (h:cH s=0) (hl:(iJ s).length<=4000):v7 (iJ s)=(s,0,0):=by
 have k:=Z7 hf h
 have hs:=X6 k.g h fun t ht f hf=>(k.x t ht f hf).x
 rw [<-hs] at hl
 obtain ⟨e1,e2⟩:=KW wN (lC (by decide) (by decide)) (SN k.g k.x) hl
 rw [hs] at e1 e2
 have hT:=KU e1
 unfold v7
 rw [e1]
 show (bif (xZ (bH (iJ s)).toks).2.bad then _ else _)=_
 generalize (bH (iJ s)).toks=ts at *
 have h0:(ts.map bY).drop 0=(1,vU,0) :: (2,[],s.ver) :: cN 59 :: (cI (s.es.flatMap eZ) ++ (cI (s.ss.flatMap fJ) ++ [(0,[],0)])):=by
  show ts.map bY=_
  rw [e2]
  unfold H8
  simp [cI,CD,eJ,lQ,dE]
 have h1:=(bC h0).2.2.2.2
 have h2:=(bC h1).2.2.2.2
 have h3:=(bC h2).2.2.2.2
 have a1:xL ts=⟨false,0,1⟩:=by
  unfold xL tQ
  rw [aK h0,beq_self_eq_true,beq_self_eq_true,(kZ h0 (by simp)).2]; rfl
 have a2:=xP (c:=false) (o:=0) h1 (by simp) fun h=>by cases h
 have a3:=iG (o:=0) h2 (by simp)
 have a4:PF ts=s.ver:=by unfold PF; rw [a1]; exact a2.1
 have a5:IJ ts=⟨false,0,3⟩:=by unfold IJ; rw [a1]; exact (congrArg _ a2.2).trans a3
 obtain ⟨F1,b1,b2⟩:=JV (o:=0) (R:=cI (s.ss.flatMap fJ) ++ [(0,[],0)]) (by simp) s.es [] [] (0 + 1 + 1 + 1) (ts.length + 1) k.g.a h3 (by omega)
 have h4:=m8 h3
 rw [show (cI (s.es.flatMap eZ)).length=(s.es.flatMap eZ).length from List.length_map ..] at h4
 obtain ⟨F2,b3,b4⟩:=KI (o:=0) (R:=[(0,[],0)]) (by simp) s.ss ([] ++ s.es) [] _ F1 (fun t ht=>⟨(k.g.b t ht).n,fun f hf=>(k.x t ht f hf).x⟩) h4 b2
 have h5:=m8 h4
 rw [show (cI (s.ss.flatMap fJ)).length=(s.ss.flatMap fJ).length from List.length_map ..] at h5
 have hn:=(bC h5).1
 obtain ⟨F2,rfl⟩:∃ G,F2=G + 1:=⟨F2 - 1,by omega⟩
 have a6:xZ ts=((s.es,s.ss.map FQ),⟨false,0,0 + 1 + 1 + 1 + (s.es.flatMap eZ).length + (s.ss.flatMap fJ).length⟩):=by
  unfold xZ
  rw [a5]
  refine b1.trans (b3.trans ?_)
  rw [lH,(bC h5).2.1]
  rfl
 have a7:F0 ts=s:=by
  unfold F0
  rw [a6,a4]
  simp only [List.map_map]
  have:=k.r
  obtain ⟨v,es,ss⟩:=s
  exact congrArg (Sc.mk v es) this
 rw [a6,a7,h]
 rfl
def UA:PC:=.seq (.reg [.e 2 (.bx 25 (.t 0)),.e 3 (.bx 25 (.t 1)),.q 4 (.mv (.k (.bool false)))]) (.seq (.seq (.reg [.q 7 (.fa 0 (.t 2)),.l 8 (.ld1 (.t 7)),.q 9 (.fa 0 (.t 3)),.l 10 (.ld1 (.t 9)),.q 11 (.bin .neq true (.t 8) (.t 10)),.v 12 11,⟨some 13,(some (12,false)),.q (.fa 1 (.t 2))⟩,⟨some 14,(some (12,false)),.l (.ld1 (.t 13))⟩,⟨some 15,(some (12,false)),.q (.lnL (.t 14))⟩,⟨some 16,(some (12,false)),.q (.fa 1 (.t 3))⟩,⟨some 17,(some (12,false)),.l (.ld1 (.t 16))⟩,⟨some 18,(some (12,false)),.q (.lnL (.t 17))⟩,⟨some 19,(some (12,false)),.q (.bin .neq true (.t 15) (.t 18))⟩,.a 20 (.pick (.t 12) (.k (.bool true)) (.t 19)),.v 21 20,⟨some 22,(some (21,false)),.q (.fa 2 (.t 2))⟩,⟨some 23,(some (21,false)),.l (.ld1 (.t 22))⟩,⟨some 24,(some (21,false)),.q (.lnL (.t 23))⟩,⟨some 25,(some (21,false)),.q (.fa 2 (.t 3))⟩,⟨some 26,(some (21,false)),.l (.ld1 (.t 25))⟩,⟨some 27,(some (21,false)),.q (.lnL (.t 26))⟩,⟨some 28,(some (21,false)),.q (.bin .neq true (.t 24) (.t 27))⟩,.a 29 (.pick (.t 21) (.k (.bool true)) (.t 28))]) (.cond (.t 29) (.seq (.reg [.q 4 (.mv (.k (.bool false)))]) .ret) .skip)) (.seq (.seq (.reg [.q 5 (.mv (.i 0))]) (.block 0 (.loop (.seq (.seq (.reg [.v 30 5,.q 31 (.fa 1 (.t 2)),.l 32 (.ld1 (.t 31)),.q 33 (.lnL (.t 32)),.q 34 (.bin .lss true (.t 30) (.t 33))]) (.cond (.t 34) .skip (.exit 0))) (.seq (.block 1 (.seq (.reg [.q 37 (.fa 1 (.t 2)),.l 38 (.ld1 (.t 37)),.v 39 5,.l 40 (.ia 3 (.t 38) (.t 39)),.l 41 (.ldn 3 (.t 40)),.q 42 (.fa 1 (.t 3)),.l 43 (.ld1 (.t 42)),.v 44 5,.l 45 (.ia 3 (.t 43) (.t 44)),.l 46 (.ldn 3 (.t 45)),.a 47 (.cq 42 [(.t 41),(.t 46)]),.q 48 (.not (.t 47))]) (.cond (.t 48) (.seq (.reg [.q 4 (.mv (.k (.bool false)))]) .ret) .skip))) (.reg [.v 35 5,.q 36 (.bin .add true (.t 35) (.i 1)),.v 5 36])))))) (.seq (.seq (.reg [.q 6 (.mv (.i 0))]) (.block 2 (.loop (.seq (.seq (.reg [.v 49 6,.q 50 (.fa 2 (.t 2)),.l 51 (.ld1 (.t 50)),.q 52 (.lnL (.t 51)),.q 53 (.bin .lss true (.t 49) (.t 52))]) (.cond (.t 53) .skip (.exit 2))) (.seq (.block 3 (.seq (.reg [.q 56 (.fa 2 (.t 2)),.l 57 (.ld1 (.t 56)),.v 58 6,.l 59 (.ia 2 (.t 57) (.t 58)),.l 60 (.ldn 2 (.t 59)),.q 61 (.fa 2 (.t 3)),.l 62 (.ld1 (.t 61)),.v 63 6,.l 64 (.ia 2 (.t 62) (.t 63)),.l 65 (.ldn 2 (.t 64)),.a 66 (.cq 43 [(.t 60),(.t 65)]),.q 67 (.not (.t 66))]) (.cond (.t 67) (.seq (.reg [.q 4 (.mv (.k (.bool false)))]) .ret) .skip))) (.reg [.v 54 6,.q 55 (.bin .add true (.t 54) (.i 1)),.v 6 55])))))) (.seq (.reg [.q 4 (.mv (.k (.bool true)))]) .ret))))
def TC:List RV:=[.mv (.t 4)]
theorem aC0:aY Tryz.prog true ⟨fun r k=>if r=6/\k=10 then .q else if r=11/\k=10 then .q else .own [],fun _=>false⟩ Tryz.f13=some (UA,TC):=by kernel_rfl
def S6:PC:=.seq (.reg [.e 2 (.bx 37 (.t 0)),.e 3 (.bx 37 (.t 1)),.q 4 (.mv (.k (.bool false)))]) (.seq (.seq (.reg [.q 6 (.fa 0 (.t 2)),.l 7 (.ld1 (.t 6)),.q 8 (.fa 0 (.t 3)),.l 9 (.ld1 (.t 8)),.q 10 (.bin .neq true (.t 7) (.t 9)),.v 11 10,⟨some 12,(some (11,false)),.q (.fa 1 (.t 2))⟩,⟨some 13,(some (11,false)),.l (.ld1 (.t 12))⟩,⟨some 14,(some (11,false)),.q (.fa 1 (.t 3))⟩,⟨some 15,(some (11,false)),.l (.ld1 (.t 14))⟩,⟨some 16,(some (11,false)),.q (.bin .neq true (.t 13) (.t 15))⟩,.a 17 (.pick (.t 11) (.k (.bool true)) (.t 16)),.v 18 17,⟨some 19,(some (18,false)),.q (.fa 2 (.t 2))⟩,⟨some 20,(some (18,false)),.l (.ld1 (.t 19))⟩,⟨some 21,(some (18,false)),.q (.fa 2 (.t 3))⟩,⟨some 22,(some (18,false)),.l (.ld1 (.t 21))⟩,⟨some 23,(some (18,false)),.q (.bin .neq true (.t 20) (.t 22))⟩,.a 24 (.pick (.t 18) (.k (.bool true)) (.t 23)),.v 25 24,⟨some 26,(some (25,false)),.q (.fa 3 (.t 2))⟩,⟨some 27,(some (25,false)),.l (.ld1 (.t 26))⟩,⟨some 28,(some (25,false)),.q (.lnL (.t 27))⟩,⟨some 29,(some (25,false)),.q (.fa 3 (.t 3))⟩,⟨some 30,(some (25,false)),.l (.ld1 (.t 29))⟩,⟨some 31,(some (25,false)),.q (.lnL (.t 30))⟩,⟨some 32,(some (25,false)),.q (.bin .neq true (.t 28) (.t 31))⟩,.a 33 (.pick (.t 25) (.k (.bool true)) (.t 32))]) (.cond (.t 33) (.seq (.reg [.q 4 (.mv (.k (.bool false)))]) .ret) .skip)) (.seq (.seq (.reg [.q 5 (.mv (.i 0))]) (.block 0 (.loop (.seq (.seq (.reg [.v 34 5,.q 35 (.fa 3 (.t 2)),.l 36 (.ld1 (.t 35)),.q 37 (.lnL (.t 36)),.q 38 (.bin .lss true (.t 34) (.t 37))]) (.cond (.t 38) .skip (.exit 0))) (.seq (.block 1 (.seq (.reg [.q 41 (.fa 3 (.t 2)),.l 42 (.ld1 (.t 41)),.v 43 5,.l 44 (.ia 4 (.t 42) (.t 43)),.l 45 (.ldn 4 (.t 44)),.q 46 (.fa 3 (.t 3)),.l 47 (.ld1 (.t 46)),.v 48 5,.l 49 (.ia 4 (.t 47) (.t 48)),.l 50 (.ldn 4 (.t 49)),.a 51 (.cq 19 [(.t 45),(.t 50)]),.q 52 (.not (.t 51))]) (.cond (.t 52) (.seq (.reg [.q 4 (.mv (.k (.bool false)))]) .ret) .skip))) (.reg [.v 39 5,.q 40 (.bin .add true (.t 39) (.i 1)),.v 5 40])))))) (.seq (.reg [.q 4 (.mv (.k (.bool true)))]) .ret)))
def WP:List RV:=[.mv (.t 4)]
theorem aBK:aY Tryz.prog true ⟨fun r k=>if r=6/\k=10 then .q else .own [],fun _=>false⟩ Tryz.f19=some (S6,WP):=by kernel_rfl
def XS:PC:=.seq (.reg [.e 2 (.bx 62 (.t 0)),.e 3 (.bx 62 (.t 1)),.q 4 (.mv (.k (.bool false)))]) (.seq (.seq (.reg [.q 7 (.fa 0 (.t 2)),.l 8 (.ld1 (.t 7)),.q 9 (.fa 0 (.t 3)),.l 10 (.ld1 (.t 9)),.q 11 (.bin .neq true (.t 8) (.t 10)),.v 12 11,⟨some 13,(some (12,false)),.q (.fa 1 (.t 2))⟩,⟨some 14,(some (12,false)),.l (.ld1 (.t 13))⟩,⟨some 15,(some (12,false)),.q (.lnL (.t 14))⟩,⟨some 16,(some (12,false)),.q (.fa 1 (.t 3))⟩,⟨some 17,(some (12,false)),.l (.ld1 (.t 16))⟩,⟨some 18,(some (12,false)),.q (.lnL (.t 17))⟩,⟨some 19,(some (12,false)),.q (.bin .neq true (.t 15) (.t 18))⟩,.a 20 (.pick (.t 12) (.k (.bool true)) (.t 19)),.v 21 20,⟨some 22,(some (21,false)),.q (.fa 2 (.t 2))⟩,⟨some 23,(some (21,false)),.l (.ld1 (.t 22))⟩,⟨some 24,(some (21,false)),.q (.lnL (.t 23))⟩,⟨some 25,(some (21,false)),.q (.fa 2 (.t 3))⟩,⟨some 26,(some (21,false)),.l (.ld1 (.t 25))⟩,⟨some 27,(some (21,false)),.q (.lnL (.t 26))⟩,⟨some 28,(some (21,false)),.q (.bin .neq true (.t 24) (.t 27))⟩,.a 29 (.pick (.t 21) (.k (.bool true)) (.t 28))]) (.cond (.t 29) (.seq (.reg [.q 4 (.mv (.k (.bool false)))]) .ret) .skip)) (.seq (.seq (.reg [.q 5 (.mv (.i 0))]) (.block 0 (.loop (.seq (.seq (.reg [.v 30 5,.q 31 (.fa 1 (.t 2)),.l 32 (.ld1 (.t 31)),.q 33 (.lnL (.t 32)),.q 34 (.bin .lss true (.t 30) (.t 33))]) (.cond (.t 34) .skip (.exit 0))) (.seq (.block 1 (.seq (.reg [.q 37 (.fa 1 (.t 2)),.l 38 (.ld1 (.t 37)),.v 39 5,.l 40 (.ia 1 (.t 38) (.t 39)),.l 41 (.ld1 (.t 40)),.q 42 (.fa 1 (.t 3)),.l 43 (.ld1 (.t 42)),.v 44 5,.l 45 (.ia 1 (.t 43) (.t 44)),.l 46 (.ld1 (.t 45)),.q 47 (.bin .neq true (.t 41) (.t 46))]) (.cond (.t 47) (.seq (.reg [.q 4 (.mv (.k (.bool false)))]) .ret) .skip))) (.reg [.v 35 5,.q 36 (.bin .add true (.t 35) (.i 1)),.v 5 36])))))) (.seq (.seq (.reg [.q 6 (.mv (.i 0))]) (.block 2 (.loop (.seq (.seq (.reg [.v 48 6,.q 49 (.fa 2 (.t 2)),.l 50 (.ld1 (.t 49)),.q 51 (.lnL (.t 50)),.q 52 (.bin .lss true (.t 48) (.t 51))]) (.cond (.t 52) .skip (.exit 2))) (.seq (.block 3 (.seq (.reg [.q 55 (.fa 2 (.t 2)),.l 56 (.ld1 (.t 55)),.v 57 6,.l 58 (.ia 1 (.t 56) (.t 57)),.l 59 (.ld1 (.t 58)),.q 60 (.fa 2 (.t 3)),.l 61 (.ld1 (.t 60)),.v 62 6,.l 63 (.ia 1 (.t 61) (.t 62)),.l 64 (.ld1 (.t 63)),.q 65 (.bin .neq true (.t 59) (.t 64))]) (.cond (.t 65) (.seq (.reg [.q 4 (.mv (.k (.bool false)))]) .ret) .skip))) (.reg [.v 53 6,.q 54 (.bin .add true (.t 53) (.i 1)),.v 6 54])))))) (.seq (.reg [.q 4 (.mv (.k (.bool true)))]) .ret))))
def SX:List RV:=[.mv (.t 4)]
theorem aDU:aY Tryz.prog true ⟨fun _ _=>.own [],fun _=>false⟩ Tryz.f42=some (XS,SX):=by kernel_rfl
def VD:PC:=.seq (.reg [.e 2 (.bx 56 (.t 0)),.e 3 (.bx 56 (.t 1)),.q 4 (.mv (.k (.bool false)))]) (.seq (.seq (.reg [.q 8 (.fa 0 (.t 2)),.l 9 (.ld1 (.t 8)),.q 10 (.fa 0 (.t 3)),.l 11 (.ld1 (.t 10)),.q 12 (.bin .neq true (.t 9) (.t 11)),.v 13 12,⟨some 14,(some (13,false)),.q (.fa 1 (.t 2))⟩,⟨some 15,(some (13,false)),.l (.ld1 (.t 14))⟩,⟨some 16,(some (13,false)),.q (.lnL (.t 15))⟩,⟨some 17,(some (13,false)),.q (.fa 1 (.t 3))⟩,⟨some 18,(some (13,false)),.l (.ld1 (.t 17))⟩,⟨some 19,(some (13,false)),.q (.lnL (.t 18))⟩,⟨some 20,(some (13,false)),.q (.bin .neq true (.t 16) (.t 19))⟩,.a 21 (.pick (.t 13) (.k (.bool true)) (.t 20))]) (.cond (.t 21) (.seq (.reg [.q 4 (.mv (.k (.bool false)))]) .ret) .skip)) (.seq (.seq (.reg [.q 5 (.mv (.i 0))]) (.block 0 (.loop (.seq (.seq (.reg [.v 22 5,.q 23 (.fa 1 (.t 2)),.l 24 (.ld1 (.t 23)),.q 25 (.lnL (.t 24)),.q 26 (.bin .lss true (.t 22) (.t 25))]) (.cond (.t 26) .skip (.exit 0))) (.seq (.block 1 (.seq (.ord  [.q (.q 29 (.fa 1 (.t 2))),.q (.l 30 (.ld1 (.t 29))),.q (.v 31 5),.q (.l 32 (.ia 7 (.t 30) (.t 31))),.q (.l 33 (.ldn 7 (.t 32))),.q (.q 34 (.fa 1 (.t 3))),.q (.l 35 (.ld1 (.t 34))),.q (.v 36 5),.q (.l 37 (.ia 7 (.t 35) (.t 36))),.q (.l 38 (.ldn 7 (.t 37))),.m (.e 6 (.al (.agg #[(.int .i64 0),(.string (mk [])),(.int .i64 0),(.int .i64 0),(.string (mk [])),(.slice none 0 0),(.bool false)]) 64)),.rc (.q 29 (.fa 1 (.t 2))),.rc (.l 30 (.ld1 (.t 29))),.rc (.v 31 5),.rc (.l 32 (.ia 7 (.t 30) (.t 31))),.rc (.l 33 (.ldn 7 (.t 32))),.rc (.q 34 (.fa 1 (.t 3))),.rc (.l 35 (.ld1 (.t 34))),.rc (.v 36 5),.rc (.l 37 (.ia 7 (.t 35) (.t 36))),.rc (.l 38 (.ldn 7 (.t 37))),.m (.e 7 (.al (.agg #[(.int .i64 0),(.string (mk [])),(.int .i64 0),(.int .i64 0),(.string (mk [])),(.slice none 0 0),(.bool false)]) 64)),.rc (.q 29 (.fa 1 (.t 2))),.rc (.l 30 (.ld1 (.t 29))),.rc (.v 31 5),.rc (.l 32 (.ia 7 (.t 30) (.t 31))),.rc (.l 33 (.ldn 7 (.t 32))),.rc (.q 34 (.fa 1 (.t 3))),.rc (.l 35 (.ld1 (.t 34))),.rc (.v 36 5),.rc (.l 37 (.ia 7 (.t 35) (.t 36))),.rc (.l 38 (.ldn 7 (.t 37))),.m (.s (.st 7 (.t 6) (.t 33))),.rc (.q 34 (.fa 1 (.t 3))),.rc (.l 35 (.ld1 (.t 34))),.rc (.v 36 5),.rc (.l 37 (.ia 7 (.t 35) (.t 36))),.rc (.l 38 (.ldn 7 (.t 37))),.m (.s (.st 7 (.t 7) (.t 38)))]) (.seq (.reg [.q 39 (.fa 0 (.t 6)),.l 40 (.ld1 (.t 39)),.q 41 (.fa 0 (.t 7)),.l 42 (.ld1 (.t 41)),.q 43 (.bin .neq true (.t 40) (.t 42)),.v 44 43,⟨some 45,(some (44,false)),.q (.fa 1 (.t 6))⟩,⟨some 46,(some (44,false)),.l (.ld1 (.t 45))⟩,⟨some 47,(some (44,false)),.q (.fa 1 (.t 7))⟩,⟨some 48,(some (44,false)),.l (.ld1 (.t 47))⟩,⟨some 49,(some (44,false)),.q (.bin .neq true (.t 46) (.t 48))⟩,.a 50 (.pick (.t 44) (.k (.bool true)) (.t 49)),.v 51 50,⟨some 52,(some (51,false)),.q (.fa 6 (.t 6))⟩,⟨some 53,(some (51,false)),.l (.ld1 (.t 52))⟩,⟨some 54,(some (51,false)),.q (.fa 6 (.t 7))⟩,⟨some 55,(some (51,false)),.l (.ld1 (.t 54))⟩,⟨some 56,(some (51,false)),.q (.eqB true (.t 53) (.t 55))⟩,.a 57 (.pick (.t 51) (.k (.bool true)) (.t 56)),.v 58 57,⟨some 59,(some (58,false)),.q (.fa 2 (.t 6))⟩,⟨some 60,(some (58,false)),.l (.ldn 4 (.t 59))⟩,⟨some 61,(some (58,false)),.q (.fa 2 (.t 7))⟩,⟨some 62,(some (58,false)),.l (.ldn 4 (.t 61))⟩,⟨some 63,(some (58,false)),.cq 19 [(.t 60),(.t 62)]⟩,⟨some 64,(some (58,false)),.q (.not (.t 63))⟩,.a 65 (.pick (.t 58) (.k (.bool true)) (.t 64))]) (.cond (.t 65) (.seq (.reg [.q 4 (.mv (.k (.bool false)))]) .ret) .skip)))) (.reg [.v 27 5,.q 28 (.bin .add true (.t 27) (.i 1)),.v 5 28])))))) (.seq (.reg [.q 4 (.mv (.k (.bool true)))]) .ret)))
def VJ:List RV:=[.mv (.t 4)]
theorem aEF:aY Tryz.prog true ⟨fun r k=>if r=7/\k=24 then .q else .own [],fun _=>false⟩ Tryz.f43=some (VD,VJ):=by kernel_rfl
theorem vM:Meets Tryz.prog 65 (sW fun l=>.bool (bR l)).sp:=by
 refine aI Tryz.func65 aC1 1 (by rw [Tryz.ntmps65]; decide) (aC _) n9 ?_
 rintro xs H K ⟨⟨h,rfl⟩,hK⟩
 obtain ⟨s,rfl⟩:=iF h
 simp -dsimp only [go_sem,TY,TI] at hK ⊢
 refine ⟨fun h1=>?_,fun h1=>?_⟩
 · refine d9 hK ?_
   have:bR (bl s)=false:=by
    simp at h1
    rcases h1 with h1 | h1
    · have:bl s=[]:=List.length_eq_zero_iff.1 (by omega)
      rw [this]; rfl
    · exact rY (by omega)
   rw [this]
 · have hlen:0 < (bl s).length/\(bl s).length<=16:=by simp at h1; omega
   obtain ⟨hl0,hl⟩:=hlen
   refine aT (α:=Nat) (fun i=>[(0,tS s),(3,iS .i64 i)]) (fun i=>[]) (fun i=>i<=(bl s).length/\(∀ (j:Nat) (x:UInt8),j < i->(bl s)[j]? = some x->aW x=true)/\(0 < i->∀ x,(bl s)[0]? = some x->bQ x.toNat=true)) (fun i=>(bl s).length - i) 0 0 ⟨by omega,by omega,by omega⟩ ?_ ?_ ?_
   · simp -dsimp only [go_sem]; simp
   · simp [go_sem]
   rintro i ⟨hi,ha,hb⟩
   rcases bG i (bl s).length with hlt | hge
   · have hg:decide ((i:Int) < ((bl s).length:Int))=true:=by simp; omega
     obtain ⟨c,hc⟩:∃ c,(bl s)[i]? = some c:=⟨_,aV hlt⟩
     have bad:(i=0/\bQ c.toNat=false)\/aW c=false->W.Fin 0 K (bS false) []:=fun h=>d9 hK (by
      rcases h with ⟨rfl,h⟩ | h
      · rw [wQ hc h]
      · rw [GZ hc h])
     have cP:aW c=true->(i=0->bQ c.toNat=true)->(i + 1<=(bl s).length/\(∀ (j:Nat) (x:UInt8),j < i + 1->(bl s)[j]? = some x->aW x=true)/\(0 < i + 1->∀ x,(bl s)[0]? = some x->bQ x.toNat=true)):=fun h1 h2=>⟨by omega,fun j x hj hx=>by
      rcases bG j i with h4 | h4
      · exact ha j x h4 hx
      · obtain rfl:j=i:=by omega
        rw [hc] at hx; obtain rfl:=bJ hx; exact h1,fun _ x hx=>by
      rcases Nat.eq_zero_or_pos i with h0 | h0
      · subst h0; rw [hc] at hx; obtain rfl:=bJ hx; exact h2 rfl
      · exact hb h0 x hx⟩
     have hb255:=c.toNat_lt
     have hcs:(0<=(c.toNat:Int)/\(c.toNat:Int)<=47)\/(48<=(c.toNat:Int)/\(c.toNat:Int)<=57)\/(58<=(c.toNat:Int)/\(c.toNat:Int)<=64)\/(65<=(c.toNat:Int)/\(c.toNat:Int)<=90)\/(91<=(c.toNat:Int)/\(c.toNat:Int)<=94)\/(95<=(c.toNat:Int)/\(c.toNat:Int)<=95)\/(96<=(c.toNat:Int)/\(c.toNat:Int)<=96)\/(97<=(c.toNat:Int)/\(c.toNat:Int)<=122)\/(123<=(c.toNat:Int)/\(c.toNat:Int)<=255):=by omega
     rcases hcs with h2 | h2 | h2 | h2 | h2 | h2 | h2 | h2 | h2
     · have d1:decide (97<=(c.toNat:Int))=false:=decide_eq_false (by omega)
       have d2:decide ((c.toNat:Int)<=122)=true:=decide_eq_true (by omega)
       have d3:decide (65<=(c.toNat:Int))=false:=decide_eq_false (by omega)
       have d4:decide ((c.toNat:Int)<=90)=true:=decide_eq_true (by omega)
       have d5:((c.toNat:Int) == 95)=false:=by simp; omega
       have d6:decide (48<=(c.toNat:Int))=false:=decide_eq_false (by omega)
       have d7:decide ((c.toNat:Int)<=57)=true:=decide_eq_true (by omega)
       have hL:bQ c.toNat=false:=by unfold bQ; rw [d1,d2,d3,d4]; rfl
       have hW:aW c=false:=by unfold aW iR iP; rw [hL,d5,d6,d7]; rfl
       rcases Nat.eq_zero_or_pos i with h0 | h0
       · have hz:((i:Int) == 0)=true:=by simp; omega
         simp (maxSteps:=9^6) -dsimp only [go_sem,hg,hc,aF,forall_eq',Int.toNat_natCast,d1,d3,d5,d6,hz,Bool.true_and,Bool.and_true,Bool.false_and,Bool.and_false,Bool.not_true,Bool.not_false]
         repeat' first | intro _ | apply And.intro
         all_goals first | omega | (rename_i h9; simp at h9; done) | skip
         all_goals exact bad (by rw [hL,hW]; exact .inl ⟨h0,rfl⟩)
       · have hz:((i:Int) == 0)=false:=by simp; omega
         simp (maxSteps:=9^6) -dsimp only [go_sem,hg,hc,aF,forall_eq',Int.toNat_natCast,d1,d3,d5,d6,hz,Bool.true_and,Bool.and_true,Bool.false_and,Bool.not_false]
         repeat' first | intro _ | apply And.intro
         all_goals first | omega | (rename_i h9; simp at h9; done) | skip
         all_goals exact bad (by rw [hL,hW]; exact .inr rfl)
     · have d1:decide (97<=(c.toNat:Int))=false:=decide_eq_false (by omega)
       have d2:decide ((c.toNat:Int)<=122)=true:=decide_eq_true (by omega)
       have d3:decide (65<=(c.toNat:Int))=false:=decide_eq_false (by omega)
       have d4:decide ((c.toNat:Int)<=90)=true:=decide_eq_true (by omega)
       have d5:((c.toNat:Int) == 95)=false:=by simp; omega
       have d6:decide (48<=(c.toNat:Int))=true:=decide_eq_true (by omega)
       have d7:decide ((c.toNat:Int)<=57)=true:=decide_eq_true (by omega)
       have hL:bQ c.toNat=false:=by unfold bQ; rw [d1,d2,d3,d4]; rfl
       have hW:aW c=true:=by unfold aW iR iP; rw [hL,d5,d6,d7]; rfl
       rcases Nat.eq_zero_or_pos i with h0 | h0
       · have hz:((i:Int) == 0)=true:=by simp; omega
         simp (maxSteps:=9^6) -dsimp only [go_sem,hg,hc,aF,forall_eq',Int.toNat_natCast,d1,d3,d5,d6,hz,Bool.true_and,Bool.and_true,Bool.false_and,Bool.and_false,Bool.not_true,Bool.not_false]
         repeat' first | intro _ | apply And.intro
         all_goals first | omega | (rename_i h9; simp at h9; done) | skip
         all_goals exact bad (by rw [hL,hW]; exact .inl ⟨h0,rfl⟩)
       · have hz:((i:Int) == 0)=false:=by simp; omega
         simp (maxSteps:=9^6) -dsimp only [go_sem,hg,hc,aF,forall_eq',Int.toNat_natCast,d1,d3,d5,d6,d7,hz,Bool.true_and,Bool.and_true,Bool.false_and,Bool.not_false]
         repeat' first | intro _ | apply And.intro
         all_goals first | omega | (rename_i h9; simp at h9; done) | skip
         all_goals exact aB (i + 1) 0 (cP (by rw [hW]) (fun h3=>by omega)) (by omega) (by simp -dsimp only [go_sem]; simp) (by simp [go_sem])
     · have d1:decide (97<=(c.toNat:Int))=false:=decide_eq_false (by omega)
       have d2:decide ((c.toNat:Int)<=122)=true:=decide_eq_true (by omega)
       have d3:decide (65<=(c.toNat:Int))=false:=decide_eq_false (by omega)
       have d4:decide ((c.toNat:Int)<=90)=true:=decide_eq_true (by omega)
       have d5:((c.toNat:Int) == 95)=false:=by simp; omega
       have d6:decide (48<=(c.toNat:Int))=true:=decide_eq_true (by omega)
       have d7:decide ((c.toNat:Int)<=57)=false:=decide_eq_false (by omega)
       have hL:bQ c.toNat=false:=by unfold bQ; rw [d1,d2,d3,d4]; rfl
       have hW:aW c=false:=by unfold aW iR iP; rw [hL,d5,d6,d7]; rfl
       rcases Nat.eq_zero_or_pos i with h0 | h0
       · have hz:((i:Int) == 0)=true:=by simp; omega
         simp (maxSteps:=9^6) -dsimp only [go_sem,hg,hc,aF,forall_eq',Int.toNat_natCast,d1,d3,d5,d6,hz,Bool.true_and,Bool.and_true,Bool.false_and,Bool.and_false,Bool.not_true,Bool.not_false]
         repeat' first | intro _ | apply And.intro
         all_goals first | omega | (rename_i h9; simp at h9; done) | skip
         all_goals exact bad (by rw [hL,hW]; exact .inl ⟨h0,rfl⟩)
       · have hz:((i:Int) == 0)=false:=by simp; omega
         simp (maxSteps:=9^6) -dsimp only [go_sem,hg,hc,aF,forall_eq',Int.toNat_natCast,d1,d3,d5,d6,d7,hz,Bool.true_and,Bool.and_true,Bool.false_and,Bool.not_false]
         repeat' first | intro _ | apply And.intro
         all_goals first | omega | (rename_i h9; simp at h9; done) | skip
         all_goals exact bad (by rw [hL,hW]; exact .inr rfl)
     · have d1:decide (97<=(c.toNat:Int))=false:=decide_eq_false (by omega)
       have d2:decide ((c.toNat:Int)<=122)=true:=decide_eq_true (by omega)
       have d3:decide (65<=(c.toNat:Int))=true:=decide_eq_true (by omega)
       have d4:decide ((c.toNat:Int)<=90)=true:=decide_eq_true (by omega)
       have d5:((c.toNat:Int) == 95)=false:=by simp; omega
       have d6:decide (48<=(c.toNat:Int))=true:=decide_eq_true (by omega)
       have d7:decide ((c.toNat:Int)<=57)=false:=decide_eq_false (by omega)
       have hL:bQ c.toNat=true:=by unfold bQ; rw [d1,d2,d3,d4]; rfl
       have hW:aW c=true:=by unfold aW iR iP; rw [hL,d5,d6,d7]; rfl
       rcases Nat.eq_zero_or_pos i with h0 | h0
       · have hz:((i:Int) == 0)=true:=by simp; omega
         simp (maxSteps:=9^6) -dsimp only [go_sem,hg,hc,aF,forall_eq',Int.toNat_natCast,d1,d3,d4,d5,d6,hz,Bool.true_and,Bool.and_true,Bool.false_and,Bool.and_false,Bool.not_true,Bool.not_false]
         repeat' first | intro _ | apply And.intro
         all_goals first | omega | (rename_i h9; simp at h9; done) | skip
         all_goals exact aB (i + 1) 0 (cP (by rw [hW]) (fun h3=>by rw [hL])) (by omega) (by simp -dsimp only [go_sem]; simp) (by simp [go_sem])
       · have hz:((i:Int) == 0)=false:=by simp; omega
         simp (maxSteps:=9^6) -dsimp only [go_sem,hg,hc,aF,forall_eq',Int.toNat_natCast,d1,d3,d4,d5,d6,d7,hz,Bool.true_and,Bool.and_true,Bool.false_and,Bool.not_false]
         repeat' first | intro _ | apply And.intro
         all_goals first | omega | (rename_i h9; simp at h9; done) | skip
         all_goals exact aB (i + 1) 0 (cP (by rw [hW]) (fun h3=>by rw [hL])) (by omega) (by simp -dsimp only [go_sem]; simp) (by simp [go_sem])
     · have d1:decide (97<=(c.toNat:Int))=false:=decide_eq_false (by omega)
       have d2:decide ((c.toNat:Int)<=122)=true:=decide_eq_true (by omega)
       have d3:decide (65<=(c.toNat:Int))=true:=decide_eq_true (by omega)
       have d4:decide ((c.toNat:Int)<=90)=false:=decide_eq_false (by omega)
       have d5:((c.toNat:Int) == 95)=false:=by simp; omega
       have d6:decide (48<=(c.toNat:Int))=true:=decide_eq_true (by omega)
       have d7:decide ((c.toNat:Int)<=57)=false:=decide_eq_false (by omega)
       have hL:bQ c.toNat=false:=by unfold bQ; rw [d1,d2,d3,d4]; rfl
       have hW:aW c=false:=by unfold aW iR iP; rw [hL,d5,d6,d7]; rfl
       rcases Nat.eq_zero_or_pos i with h0 | h0
       · have hz:((i:Int) == 0)=true:=by simp; omega
         simp (maxSteps:=9^6) -dsimp only [go_sem,hg,hc,aF,forall_eq',Int.toNat_natCast,d1,d3,d4,d5,d6,hz,Bool.true_and,Bool.and_true,Bool.false_and,Bool.and_false,Bool.not_true,Bool.not_false]
         repeat' first | intro _ | apply And.intro
         all_goals first | omega | (rename_i h9; simp at h9; done) | skip
         all_goals exact bad (by rw [hL,hW]; exact .inl ⟨h0,rfl⟩)
       · have hz:((i:Int) == 0)=false:=by simp; omega
         simp (maxSteps:=9^6) -dsimp only [go_sem,hg,hc,aF,forall_eq',Int.toNat_natCast,d1,d3,d4,d5,d6,d7,hz,Bool.true_and,Bool.and_true,Bool.false_and,Bool.not_false]
         repeat' first | intro _ | apply And.intro
         all_goals first | omega | (rename_i h9; simp at h9; done) | skip
         all_goals exact bad (by rw [hL,hW]; exact .inr rfl)
     · have d1:decide (97<=(c.toNat:Int))=false:=decide_eq_false (by omega)
       have d2:decide ((c.toNat:Int)<=122)=true:=decide_eq_true (by omega)
       have d3:decide (65<=(c.toNat:Int))=true:=decide_eq_true (by omega)
       have d4:decide ((c.toNat:Int)<=90)=false:=decide_eq_false (by omega)
       have d5:((c.toNat:Int) == 95)=true:=by simp; omega
       have d6:decide (48<=(c.toNat:Int))=true:=decide_eq_true (by omega)
       have d7:decide ((c.toNat:Int)<=57)=false:=decide_eq_false (by omega)
       have hL:bQ c.toNat=false:=by unfold bQ; rw [d1,d2,d3,d4]; rfl
       have hW:aW c=true:=by unfold aW iR iP; rw [hL,d5,d6,d7]; rfl
       rcases Nat.eq_zero_or_pos i with h0 | h0
       · have hz:((i:Int) == 0)=true:=by simp; omega
         simp (maxSteps:=9^6) -dsimp only [go_sem,hg,hc,aF,forall_eq',Int.toNat_natCast,d1,d3,d4,d5,hz,Bool.true_and,Bool.and_true,Bool.false_and,Bool.and_false,Bool.not_true,Bool.not_false]
         repeat' first | intro _ | apply And.intro
         all_goals first | omega | (rename_i h9; simp at h9; done) | skip
         all_goals exact bad (by rw [hL,hW]; exact .inl ⟨h0,rfl⟩)
       · have hz:((i:Int) == 0)=false:=by simp; omega
         simp (maxSteps:=9^6) -dsimp only [go_sem,hg,hc,aF,forall_eq',Int.toNat_natCast,d1,d3,d4,d5,hz,Bool.true_and,Bool.and_true,Bool.false_and,Bool.not_true,Bool.not_false]
         repeat' first | intro _ | apply And.intro
         all_goals first | omega | (rename_i h9; simp at h9; done) | skip
         all_goals exact aB (i + 1) 0 (cP (by rw [hW]) (fun h3=>by omega)) (by omega) (by simp -dsimp only [go_sem]; simp) (by simp [go_sem])
     · have d1:decide (97<=(c.toNat:Int))=false:=decide_eq_false (by omega)
       have d2:decide ((c.toNat:Int)<=122)=true:=decide_eq_true (by omega)
       have d3:decide (65<=(c.toNat:Int))=true:=decide_eq_true (by omega)
       have d4:decide ((c.toNat:Int)<=90)=false:=decide_eq_false (by omega)
       have d5:((c.toNat:Int) == 95)=false:=by simp; omega
       have d6:decide (48<=(c.toNat:Int))=true:=decide_eq_true (by omega)
       have d7:decide ((c.toNat:Int)<=57)=false:=decide_eq_false (by omega)
       have hL:bQ c.toNat=false:=by unfold bQ; rw [d1,d2,d3,d4]; rfl
       have hW:aW c=false:=by unfold aW iR iP; rw [hL,d5,d6,d7]; rfl
       rcases Nat.eq_zero_or_pos i with h0 | h0
       · have hz:((i:Int) == 0)=true:=by simp; omega
         simp (maxSteps:=9^6) -dsimp only [go_sem,hg,hc,aF,forall_eq',Int.toNat_natCast,d1,d3,d4,d5,d6,hz,Bool.true_and,Bool.and_true,Bool.false_and,Bool.and_false,Bool.not_true,Bool.not_false]
         repeat' first | intro _ | apply And.intro
         all_goals first | omega | (rename_i h9; simp at h9; done) | skip
         all_goals exact bad (by rw [hL,hW]; exact .inl ⟨h0,rfl⟩)
       · have hz:((i:Int) == 0)=false:=by simp; omega
         simp (maxSteps:=9^6) -dsimp only [go_sem,hg,hc,aF,forall_eq',Int.toNat_natCast,d1,d3,d4,d5,d6,d7,hz,Bool.true_and,Bool.and_true,Bool.false_and,Bool.not_false]
         repeat' first | intro _ | apply And.intro
         all_goals first | omega | (rename_i h9; simp at h9; done) | skip
         all_goals exact bad (by rw [hL,hW]; exact .inr rfl)
     · have d1:decide (97<=(c.toNat:Int))=true:=decide_eq_true (by omega)
       have d2:decide ((c.toNat:Int)<=122)=true:=decide_eq_true (by omega)
       have d3:decide (65<=(c.toNat:Int))=true:=decide_eq_true (by omega)
       have d4:decide ((c.toNat:Int)<=90)=false:=decide_eq_false (by omega)
       have d5:((c.toNat:Int) == 95)=false:=by simp; omega
       have d6:decide (48<=(c.toNat:Int))=true:=decide_eq_true (by omega)
       have d7:decide ((c.toNat:Int)<=57)=false:=decide_eq_false (by omega)
       have hL:bQ c.toNat=true:=by unfold bQ; rw [d1,d2,d3,d4]; rfl
       have hW:aW c=true:=by unfold aW iR iP; rw [hL,d5,d6,d7]; rfl
       rcases Nat.eq_zero_or_pos i with h0 | h0
       · have hz:((i:Int) == 0)=true:=by simp; omega
         simp (maxSteps:=9^6) -dsimp only [go_sem,hg,hc,aF,forall_eq',Int.toNat_natCast,d1,d2,d5,d6,hz,Bool.true_and,Bool.and_true,Bool.false_and,Bool.and_false,Bool.not_true,Bool.not_false]
         repeat' first | intro _ | apply And.intro
         all_goals first | omega | (rename_i h9; simp at h9; done) | skip
         all_goals exact aB (i + 1) 0 (cP (by rw [hW]) (fun h3=>by rw [hL])) (by omega) (by simp -dsimp only [go_sem]; simp) (by simp [go_sem])
       · have hz:((i:Int) == 0)=false:=by simp; omega
         simp (maxSteps:=9^6) -dsimp only [go_sem,hg,hc,aF,forall_eq',Int.toNat_natCast,d1,d2,d5,d6,d7,hz,Bool.true_and,Bool.and_true,Bool.false_and,Bool.not_true,Bool.not_false]
         repeat' first | intro _ | apply And.intro
         all_goals first | omega | (rename_i h9; simp at h9; done) | skip
         all_goals exact aB (i + 1) 0 (cP (by rw [hW]) (fun h3=>by rw [hL])) (by omega) (by simp -dsimp only [go_sem]; simp) (by simp [go_sem])
     · have d1:decide (97<=(c.toNat:Int))=true:=decide_eq_true (by omega)
       have d2:decide ((c.toNat:Int)<=122)=false:=decide_eq_false (by omega)
       have d3:decide (65<=(c.toNat:Int))=true:=decide_eq_true (by omega)
       have d4:decide ((c.toNat:Int)<=90)=false:=decide_eq_false (by omega)
       have d5:((c.toNat:Int) == 95)=false:=by simp; omega
       have d6:decide (48<=(c.toNat:Int))=true:=decide_eq_true (by omega)
       have d7:decide ((c.toNat:Int)<=57)=false:=decide_eq_false (by omega)
       have hL:bQ c.toNat=false:=by unfold bQ; rw [d1,d2,d3,d4]; rfl
       have hW:aW c=false:=by unfold aW iR iP; rw [hL,d5,d6,d7]; rfl
       rcases Nat.eq_zero_or_pos i with h0 | h0
       · have hz:((i:Int) == 0)=true:=by simp; omega
         simp (maxSteps:=9^6) -dsimp only [go_sem,hg,hc,aF,forall_eq',Int.toNat_natCast,d1,d2,d3,d4,d5,d6,hz,Bool.true_and,Bool.and_true,Bool.and_false,Bool.not_true,Bool.not_false]
         repeat' first | intro _ | apply And.intro
         all_goals first | omega | (rename_i h9; simp at h9; done) | skip
         all_goals exact bad (by rw [hL,hW]; exact .inl ⟨h0,rfl⟩)
       · have hz:((i:Int) == 0)=false:=by simp; omega
         simp (maxSteps:=9^6) -dsimp only [go_sem,hg,hc,aF,forall_eq',Int.toNat_natCast,d1,d2,d3,d4,d5,d6,d7,hz,Bool.true_and,Bool.and_true,Bool.not_false]
         repeat' first | intro _ | apply And.intro
         all_goals first | omega | (rename_i h9; simp at h9; done) | skip
         all_goals exact bad (by rw [hL,hW]; exact .inr rfl)
   · have hg:decide ((i:Int) < ((bl s).length:Int))=false:=by simp; omega
     obtain rfl:i=(bl s).length:=by omega
     obtain ⟨c,hc⟩:∃ c,(bl s)[0]? = some c:=⟨_,aV hl0⟩
     simp (maxSteps:=9^6) -dsimp only [go_sem,hg]
     refine d9 hK ?_
     rw [BA hc hl (hb hl0 c hc) fun j x hx=>ha j x (a8.1 hx).1 hx]
theorem EO:Meets Tryz.prog 64 (sW fun l=>.bool (gQ l)).sp:=by
 refine aI Tryz.func64 aB0 1 (by rw [Tryz.ntmps64]; decide) (aL vM (aC _)) n9 ?_
 rintro xs H K ⟨⟨h,rfl⟩,hK⟩
 obtain ⟨s,rfl⟩:=iF h
 have hK':K (.va (.c1 (.vl (.bool (gQ (bl s)))))) []:=hK
 clear hK h
 unfold gQ at hK'
 cases hn:bR (bl s) with
 | false=>
  rw [hn] at hK'
  simp -dsimp only [go_sem,MT,MX,hn]
  exact .done hK'
 | true=>
  cases hl:bl s with
  | nil=>rw [hl] at hn; cases hn
  | cons c r=>
   rw [hl] at hn hK'
   rw [hn] at hK'
   simp -dsimp only [go_sem,MT,MX,hl,hn]
   refine ⟨by omega,fun d hd=>⟨fun _=>by omega,fun e he=>?_⟩⟩
   subst hd
   cases hc:decide (65<=(c.toNat:Int)) with
   | false=>simp only [hc,Bool.true_and,Bool.false_and] at hK'; exact .done hK'
   | true=>
    obtain rfl:=he hc
    simp only [hc,Bool.true_and] at hK'; exact .done hK'
theorem SL:Meets Tryz.prog 110 (mX e8 C.ty fun t=>.bool ((t.e.length:Int) == 0)).sp:=by
 refine aI Tryz.func110 YJ 1 (by rw [Tryz.ntmps110]; decide) (aC _) iE ?_
 rintro av H K ⟨⟨h,rfl⟩,hK⟩
 obtain ⟨_,rfl,t,rfl,ht⟩:=eK h
 have hK:K (bS ((t.e.length:Int) == 0)) []:=by
  have:(mX e8 C.ty fun t=>.bool ((t.e.length:Int) == 0)).val [.va (.gs (aP t))]=bA ((t.e.length:Int) == 0):=by simp -dsimp only [go_sem]
  rw [this] at hK; exact hK
 simp (maxSteps:=9^6) -dsimp only [go_sem,bX,OF,PI]
 exact .z ((by simpa [go_sem] using hK))
def BG:List S->Prop:=fun av=>match av with
 | [.va (.c1 (.fz rs)),.va (.c1 (.vl (.int .i64 k))),.va (.c1 (.vl (.string _)))]=>qD rs/\0<=k/\k<=9223372036854775807
 | _=>False
theorem pN {av:List S} (h:BG av):∃ (l:List ByteArray) (n:Nat) (x:ByteArray),av=[.va (.c1 (.fz (l.map bI))),iS .i64 n,tS x]/\l.length<=9223372036854775807/\(n:Int)<=9223372036854775807:=by
 unfold BG at h
 split at h
 · obtain ⟨⟨l,rfl,h1⟩,h2,h3⟩:=h
   rename_i k x
   exact ⟨l,k.toNat,x,by rw [Int.toNat_of_nonneg h2],h1,by omega⟩
 · exact h.elim
noncomputable def P9:List S->A:=fun av=>match av with
 | [.va (.c1 (.fz rs)),.va (.c1 (.vl (.int .i64 k))),.va (.c1 (.vl (.string x)))]=>bA (b5 ((rs.map C.bs).take k.toNat) x)
 | _=>.gs []
noncomputable def inFn:Fun:=⟨BG,P9,fun av h=>by obtain ⟨l,n,x,rfl,_⟩:=pN h; trivial⟩
theorem MD:∀ av H K,inFn.sp av H K->av.length=3:=fun av H K h=>by obtain ⟨l,n,x,rfl,_⟩:=pN h.1.1; rfl
attribute [go_sem] inFn BG P9
theorem MF:Meets Tryz.prog 29 inFn.sp:=by
 refine aI Tryz.func29 aC2 3 (by rw [Tryz.ntmps29]; decide) (aC _) MD ?_
 rintro av H K ⟨⟨h,rfl⟩,hK⟩
 obtain ⟨l,n,x,rfl,hl,hn⟩:=pN h
 have hK:K (bS (b5 (l.take n) x)) []:=by
  have:inFn.val [.va (.c1 (.fz (l.map bI))),iS .i64 n,tS x]=bA (b5 (l.take n) x):=by simp -dsimp only [go_sem,Int.toNat_natCast]
  rw [this] at hK; exact hK
 clear h
 simp (maxSteps:=9^6) -dsimp only [go_sem,XH,VW]
 refine aT (α:=Nat) (fun i=>[(0,.va (.c1 (.fz (l.map bI)))),(1,iS .i64 n),(2,tS x),(7,iS .i64 i)]) (fun _=>[])
  (fun i=>i<=(l.take n).length/\b5 ((l.take n).drop i) x=b5 (l.take n) x) (fun i=>l.length - i) 0 0 ⟨Nat.zero_le _,rfl⟩ ?_ ?_ ?_
 · simp [go_sem]
 · simp [go_sem]
 rintro i ⟨hi,ho⟩
 have hlt0:(l.take n).length=min n l.length:=by simp
 rcases bG i (l.take n).length with hlt | hge
 · have g1:decide ((i:Int) < (n:Int))=true:=by simp; omega
   have g2:decide ((i:Int) < (l.length:Int))=true:=by simp; omega
   obtain ⟨y,hx⟩:∃ y,l[i]? = some y:=⟨_,aV (by omega)⟩
   have hx':(l.take n)[i]? = some y:=by rw [List.getElem?_take,if_pos (by omega)]; exact hx
   have q2:=aN (row:=bI) hx
   rw [b5,cX hx'] at ho
   simp (maxSteps:=9^6) -dsimp only [go_sem,g1,g2,↓q2,c7]
   have hsy:decide (y=x)=decide (x=y):=by simp [eq_comm]
   refine ⟨by omega,fun hc=>?_,fun hc=>⟨by omega,aB (i + 1) 0 ⟨by omega,?_⟩ (by omega) ?_ ?_⟩⟩
   · rw [<-hsy,hc,Bool.true_or] at ho
     rw [<-ho] at hK
     exact .done hK
   · rw [<-hsy,hc,Bool.false_or] at ho
     exact ho
   · simp [go_sem]
   · simp [go_sem]
 · obtain rfl:i=(l.take n).length:=by omega
   rw [b5,eV] at ho
   rw [<-ho] at hK
   generalize hm:(l.take n).length=m at *
   rcases bG m n with h1 | h1
   · have g1:decide ((m:Int) < (n:Int))=true:=by simp; omega
     have g2:decide ((m:Int) < (l.length:Int))=false:=by simp; omega
     simp (maxSteps:=9^6) -dsimp only [go_sem,g1,g2]
     exact .done hK
   · have g1:decide ((m:Int) < (n:Int))=false:=by simp; omega
     simp (maxSteps:=9^6) -dsimp only [go_sem,g1]
     exact .done hK
theorem CL:Meets Tryz.prog 68 N5:=by
 refine aI Tryz.func68 aDV 2 (by rw [Tryz.ntmps68]; decide) (aC _) (fun av H K h=>by obtain ⟨_,_,rfl,_⟩:=h; rfl) ?_
 rintro av H K ⟨s,n,rfl,rfl,hs,hK⟩
 rw [<-C8] at hK
 have hl:=hs.ok.ls
 simp -dsimp only [go_sem,aA,W1,V0]
 refine aT (α:=Nat) (fun i=>[(1,tS n),(2,.va (.c1 (.pt 0 0))),(4,.va (.c1 (.pt 1 0))),(6,iS .i64 i)]) (fun _=>[.cells (aA s) 25,.cells [.vl (.string (mk [])),.vl (.slice none 0 0)] 56])
  (fun i=>i<=s.ss.length/\fS (s.ss.drop i) n=fS s.ss n) (fun i=>s.ss.length - i) 0 2 ⟨Nat.zero_le _,rfl⟩ ?_ ?_ ?_
 · simp [go_sem]
 · simp [go_sem,aA]
 rintro i ⟨hi,ho⟩
 rcases bG i s.ss.length with hlt | hge
 · have hg:decide ((i:Int) < (s.ss.length:Int))=true:=by simp; omega
   obtain ⟨t,hx⟩:∃ e,s.ss[i]? = some e:=⟨_,aV hlt⟩
   have q2:=aN (row:=aJ) hx
   rw [fS,DY hx] at ho
   cases hc:decide (t.nm=n) with
   | true=>
    rw [hc,aM] at ho
    rw [<-ho] at hK
    simp (maxSteps:=9^6) -dsimp only [go_sem,hg,↓q2,aJ,aA,c7,hc]
    refine ⟨by omega,by omega,.z ((by simpa [go_sem,aJ] using hK))⟩
   | false=>
    rw [hc,aG] at ho
    simp (maxSteps:=9^6) -dsimp only [go_sem,hg,↓q2,aJ,aA,c7,hc]
    refine ⟨by omega,by omega,aB (i + 1) 2 ⟨by omega,ho⟩ (by omega) ?_ ?_⟩
    · simp [go_sem]
    · simp [go_sem,aA]
 · have hg:decide ((i:Int) < (s.ss.length:Int))=false:=by simp; omega
   obtain rfl:i=s.ss.length:=by omega
   rw [List.drop_length] at ho
   rw [<-ho] at hK
   simp -dsimp only [go_sem,hg,aA]
   exact .z ((by simpa [go_sem,fS,QK] using hK))
def OY:W.Spec:=fun av H K=>∃ (s:Sc) (n:ByteArray),av=[.va (.gs (aA s)),tS n]/\H=[]/\s.fit/\K (.tu [.gs (aQ ((nN s.es n).getD default)),bA (dB s.es n)]) []
theorem GP {s:Sc} {n:ByteArray} {K:S->Hp->Prop} (h:s.fit) (hK:K (.tu [.gs (aQ ((nN s.es n).getD default)),bA (dB s.es n)]) []):OY [.va (.gs (aA s)),tS n] [] K:=⟨s,n,rfl,rfl,h,hK⟩
theorem SF:aQ default=[.vl (.string (mk [])),.fz [],.fz []]:=rfl
theorem KT:Meets Tryz.prog 66 OY:=by
 refine aI Tryz.func66 aC3 2 (by rw [Tryz.ntmps66]; decide) (aC _) (fun av H K h=>by obtain ⟨_,_,rfl,_⟩:=h; rfl) ?_
 rintro av H K ⟨s,n,rfl,rfl,hs,hK⟩
 rw [<-G8] at hK
 have hl:=hs.ok.le
 simp -dsimp only [go_sem,aA,W8,UW]
 refine aT (α:=Nat) (fun i=>[(1,tS n),(2,.va (.c1 (.pt 0 0))),(4,.va (.c1 (.pt 1 0))),(6,iS .i64 i)]) (fun _=>[.cells (aA s) 25,.cells [.vl (.string (mk [])),.vl (.slice none 0 0),.vl (.slice none 0 0)] 62])
  (fun i=>i<=s.es.length/\nN (s.es.drop i) n=nN s.es n) (fun i=>s.es.length - i) 0 2 ⟨Nat.zero_le _,rfl⟩ ?_ ?_ ?_
 · simp [go_sem]
 · simp [go_sem,aA]
 rintro i ⟨hi,ho⟩
 rcases bG i s.es.length with hlt | hge
 · have hg:decide ((i:Int) < (s.es.length:Int))=true:=by simp; omega
   obtain ⟨t,hx⟩:∃ e,s.es[i]? = some e:=⟨_,aV hlt⟩
   have q2:=aN (row:=aQ) hx
   rw [nN,DY hx] at ho
   cases hc:decide (t.nm=n) with
   | true=>
    rw [hc,aM] at ho
    rw [<-ho] at hK
    simp (maxSteps:=9^6) -dsimp only [go_sem,hg,↓q2,aQ,aA,c7,hc]
    refine ⟨by omega,by omega,.z ((by simpa [go_sem,aQ] using hK))⟩
   | false=>
    rw [hc,aG] at ho
    simp (maxSteps:=9^6) -dsimp only [go_sem,hg,↓q2,aQ,aA,c7,hc]
    refine ⟨by omega,by omega,aB (i + 1) 2 ⟨by omega,ho⟩ (by omega) ?_ ?_⟩
    · simp [go_sem]
    · simp [go_sem,aA]
 · have hg:decide ((i:Int) < (s.es.length:Int))=false:=by simp; omega
   obtain rfl:i=s.es.length:=by omega
   rw [List.drop_length] at ho
   rw [<-ho] at hK
   simp -dsimp only [go_sem,hg,aA]
   exact .z ((by simpa [go_sem,nN,SF] using hK))
noncomputable def eqB {α:Type} (a b:α):Bool:=@decide (a=b) (Classical.propDecidable _)
theorem nM {α:Type} {a b:α} (h:a=b):eqB a b=true:=by unfold eqB; simp [h]
theorem l7 {α:Type} {a b:α} (h:a ≠ b):eqB a b=false:=by unfold eqB; simp [h]
theorem tM {α:Type} {a b:α}:eqB a b=true ↔ a=b:=by unfold eqB; simp
def BJ (p:List C->Prop):List S->Prop:=fun av=>match av with
 | [.va (.gs r),.va (.gs q)]=>p r/\p q
 | _=>False
theorem kB {p:List C->Prop} {av:List S} (h:BJ p av):∃ r q,av=[.va (.gs r),.va (.gs q)]/\p r/\p q:=by
 unfold BJ at h
 split at h
 · exact ⟨_,_,rfl,h⟩
 · exact h.elim
def PR {α:Type} (d:List C->α) (f:α->α->Value):List S->A:=fun av=>match av with
 | [.va (.gs r),.va (.gs q)]=>.c1 (.vl (f (d r) (d q)))
 | _=>.gs []
noncomputable def E6 {α:Type} (p:List C->Prop) (d:List C->α) (f:α->α->Value):Fun:=⟨BJ p,PR d f,fun av h=>by obtain ⟨r,q,rfl,_⟩:=kB h; trivial⟩
theorem uS {α:Type} {p:List C->Prop} {d:List C->α} {f:α->α->Value}:∀ av H K,(E6 p d f).sp av H K->av.length=2:=fun av H K h=>by obtain ⟨r,q,rfl,_⟩:=kB h.1.1; rfl
attribute [go_sem] E6 BJ PR
noncomputable def ssFn:Fun:=E6 JH C.st fun a b=>.bool (eqB a b)
noncomputable def seFn:Fun:=E6 vQ C.en fun a b=>.bool (eqB a b)
attribute [go_sem] ssFn seFn
theorem WJ (a b:Fl):eqB a b=(a.num == b.num && decide (a.nm=b.nm) && (a.opt == b.opt) && qN a.ty b.ty):=by
 obtain ⟨a1,a2,a3,a4⟩:=a
 obtain ⟨b1,b2,b3,b4⟩:=b
 rw [Bool.eq_iff_iff,tM]
 simp only [Fl.mk.injEq,Bool.and_eq_true,beq_iff_eq,decide_eq_true_eq,HE]
 constructor
 · rintro ⟨rfl,rfl,rfl,rfl⟩; exact ⟨⟨⟨rfl,rfl⟩,rfl⟩,rfl⟩
 · rintro ⟨⟨⟨rfl,rfl⟩,rfl⟩,rfl⟩; exact ⟨rfl,rfl,rfl,rfl⟩
theorem jO {α:Type} {a b:List α} (hl:a.length=b.length) (h:∀ j,j < a.length->a[j]? = b[j]?):a=b:=List.ext_getElem? fun j=>by
 rcases bG j a.length with h4 | h4
 · exact h j h4
 · rw [List.getElem?_eq_none h4,List.getElem?_eq_none (by omega)]
theorem VP:Meets Tryz.prog 25 (mX oH C.sc fun s=>.bool (cM s)).sp:=by
 refine aI Tryz.func25 aEI 1 (by rw [Tryz.ntmps25]; decide) (aC _) iE ?_
 rintro av H K ⟨⟨h,rfl⟩,hK⟩
 obtain ⟨_,rfl,s,rfl,hs⟩:=eK h
 have hK:K (bS (cM s)) []:=by
  have:(mX oH C.sc fun s=>.bool (cM s)).val [.va (.gs (aA s))]=bA (cM s):=by simp -dsimp only [go_sem]
  rw [this] at hK; exact hK
 obtain ⟨hv,hle,hls,hes,hss⟩:=hs
 have big:cM s=true->∀ R:Hp,W.Fin 0 K (bS true) R:=fun h R=>by
  rw [h] at hK
  exact .z ((by simpa [go_sem] using hK))
 cases d1:decide (16 < (s.es.length:Int)) with
 | true=>
  simp (maxSteps:=9^6) -dsimp only [go_sem,aA,E8,CW,d1]
  exact big (by unfold cM; rw [show decide (16 < s.es.length)=true by simp at d1 ⊢; omega]; simp) _
 | false=>
 cases d2:decide (16 < (s.ss.length:Int)) with
 | true=>
  simp (maxSteps:=9^6) -dsimp only [go_sem,aA,E8,CW,d1,d2]
  exact big (by unfold cM; rw [show decide (16 < s.es.length + s.ss.length)=true by simp at d2 ⊢; omega]; simp) _
 | false=>
 cases d3:decide (16 < (s.es.length:Int) + (s.ss.length:Int)) with
 | true=>
  simp (maxSteps:=9^6) -dsimp only [go_sem,aA,E8,CW,d1,d2,d3]
  exact ⟨by simp at d1 d2; omega,big (by unfold cM; rw [show decide (16 < s.es.length + s.ss.length)=true by simp at d3 ⊢; omega]; simp) _⟩
 | false=>
 simp (maxSteps:=9^6) -dsimp only [go_sem,aA,E8,CW,d1,d2,d3]
 simp only [decide_eq_false_iff_not] at d1 d2 d3
 refine ⟨by omega,?_⟩
 have hL:cM s=(s.es.any (fun e=>decide (16 < e.ns.length)) || s.ss.any (fun t=>decide (16 < t.fs.length))):=by
  unfold cM; rw [decide_eq_false (by omega),decide_eq_false (by omega)]; rfl
 refine aT (α:=Nat) (fun i=>[(1,.va (.c1 (.pt 0 0))),(3,iS .i64 i)]) (fun _=>[.cells (aA s) 25])
  (fun i=>i<=s.es.length/\(s.es.drop i).any (fun e=>decide (16 < e.ns.length))=s.es.any (fun e=>decide (16 < e.ns.length))) (fun i=>s.es.length - i) 0 1 ⟨Nat.zero_le _,rfl⟩ ?_ ?_ ?_
 · simp [go_sem]
 · simp [go_sem,aA]
 rintro i ⟨hi,ho⟩
 rcases bG i s.es.length with hlt | hge
 · have hg:decide ((i:Int) < (s.es.length:Int))=true:=by simp; omega
   obtain ⟨e,hx⟩:∃ e,s.es[i]? = some e:=⟨_,aV hlt⟩
   have q2:=aN (row:=aQ) hx
   rw [cX hx] at ho
   simp (maxSteps:=9^6) -dsimp only [go_sem,hg,↓q2,aQ,aA]
   and_intros
   all_goals first
    | omega
    | skip
   · intro hc
     have hc':decide (16 < e.ns.length)=true:=by simp at hc; simp; omega
     have:cM s=true:=by simp only [hL,<-ho,hc',Bool.true_or]
     rw [this] at hK
     exact .z ((by simpa [go_sem] using hK))
   · intro hc
     refine ⟨by omega,aB (i + 1) 1 ⟨by omega,?_⟩ (by omega) ?_ ?_⟩
     · have hc':decide (16 < e.ns.length)=false:=by simp at hc; simp; omega
       rw [<-ho,hc',Bool.false_or]
     · simp [go_sem]
     · simp [go_sem,aA]
 · have hg:decide ((i:Int) < (s.es.length:Int))=false:=by simp; omega
   obtain rfl:i=s.es.length:=by omega
   rw [eV] at ho
   rw [<-ho,Bool.false_or] at hL
   simp (maxSteps:=9^6) -dsimp only [go_sem,hg,aA]
   refine aT (α:=Nat) (fun i=>[(1,.va (.c1 (.pt 0 0))),(4,iS .i64 i)]) (fun _=>[.cells (aA s) 25])
    (fun i=>i<=s.ss.length/\(s.ss.drop i).any (fun e=>decide (16 < e.fs.length))=s.ss.any (fun e=>decide (16 < e.fs.length))) (fun i=>s.ss.length - i) 0 1 ⟨Nat.zero_le _,rfl⟩ ?_ ?_ ?_
   · simp [go_sem]
   · simp [go_sem,aA]
   clear hi ho hge hg
   rintro i ⟨hi,ho⟩
   rcases bG i s.ss.length with hlt | hge
   · have hg:decide ((i:Int) < (s.ss.length:Int))=true:=by simp; omega
     obtain ⟨e,hx⟩:∃ e,s.ss[i]? = some e:=⟨_,aV hlt⟩
     have q2:=aN (row:=aJ) hx
     rw [cX hx] at ho
     simp (maxSteps:=9^6) -dsimp only [go_sem,hg,↓q2,aJ,aA]
     and_intros
     all_goals first
      | omega
      | skip
     · intro hc
       have hc':decide (16 < e.fs.length)=true:=by simp at hc; simp; omega
       have:cM s=true:=by simp only [hL,<-ho,hc',Bool.true_or]
       rw [this] at hK
       exact .z ((by simpa [go_sem] using hK))
     · intro hc
       refine ⟨by omega,aB (i + 1) 1 ⟨by omega,?_⟩ (by omega) ?_ ?_⟩
       · have hc':decide (16 < e.fs.length)=false:=by simp at hc; simp; omega
         rw [<-ho,hc',Bool.false_or]
       · simp [go_sem]
       · simp [go_sem,aA]
   · have hg:decide ((i:Int) < (s.ss.length:Int))=false:=by simp; omega
     obtain rfl:i=s.ss.length:=by omega
     rw [eV] at ho
     simp (maxSteps:=9^6) -dsimp only [go_sem,hg,aA]
     rw [hL,<-ho] at hK
     exact .z ((by simpa [go_sem] using hK))
def BY (len:Sc->Nat):List S->Prop:=fun av=>match av with
 | [.va (.gs r),.va (.c1 (.vl (.int .i64 i)))]=>jT r/\0<=i/\i < (len (C.sc r):Int)
 | _=>False
theorem mJ {len:Sc->Nat} {av:List S} (h:BY len av):∃ (s:Sc) (i:Nat),av=[.va (.gs (aA s)),iS .i64 i]/\s.fit/\i < len s:=by
 unfold BY at h
 split at h
 · obtain ⟨⟨a,rfl,ha⟩,h1,h2⟩:=h
   rw [fX] at h2
   rename_i i
   exact ⟨a,i.toNat,by rw [Int.toNat_of_nonneg h1],ha,by omega⟩
 · exact h.elim
noncomputable def N7 (f:Sc->Nat->Int):List S->A:=fun av=>match av with
 | [.va (.gs r),.va (.c1 (.vl (.int .i64 i)))]=>iA .i64 (f (C.sc r) i.toNat)
 | _=>.gs []
noncomputable def yJ (len:Sc->Nat) (f:Sc->Nat->Int):Fun:=⟨BY len,N7 f,fun av h=>by obtain ⟨a,b,rfl,_⟩:=mJ h; trivial⟩
theorem D0 {len:Sc->Nat} {f:Sc->Nat->Int}:∀ av H K,(yJ len f).sp av H K->av.length=2:=fun av H K h=>by obtain ⟨a,b,rfl,_⟩:=mJ h.1.1; rfl
attribute [go_sem] yJ BY N7
theorem Q8:Meets Tryz.prog 26 (yJ (fun s=>s.es.length) f6).sp:=by
 refine aI Tryz.func26 aEO 2 (by rw [Tryz.ntmps26]; decide) (aL EO (aL vM (aL MF (aC _)))) D0 ?_
 rintro av H K ⟨⟨h,rfl⟩,hK⟩
 obtain ⟨s,i,rfl,hs,hi⟩:=mJ (len:=fun s=>s.es.length) h
 have hK:K (iS .i64 (f6 s i)) []:=by
  have:(yJ (fun s=>s.es.length) f6).val [.va (.gs (aA s)),iS .i64 i]=iA .i64 (f6 s i):=by simp -dsimp only [go_sem,Int.toNat_natCast]
  rw [this] at hK; exact hK
 clear h
 have hle:=hs.ok.le
 have fin:∀ (x:Int) (R:Hp),f6 s i=x->W.Fin 0 K (iS .i64 x) R:=fun x R h=>by
  rw [h] at hK
  exact .z ((by simpa [go_sem] using hK))
 obtain ⟨e,hx⟩:∃ e,s.es[i]? = some e:=⟨_,aV hi⟩
 have q1:=aN (row:=aQ) hx
 obtain ⟨_,hln,hlv,_,_⟩:=hs.ok.es e (bT hx)
 have hA:f6 s i=bif !(gQ (bl e.nm)) then 5 else bif dB (s.es.take i) e.nm then 7 else lT e:=by unfold f6; rw [hx]
 simp (maxSteps:=9^6) -dsimp only [go_sem,aA,VZ,W9,↓q1,aQ]
 refine ⟨by omega,fun h1=>fin 5 _ (by rw [hA,h1]; rfl),fun h1=>?_⟩
 rw [h1] at hA
 simp only [aG] at hA
 refine aT (α:=Nat) (fun j=>[(1,iS .i64 i),(2,.va (.c1 (.pt 0 0))),(5,.va (.c1 (.pt 1 0))),(6,iS .i64 j)]) (fun _=>[.cells (aA s) 25,.cells (aQ e) 62])
  (fun j=>j<=i/\dB ((s.es.take i).drop j) e.nm=dB (s.es.take i) e.nm) (fun j=>i - j) 0 2 ⟨Nat.zero_le _,rfl⟩ ?_ ?_ ?_
 · simp [go_sem]
 · simp [go_sem,aA,aQ]
 have hti:(s.es.take i).length=i:=by rw [List.length_take]; omega
 rintro j ⟨hj,ho⟩
 rcases bG j i with hlt | hge
 · have hg:decide ((j:Int) < (i:Int))=true:=by simp; omega
   obtain ⟨d,hd⟩:∃ d,s.es[j]? = some d:=⟨_,aV (by omega)⟩
   have hd':(s.es.take i)[j]? = some d:=by rw [List.getElem?_take,if_pos hlt]; exact hd
   have q2:=aN (row:=aQ) hd
   rw [dB,cX hd'] at ho
   simp (maxSteps:=9^6) -dsimp only [go_sem,hg,↓q2,aQ,aA,c7]
   refine ⟨by omega,fun hc=>?_,fun hc=>?_⟩
   · rw [hc,Bool.true_or] at ho
     exact fin 7 _ (by rw [hA,<-ho]; rfl)
   · rw [hc,Bool.false_or] at ho
     refine ⟨by omega,aB (j + 1) 2 ⟨by omega,ho⟩ (by omega) ?_ ?_⟩
     · simp [go_sem]
     · simp [go_sem,aA,aQ]
 · obtain rfl:j=i:=by omega
   have hg:decide ((j:Int) < (j:Int))=false:=by simp
   rw [List.drop_eq_nil_of_le (by omega)] at ho
   rw [<-ho] at hA
   replace hA:f6 s j=lT e:=hA
   clear ho hti
   simp (maxSteps:=9^6) -dsimp only [go_sem,hg,aQ,aA]
   refine ⟨fun h1=>?_,fun h1=>?_⟩
   · refine fin 2 _ ?_
     rw [hA]
     unfold lT
     have:(decide (e.ns.length=0) || decide (e.ns.length ≠ e.vs.length))=true:=by
      simp only [Bool.or_eq_true,beq_iff_eq,bne_iff_ne,decide_eq_true_eq] at h1 ⊢; omega
     rw [this]; rfl
   simp only [Bool.or_eq_false_iff,beq_eq_false_iff_ne,bne_eq_false_iff_eq,ne_eq] at h1
   have hl:e.ns.length=e.vs.length:=by omega
   have hF:f6 s j=fE (fV e) (e.ns.length - 0) 0:=by
    rw [hA]; unfold lT; rw [decide_eq_false (by omega),decide_eq_false (by omega)]; rfl
   clear hA hg hge hj
   refine aT (α:=Nat) (fun k=>[(5,.va (.c1 (.pt 1 0))),(7,iS .i64 k)]) (fun _=>[.cells (aA s) 25,.cells (aQ e) 62])
    (fun k=>k<=e.ns.length/\fE (fV e) (e.ns.length - k) k=fE (fV e) (e.ns.length - 0) 0) (fun k=>e.ns.length - k) 0 2 ⟨Nat.zero_le _,rfl⟩ ?_ ?_ ?_
   · simp [go_sem]
   · simp [go_sem,aA,aQ]
   rintro k ⟨hk,ho⟩
   rcases bG k e.ns.length with hlt | hge
   · have hg:decide ((k:Int) < (e.ns.length:Int))=true:=by simp; omega
     obtain ⟨nm,hx2⟩:∃ nm,e.ns[k]? = some nm:=⟨_,aV hlt⟩
     obtain ⟨n,hy⟩:∃ nm,e.vs[k]? = some nm:=⟨_,aV (by omega)⟩
     have q2:=aN (row:=bI) hx2
     have q3:=aN (row:=dS) hy
     have hbs:qD (e.ns.map bI):=mP hln
     have hk0:(0<=(k:Int))=True:=by simp
     have hk1:((k:Int)<=9223372036854775807)=True:=by simp; omega
     have hA:fV e k=bif !(bR (bl nm)) then (5:Int) else bif b5 (e.ns.take k) nm then 7 else bif decide (n < 0) || decide (127 < n) then 4 else
      bif (decide ((k:Int)=0) && decide (n ≠ 0)) || (decide (0 < (k:Int)) && match e.vs[k - 1]? with | some m=>decide (n<=m) | none=>false) then 2 else 0:=by
      unfold fV; rw [hx2,hy]; rfl
     have fin':∀ (x:Int) (R:Hp),fV e k=x->x ≠ 0->W.Fin 0 K (iS .i64 x) R:=fun x R h1 h2=>fin x R (by
      rw [hF,<-ho,kJ hlt (by rw [h1]; exact h2),h1])
     have cP:fV e k=0->fE (fV e) (e.ns.length - (k + 1)) (k + 1)=fE (fV e) (e.ns.length - 0) 0:=fun h1=>by rw [<-ho,mD hlt h1]
     cases hc1:bR (bl nm) with
     | false=>
      simp (maxSteps:=9^6) -dsimp only [go_sem,hg,↓q2,aQ,aA,hc1]
      exact ⟨by omega,fin' 5 _ (by rw [hA,hc1]; rfl) (by decide)⟩
     | true=>
      cases hc2:b5 (e.ns.take k) nm with
      | true=>
       simp (maxSteps:=9^6) -dsimp only [go_sem,hg,↓q2,aQ,aA,hc1,hc2,hbs,hk0,hk1,Int.toNat_natCast]
       exact ⟨by omega,by omega,fin' 7 _ (by rw [hA,hc1,hc2]; rfl) (by decide)⟩
      | false=>
       cases hc3:decide (n < 0) with
       | true=>
        simp (maxSteps:=9^6) -dsimp only [go_sem,hg,↓q2,↓q3,aQ,aA,hc1,hc2,hbs,hk0,hk1,Int.toNat_natCast,hc3]
        exact ⟨by omega,by omega,by omega,fin' 4 _ (by rw [hA,hc1,hc2,hc3]; rfl) (by decide)⟩
       | false=>
       cases hc4:decide (127 < n) with
       | true=>
        simp (maxSteps:=9^6) -dsimp only [go_sem,hg,↓q2,↓q3,aQ,aA,hc1,hc2,hbs,hk0,hk1,Int.toNat_natCast,hc3,hc4]
        exact ⟨by omega,by omega,by omega,by omega,fin' 4 _ (by rw [hA,hc1,hc2,hc3,hc4]; rfl) (by decide)⟩
       | false=>
       have hA2:fV e k=bif (decide ((k:Int)=0) && decide (n ≠ 0)) || (decide (0 < (k:Int)) && match e.vs[k - 1]? with | some m=>decide (n<=m) | none=>false) then 2 else 0:=by rw [hA,hc1,hc2,hc3,hc4]; rfl
       clear hA
       rcases Nat.eq_zero_or_pos k with h0 | h0
       · have g0:((k:Int) == 0)=true:=by simp; omega
         have g1:decide (0 < (k:Int))=false:=by simp; omega
         have g2:decide ((k:Int)=0)=true:=g0
         cases hn:(n != 0) with
         | true=>
          simp (maxSteps:=9^6) -dsimp only [go_sem,hg,↓q2,↓q3,aQ,aA,hc1,hc2,hbs,hk0,hk1,Int.toNat_natCast,hc3,hc4,g0,g1,hn,Bool.and_false]
          and_intros
          all_goals first
           | omega
           | exact fin' 2 _ (by rw [hA2,g1,g2]; simp at hn; simp [hn]) (by decide)
         | false=>
          simp (maxSteps:=9^6) -dsimp only [go_sem,hg,↓q2,↓q3,aQ,aA,hc1,hc2,hbs,hk0,hk1,Int.toNat_natCast,hc3,hc4,g0,g1,hn,Bool.and_false]
          and_intros
          all_goals first
           | omega
           | exact aB (k + 1) 2 ⟨by omega,cP (by rw [hA2,g1]; simp at hn; simp [hn])⟩ (by omega) (by simp [go_sem]) (by simp [go_sem,aA,aQ])
       · have g0:((k:Int) == 0)=false:=by simp; omega
         have g1:decide (0 < (k:Int))=true:=by simp; omega
         have g2:decide ((k:Int)=0)=false:=g0
         obtain ⟨m,hm⟩:∃ m,e.vs[k - 1]? = some m:=⟨_,aV (by omega)⟩
         have q4:((k:Int) - 1).toNat=k - 1:=by omega
         have q5:=wG (row:=dS) hm
         cases hn:decide (n<=m) with
         | true=>
          simp (maxSteps:=9^6) -dsimp only [go_sem,hg,↓q2,↓q3,aQ,aA,hc1,hc2,hbs,hk0,hk1,Int.toNat_natCast,aF,forall_eq',hc3,hc4,g0,g1,q4,hm,hn,Bool.and_true]
          and_intros
          all_goals first
           | omega
           | exact fin' 2 _ (by rw [hA2,hm,g1]; simp only [hn]; simp) (by decide)
         | false=>
          simp (maxSteps:=9^6) -dsimp only [go_sem,hg,↓q2,↓q3,aQ,aA,hc1,hc2,hbs,hk0,hk1,Int.toNat_natCast,aF,forall_eq',hc3,hc4,g0,g1,q4,hm,hn,Bool.and_true]
          and_intros
          all_goals first
           | omega
           | exact aB (k + 1) 2 ⟨by omega,cP (by rw [hA2,hm,g1,g2]; simp only [hn]; rfl)⟩ (by omega) (by simp [go_sem]) (by simp [go_sem,aA,aQ])
   · have hg:decide ((k:Int) < (e.ns.length:Int))=false:=by simp; omega
     obtain rfl:k=e.ns.length:=by omega
     rw [lW] at ho
     simp (maxSteps:=9^6) -dsimp only [go_sem,hg,aQ]
     exact fin 0 _ (by rw [hF,<-ho])
def BX (N:Nat):List S->Prop:=fun av=>match av with
 | [.va (.gs r),.va (.gs q)]=>jT r/\e8 q/\(C.ty q).h<=N
 | _=>False
theorem mK {N:Nat} {av:List S} (h:BX N av):∃ s t,av=[.va (.gs (aA s)),.va (.gs (aP t))]/\s.fit/\TyOk t/\t.h<=N:=by
 unfold BX at h
 split at h
 · obtain ⟨⟨a,rfl,ha⟩,⟨b,rfl,hb⟩,hh⟩:=h
   rw [iC] at hh
   exact ⟨a,b,rfl,ha,hb,hh⟩
 · exact h.elim
noncomputable def IP:List S->A:=fun av=>match av with
 | [.va (.gs r),.va (.gs q)]=>bA (valF (C.sc r).ss (C.sc r).es (C.ty q))
 | _=>.gs []
noncomputable def I3 (N:Nat):Fun:=⟨BX N,IP,fun av h=>by obtain ⟨a,b,rfl,_⟩:=mK h; trivial⟩
theorem L5 {N:Nat}:∀ av H K,(I3 N).sp av H K->av.length=2:=fun av H K h=>by obtain ⟨a,b,rfl,_⟩:=mK h.1.1; rfl
attribute [go_sem] I3 BX IP
theorem aDG {ss:List St} {es:List En} {s:Int} {n:ByteArray} {e:List Ty}:valF ss es (.mk 6 s n e)=(eM ss n && s == 0 && (e.length:Int) == 0):=by
 rw [valF]; rfl
theorem aDN {ss:List St} {es:List En} {s:Int} {n:ByteArray} {e:List Ty}:valF ss es (.mk 7 s n e)=(dB es n && s == 0 && (e.length:Int) == 0):=by
 rw [valF]; rfl
theorem JQ:∀ N,Meets Tryz.prog 67 (I3 N).sp
 | 0=>⟨by kernel_rfl,by rintro xs vs E ro w K _ _ _ ⟨⟨h,_⟩,_⟩; obtain ⟨_,a,_,_,_,h⟩:=mK h; have:=a.h_pos; omega⟩
 | N + 1=>by
  refine aI Tryz.func67 aD5 2 (by rw [Tryz.ntmps67]; decide) (aL (JQ N) (aL SL (aD CL (aD KT (aC _))))) L5 ?_
  rintro av H K ⟨⟨h,rfl⟩,hK⟩
  obtain ⟨sc,t,rfl,hs,ht,hh⟩:=mK h
  have hK:K (bS (valF sc.ss sc.es t)) []:=by
   have:(I3 (N + 1)).val [.va (.gs (aA sc)),.va (.gs (aP t))]=bA (valF sc.ss sc.es t):=by simp -dsimp only [go_sem]
   rw [this] at hK; exact hK
  clear h
  have fin:∀ (b:Bool) (R:Hp),valF sc.ss sc.es t=b->W.Fin 0 K (bS b) R:=fun b R h=>by
   rw [h] at hK
   exact .z ((by simp -dsimp only [go_sem]; simpa using hK))
  have hit:e8 (aP t):=eP ht
  cases t with
  | mk k s n e=>
  have hcd:=iC (.mk k s n e)
  rw [aP,aU] at hcd hit
  have hcl:(Ty.mk k s n e).e.length=e.length:=rfl
  by_cases k1:(k == 1)=true
  · have hF:=valF.eq_1 sc.ss sc.es k s n e
    rw [k1] at hF
    simp only [aM] at hF
    simp (maxSteps:=9^6) -dsimp only [go_sem,aA,aP,aU,oB,oL,k1,hit,hcd,hcl]
    exact fin _ _ hF
  rw [Bool.not_eq_true] at k1
  by_cases k2:(k == 2)=true
  · have hF:=valF.eq_1 sc.ss sc.es k s n e
    rw [k1,k2] at hF
    simp only [aM,aG] at hF
    simp (maxSteps:=9^6) -dsimp only [go_sem,aA,aP,aU,oB,oL,k1,k2,hit,hcd,hcl]
    exact fin _ _ hF
  rw [Bool.not_eq_true] at k2
  by_cases k3:(k == 3)=true
  · have hF:=valF.eq_1 sc.ss sc.es k s n e
    rw [k1,k2,k3] at hF
    simp only [aM,aG,Bool.and_false,Bool.or_false] at hF
    simp (maxSteps:=9^6) -dsimp only [go_sem,aA,aP,aU,oB,oL,k1,k2,k3,hit,hcd,hcl]
    exact fin _ _ hF
  rw [Bool.not_eq_true] at k3
  by_cases k4:(k == 4)=true
  · have hF:=valF.eq_1 sc.ss sc.es k s n e
    rw [k1,k2,k3,k4] at hF
    simp only [aM,aG] at hF
    simp (maxSteps:=9^6) -dsimp only [go_sem,aA,aP,aU,oB,oL,k1,k2,k3,k4,hit,hcd,hcl]
    exact fin _ _ hF
  rw [Bool.not_eq_true] at k4
  by_cases k5:(k == 5)=true
  · have hF:=valF.eq_1 sc.ss sc.es k s n e
    rw [k1,k2,k3,k4,k5] at hF
    simp only [aM,aG] at hF
    cases hc:(decide (1<=s) && decide (s<=32) && bl n == [] && (e.length:Int) == 1) with
    | false=>
     have hF':valF sc.ss sc.es (.mk k s n e)=false:=by
      rw [hF]
      cases h0:(decide (1<=s) && decide (s<=32) && bl n == []) with
      | false=>rfl
      | true=>
       rw [h0,Bool.true_and] at hc
       match e,hc with
       | [],_=>rfl
       | [u],hc=>simp at hc
       | u :: v :: r,_=>simp [nW]
     simp (maxSteps:=9^6) -dsimp only [go_sem,aA,aP,aU,oB,oL,k1,k2,k3,k4,k5,hc]
     exact fin _ _ hF'
    | true=>
     obtain ⟨u,rfl⟩:∃ u,e=[u]:=by
      simp only [Bool.and_eq_true,beq_iff_eq] at hc
      exact List.length_eq_one_iff.1 (by omega)
     have h0:(decide (1<=s) && decide (s<=32) && bl n == [])=true:=by
      simp only [Bool.and_eq_true] at hc ⊢; exact hc.1
     have hF':valF sc.ss sc.es (.mk k s n [u])=valF sc.ss sc.es u:=by rw [hF,h0]; simp [nW]
     have hu2:u.h<=N:=by rw [Ty.h,Ty.hs,Ty.hs] at hh; omega
     have hu:e8 (aP u):=eP (ht.e u (by simp [Ty.e]))
     have hsf:=g6 hs
     rw [aA] at hsf
     have hsd:=fX sc
     rw [aA] at hsd
     have hc':(decide (1<=s) && decide (s<=32) && bl n == [] && ((1:Nat):Int) == 1)=true:=hc
     simp (maxSteps:=9^6) -dsimp only [go_sem,aA,aP,aU,oB,oL,k1,k2,k3,k4,k5,hc']
     refine ⟨⟨by omega,fun r hr=>by subst hr; exact dO u⟩,fun r hr=>?_⟩
     subst hr
     simp (maxSteps:=9^6) -dsimp only [go_sem,hsf,hsd,hu,dO]
     exact ⟨hu2,fin _ _ hF'⟩
  rw [Bool.not_eq_true] at k5
  by_cases k6:(k == 6)=true
  · obtain rfl:k=6:=by simpa using k6
    have hF:=aDG (ss:=sc.ss) (es:=sc.es) (s:=s) (n:=n) (e:=e)
    simp (maxSteps:=9^6) -dsimp only [go_sem,aA,aP,aU,oB,oL,k1,k2,k3,k4,k5,k6]
    refine GX hs ?_
    cases hc:eM sc.ss n with
    | false=>
     rw [hc] at hF
     simp (maxSteps:=9^6) -dsimp only [go_sem,aJ,hit,hcd,hcl]
     exact fin _ _ hF
    | true=>
     rw [hc] at hF
     simp (maxSteps:=9^6) -dsimp only [go_sem,aJ,hit,hcd,hcl]
     exact fin _ _ hF
  rw [Bool.not_eq_true] at k6
  by_cases k7:(k == 7)=true
  · obtain rfl:k=7:=by simpa using k7
    have hF:=aDN (ss:=sc.ss) (es:=sc.es) (s:=s) (n:=n) (e:=e)
    simp (maxSteps:=9^6) -dsimp only [go_sem,aA,aP,aU,oB,oL,k1,k2,k3,k4,k5,k6,k7]
    refine GP hs ?_
    cases hc:dB sc.es n with
    | false=>
     rw [hc] at hF
     simp (maxSteps:=9^6) -dsimp only [go_sem,aQ,hit,hcd,hcl]
     exact fin _ _ hF
    | true=>
     rw [hc] at hF
     simp (maxSteps:=9^6) -dsimp only [go_sem,aQ,hit,hcd,hcl]
     exact fin _ _ hF
  rw [Bool.not_eq_true] at k7
  have hF:=valF.eq_1 sc.ss sc.es k s n e
  rw [k1,k2,k3,k4,k5,k6,k7] at hF
  simp only [aG] at hF
  simp (maxSteps:=9^6) -dsimp only [go_sem,aA,aP,aU,oB,oL,k1,k2,k3,k4,k5,k6,k7]
  exact fin _ _ hF
def BW:List S->Prop:=fun av=>match av with
 | [.va (.gs r),.va (.gs q)]=>jT r/\e8 q
 | _=>False
theorem wV {av:List S} (h:BW av):∃ s t,av=[.va (.gs (aA s)),.va (.gs (aP t))]/\s.fit/\TyOk t:=by
 unfold BW at h
 split at h
 · obtain ⟨⟨a,rfl,ha⟩,⟨b,rfl,hb⟩⟩:=h
   exact ⟨a,b,rfl,ha,hb⟩
 · exact h.elim
noncomputable def r0Fn:Fun:=⟨BW,IP,fun av h=>by obtain ⟨a,b,rfl,_⟩:=wV h; trivial⟩
attribute [go_sem] r0Fn BW
theorem RR:Meets Tryz.prog 67 r0Fn.sp:=iX 0 JQ fun av H K ⟨⟨h,e⟩,hK⟩=>by
 obtain ⟨a,b,rfl,ha,hb⟩:=wV h
 exact ⟨b.h,⟨⟨⟨g6 ha,eP hb,by rw [iC]; exact Nat.le_refl _⟩,e⟩,hK⟩⟩
theorem KQ:Meets Tryz.prog 27 (yJ (fun s=>s.ss.length) gJ).sp:=by
 refine aI Tryz.func27 aCP 2 (by rw [Tryz.ntmps27]; decide) (aL EO (aD KT (aL vM (aL RR (aC _))))) D0 ?_
 rintro av H K ⟨⟨h,rfl⟩,hK⟩
 obtain ⟨s,i,rfl,hs,hi⟩:=mJ (len:=fun s=>s.ss.length) h
 have hK:K (iS .i64 (gJ s i)) []:=by
  have:(yJ (fun s=>s.ss.length) gJ).val [.va (.gs (aA s)),iS .i64 i]=iA .i64 (gJ s i):=by simp -dsimp only [go_sem,Int.toNat_natCast]
  rw [this] at hK; exact hK
 clear h
 have hls:=hs.ok.ls
 have fin:∀ (x:Int) (R:Hp),gJ s i=x->W.Fin 0 K (iS .i64 x) R:=fun x R h=>by
  rw [h] at hK
  exact .z ((by simpa [go_sem] using hK))
 obtain ⟨t,hx⟩:∃ e,s.ss[i]? = some e:=⟨_,aV hi⟩
 have q1:=aN (row:=aJ) hx
 obtain ⟨_,hlf,hfs⟩:=hs.ok.ss t (bT hx)
 have hA:gJ s i=bif gV s i t.nm != 0 then gV s i t.nm else nO s.ss s.es t:=by unfold gJ; rw [hx]
 have hsf:=g6 hs
 rw [aA] at hsf
 have hsd:=fX s
 rw [aA] at hsd
 simp (maxSteps:=9^6) -dsimp only [go_sem,aA,UC,XY,↓q1,aJ]
 refine ⟨by omega,fun h1=>fin 5 _ (by rw [hA]; unfold gV; rw [h1]; rfl),fun h1=>?_⟩
 refine GP hs ?_
 simp (maxSteps:=9^6) -dsimp only [go_sem,aQ]
 refine ⟨fun h2=>fin 7 _ (by rw [hA]; unfold gV; rw [h1,h2]; rfl),fun h2=>?_⟩
 have hC:gV s i t.nm=bif eM (s.ss.take i) t.nm then 7 else 0:=by unfold gV; rw [h1,h2]; rfl
 generalize ((nN s.es t.nm).getD default)=dflt
 refine aT (α:=Nat) (fun j=>[(1,iS .i64 i),(2,.va (.c1 (.pt 0 0))),(5,.va (.c1 (.pt 1 0))),(8,iS .i64 j)]) (fun _=>[.cells (aA s) 25,.cells (aJ t) 56])
  (fun j=>j<=i/\eM ((s.ss.take i).drop j) t.nm=eM (s.ss.take i) t.nm) (fun j=>i - j) 0 2 ⟨Nat.zero_le _,rfl⟩ ?_ ?_ ?_
 · simp [go_sem]
 · simp [go_sem,aA,aJ]
 have hti:(s.ss.take i).length=i:=by rw [List.length_take]; omega
 rintro j ⟨hj,ho⟩
 rcases bG j i with hlt | hge
 · have hg:decide ((j:Int) < (i:Int))=true:=by simp; omega
   obtain ⟨d,hd⟩:∃ d,s.ss[j]? = some d:=⟨_,aV (by omega)⟩
   have hd':(s.ss.take i)[j]? = some d:=by rw [List.getElem?_take,if_pos hlt]; exact hd
   have q2:=aN (row:=aJ) hd
   rw [eM,cX hd'] at ho
   simp (maxSteps:=9^6) -dsimp only [go_sem,hg,↓q2,aJ,aA,c7]
   refine ⟨by omega,fun hc=>?_,fun hc=>?_⟩
   · rw [hc,Bool.true_or] at ho
     exact fin 7 _ (by rw [hA,hC,<-ho]; rfl)
   · rw [hc,Bool.false_or] at ho
     refine ⟨by omega,aB (j + 1) 2 ⟨by omega,ho⟩ (by omega) ?_ ?_⟩
     · simp [go_sem]
     · simp [go_sem,aA,aJ]
 · obtain rfl:j=i:=by omega
   have hg:decide ((j:Int) < (j:Int))=false:=by simp
   rw [List.drop_eq_nil_of_le (by omega)] at ho
   have hF:gJ s j=nO s.ss s.es t:=by rw [hA,hC,<-ho]; rfl
   clear ho hti hA hC q1 hj hge
   simp (maxSteps:=9^6) -dsimp only [go_sem,hg,aJ,aA]
   clear hg
   refine aT (α:=Nat) (fun k=>[(2,.va (.c1 (.pt 0 0))),(5,.va (.c1 (.pt 1 0))),(9,iS .i64 k)]) (fun _=>[.cells (aA s) 25,.cells (aJ t) 56])
    (fun k=>k<=t.fs.length/\fE (kE s.ss s.es t) (t.fs.length - k) k=nO s.ss s.es t) (fun k=>t.fs.length - k) 0 2 ⟨Nat.zero_le _,rfl⟩ ?_ ?_ ?_
   · simp [go_sem]
   · simp [go_sem,aA,aJ]
   rintro k ⟨hk,ho⟩
   rcases bG k t.fs.length with hlt | hge
   · have hg:decide ((k:Int) < (t.fs.length:Int))=true:=by simp; omega
     obtain ⟨f,hx2⟩:∃ nm,t.fs[k]? = some nm:=⟨_,aV hlt⟩
     have q2:=aN (row:=bD) hx2
     have hf:f.ok:=hfs f (bT hx2)
     have hit:e8 (aP f.ty):=eP hf.ty
     have hA:kE s.ss s.es t k=bif decide (f.num < 1) || decide (127 < f.num) then (4:Int) else bif decide (0 < (k:Int)) && (match t.fs[k - 1]? with | some g=>decide (f.num<=g.num) | none=>false) then 2 else
      bif !(bR (bl f.nm)) then 5 else bif (t.fs.take k).any (fun g=>decide (g.nm=f.nm)) then 7 else bif !(valF s.ss s.es f.ty) then 13 else 0:=by
      unfold kE; rw [hx2]; rfl
     have fin':∀ (x:Int) (R:Hp),kE s.ss s.es t k=x->x ≠ 0->W.Fin 0 K (iS .i64 x) R:=fun x R h1 h2=>fin x R (by
      rw [hF,<-ho,kJ hlt (by rw [h1]; exact h2),h1])
     have cP:kE s.ss s.es t k=0->fE (kE s.ss s.es t) (t.fs.length - (k + 1)) (k + 1)=nO s.ss s.es t:=fun h1=>by rw [<-ho,mD hlt h1]
     cases c0:decide (f.num < 1) with
     | true=>
      rw [c0] at hA
      simp (maxSteps:=9^6) -dsimp only [go_sem,hg,↓q2,bD,aJ,aA,c0]
      exact ⟨by omega,fin' 4 _ hA (by decide)⟩
     | false=>
     cases c1:decide (127 < f.num) with
     | true=>
      rw [c0,c1] at hA
      simp (maxSteps:=9^6) -dsimp only [go_sem,hg,↓q2,bD,aJ,aA,c0,c1]
      exact ⟨by omega,fin' 4 _ hA (by decide)⟩
     | false=>
     rw [c0,c1] at hA
     simp only [Bool.or_self,aG] at hA
     rcases Nat.eq_zero_or_pos k with h0 | h0
     · have g1:decide (0 < (k:Int))=false:=by simp; omega
       rw [g1] at hA
       simp only [Bool.false_and,aG] at hA
       cases c3:bR (bl f.nm) with
       | false=>
        rw [c3] at hA
        simp (maxSteps:=9^6) -dsimp only [go_sem,hg,↓q2,bD,aJ,aA,c0,c1,c3,g1]
        exact ⟨by omega,fin' 5 _ hA (by decide)⟩
       | true=>
        rw [c3] at hA
        simp only [Bool.not_true,aG] at hA
        simp (maxSteps:=9^6) -dsimp only [go_sem,hg,↓q2,bD,aJ,aA,c0,c1,c3,g1]
        refine ⟨by omega,?_⟩
        refine aT (α:=Nat) (fun j=>[(2,.va (.c1 (.pt 0 0))),(5,.va (.c1 (.pt 1 0))),(9,iS .i64 k),(10,.va (.c1 (.pt 2 0))),(11,iS .i64 j)])
         (fun _=>[.cells (aA s) 25,.cells (aJ t) 56,.cells (bD f) 64])
         (fun j=>j<=k/\((t.fs.take k).drop j).any (fun g=>decide (g.nm=f.nm))=(t.fs.take k).any (fun g=>decide (g.nm=f.nm))) (fun j=>k - j) 0 3 ⟨Nat.zero_le _,rfl⟩ ?_ ?_ ?_
        · simp [go_sem]
        · simp [go_sem,aA,aJ,bD]
        have htk:(t.fs.take k).length=k:=by rw [List.length_take]; omega
        rintro j ⟨hj,ho2⟩
        rcases bG j k with hjt | hjg
        · have hgj:decide ((j:Int) < (k:Int))=true:=by simp; omega
          obtain ⟨d,hd⟩:∃ e,t.fs[j]? = some e:=⟨_,aV (by omega)⟩
          have hd':(t.fs.take k)[j]? = some d:=by rw [List.getElem?_take,if_pos hjt]; exact hd
          have q5:=aN (row:=bD) hd
          rw [cX hd'] at ho2
          simp (maxSteps:=9^6) -dsimp only [go_sem,hgj,↓q5,bD,aJ,aA,c7]
          refine ⟨by omega,fun hc=>?_,fun hc=>?_⟩
          · rw [hc,Bool.true_or] at ho2
            rw [<-ho2] at hA
            exact fin' 7 _ hA (by decide)
          · rw [hc,Bool.false_or] at ho2
            refine ⟨by omega,aB (j + 1) 3 ⟨by omega,ho2⟩ (by omega) ?_ ?_⟩
            · simp [go_sem]
            · simp [go_sem,aA,aJ,bD]
        · obtain rfl:j=k:=by omega
          have hgj:decide ((j:Int) < (j:Int))=false:=by simp
          rw [List.drop_eq_nil_of_le (by omega)] at ho2
          rw [<-ho2] at hA
          simp only [List.any_nil,aG] at hA
          simp (maxSteps:=9^6) -dsimp only [go_sem,hgj,bD,aJ,aA,jC,hit,hsf,hsd]
          cases c5:valF s.ss s.es f.ty with
          | true=>
           rw [c5] at hA
           simp (maxSteps:=9^6) -dsimp only [go_sem]
           refine ⟨by omega,aB (j + 1) 2 ⟨by omega,cP hA⟩ (by omega) ?_ ?_⟩
           · simp [go_sem]
           · simp [go_sem,aA,aJ]
          | false=>
           rw [c5] at hA
           simp (maxSteps:=9^6) -dsimp only [go_sem]
           exact fin' 13 _ hA (by decide)
     · have g1:decide (0 < (k:Int))=true:=by simp; omega
       obtain ⟨g,hy⟩:∃ m,t.fs[k - 1]? = some m:=⟨_,aV (by omega)⟩
       have q4:((k:Int) - 1).toNat=k - 1:=by omega
       have q6:=wG (row:=bD) hy
       rw [g1,hy,Bool.true_and] at hA
       simp only at hA
       cases c2:decide (f.num<=g.num) with
       | true=>
        rw [c2] at hA
        simp (maxSteps:=9^6) -dsimp only [go_sem,hg,↓q2,bD,aJ,aA,c0,c1,g1,q4,c2,hy,aF,forall_eq']
        exact ⟨by omega,by omega,by omega,fin' 2 _ hA (by decide)⟩
       | false=>
        rw [c2] at hA
        simp only [aG] at hA
        cases c3:bR (bl f.nm) with
        | false=>
         rw [c3] at hA
         simp (maxSteps:=9^6) -dsimp only [go_sem,hg,↓q2,bD,aJ,aA,c0,c1,c3,g1,q4,c2,hy,aF,forall_eq']
         exact ⟨by omega,by omega,by omega,fin' 5 _ hA (by decide)⟩
        | true=>
         rw [c3] at hA
         simp only [Bool.not_true,aG] at hA
         simp (maxSteps:=9^6) -dsimp only [go_sem,hg,↓q2,bD,aJ,aA,c0,c1,c3,g1,q4,c2,hy,aF,forall_eq']
         refine ⟨by omega,by omega,by omega,?_⟩
         refine aT (α:=Nat) (fun j=>[(2,.va (.c1 (.pt 0 0))),(5,.va (.c1 (.pt 1 0))),(9,iS .i64 k),(10,.va (.c1 (.pt 2 0))),(11,iS .i64 j)])
          (fun _=>[.cells (aA s) 25,.cells (aJ t) 56,.cells (bD f) 64])
          (fun j=>j<=k/\((t.fs.take k).drop j).any (fun g=>decide (g.nm=f.nm))=(t.fs.take k).any (fun g=>decide (g.nm=f.nm))) (fun j=>k - j) 0 3 ⟨Nat.zero_le _,rfl⟩ ?_ ?_ ?_
         · simp [go_sem]
         · simp [go_sem,aA,aJ,bD]
         have htk:(t.fs.take k).length=k:=by rw [List.length_take]; omega
         rintro j ⟨hj,ho2⟩
         rcases bG j k with hjt | hjg
         · have hgj:decide ((j:Int) < (k:Int))=true:=by simp; omega
           obtain ⟨d,hd⟩:∃ e,t.fs[j]? = some e:=⟨_,aV (by omega)⟩
           have hd':(t.fs.take k)[j]? = some d:=by rw [List.getElem?_take,if_pos hjt]; exact hd
           have q5:=aN (row:=bD) hd
           rw [cX hd'] at ho2
           simp (maxSteps:=9^6) -dsimp only [go_sem,hgj,↓q5,bD,aJ,aA,c7]
           refine ⟨by omega,fun hc=>?_,fun hc=>?_⟩
           · rw [hc,Bool.true_or] at ho2
             rw [<-ho2] at hA
             exact fin' 7 _ hA (by decide)
           · rw [hc,Bool.false_or] at ho2
             refine ⟨by omega,aB (j + 1) 3 ⟨by omega,ho2⟩ (by omega) ?_ ?_⟩
             · simp [go_sem]
             · simp [go_sem,aA,aJ,bD]
         · obtain rfl:j=k:=by omega
           have hgj:decide ((j:Int) < (j:Int))=false:=by simp
           rw [List.drop_eq_nil_of_le (by omega)] at ho2
           rw [<-ho2] at hA
           simp only [List.any_nil,aG] at hA
           simp (maxSteps:=9^6) -dsimp only [go_sem,hgj,bD,aJ,aA,jC,hit,hsf,hsd]
           cases c5:valF s.ss s.es f.ty with
           | true=>
            rw [c5] at hA
            simp (maxSteps:=9^6) -dsimp only [go_sem]
            refine ⟨by omega,aB (j + 1) 2 ⟨by omega,cP hA⟩ (by omega) ?_ ?_⟩
            · simp [go_sem]
            · simp [go_sem,aA,aJ]
           | false=>
            rw [c5] at hA
            simp (maxSteps:=9^6) -dsimp only [go_sem]
            exact fin' 13 _ hA (by decide)
   · have hg:decide ((k:Int) < (t.fs.length:Int))=false:=by simp; omega
     obtain rfl:k=t.fs.length:=by omega
     rw [lW] at ho
     simp (maxSteps:=9^6) -dsimp only [go_sem,hg,aJ]
     exact fin 0 _ (by rw [hF,<-ho])
mutual
def dirF:Ty->List ByteArray
 | .mk k _ n e=>bif k == 6 || k == 7 then [n] else fD e
def fD:List Ty->List ByteArray
 | []=>[]
 | t :: r=>dirF t ++ fD r
end
theorem qY:∀ (a b:List Ty),fD (a ++ b)=fD a ++ fD b
 | [],b=>rfl
 | t :: r,b=>by rw [List.cons_append,fD,fD,qY r b,List.append_assoc]
theorem AT:∀ {l:List Ty} {t:Ty},t ∈ l->(dirF t).length<=(fD l).length
 | x :: l,t,h=>by
  rw [fD,List.length_append]
  rcases List.mem_cons.1 h with rfl | h
  · omega
  · have:=AT h; omega
def UH (N:Nat):W.Spec:=fun av H K=>∃ t:Ty,av=[.va (.gs (aP t))]/\H=[]/\TyOk t/\t.h<=N/\(dirF t).length<=1000000000/\K (.va (.c1 (.fz ((dirF t).map bI)))) []
theorem U1 {N:Nat} {t:Ty} {K:S->Hp->Prop} (h1:TyOk t) (h2:t.h<=N) (h3:(dirF t).length<=1000000000) (hK:K (.va (.c1 (.fz ((dirF t).map bI)))) []):UH N [.va (.gs (aP t))] [] K:=⟨t,rfl,rfl,h1,h2,h3,hK⟩
theorem TM (l:List ByteArray):∀ r ∈ l.map bI,∀ c ∈ r,c.shut=true/\c.one:=fun r hr c hc=>by
 obtain ⟨x,_,rfl⟩:=List.mem_map.1 hr
 simp at hc; subst hc; simp [go_sem,C.shut]
theorem G3:∀ N,Meets Tryz.prog 69 (UH N)
 | 0=>⟨by kernel_rfl,by rintro xs vs E ro w K _ _ _ ⟨t,_,_,_,h,_⟩; have:=t.h_pos; omega⟩
 | N + 1=>by
  refine aI Tryz.func69 aDX 1 (by rw [Tryz.ntmps69]; decide) (aD (G3 N) (aC _)) (fun av H K h=>by obtain ⟨_,rfl,_⟩:=h; rfl) ?_
  rintro av H K ⟨⟨k,s,n,e⟩,rfl,rfl,h1,h2,h3,hK⟩
  have hle:=h1.len
  have hoe:=h1.e
  simp only [Ty.e] at hle hoe
  have hD:=dirF.eq_1 k s n e
  simp (maxSteps:=9^6) -dsimp only [go_sem,aP,aU,V5,SP]
  refine ⟨fun c1=>?_,fun c1=>?_⟩
  · rw [c1,aM] at hD
    rw [hD] at hK
    refine .pub 1 _ _ _ rfl (.sel [] (by simp) (by simp [dA]) rfl (.done ?_))
    simp -dsimp only [go_sem,dA]
    simpa using hK
  · rw [c1,aG] at hD
    rw [hD] at hK h3
    refine cQ (α:=Nat) (fun i=>[(1,.va (.c1 (.pt 0 0))),(3,.va (.c1 (.sl 1 (fD (e.take i)).length))),(4,iS .i64 i)]) (fun i=>[.cells (aP (.mk k s n e)) 37,.row ((fD (e.take i)).map bI) 9 1])
     (fun i=>i<=e.length) (fun i=>e.length - i) (.nil 3 9 1 rfl (iO 0 2 (Nat.zero_le _) ?_ ?_)) ?_
    · simp -dsimp only [go_sem]<;>simp [fD]
    · simp -dsimp only [go_sem,aP,aU]<;>simp [fD]
    intro i hi
    rcases bG i e.length with hlt | hge
    · have hg:decide ((i:Int) < (e.length:Int))=true:=by simp; omega
      obtain ⟨u,hx⟩:∃ t,e[i]? = some t:=⟨_,aV hlt⟩
      have q1:=aN (row:=aP) hx
      have hu:=bT hx
      have htn:fD (e.take (i + 1))=fD (e.take i) ++ dirF u:=by rw [nX hx,qY]; simp [fD]
      have hb:(fD (e.take (i + 1))).length<=1000000000:=by
       have:=qY (e.take (i + 1)) (e.drop (i + 1))
       rw [List.take_append_drop] at this
       rw [this,List.length_append] at h3; omega
      rw [htn,List.length_append] at hb
      simp (maxSteps:=9^6) -dsimp only [go_sem,hg,↓q1,dO,aP,aU]
      refine ⟨by omega,U1 (hoe u hu) ?_ ?_ ?_⟩
      · have:=Ty.hs_mem hu; rw [Ty.h] at h2; omega
      · have:=AT hu; omega
      simp (maxSteps:=9^6) -dsimp only [go_sem,gI lA]
      refine ⟨TM _,by omega,by omega,aB (i + 1) 2 (by omega) (by omega) ?_ ?_⟩
      · simp -dsimp only [go_sem,htn]<;>simp
      · simp -dsimp only [go_sem,aP,aU,htn]<;>simp
    · have hg:decide ((i:Int) < (e.length:Int))=false:=by simp; omega
      obtain rfl:i=e.length:=by omega
      rw [List.take_length]
      simp (maxSteps:=9^6) -dsimp only [go_sem,hg,aP,aU]
      rw [<-List.length_map (f:=bI)]
      refine .pub 1 _ _ _ rfl (.sel [] (by simp) (by simp [dA]) rfl (.done ?_))
      simp -dsimp only [go_sem,dA]
      simpa using hK
def OW:W.Spec:=fun av H K=>∃ t:Ty,av=[.va (.gs (aP t))]/\H=[]/\TyOk t/\(dirF t).length<=1000000000/\K (.va (.c1 (.fz ((dirF t).map bI)))) []
theorem Q3 {t:Ty} {K:S->Hp->Prop} (h1:TyOk t) (h3:(dirF t).length<=1000000000) (hK:K (.va (.c1 (.fz ((dirF t).map bI)))) []):OW [.va (.gs (aP t))] [] K:=⟨t,rfl,rfl,h1,h3,hK⟩
theorem NO:Meets Tryz.prog 69 OW:=iX 0 G3 fun _av _H _K ⟨t,e1,e2,h1,h3,hK⟩=>⟨t.h,t,e1,e2,h1,Nat.le_refl _,h3,hK⟩
def eY (x:ByteArray):Bool->List ByteArray->List ByteArray
 | d,[]=>bif d then [] else [x]
 | d,y :: r=>bif !d && (Op.bytesLess (bl x) (bl y) || bl x == bl y) then (bif Op.bytesLess (bl x) (bl y) then x :: y :: eY x true r else y :: eY x true r) else y :: eY x d r
theorem DX (x:ByteArray):∀ (d:Bool) (l:List ByteArray),(eY x d l).length<=l.length + 1
 | d,[]=>by cases d<;>simp [eY]
 | d,y :: r=>by
  have h1:=j7 x r
  have h2:=DX x d r
  rw [eY]
  cases d<;>cases Op.bytesLess (bl x) (bl y)<;>cases bl x == bl y<;>simp [h1] at h2 ⊢<;>omega
where j7 (x:ByteArray):∀ l,eY x true l=l
 | []=>rfl
 | y :: r=>by rw [eY,j7 x r]; rfl
def VC:W.Spec:=fun av H K=>∃ (l:List ByteArray) (x:ByteArray),av=[.va (.c1 (.fz (l.map bI))),tS x]/\H=[]/\l.length<=1000000/\K (.va (.c1 (.fz ((eY x false l).map bI)))) []
theorem SY {l:List ByteArray} {x:ByteArray} {K:S->Hp->Prop} (h:l.length<=1000000) (hK:K (.va (.c1 (.fz ((eY x false l).map bI)))) []):VC [.va (.c1 (.fz (l.map bI))),tS x] [] K:=⟨l,x,rfl,rfl,h,hK⟩
theorem aCG:Meets Tryz.prog 70 VC:=by
 refine aI Tryz.func70 aCM 2 (by rw [Tryz.ntmps70]; decide) (aC _) (fun av H K h=>by obtain ⟨_,_,rfl,_⟩:=h; rfl) ?_
 rintro av H K ⟨l,x,rfl,rfl,hl,hK⟩
 have hlen:=DX x false l
 simp (maxSteps:=9^6) -dsimp only [go_sem,XX,WZ]
 refine cQ (α:=Nat × Bool × List ByteArray) (fun z=>[(0,.va (.c1 (.fz (l.map bI)))),(1,tS x),(5,.va (.c1 (.sl 0 z.2.2.length))),(6,bS z.2.1),(7,iS .i64 z.1)]) (fun z=>[.row (z.2.2.map bI) 9 1])
  (fun z=>z.1<=l.length/\z.2.2 ++ eY x z.2.1 (l.drop z.1)=eY x false l) (fun z=>l.length - z.1) (.nil 5 9 1 rfl (iO (0,false,[]) 1 ⟨Nat.zero_le _,rfl⟩ ?_ ?_)) ?_
 · simp -dsimp only [go_sem]<;>simp
 · simp -dsimp only [go_sem]<;>simp
 rintro ⟨i,d,o⟩ ⟨hi,ho⟩
 simp only at hi ho ⊢
 have hol:o.length<=l.length + 1:=by
  have:=congrArg List.length ho
  rw [List.length_append] at this; omega
 rcases bG i l.length with hlt | hge
 · have hg:decide ((i:Int) < (l.length:Int))=true:=by simp; omega
   obtain ⟨y,hx⟩:∃ t,l[i]? = some t:=⟨_,aV hlt⟩
   have q1:=aN (row:=bI) hx
   have hdr:l.drop i=y :: l.drop (i + 1):=by
    obtain ⟨h,rfl⟩:=a8.1 hx
    exact List.drop_eq_getElem_cons h
   rw [hdr,eY] at ho
   have hst:∀ (u:ByteArray),[[C.vl (.string u)]]=[u].map bI:=fun _=>rfl
   cases d with
   | true=>
    simp only [Bool.not_true,Bool.false_and,aG] at ho
    simp (maxSteps:=9^6) -dsimp only [go_sem,hg,↓q1]
    and_intros
    all_goals first
     | omega
     | skip
    refine aB (i + 1,true,o ++ [y]) 1 ⟨by simp only; omega,by simp only [List.append_assoc,List.singleton_append]; exact ho⟩ (by simp only; omega) ?_ ?_
    · simp -dsimp only [go_sem]<;>simp
    · simp -dsimp only [go_sem]<;>simp
   | false=>
    simp only [Bool.not_false,Bool.true_and] at ho
    cases c2:Op.bytesLess (bl x) (bl y) with
    | true=>
     rw [c2] at ho
     simp only [Bool.true_or,aM] at ho
     simp (maxSteps:=9^6) -dsimp only [go_sem,hg,↓q1,c2,Bool.true_or]
     and_intros
     all_goals first
      | omega
      | skip
     refine aB (i + 1,true,o ++ [x,y]) 1 ⟨by simp only; omega,by simp only [List.append_assoc,List.cons_append,List.nil_append]; exact ho⟩ (by simp only; omega) ?_ ?_
     · simp -dsimp only [go_sem]<;>simp
     · simp -dsimp only [go_sem]<;>simp
    | false=>
     rw [c2] at ho
     simp only [Bool.false_or,aG] at ho
     cases c3:bl x == bl y with
     | true=>
      rw [c3] at ho
      simp only [aM] at ho
      simp (maxSteps:=9^6) -dsimp only [go_sem,hg,↓q1,c2,c3,Bool.false_or]
      and_intros
      all_goals first
       | omega
       | skip
      refine aB (i + 1,true,o ++ [y]) 1 ⟨by simp only; omega,by simp only [List.append_assoc,List.singleton_append]; exact ho⟩ (by simp only; omega) ?_ ?_
      · simp -dsimp only [go_sem]<;>simp
      · simp -dsimp only [go_sem]<;>simp
     | false=>
      rw [c3] at ho
      simp only [aG] at ho
      simp (maxSteps:=9^6) -dsimp only [go_sem,hg,↓q1,c2,c3,Bool.false_or]
      and_intros
      all_goals first
       | omega
       | skip
      refine aB (i + 1,false,o ++ [y]) 1 ⟨by simp only; omega,by simp only [List.append_assoc,List.singleton_append]; exact ho⟩ (by simp only; omega) ?_ ?_
      · simp -dsimp only [go_sem]<;>simp
      · simp -dsimp only [go_sem]<;>simp
 · have hg:decide ((i:Int) < (l.length:Int))=false:=by simp; omega
   obtain rfl:i=l.length:=by omega
   rw [List.drop_length] at ho
   simp only [eY] at ho
   cases d with
   | true=>
    simp only [aM,List.append_nil] at ho
    rw [<-ho] at hK
    simp (maxSteps:=9^6) -dsimp only [go_sem,hg]
    rw [<-List.length_map (f:=bI)]
    refine .pub 0 _ _ _ rfl (.sel [] (by simp) (by simp [dA]) rfl (.done ?_))
    simp -dsimp only [go_sem,dA]
    simpa using hK
   | false=>
    simp only [aG] at ho
    rw [<-ho] at hK
    simp (maxSteps:=9^6) -dsimp only [go_sem,hg]
    refine ⟨by omega,?_⟩
    have e1:o.length + 1=((o ++ [x]).map bI).length:=by simp
    have e2:o.map bI ++ [[C.vl (.string x)]]=(o ++ [x]).map bI:=by simp
    rw [e1,e2]
    refine .pub 0 _ _ _ rfl (.sel [] (by simp) (by simp [dA]) rfl (.done ?_))
    simp -dsimp only [go_sem,dA]
    simpa using hK
abbrev A5 (a b:ByteArray):Prop:=bl a < bl b
theorem S8 (x:List UInt8):∀ y:List UInt8,Op.bytesLess x y=decide (x < y):=by
 induction x with
 | nil=>intro y; cases y<;>simp [Op.bytesLess]
 | cons a x ih=>
  intro y
  cases y with
  | nil=>simp [Op.bytesLess]
  | cons b y=>
   have:=ih y
   rw [Op.bytesLess,this,Bool.eq_iff_iff]
   simp [List.cons_lt_cons_iff]
theorem PA (a b:ByteArray):Op.bytesLess (bl a) (bl b)=decide (A5 a b):=S8 _ _
theorem mH (a:ByteArray):¬ A5 a a:=List.lt_irrefl _
theorem AZ {a b c:ByteArray} (h:A5 a b) (h2:A5 b c):A5 a c:=List.lt_trans h h2
theorem J8 {a b:ByteArray} (h:¬ A5 a b) (h2:a ≠ b):A5 b a:=by
 have h3:bl b<=bl a:=List.not_lt.1 h
 exact Std.lt_of_le_of_ne h3 (fun e=>h2 (x4 e.symm))
def Asc (l:List ByteArray):Prop:=l.Pairwise A5
theorem FR:∀ {a b:List ByteArray},Asc a->Asc b->(∀ x,x ∈ a ↔ x ∈ b)->a=b
 | [],[],_,_,_=>rfl
 | [],y :: b,_,_,h=>by have:=(h y).2 List.mem_cons_self; cases this
 | x :: a,[],_,_,h=>by have:=(h x).1 List.mem_cons_self; cases this
 | x :: a,y :: b,h1,h2,h=>by
  obtain ⟨p1,p2⟩:=List.pairwise_cons.1 h1
  obtain ⟨p3,p4⟩:=List.pairwise_cons.1 h2
  have e:x=y:=by
   rcases List.mem_cons.1 ((h x).1 List.mem_cons_self) with e | e
   · exact e
   · rcases List.mem_cons.1 ((h y).2 List.mem_cons_self) with e2 | e2
     · exact e2.symm
     · exact absurd (AZ (p1 y e2) (p3 x e)) (mH x)
  subst e
  rw [FR p2 p4 fun z=>?_]
  constructor
  · intro hz
    rcases List.mem_cons.1 ((h z).1 (List.mem_cons_of_mem _ hz)) with e | e
    · exact absurd (p1 z hz) (by rw [e]; exact mH x)
    · exact e
  · intro hz
    rcases List.mem_cons.1 ((h z).2 (List.mem_cons_of_mem _ hz)) with e | e
    · exact absurd (p3 z hz) (by rw [e]; exact mH x)
    · exact e
theorem Asc.nodup {l:List ByteArray} (h:Asc l):l.Nodup:=by
 unfold List.Nodup
 refine List.Pairwise.imp ?_ h
 intro a b h e
 subst e
 exact mH a h
theorem j7 (x:ByteArray):∀ l,eY x true l=l
 | []=>rfl
 | y :: r=>by rw [eY,j7 x r]; rfl
theorem jX {x z:ByteArray}:∀ {l:List ByteArray},z ∈ eY x false l ↔ z=x\/z ∈ l
 | []=>by simp [eY]
 | y :: r=>by
  rw [eY,j7]
  cases c1:Op.bytesLess (bl x) (bl y) with
  | true=>simp
  | false=>
   cases c2:bl x == bl y with
   | true=>
    have:x=y:=x4 (by simpa using c2)
    subst this
    simp
   | false=>
    have:=jX (x:=x) (z:=z) (l:=r)
    simp [this]
    constructor
    · rintro (h | h | h)
      · exact .inr (.inl h)
      · exact .inl h
      · exact .inr (.inr h)
    · rintro (h | h | h)
      · exact .inr (.inl h)
      · exact .inl h
      · exact .inr (.inr h)
theorem DT {x:ByteArray}:∀ {l:List ByteArray},Asc l->Asc (eY x false l)
 | [],_=>by simp [eY,Asc]
 | y :: r,h=>by
  obtain ⟨p1,p2⟩:=List.pairwise_cons.1 h
  rw [eY,j7]
  cases c1:Op.bytesLess (bl x) (bl y) with
  | true=>
   rw [PA] at c1
   have c1:=of_decide_eq_true c1
   simp only [Bool.not_false,Bool.true_or,Bool.and_true,aM]
   refine List.pairwise_cons.2 ⟨fun z hz=>?_,h⟩
   rcases List.mem_cons.1 hz with rfl | hz
   · exact c1
   · exact AZ c1 (p1 z hz)
  | false=>
   cases c2:bl x == bl y with
   | true=>exact h
   | false=>
    rw [PA] at c1
    have c1:=of_decide_eq_false c1
    have c2:x ≠ y:=fun e=>by subst e; simp at c2
    simp only [Bool.not_false,Bool.true_and,Bool.or_self,aG]
    refine List.pairwise_cons.2 ⟨fun z hz=>?_,DT p2⟩
    rcases jX.1 hz with rfl | hz
    · exact J8 c1 c2
    · exact p1 z hz
theorem M6 {l:List ByteArray} (h:l.Nodup):Asc (fF l):=by
 have h1:((l.map bl).mergeSort fun x y=>decide (x<=y)).Pairwise fun a b=>decide (a<=b)=true:=
  List.pairwise_mergeSort (le:=fun (x y:List UInt8)=>decide (x<=y)) (fun (a b c:List UInt8) h1 h2=>decide_eq_true (List.le_trans (of_decide_eq_true h1) (of_decide_eq_true h2))) (fun (a b:List UInt8)=>by
   rcases List.le_total a b with h | h<;>simp [h]) _
 have h2:((l.map bl).mergeSort fun x y=>decide (x<=y)).Nodup:=by
  rw [(List.mergeSort_perm _ _).nodup_iff]
  exact List.Pairwise.map bl (fun a b (hab:a ≠ b) e=>hab (x4 e)) h
 unfold fF Asc
 rw [List.pairwise_map]
 refine List.Pairwise.imp₂ (fun a b h1 h2=>?_) h1 h2
 exact Std.lt_of_le_of_ne (of_decide_eq_true h1) h2
theorem KJ (ss:List St) (n:ByteArray):Asc (cY ss n):=M6 (rJ ss n)
theorem KM {e:List Ty} (h:((e.length:Int) == 0)=true):e=[]:=by simpa using h
theorem FX (ss:List St) (es:List En):∀ (N:Nat) (t:Ty),t.h<=N->valF ss es t=true->dirF t=bif bW t then [bN t] else []
 | 0,t,h,_=>absurd h (by have:=t.h_pos; omega)
 | N + 1,.mk k s n e,h,hv=>by
  cases k5:k == 5 with
  | true=>
   obtain rfl:k=5:=by simpa using k5
   obtain ⟨u,rfl,hu⟩:=qE hv
   have:=FX ss es N u (by rw [Ty.h,Ty.hs,Ty.hs] at h; omega) hu
   unfold bW bN
   rw [rX]
   rw [dirF,fD,fD,List.append_nil,this]
   rfl
  | false=>
   have h1:eU (.mk k s n e)=.mk k s n e:=pL (by rw [k5]; rfl)
   unfold bW bN
   rw [h1,dirF]
   simp only [Ty.k,Ty.n]
   cases k67:(k == 6 || k == 7) with
   | true=>rfl
   | false=>
    have he:e=[]:=by
     rw [Bool.or_eq_false_iff] at k67
     rw [valF,k5,k67.1,k67.2] at hv
     cases k1:k == 1<;>cases k2:k == 2<;>cases k3:k == 3<;>cases k4:k == 4<;>rw [k1,k2,k3,k4] at hv<;>simp only [aM,aG,Bool.and_eq_true,reduceCtorEq] at hv<;>first | exact KM hv.2 | exact absurd hv (by decide)
    subst he; rfl
theorem DN {ss:List St} {es:List En} {t:Ty} (hv:valF ss es t=true):dirF t=bif bW t then [bN t] else []:=FX ss es t.h t (Nat.le_refl _) hv
structure UI (ss:List St) (n:ByteArray) (i:Nat) (todo o:List ByteArray):Prop where
 hd:∃ r,todo=n :: r/\r.Nodup/\∀ x,x ∈ o ↔ x ∈ r
 rc:∀ x ∈ o,Reach ss n x
 dn:∀ j a,j < i->todo[j]? = some a->∀ y,eG ss a y->y ∈ o
 asc:Asc o
theorem UI.init (ss:List St) (n:ByteArray):UI ss n 0 [n] []:=⟨⟨[],rfl,.nil,fun _x=>Iff.rfl⟩,fun _x h=>(List.not_mem_nil h).elim,fun _j _a h=>absurd h (Nat.not_lt_zero _),List.Pairwise.nil⟩
theorem J1 {ss:List St} {es:List En} (g:Gd ss es) {n:ByteArray} {l:List ByteArray} (h:l.Nodup) (hr:∀ x ∈ l,Reach ss n x):l.length<=32:=Nat.le_trans (rU h fun x hx=>(jD ss n x).2 (hr x hx)) (g.vlen n)
theorem UI.len {ss:List St} {es:List En} (g:Gd ss es) {n:ByteArray} {i:Nat} {todo o:List ByteArray} (h:UI ss n i todo o):todo.length<=33/\o.length<=32:=by
 obtain ⟨r,rfl,h1,h2⟩:=h.hd
 have:=J1 g h1 fun x hx=>h.rc x ((h2 x).2 hx)
 have:=J1 g h.asc.nodup h.rc
 simp only [List.length_cons]; omega
theorem UI.rch {ss:List St} {n:ByteArray} {i k:Nat} {todo o:List ByteArray} (h:UI ss n i todo o) {a y:ByteArray} (ha:todo[k]? = some a) (hy:eG ss a y):Reach ss n y:=by
 obtain ⟨r,rfl,h1,h2⟩:=h.hd
 cases k with
 | zero=>simp at ha; subst ha; exact .one hy
 | succ k=>
  simp at ha
  exact .more (h.rc a ((h2 a).2 (bT ha))) hy
theorem UI.add {ss:List St} {n:ByteArray} {i:Nat} {todo o:List ByteArray} (h:UI ss n i todo o) {y:ByteArray} (hr:Reach ss n y) (hy:y ∉ o) (hi:i<=todo.length):UI ss n i (todo ++ [y]) (eY y false o):=by
 obtain ⟨r,rfl,h1,h2⟩:=h.hd
 refine ⟨⟨r ++ [y],by simp,?_,fun x=>?_⟩,fun x hx=>?_,fun j a hj ha z hz=>?_,DT h.asc⟩
 · rw [List.nodup_append]
   exact ⟨h1,by simp,fun a ha b hb=>by simp at hb; subst hb; exact fun e=>hy ((h2 b).2 (e ▸ ha))⟩
 · rw [jX,h2]; simp [or_comm]
 · rcases jX.1 hx with rfl | hx
   · exact hr
   · exact h.rc x hx
 · rw [List.getElem?_append_left (by omega)] at ha
   exact jX.2 (.inr (h.dn j a hj ha z hz))
theorem UI.next {ss:List St} {n:ByteArray} {i:Nat} {todo o:List ByteArray} (h:UI ss n i todo o) {a:ByteArray} (ha:todo[i]? = some a) (hy:∀ y,eG ss a y->y ∈ o):UI ss n (i + 1) todo o:=by
 refine ⟨h.hd,h.rc,fun j b hj hb y hyb=>?_,h.asc⟩
 rcases bG j i with h4 | h4
 · exact h.dn j b h4 hb y hyb
 · obtain rfl:j=i:=by omega
   rw [ha] at hb; obtain rfl:=bJ hb
   exact hy y hyb
theorem UI.fin {ss:List St} {n:ByteArray} {todo o:List ByteArray} (h:UI ss n todo.length todo o):o=cY ss n:=by
 refine FR h.asc (KJ ss n) fun x=>?_
 rw [zZ]
 refine ⟨h.rc x,fun hx=>?_⟩
 obtain ⟨r,e,h1,h2⟩:=h.hd
 have hn:∀ y,eG ss n y->y ∈ o:=h.dn 0 n (by rw [e]; simp) (by rw [e]; rfl)
 induction hx with
 | one h=>exact hn _ h
 | more _ h3 ih=>
  obtain ⟨j,hj⟩:=List.mem_iff_getElem?.1 ((h2 _).1 ih)
  rename_i b c _
  have hj2:todo[j + 1]? = some b:=by rw [e]; simpa using hj
  exact h.dn (j + 1) _ (a8.1 hj2).1 hj2 _ h3
def VB:W.Spec:=fun av H K=>∃ (s:Sc) (n:ByteArray),av=[.va (.gs (aA s)),tS n]/\H=[]/\s.fit/\Gd s.ss s.es/\K (.va (.c1 (.fz ((cY s.ss n).map bI)))) []
theorem WM {s:Sc} {n:ByteArray} {K:S->Hp->Prop} (h:s.fit) (g:Gd s.ss s.es) (hK:K (.va (.c1 (.fz ((cY s.ss n).map bI)))) []):VB [.va (.gs (aA s)),tS n] [] K:=⟨s,n,rfl,rfl,h,g,hK⟩
theorem SK {ss:List St} {es:List En} {t:Ty} (hv:valF ss es t=true):(dirF t).length<=1:=by
 rw [DN hv]; cases bW t<;>simp
theorem HJ {ss:List St} {es:List En} {t:Ty} (hv:valF ss es t=true) {y:ByteArray}:y ∈ dirF t ↔ bW t=true/\bN t=y:=by
 rw [DN hv]; cases bW t<;>simp [eq_comm]
theorem Y5:Meets Tryz.prog 28 VB:=by
 refine aI Tryz.func28 aCC 2 (by rw [Tryz.ntmps28]; decide) (aD CL (aD NO (aL MF (aD aCG (aC _))))) (fun av H K h=>by obtain ⟨_,_,rfl,_⟩:=h; rfl) ?_
 rintro av H K ⟨s,n,rfl,rfl,hs,g,hK⟩
 simp (maxSteps:=9^6) -dsimp only [go_sem,aA,U4,U7]
 refine cQ (α:=Nat × List ByteArray × List ByteArray) (fun z=>[(2,.va (.c1 (.pt 0 0))),(5,.va (.c1 (.fz (z.2.2.map bI)))),(6,.va (.c1 (.sl 1 z.2.1.length))),(7,iS .i64 z.1)]) (fun z=>[.cells (aA s) 25,.row (z.2.1.map bI) 9 1])
  (fun z=>z.1<=z.2.1.length/\UI s.ss n z.1 z.2.1 z.2.2) (fun z=>34 - z.1) (.nf 5 (iO (0,[n],[]) 2 ⟨Nat.zero_le _,UI.init _ _⟩ ?_ ?_)) ?_
 · simp -dsimp only [go_sem]<;>simp
 · simp -dsimp only [go_sem,aA]<;>simp
 rintro ⟨i,todo,o⟩ ⟨hi,hu⟩
 simp only at hi hu ⊢
 obtain ⟨htl,hol⟩:=hu.len g
 rcases bG i todo.length with hlt | hge
 · have hg:decide ((i:Int) < (todo.length:Int))=true:=by simp; omega
   obtain ⟨a,ha⟩:∃ a,todo[i]? = some a:=⟨_,aV hlt⟩
   have q1:=aN (row:=bI) ha
   simp (maxSteps:=9^6) -dsimp only [go_sem,hg,aA,ha,aF,forall_eq']
   refine ⟨by omega,hlt,GX hs ?_⟩
   generalize hx:(fS s.ss a).getD default=x
   have hxf:∀ f ∈ x.fs,f.ok/\valF s.ss s.es f.ty=true:=fun f hf=>by
    cases hc:fS s.ss a with
    | none=>rw [hc] at hx; subst hx; cases hf
    | some t=>
     rw [hc] at hx
     subst hx
     exact ⟨(hs.ok.ss _ (kH hc).1).fs f hf,g.val _ (kH hc).1 f hf⟩
   have hxl:x.fs.length<=9223372036854775807:=by
    cases hc:fS s.ss a with
    | none=>rw [hc] at hx; subst hx; exact Nat.zero_le _
    | some t=>rw [hc] at hx; subst hx; exact (hs.ok.ss _ (kH hc).1).len
   have hxr:∀ y,eG s.ss a y ↔ yZ x y:=fun y=>by unfold eG; rw [hx]
   simp (maxSteps:=9^6) -dsimp only [go_sem,aJ]
   refine aT (α:=Nat × List ByteArray × List ByteArray) (fun z=>[(2,.va (.c1 (.pt 0 0))),(5,.va (.c1 (.fz (z.2.2.map bI)))),(6,.va (.c1 (.sl 1 z.2.1.length))),(7,iS .i64 i),(8,.va (.c1 (.pt 2 0))),(10,iS .i64 z.1)]) (fun z=>[.cells (aA s) 25,.row (z.2.1.map bI) 9 1,.cells (aJ x) 56])
    (fun z=>z.1<=x.fs.length/\z.2.1[i]? = some a/\UI s.ss n i z.2.1 z.2.2/\∀ f ∈ x.fs.take z.1,bW f.ty=true->bN f.ty ∈ z.2.2) (fun z=>x.fs.length - z.1) (0,todo,o) 3 ⟨Nat.zero_le _,ha,hu,fun f hf=>by cases hf⟩ ?_ ?_ ?_
   · simp -dsimp only [go_sem]<;>simp
   · simp -dsimp only [go_sem,aA,aJ]<;>simp
   clear hu ha hlt hi htl hol hg q1
   rintro ⟨k,td,o⟩ ⟨hk,ha,hu,hr⟩
   simp only at hk ha hu hr ⊢
   obtain ⟨htl,hol⟩:=hu.len g
   have hil:=(a8.1 ha).1
   rcases bG k x.fs.length with hlt | hge
   · have hg:decide ((k:Int) < (x.fs.length:Int))=true:=by simp; omega
     obtain ⟨f,hf⟩:∃ a,x.fs[k]? = some a:=⟨_,aV hlt⟩
     have q1:=aN (row:=bD) hf
     obtain ⟨hfo,hfv⟩:=hxf f (bT hf)
     simp (maxSteps:=9^6) -dsimp only [go_sem,hg,↓q1,aA,aJ,bD,jC]
     have hdl:=SK hfv
     refine ⟨by omega,Q3 hfo.ty (by omega) ?_⟩
     simp (maxSteps:=9^6) -dsimp only [go_sem]
     have hdm:∀ y ∈ dirF f.ty,Reach s.ss n y:=fun y hy=>by
      obtain ⟨h1,h2⟩:=(HJ hfv).1 hy
      exact hu.rch ha ((hxr y).2 ⟨f,bT hf,h1,h2⟩)
     have hdf:(∀ o':List ByteArray,(∀ y ∈ dirF f.ty,y ∈ o')->(∀ f ∈ x.fs.take k,bW f.ty=true->bN f.ty ∈ o')->∀ f ∈ x.fs.take (k + 1),bW f.ty=true->bN f.ty ∈ o'):=fun o' h1 h2 f' hf' hn=>by
      rw [nX hf] at hf'
      rcases List.mem_append.1 hf' with h | h
      · exact h2 f' h hn
      · obtain rfl:f'=f:=by simpa using h
        exact h1 _ ((HJ hfv).2 ⟨hn,rfl⟩)
     generalize dirF f.ty=l at *
     refine aT (α:=Nat × List ByteArray × List ByteArray) (fun z=>[(2,.va (.c1 (.pt 0 0))),(5,.va (.c1 (.fz (z.2.2.map bI)))),(6,.va (.c1 (.sl 1 z.2.1.length))),(7,iS .i64 i),(8,.va (.c1 (.pt 2 0))),(10,iS .i64 k),(11,.va (.c1 (.fz (l.map bI)))),(12,iS .i64 z.1)]) (fun z=>[.cells (aA s) 25,.row (z.2.1.map bI) 9 1,.cells (aJ x) 56])
      (fun z=>z.1<=l.length/\z.2.1[i]? = some a/\UI s.ss n i z.2.1 z.2.2/\(∀ f ∈ x.fs.take k,bW f.ty=true->bN f.ty ∈ z.2.2)/\∀ y ∈ l.take z.1,y ∈ z.2.2) (fun z=>l.length - z.1) (0,td,o) 3 ⟨Nat.zero_le _,ha,hu,hr,fun f hf=>by cases hf⟩ ?_ ?_ ?_
     · simp -dsimp only [go_sem]<;>simp
     · simp -dsimp only [go_sem,aA,aJ]<;>simp
     clear hu ha hil htl hol hg q1 hr
     rintro ⟨j,td,o⟩ ⟨hj,ha,hu,hr,hjm⟩
     simp only at hj ha hu hr hjm ⊢
     obtain ⟨htl,hol⟩:=hu.len g
     have hil:=(a8.1 ha).1
     rcases bG j l.length with hjt | hjg
     · have hg:decide ((j:Int) < (l.length:Int))=true:=by simp; omega
       obtain ⟨y,hy⟩:∃ a,l[j]? = some a:=⟨_,aV hjt⟩
       have q1:=aN (row:=bI) hy
       have hbs:qD (o.map bI):=mP (by omega)
       have e0:(0<=(o.length:Int))=True:=by simp
       have e1:((o.length:Int)<=9223372036854775807)=True:=by simp; omega
       have hto:o.take o.length=o:=List.take_length
       have hjm':∀ o':List ByteArray,(∀ z ∈ o,z ∈ o')->y ∈ o'->∀ z ∈ l.take (j + 1),z ∈ o':=fun o' h1 h2 z hz=>by
        rw [nX hy] at hz
        rcases List.mem_append.1 hz with h | h
        · exact h1 z (hjm z h)
        · obtain rfl:z=y:=by simpa using h
          exact h2
       cases hc:b5 o y with
       | true=>
        simp (maxSteps:=9^6) -dsimp only [go_sem,hg,↓q1,aA,aJ,hbs,e0,e1,Int.toNat_natCast,hto,hc]
        refine ⟨by omega,by omega,aB (j + 1,td,o) 3 ⟨by simp only; omega,ha,hu,hr,hjm' o (fun z h=>h) ((oT _ _).1 hc)⟩ (by simp only; omega) ?_ ?_⟩
        · simp -dsimp only [go_sem]<;>simp
        · simp -dsimp only [go_sem,aA,aJ]<;>simp
       | false=>
        have hyo:=s9.1 hc
        have hua:=hu.add (hdm y (bT hy)) hyo (by omega)
        have hmo:∀ z ∈ o,z ∈ eY y false o:=fun z hz=>jX.2 (.inr hz)
        have ha':(td ++ [y])[i]? = some a:=by rw [List.getElem?_append_left hil]; exact ha
        simp (maxSteps:=9^6) -dsimp only [go_sem,hg,↓q1,aA,aJ,hbs,e0,e1,Int.toNat_natCast,hto,hc]
        refine ⟨by omega,by omega,SY (by omega) ?_⟩
        simp (maxSteps:=9^6) -dsimp only [go_sem]
        and_intros
        all_goals first
         | omega
         | skip
        refine aB (j + 1,td ++ [y],eY y false o) 3 ⟨by simp only; omega,ha',hua,fun f hf hn=>hmo _ (hr f hf hn),hjm' _ hmo (jX.2 (.inl rfl))⟩ (by simp only; omega) ?_ ?_
        · simp -dsimp only [go_sem]<;>simp
        · simp -dsimp only [go_sem,aA,aJ]<;>simp
     · have hg:decide ((j:Int) < (l.length:Int))=false:=by simp; omega
       obtain rfl:j=l.length:=by omega
       rw [List.take_length] at hjm
       simp (maxSteps:=9^6) -dsimp only [go_sem,hg,aA,aJ]
       refine ⟨by omega,aB (k + 1,td,o) 3 ⟨by simp only; omega,ha,hu,hdf o hjm hr⟩ (by simp only; omega) ?_ ?_⟩
       · simp -dsimp only [go_sem]<;>simp
       · simp -dsimp only [go_sem,aA,aJ]<;>simp
   · have hg:decide ((k:Int) < (x.fs.length:Int))=false:=by simp; omega
     obtain rfl:k=x.fs.length:=by omega
     rw [List.take_length] at hr
     simp (maxSteps:=9^6) -dsimp only [go_sem,hg,aA,aJ]
     refine ⟨by omega,aB (i + 1,td,o) 2 ⟨by simp only; omega,hu.next ha fun y hy=>?_⟩ (by simp only; omega) ?_ ?_⟩
     · obtain ⟨f,h1,h2,rfl⟩:=(hxr y).1 hy
       exact hr f h1 h2
     · simp -dsimp only [go_sem]<;>simp
     · simp -dsimp only [go_sem,aA]<;>simp
 · have hg:decide ((i:Int) < (todo.length:Int))=false:=by simp; omega
   obtain rfl:i=todo.length:=by omega
   obtain rfl:=hu.fin
   simp (maxSteps:=9^6) -dsimp only [go_sem,hg,aA]
   exact .z ((by simpa [go_sem] using hK))
def eO:List St->List Int->ByteArray->Int
 | s :: ss,d :: ds,n=>bif decide (s.nm=n) then d else eO ss ds n
 | _,_,_=>0
theorem MW {ss:List St} {ds:List Int} {i:Nat} {x:St} {d:Int} (hx:ss[i]? = some x) (hd:ds[i]? = some d) (n:ByteArray):eO (ss.drop i) (ds.drop i) n=bif decide (x.nm=n) then d else eO (ss.drop (i + 1)) (ds.drop (i + 1)) n:=by
 obtain ⟨h,rfl⟩:=a8.1 hx
 obtain ⟨h2,rfl⟩:=a8.1 hd
 rw [List.drop_eq_getElem_cons h,List.drop_eq_getElem_cons h2]; rfl
theorem RE {ss:List St} {ds:List Int} (n:ByteArray):eO (ss.drop ss.length) ds n=0:=by rw [List.drop_length]; simp [eO]
theorem uU {n:ByteArray}:∀ {ss:List St} {ds:List Int},fS ss n=none->eO ss ds n=0
 | [],_,_=>by simp [eO]
 | s :: ss,[],_=>by simp [eO]
 | s :: ss,d :: ds,h=>by
  unfold fS at h
  rw [List.find?_cons] at h
  rw [eO]
  cases hc:decide (s.nm=n) with
  | true=>rw [hc] at h; simp at h
  | false=>rw [hc] at h; exact uU (ss:=ss) h
theorem vT {n:ByteArray} {u:St}:∀ {ss:List St} {ds:List Int},ss.length=ds.length->fS ss n=some u->∃ j:Nat,ss[j]? = some u/\ds[j]? = some (eO ss ds n)
 | [],_,_,h=>by cases h
 | s :: ss,[],hl,_=>by simp at hl
 | s :: ss,d :: ds,hl,h=>by
  unfold fS at h
  rw [List.find?_cons] at h
  rw [eO]
  cases hc:decide (s.nm=n) with
  | true=>
   rw [hc] at h
   obtain rfl:s=u:=by simpa using h
   exact ⟨0,rfl,rfl⟩
  | false=>
   rw [hc] at h
   obtain ⟨j,h1,h2⟩:=vT (ss:=ss) (ds:=ds) (by simpa using hl) h
   exact ⟨j + 1,by simpa using h1,by simpa using h2⟩
def IG (rs:List (List C)):Prop:=∃ l:List Int,rs=l.map dS
def BH (N:Nat):List S->Prop:=fun av=>match av with
 | [.va (.gs r),.va (.c1 (.fz ds)),.va (.gs q)]=>jT r/\(IG ds/\ds.length=(C.sc r).ss.length/\∀ d ∈ ds.map C.it,0<=d/\d<=1000000000000)/\e8 q/\(bO (C.ty q)).1<=1000000000/\(C.ty q).h<=N
 | _=>False
theorem mF {N:Nat} {av:List S} (h:BH N av):∃ (s:Sc) (l:List Int) (t:Ty),av=[.va (.gs (aA s)),.va (.c1 (.fz (l.map dS))),.va (.gs (aP t))]/\s.fit/\(l.length=s.ss.length/\∀ d ∈ l,0<=d/\d<=1000000000000)/\TyOk t/\(bO t).1<=1000000000/\t.h<=N:=by
 unfold BH at h
 split at h
 · obtain ⟨⟨a,rfl,ha⟩,⟨⟨l,rfl⟩,h1,h2⟩,⟨b,rfl,hb⟩,h3,h4⟩:=h
   rw [iC] at h3 h4
   rw [fX] at h1
   rw [wS] at h2
   exact ⟨a,l,b,rfl,ha,⟨by simpa using h1,h2⟩,hb,h3,h4⟩
 · exact h.elim
noncomputable def IN:List S->A:=fun av=>match av with
 | [.va (.gs r),.va (.c1 (.fz ds)),.va (.gs q)]=>iA .i64 (cB (eO (C.sc r).ss (ds.map C.it)) (C.ty q))
 | _=>.gs []
noncomputable def IR (N:Nat):Fun:=⟨BH N,IN,fun av h=>by obtain ⟨a,l,b,rfl,_⟩:=mF h; trivial⟩
theorem NV {N:Nat}:∀ av H K,(IR N).sp av H K->av.length=3:=fun av H K h=>by obtain ⟨a,l,b,rfl,_⟩:=mF h.1.1; rfl
attribute [go_sem] IR BH IN
theorem EX {s:Int} {n:ByteArray} {u:Ty} {r:List Ty}:bO (.mk 5 s n (u :: r))=((bO u).1 + 1,(bO u).2):=by simp [bO,D6]
theorem NB {k s:Int} {n:ByteArray} {e:List Ty} (h:(k == 5 && decide (0 < (e.length:Int)))=false):bO (.mk k s n e)=(0,.mk k s n e):=by
 rw [bO]
 cases hk:k == 5 with
 | false=>rfl
 | true=>
  rw [hk,Bool.true_and] at h
  have:e=[]:=List.length_eq_zero_iff.1 (by simp at h; simp [h])
  subst this; rfl
theorem JW {dp:ByteArray->Int} {s:Int} {n:ByteArray} {u:Ty} {r:List Ty}:cB dp (.mk 5 s n (u :: r))=1 + cB dp u:=by unfold cB; rw [EX]; simp only; omega
theorem t6:∀ N,Meets Tryz.prog 71 (IR N).sp
 | 0=>⟨by kernel_rfl,by rintro xs vs E ro w K _ _ _ ⟨⟨h,_⟩,_⟩; obtain ⟨_,_,a,_,_,_,_,_,h⟩:=mF h; have:=a.h_pos; omega⟩
 | N + 1=>by
  refine aI Tryz.func71 aEJ 3 (by rw [Tryz.ntmps71]; decide) (aL (t6 N) (aC _)) NV ?_
  rintro av H K ⟨⟨h,rfl⟩,hK⟩
  obtain ⟨sc,l,t,rfl,hs,⟨hl,hb⟩,ht,hlv,hh⟩:=mF h
  have hK:K (iS .i64 (cB (eO sc.ss l) t)) []:=by
   have:(IR (N + 1)).val [.va (.gs (aA sc)),.va (.c1 (.fz (l.map dS))),.va (.gs (aP t))]=iA .i64 (cB (eO sc.ss l) t):=by simp -dsimp only [go_sem,wS]
   rw [this] at hK; exact hK
  clear h
  have hls:=hs.ok.ls
  have fin:∀ (b:Int) (R:Hp),cB (eO sc.ss l) t=b->W.Fin 0 K (iS .i64 b) R:=fun b R h=>by
   rw [h] at hK
   exact .z ((by simp -dsimp only [go_sem]; simpa using hK))
  have hsf:=g6 hs
  rw [aA] at hsf
  have hsd:=fX sc
  rw [aA] at hsd
  obtain ⟨k,s,n,e⟩:=t
  have hte:=ht.e
  have hte2:=ht.len
  simp only [Ty.e] at hte hte2
  have hin:IG (l.map dS):=⟨l,rfl⟩
  have hr1:((l.map dS).length=sc.ss.length)=True:=by simp [hl]
  have hr2:(∀ d:Int,d ∈ l->0<=d/\d<=1000000000000)=True:=eq_true hb
  simp (maxSteps:=9^6) -dsimp only [go_sem,aA,aP,aU,W0,WA]
  cases c1:(k == 5 && decide (0 < (e.length:Int))) with
  | true=>
   simp only [Bool.and_eq_true,beq_iff_eq,decide_eq_true_eq] at c1
   obtain ⟨rfl,c1⟩:=c1
   obtain ⟨u,r,rfl⟩:∃ u r,e=u :: r:=by
    cases e with
    | nil=>simp at c1
    | cons u r=>exact ⟨u,r,rfl⟩
   rw [EX] at hlv
   have hux:(u :: r)[0]? = some u:=rfl
   have q1:=wG (row:=aP) hux
   have hu:e8 (aP u):=eP (hte u List.mem_cons_self)
   have huh:u.h<=N:=by rw [Ty.h,Ty.hs] at hh; omega
   refine ⟨fun _=>?_,fun h=>by simp at h⟩
   have hul:((bO u).1<=1000000000)=True:=eq_true (by simp only at hlv; omega)
   have huh':(u.h<=N)=True:=eq_true huh
   have hfb:cB (eO sc.ss l) u<=1001000000000/\0<=cB (eO sc.ss l) u:=by
    have hd:eO sc.ss l (bO u).2.n<=1000000000000/\0<=eO sc.ss l (bO u).2.n:=by
     cases hf:fS sc.ss (bO u).2.n with
     | none=>rw [uU hf]; omega
     | some v=>
      obtain ⟨j,_,h2⟩:=vT hl.symm hf
      have:=hb _ (bT h2); omega
    simp only at hlv
    unfold cB
    cases (bO u).2.k == 6<;>simp only [aM,aG]<;>omega
   simp (maxSteps:=9^6) -dsimp only [go_sem,dO]
   refine ⟨by omega,fun x hx=>?_⟩
   subst hx
   simp only [hsd]
   exact ⟨⟨hsf,⟨hin,hl,hb⟩,hu,by simp only at hlv; omega,huh⟩,by omega,fin _ _ JW⟩
  | false=>
   have hst:=NB (s:=s) (n:=n) c1
   have hfd:cB (eO sc.ss l) (.mk k s n e)=bif k == 6 then eO sc.ss l n else 0:=by unfold cB; rw [hst]; simp [Ty.k,Ty.n]
   refine ⟨fun h=>by simp at h,fun _=>?_⟩
   cases k6:k == 6 with
   | false=>
    rw [k6,aG] at hfd
    refine aT (α:=Nat) (fun i=>[(1,.va (.c1 (.fz (l.map dS)))),(3,.va (.c1 (.pt 0 0))),(5,.va (.c1 (.pt 1 0))),(7,iS .i64 i)]) (fun _=>[.cells (aA sc) 25,.cells (aP (.mk k s n e)) 37])
     (fun i=>i<=sc.ss.length) (fun i=>sc.ss.length - i) 0 2 (Nat.zero_le _) ?_ ?_ ?_
    · simp -dsimp only [go_sem]<;>simp
    · simp -dsimp only [go_sem,aA,aP,aU]<;>simp
    intro i hi
    rcases bG i sc.ss.length with hlt | hge
    · have hg:decide ((i:Int) < (sc.ss.length:Int))=true:=by simp; omega
      simp (maxSteps:=9^6) -dsimp only [go_sem,hg,aA,aP,aU,k6]
      and_intros
      all_goals first
       | omega
       | skip
      refine aB (i + 1) 2 (by omega) (by omega) ?_ ?_
      · simp -dsimp only [go_sem]<;>simp
      · simp -dsimp only [go_sem,aA,aP,aU]<;>simp
    · have hg:decide ((i:Int) < (sc.ss.length:Int))=false:=by simp; omega
      simp (maxSteps:=9^6) -dsimp only [go_sem,hg,aA,aP,aU]
      exact fin 0 _ hfd
   | true=>
    rw [k6,aM] at hfd
    refine aT (α:=Nat) (fun i=>[(1,.va (.c1 (.fz (l.map dS)))),(3,.va (.c1 (.pt 0 0))),(5,.va (.c1 (.pt 1 0))),(7,iS .i64 i)]) (fun _=>[.cells (aA sc) 25,.cells (aP (.mk k s n e)) 37])
     (fun i=>i<=sc.ss.length/\eO (sc.ss.drop i) (l.drop i) n=eO sc.ss l n) (fun i=>sc.ss.length - i) 0 2 ⟨Nat.zero_le _,rfl⟩ ?_ ?_ ?_
    · simp -dsimp only [go_sem]<;>simp
    · simp -dsimp only [go_sem,aA,aP,aU]<;>simp
    rintro i ⟨hi,ho⟩
    rcases bG i sc.ss.length with hlt | hge
    · have hg:decide ((i:Int) < (sc.ss.length:Int))=true:=by simp; omega
      obtain ⟨t,hx⟩:∃ e,sc.ss[i]? = some e:=⟨_,aV hlt⟩
      obtain ⟨d,hd⟩:∃ e,l[i]? = some e:=⟨_,aV (by omega)⟩
      have q2:=aN (row:=aJ) hx
      have q3:=aN (row:=dS) hd
      rw [MW hx hd] at ho
      cases hc:decide (t.nm=n) with
      | true=>
       rw [hc,aM] at ho
       simp (maxSteps:=9^6) -dsimp only [go_sem,hg,↓q2,↓q3,aJ,aA,aP,aU,c7,hc,k6]
       and_intros
       all_goals first
        | omega
        | exact fin _ _ (by rw [hfd,<-ho])
      | false=>
       rw [hc,aG] at ho
       simp (maxSteps:=9^6) -dsimp only [go_sem,hg,↓q2,aJ,aA,aP,aU,c7,hc,k6]
       and_intros
       all_goals first
        | omega
        | skip
       refine aB (i + 1) 2 ⟨by omega,ho⟩ (by omega) ?_ ?_
       · simp -dsimp only [go_sem]<;>simp
       · simp -dsimp only [go_sem,aA,aP,aU]<;>simp
    · have hg:decide ((i:Int) < (sc.ss.length:Int))=false:=by simp; omega
      obtain rfl:i=sc.ss.length:=by omega
      rw [RE] at ho
      simp (maxSteps:=9^6) -dsimp only [go_sem,hg,aA,aP,aU]
      exact fin 0 _ (by rw [hfd,<-ho])
def BE:List S->Prop:=fun av=>match av with
 | [.va (.gs r),.va (.c1 (.fz ds)),.va (.gs q)]=>jT r/\(IG ds/\ds.length=(C.sc r).ss.length/\∀ d ∈ ds.map C.it,0<=d/\d<=1000000000000)/\e8 q/\(bO (C.ty q)).1<=1000000000
 | _=>False
theorem xH {av:List S} (h:BE av):∃ (s:Sc) (l:List Int) (t:Ty),av=[.va (.gs (aA s)),.va (.c1 (.fz (l.map dS))),.va (.gs (aP t))]/\s.fit/\(l.length=s.ss.length/\∀ d ∈ l,0<=d/\d<=1000000000000)/\TyOk t/\(bO t).1<=1000000000:=by
 unfold BE at h
 split at h
 · obtain ⟨⟨a,rfl,ha⟩,⟨⟨l,rfl⟩,h1,h2⟩,⟨b,rfl,hb⟩,h3⟩:=h
   rw [iC] at h3
   rw [fX] at h1
   rw [wS] at h2
   exact ⟨a,l,b,rfl,ha,⟨by simpa using h1,h2⟩,hb,h3⟩
 · exact h.elim
noncomputable def t0Fn:Fun:=⟨BE,IN,fun av h=>by obtain ⟨a,l,b,rfl,_⟩:=xH h; trivial⟩
attribute [go_sem] t0Fn BE
theorem I0:Meets Tryz.prog 71 t0Fn.sp:=iX 0 t6 fun av H K ⟨⟨h,e⟩,hK⟩=>by
 obtain ⟨a,l,b,rfl,ha,⟨h1,h2⟩,hb,h3⟩:=xH h
 refine ⟨b.h,⟨⟨⟨g6 ha,⟨⟨l,rfl⟩,by rw [fX]; simpa using h1,by rw [wS]; exact h2⟩,eP hb,by rw [iC]; exact h3,by rw [iC]; exact Nat.le_refl _⟩,e⟩,hK⟩⟩
theorem BB {dp dq:ByteArray->Int} {l:List Fl} (h:∀ f ∈ l,cB dp f.ty<=cB dq f.ty):fO dp l<=fO dq l:=GQ (lM _ _) fun f hf=>Int.le_trans (h f hf) (HC hf)
structure DI (ss:List St) (r i:Nat) (d:List Int):Prop where
 len:d.length=ss.length
 lo:∀ (j:Nat) (t:St) (v:Int),ss[j]? = some t->d[j]? = some v->0<=v/\v<=dD ss t.nm/\(pY ss t.nm < r->v=dD ss t.nm)/\(j < i->pY ss t.nm < r + 1->v=dD ss t.nm)
theorem DI.ix {ss:List St} {es:List En} (_g:Gd ss es) {r i:Nat} {d:List Int} (h:DI ss r i d) (n:ByteArray):0<=eO ss d n/\eO ss d n<=dD ss n/\((fS ss n).isSome=true->pY ss n < r->eO ss d n=dD ss n):=by
 cases hf:fS ss n with
 | none=>
  rw [uU hf]
  exact ⟨Int.le_refl _,B0 ss n,fun h=>by simp at h⟩
 | some u=>
  obtain ⟨j,h1,h2⟩:=vT h.len.symm hf
  obtain ⟨a1,a2,a3,_⟩:=h.lo j u _ h1 h2
  obtain ⟨_,rfl⟩:=kH hf
  exact ⟨a1,a2,fun _ h=>a3 h⟩
theorem DI.all {ss:List St} {es:List En} (g:Gd ss es) {r i:Nat} {d:List Int} (h:DI ss r i d):∀ v ∈ d,0<=v/\v<=1000000000000:=fun v hv=>by
 obtain ⟨j,hj⟩:=List.mem_iff_getElem?.1 hv
 have hl:=(a8.1 hj).1
 obtain ⟨t,ht⟩:∃ t,ss[j]? = some t:=⟨_,aV (by have:=h.len; omega)⟩
 obtain ⟨h1,h2,_⟩:=h.lo j t v ht hj
 have:=HP g t.nm
 omega
theorem DI.fd {ss:List St} {es:List En} (g:Gd ss es) {r i:Nat} {d:List Int} (h:DI ss r i d) (t:Ty):cB (eO ss d) t<=cB (dD ss) t:=by
 unfold cB
 have:=h.ix g (bO t).2.n
 cases (bO t).2.k == 6<;>simp only [aM,aG]<;>omega
theorem DI.set {ss:List St} {es:List En} (g:Gd ss es) (ha:rW ss) {r i:Nat} {d:List Int} (h:DI ss r i d) {t:St} (ht:ss[i]? = some t):DI ss r (i + 1) (d.set i (1 + fO (eO ss d) t.fs)):=by
 have htm:=bT ht
 have hD:=BP g ha (g.nd t htm)
 have hle:fO (eO ss d) t.fs<=fO (dD ss) t.fs:=BB fun f _=>h.fd g f.ty
 have heq:pY ss t.nm < r + 1->fO (eO ss d) t.fs=fO (dD ss) t.fs:=fun hr=>pW fun f hf=>by
  unfold cB
  cases hk:(bO f.ty).2.k == 6 with
  | false=>rfl
  | true=>
   obtain ⟨h1,u,h2⟩:=zD g (g.nd t htm) hf hk
   have h3:=y7 h1 h2 ha
   rw [(h.ix g _).2.2 (by rw [h2]; rfl) (by omega)]
 have hn:=lM (eO ss d) t.fs
 refine ⟨by rw [List.length_set]; exact h.len,fun j u v hu hv=>?_⟩
 rw [List.getElem?_set] at hv
 by_cases e:i=j
 · subst e
   rw [ht] at hu; obtain rfl:=bJ hu
   have hlt:i < d.length:=by have:=h.len; have:=(a8.1 ht).1; omega
   simp [hlt] at hv
   subst hv
   exact ⟨by omega,by omega,fun hr=>by rw [heq (by omega)]; omega,fun _ hr=>by rw [heq hr]; omega⟩
 · rw [if_neg e] at hv
   obtain ⟨a1,a2,a3,a4⟩:=h.lo j u v hu hv
   exact ⟨a1,a2,a3,fun hj hr=>a4 (by omega) hr⟩
theorem DI.up {ss:List St} {r:Nat} {d:List Int} (h:DI ss r ss.length d):DI ss (r + 1) 0 d:=⟨h.len,fun j t v ht hv=>by
 obtain ⟨a1,a2,_,a4⟩:=h.lo j t v ht hv
 exact ⟨a1,a2,fun hr=>a4 (a8.1 ht).1 hr,fun h=>absurd h (Nat.not_lt_zero _)⟩⟩
theorem DI.fin {ss:List St} {d:List Int} (h:DI ss (ss.length + 1) 0 d):d=ss.map fun t=>dD ss t.nm:=by
 refine List.ext_getElem? fun j=>?_
 rw [List.getElem?_map]
 cases ht:ss[j]? with
 | none=>
  rw [List.getElem?_eq_none_iff] at ht
  rw [List.getElem?_eq_none (by rw [h.len]; exact ht)]; rfl
 | some t=>
  obtain ⟨v,hv⟩:∃ v,d[j]? = some v:=⟨_,aV (by rw [h.len]; exact (a8.1 ht).1)⟩
  obtain ⟨_,_,a3,_⟩:=h.lo j t v ht hv
  rw [hv,a3 (Nat.lt_succ_of_le (HN _ _))]; rfl
theorem DI.init (ss:List St):DI ss 0 0 (List.replicate ss.length 0):=⟨by simp,fun j t v ht hv=>by
 have:v=0:=by
  have:=bT hv
  exact (List.mem_replicate.1 this).2
 subst this
 exact ⟨Int.le_refl _,B0 _ _,fun h=>absurd h (Nat.not_lt_zero _),fun h=>absurd h (Nat.not_lt_zero _)⟩⟩
def X9:W.Spec:=fun av H K=>∃ s:Sc,av=[.va (.gs (aA s))]/\H=[]/\s.fit/\Gd s.ss s.es/\rW s.ss/\K (.va (.c1 (.fz ((s.ss.map fun t=>dD s.ss t.nm).map dS)))) []
theorem X5 {s:Sc} {K:S->Hp->Prop} (h:s.fit) (g:Gd s.ss s.es) (ha:rW s.ss) (hK:K (.va (.c1 (.fz ((s.ss.map fun t=>dD s.ss t.nm).map dS)))) []):X9 [.va (.gs (aA s))] [] K:=⟨s,rfl,rfl,h,g,ha,hK⟩
theorem Q5 {D:ByteArray->Int} {l:List Fl} {i:Nat} {f:Fl} (hx:l[i]? = some f):(l.take (i + 1)).foldl (gF D) 0=max ((l.take i).foldl (gF D) 0) (cB D f.ty):=by
 rw [nX hx,List.foldl_append]; rfl
theorem QS:Meets Tryz.prog 30 X9:=by
 refine aI Tryz.func30 aBP 1 (by rw [Tryz.ntmps30]; decide) (aL I0 (aC _)) (fun av H K h=>by obtain ⟨_,rfl,_⟩:=h; rfl) ?_
 rintro av H K ⟨s,rfl,rfl,hs,g,ha,hK⟩
 have hls:=g.n
 simp (maxSteps:=9^6) -dsimp only [go_sem,aA,V2,TE]
 refine ⟨⟨by omega,by omega,by omega⟩,fun h0=>?_,fun h0=>?_⟩
 · have hnil:s.ss=[]:=List.length_eq_zero_iff.1 (by omega)
   have hlen:s.ss.length=0:=by omega
   rw [hnil] at hK
   refine aT (α:=Nat) (fun i=>[(1,.va (.c1 (.pt 0 0))),(3,.va (.c1 (.fz []))),(4,iS .i64 i)]) (fun _=>[.cells (aA s) 25])
    (fun i=>i<=1) (fun i=>1 - i) 0 1 (Nat.zero_le _) ?_ ?_ ?_
   · simp -dsimp only [go_sem]<;>simp
   · simp -dsimp only [go_sem,aA]<;>simp
   intro i hi
   rcases Nat.eq_zero_or_pos i with h1 | h1
   · have hg:decide ((i:Int)<=(s.ss.length:Int))=true:=by simp; omega
     simp (maxSteps:=9^6) -dsimp only [go_sem,hg,aA]
     refine aT (α:=Unit) (fun _=>[(1,.va (.c1 (.pt 0 0))),(3,.va (.c1 (.fz []))),(4,iS .i64 i),(5,iS .i64 0)]) (fun _=>[.cells (aA s) 25])
      (fun _=>True) (fun _=>0) () 1 trivial ?_ ?_ ?_
     · simp -dsimp only [go_sem]<;>simp
     · simp -dsimp only [go_sem,aA]<;>simp
     intro _ _
     have hg:decide ((0:Int) < (s.ss.length:Int))=false:=by simp; omega
     simp (maxSteps:=9^6) -dsimp only [go_sem,hg,aA]
     refine ⟨by omega,aB (i + 1) 1 (by omega) (by omega) ?_ ?_⟩
     · simp -dsimp only [go_sem]<;>simp
     · simp -dsimp only [go_sem,aA]<;>simp
   · have hg:decide ((i:Int)<=(s.ss.length:Int))=false:=by simp; omega
     simp (maxSteps:=9^6) -dsimp only [go_sem,hg,aA]
     exact .z ((by simpa [go_sem] using hK))
 · have hsf:=g6 hs
   rw [aA] at hsf
   have hsd:=fX s
   rw [aA] at hsd
   refine aT (α:=Nat × List Int) (fun z=>[(1,.va (.c1 (.pt 0 0))),(3,.va (.c1 (.sl 1 s.ss.length))),(4,iS .i64 z.1)]) (fun z=>[.cells (aA s) 25,.row (z.2.map dS) 3 1])
    (fun z=>z.1<=s.ss.length + 1/\DI s.ss z.1 0 z.2) (fun z=>s.ss.length + 1 - z.1) (0,List.replicate s.ss.length 0) 2 ⟨Nat.zero_le _,DI.init _⟩ ?_ ?_ ?_
   · simp -dsimp only [go_sem]<;>simp
   · simp -dsimp only [go_sem,aA]<;>simp
   rintro ⟨r,d⟩ ⟨hr,hd⟩
   simp only at hr hd ⊢
   rcases bG r (s.ss.length + 1) with hlt | hge
   · have hg:decide ((r:Int)<=(s.ss.length:Int))=true:=by simp; omega
     simp (maxSteps:=9^6) -dsimp only [go_sem,hg,aA]
     refine aT (α:=Nat × List Int) (fun z=>[(1,.va (.c1 (.pt 0 0))),(3,.va (.c1 (.sl 1 s.ss.length))),(4,iS .i64 r),(5,iS .i64 z.1)]) (fun z=>[.cells (aA s) 25,.row (z.2.map dS) 3 1])
      (fun z=>z.1<=s.ss.length/\DI s.ss r z.1 z.2) (fun z=>s.ss.length - z.1) (0,d) 2 ⟨Nat.zero_le _,hd⟩ ?_ ?_ ?_
     · simp -dsimp only [go_sem]<;>simp
     · simp -dsimp only [go_sem,aA]<;>simp
     clear hd hg
     rintro ⟨i,d⟩ ⟨hi,hd⟩
     simp only at hi hd ⊢
     rcases bG i s.ss.length with hit | hig
     · have hg:decide ((i:Int) < (s.ss.length:Int))=true:=by simp; omega
       obtain ⟨t,hx⟩:∃ e,s.ss[i]? = some e:=⟨_,aV hit⟩
       have htm:=bT hx
       obtain ⟨_,htl,hfs⟩:=hs.ok.ss t htm
       have q1:=aN (row:=aJ) hx
       have hset:=hd.set g ha hx
       have hmx:fO (eO s.ss d) t.fs<=1000000000000:=by
        have h1:=BB (l:=t.fs) fun f _=>hd.fd g f.ty
        have h2:=BP g ha (g.nd t htm)
        have h3:=HP g t.nm
        omega
       simp (maxSteps:=9^6) -dsimp only [go_sem,hg,aA]
       refine aT (α:=Nat) (fun k=>[(1,.va (.c1 (.pt 0 0))),(3,.va (.c1 (.sl 1 s.ss.length))),(4,iS .i64 r),(5,iS .i64 i),(6,iS .i64 ((t.fs.take k).foldl (gF (eO s.ss d)) 0)),(7,iS .i64 k)]) (fun _=>[.cells (aA s) 25,.row (d.map dS) 3 1])
        (fun k=>k<=t.fs.length) (fun k=>t.fs.length - k) 0 2 (Nat.zero_le _) ?_ ?_ ?_
       · simp -dsimp only [go_sem]<;>simp
       · simp -dsimp only [go_sem,aA]<;>simp
       intro k hk
       rcases bG k t.fs.length with hkt | hkg
       · have hg:decide ((k:Int) < (t.fs.length:Int))=true:=by simp; omega
         obtain ⟨f,hf⟩:∃ e,t.fs[k]? = some e:=⟨_,aV hkt⟩
         have hfm:=bT hf
         have q2:=aN (row:=bD) hf
         have hity:e8 (aP f.ty):=eP (hfs f hfm).ty
         have hlv:((bO f.ty).1<=1000000000)=True:=eq_true (g.lv t htm f hfm)
         have hin:IG (d.map dS):=⟨d,rfl⟩
         have hdl:d.length=s.ss.length:=hd.len
         have hall:(∀ v:Int,v ∈ d->0<=v/\v<=1000000000000)=True:=eq_true (hd.all g)
         simp (maxSteps:=9^6) -dsimp only [go_sem,hg,↓q1,aJ,aA]
         simp (maxSteps:=9^6) -dsimp only [go_sem,bD,jC,hsf,hsd,hity,hlv,hin,hall,hdl,hf,aF,forall_eq']
         refine ⟨by omega,by omega,by omega,by omega,aB (k + 1) 2 (by omega) (by omega) ?_ ?_⟩
         · simp -dsimp only [go_sem,Q5 hf]<;>simp
         · simp -dsimp only [go_sem,aA]<;>simp
       · have hg:decide ((k:Int) < (t.fs.length:Int))=false:=by simp; omega
         obtain rfl:k=t.fs.length:=by omega
         have hmx2:t.fs.foldl (gF (eO s.ss d)) 0=fO (eO s.ss d) t.fs:=rfl
         rw [List.take_length,hmx2]
         have hn0:=lM (eO s.ss d) t.fs
         have hdl:d.length=s.ss.length:=hd.len
         obtain ⟨v0,hv0⟩:∃ e,d[i]? = some e:=⟨_,aV (by omega)⟩
         simp (maxSteps:=9^6) -dsimp only [go_sem,hg,↓q1,aJ,aA]
         simp (maxSteps:=9^6) -dsimp only [go_sem,hv0,aF,forall_eq']
         refine ⟨by omega,by omega,⟨by omega,hdl⟩,⟨hdl,by omega⟩,by omega,aB (i + 1,d.set i (1 + fO (eO s.ss d) t.fs)) 2 ⟨by simp only; omega,hset⟩ (by simp only; omega) ?_ ?_⟩
         · simp -dsimp only [go_sem]<;>simp
         · simp -dsimp only [go_sem,aA]<;>simp [List.map_set]
     · have hg:decide ((i:Int) < (s.ss.length:Int))=false:=by simp; omega
       obtain rfl:i=s.ss.length:=by omega
       simp (maxSteps:=9^6) -dsimp only [go_sem,hg,aA]
       refine ⟨by omega,aB (r + 1,d) 2 ⟨by simp only; omega,hd.up⟩ (by simp only; omega) ?_ ?_⟩
       · simp -dsimp only [go_sem]<;>simp
       · simp -dsimp only [go_sem,aA]<;>simp
   · have hg:decide ((r:Int)<=(s.ss.length:Int))=false:=by simp; omega
     obtain rfl:r=s.ss.length + 1:=by omega
     have hfin:=hd.fin
     rw [<-hfin] at hK
     simp (maxSteps:=9^6) -dsimp only [go_sem,hg,aA]
     have e1:s.ss.length=(d.map dS).length:=by rw [List.length_map]; exact hd.len.symm
     rw [e1]
     refine .pub 1 _ _ _ rfl (.sel [] (by simp) (by simp [dA]) rfl (.done ?_))
     simp -dsimp only [go_sem,dA]
     simpa using hK
theorem SM:Meets Tryz.prog 9 ckFn.sp:=by
 refine aI Tryz.func9 ok9 1 (by rw [Tryz.ntmps9]; decide) (aL VP (aL Q8 (aL KQ (aD Y5 (aL MF (aD QS (aC _))))))) iE ?_
 rintro av H K ⟨⟨h,rfl⟩,hK⟩
 obtain ⟨_,rfl,s,rfl,hs⟩:=eK h
 have hK:K (iS .i64 (cH s)) []:=by
  have:ckFn.val [.va (.gs (aA s))]=iA .i64 (cH s):=by simp -dsimp only [go_sem]
  rw [this] at hK; exact hK
 clear h
 have hfit:=hs
 have hsc:oH (aA s):=yQ hs.ok
 have hsf:jT (aA s):=g6 hs
 obtain ⟨⟨hv,hle,hls,hes,hss⟩,hlv,_,_⟩:=hs
 have fin:∀ (x:Int) (R:Hp),cH s=x->W.Fin 0 K (iS .i64 x) R:=fun x R h1=>by
  rw [h1] at hK
  exact .z ((by simpa [go_sem] using hK))
 have hsc':=hsc
 have hsf':=hsf
 simp only [aA] at hsc' hsf'
 have hdec:C.sc [.vl (.int .i64 s.ver),.fz (s.es.map aQ),.fz (s.ss.map aJ)]=s:=fX s
 simp (maxSteps:=9^6) -dsimp only [go_sem,aA,pc9,rs9,hsc',hdec]
 refine ⟨fun h1=>fin 4 _ (by unfold cH; rw [h1]; rfl),fun c1=>⟨fun h1=>fin 3 _ (by unfold cH; rw [c1,h1]; rfl),fun c2=>?_⟩⟩
 have hF:cH s=bif qW s != 0 then qW s else bif pJ s != 0 then pJ s else jQ s.ss:=by unfold cH; rw [c1,c2]; rfl
 refine aT (α:=Nat) (fun i=>[(1,.va (.c1 (.pt 0 0))),(3,iS .i64 i)]) (fun _=>[.cells (aA s) 25])
  (fun i=>i<=s.es.length/\fE (f6 s) (s.es.length - i) i=qW s) (fun i=>s.es.length - i) 0 1 ⟨Nat.zero_le _,rfl⟩ ?_ ?_ ?_
 · simp -dsimp only [go_sem]<;>simp
 · simp -dsimp only [go_sem,aA]<;>simp
 rintro i ⟨hi,ho⟩
 rcases bG i s.es.length with hlt | hge
 · have hg:decide ((i:Int) < (s.es.length:Int))=true:=by simp; omega
   have fin':∀ (x:Int) (R:Hp),f6 s i=x->x ≠ 0->W.Fin 0 K (iS .i64 x) R:=fun x R h1 h2=>fin x R (by
    rw [hF,<-ho,kJ hlt (by rw [h1]; exact h2),h1]; exact j3 h2)
   have cP:f6 s i=0->fE (f6 s) (s.es.length - (i + 1)) (i + 1)=qW s:=fun h1=>by rw [<-ho,mD hlt h1]
   simp (maxSteps:=9^6) -dsimp only [go_sem,hg,aA,hsf',hdec,Int.toNat_natCast]
   refine ⟨⟨by omega,by omega⟩,fun h1=>fin' _ _ rfl (by simpa using h1),fun h1=>?_⟩
   refine ⟨by omega,aB (i + 1) 1 ⟨by omega,cP (by simpa using h1)⟩ (by omega) ?_ ?_⟩
   · simp -dsimp only [go_sem]<;>simp
   · simp -dsimp only [go_sem,aA]<;>simp
 · have hg:decide ((i:Int) < (s.es.length:Int))=false:=by simp; omega
   obtain rfl:i=s.es.length:=by omega
   rw [lW] at ho
   rw [lF ho.symm] at hF
   simp (maxSteps:=9^6) -dsimp only [go_sem,hg,aA]
   clear hi hge hg ho
   refine aT (α:=Nat) (fun i=>[(1,.va (.c1 (.pt 0 0))),(5,iS .i64 i)]) (fun _=>[.cells (aA s) 25])
    (fun i=>i<=s.ss.length/\fE (gJ s) (s.ss.length - i) i=pJ s) (fun i=>s.ss.length - i) 0 1 ⟨Nat.zero_le _,rfl⟩ ?_ ?_ ?_
   · simp -dsimp only [go_sem]<;>simp
   · simp -dsimp only [go_sem,aA]<;>simp
   rintro i ⟨hi,ho⟩
   rcases bG i s.ss.length with hlt | hge
   · have hg:decide ((i:Int) < (s.ss.length:Int))=true:=by simp; omega
     have fin':∀ (x:Int) (R:Hp),gJ s i=x->x ≠ 0->W.Fin 0 K (iS .i64 x) R:=fun x R h1 h2=>fin x R (by
      rw [hF,<-ho,kJ hlt (by rw [h1]; exact h2),h1]; exact j3 h2)
     have cP:gJ s i=0->fE (gJ s) (s.ss.length - (i + 1)) (i + 1)=pJ s:=fun h1=>by rw [<-ho,mD hlt h1]
     simp (maxSteps:=9^6) -dsimp only [go_sem,hg,aA,hsf',hdec,Int.toNat_natCast]
     refine ⟨⟨by omega,by omega⟩,fun h1=>fin' _ _ rfl (by simpa using h1),fun h1=>?_⟩
     refine ⟨by omega,aB (i + 1) 1 ⟨by omega,cP (by simpa using h1)⟩ (by omega) ?_ ?_⟩
     · simp -dsimp only [go_sem]<;>simp
     · simp -dsimp only [go_sem,aA]<;>simp
   · have hg:decide ((i:Int) < (s.ss.length:Int))=false:=by simp; omega
     obtain rfl:i=s.ss.length:=by omega
     rw [lW] at ho
     rw [lF ho.symm] at hF
     have g:=yV hfit c2 ho.symm
     simp (maxSteps:=9^6) -dsimp only [go_sem,hg,aA]
     clear hi hge hg ho
     refine aT (α:=Nat) (fun i=>[(1,.va (.c1 (.pt 0 0))),(7,iS .i64 i)]) (fun _=>[.cells (aA s) 25])
      (fun i=>i<=s.ss.length/\(s.ss.drop i).any (fun t=>b5 (cY s.ss t.nm) t.nm)=s.ss.any (fun t=>b5 (cY s.ss t.nm) t.nm)) (fun i=>s.ss.length - i) 0 1 ⟨Nat.zero_le _,rfl⟩ ?_ ?_ ?_
     · simp -dsimp only [go_sem]<;>simp
     · simp -dsimp only [go_sem,aA]<;>simp
     rintro i ⟨hi,ho⟩
     rcases bG i s.ss.length with hlt | hge
     · have hg:decide ((i:Int) < (s.ss.length:Int))=true:=by simp; omega
       obtain ⟨t,hx⟩:∃ t,s.ss[i]? = some t:=⟨_,aV hlt⟩
       have q1:=aN (row:=aJ) hx
       rw [cX hx] at ho
       have hv:=g.vlen t.nm
       have hul:=sH s.ss t.nm
       have hbs:qD ((cY s.ss t.nm).map bI):=mP (by rw [sH]; omega)
       have e0:(0<=((cY s.ss t.nm).length:Int))=True:=by simp
       have e1:(((cY s.ss t.nm).length:Int)<=9223372036854775807)=True:=by rw [hul]; exact eq_true (by omega)
       have hto:(cY s.ss t.nm).take (cY s.ss t.nm).length=cY s.ss t.nm:=List.take_length
       simp (maxSteps:=9^6) -dsimp only [go_sem,hg,↓q1,aJ,aA]
       refine ⟨by omega,WM hfit g ?_⟩
       simp (maxSteps:=9^6) -dsimp only [go_sem,hbs,e0,e1,Int.toNat_natCast,hto]
       refine ⟨by omega,fun hc=>?_,fun hc=>?_⟩
       · rw [hc,Bool.true_or] at ho
         exact fin 19 _ (by rw [hF]; unfold jQ; rw [<-ho]; rfl)
       · rw [hc,Bool.false_or] at ho
         refine ⟨by omega,aB (i + 1) 1 ⟨by omega,ho⟩ (by omega) ?_ ?_⟩
         · simp -dsimp only [go_sem]<;>simp
         · simp -dsimp only [go_sem,aA]<;>simp
     · have hg:decide ((i:Int) < (s.ss.length:Int))=false:=by simp; omega
       obtain rfl:i=s.ss.length:=by omega
       rw [eV] at ho
       have ha:rW s.ss:=fun t ht=>i7 ho.symm t ht
       have hF2:cH s=bif s.ss.any (fun t=>decide (6 < dD s.ss t.nm)) then 9 else 0:=by rw [hF]; unfold jQ; rw [<-ho]; rfl
       simp (maxSteps:=9^6) -dsimp only [go_sem,hg,aA]
       refine X5 hfit g ha ?_
       simp (maxSteps:=9^6) -dsimp only [go_sem]
       clear hi hge hg ho
       refine aT (α:=Nat) (fun i=>[(9,.va (.c1 (.fz ((s.ss.map fun t=>dD s.ss t.nm).map dS)))),(10,iS .i64 i)]) (fun _=>[.cells (aA s) 25])
        (fun i=>i<=s.ss.length/\(s.ss.drop i).any (fun t=>decide (6 < dD s.ss t.nm))=s.ss.any (fun t=>decide (6 < dD s.ss t.nm))) (fun i=>s.ss.length - i) 0 1 ⟨Nat.zero_le _,rfl⟩ ?_ ?_ ?_
       · simp -dsimp only [go_sem]<;>simp
       · simp -dsimp only [go_sem,aA]<;>simp
       rintro i ⟨hi,ho⟩
       rcases bG i s.ss.length with hlt | hge
       · have hg:decide ((i:Int) < (s.ss.length:Int))=true:=by simp; omega
         obtain ⟨t,hx⟩:∃ t,s.ss[i]? = some t:=⟨_,aV hlt⟩
         have hd:(s.ss.map fun t=>dD s.ss t.nm)[i]? = some (dD s.ss t.nm):=by rw [List.getElem?_map,hx]; rfl
         have q1:=aN (row:=dS) hd
         have hml:(s.ss.map fun t=>dD s.ss t.nm).length=s.ss.length:=by simp
         rw [cX hx] at ho
         generalize (s.ss.map fun t=>dD s.ss t.nm)=ds at *
         simp (maxSteps:=9^6) -dsimp only [go_sem,hml,hg,↓q1,aA]
         refine ⟨by omega,fun hc=>?_,fun hc=>?_⟩
         · rw [hc,Bool.true_or] at ho
           exact fin 9 _ (by rw [hF2,<-ho]; rfl)
         · rw [hc,Bool.false_or] at ho
           refine ⟨by omega,aB (i + 1) 1 ⟨by omega,ho⟩ (by omega) ?_ ?_⟩
           · simp -dsimp only [go_sem]<;>simp
           · simp -dsimp only [go_sem,aA]<;>simp
       · have hg:decide ((i:Int) < (s.ss.length:Int))=false:=by simp; omega
         obtain rfl:i=s.ss.length:=by omega
         rw [eV] at ho
         have hml:(s.ss.map fun t=>dD s.ss t.nm).length=s.ss.length:=by simp
         generalize (s.ss.map fun t=>dD s.ss t.nm)=ds at *
         simp (maxSteps:=9^6) -dsimp only [go_sem,hml,hg,aA]
         exact fin 0 _ (by rw [hF2,<-ho]; rfl)
def txA:List UInt8:=[118,101,114,115,105,111,110,32,50,59,32,115,116,114,117,99,116,32,65,32,123,32,49,32,98,58,32,66,59,32,125,32,101,110,117,109,32,66,32,123,32,99,32,61,32,48,32,125]
def txB:List UInt8:=[118,101,114,115,105,111,110,32,49]
def exA:Sc:=⟨2,[⟨mk [66],[mk [99]],[0]⟩],[⟨mk [65],[⟨1,mk [98],.mk 7 0 (mk [66]) [],false⟩]⟩]⟩
def KY:Ty:=.mk 5 4 (mk []) [.mk 4 16 (mk []) []]
theorem V4:v7 txA=(exA,0,0):=by kernel_rfl
theorem aDS:v7 txB=(LU,2,9):=by kernel_rfl
theorem aBO:dG 6 KY=[108,105,115,116,91,52,93,32,111,102,32,116,101,120,116,91,49,54,93]:=by kernel_rfl
theorem aCX:iJ exA=[118,101,114,115,105,111,110,32,50,59,10,101,110,117,109,32,66,32,123,32,99,32,61,32,48,32,125,10,115,116,114,117,99,116,32,65,32,123,10,32,32,49,32,98,58,32,66,59,10,125,10]:=by kernel_rfl
theorem QN:exA.fit:=by
 have h:=V4
 have hP:ScP exA:=⟨⟨by decide,by decide⟩,by decide,by decide,fun e he=>by
  rw [List.mem_singleton.1 he]
  exact ⟨by decide,by decide,by decide,fun n hn=>by rw [List.mem_singleton.1 hn]; decide,fun n hn=>by rw [List.mem_singleton.1 hn]; exact ⟨by decide,by decide⟩⟩,fun t ht=>by
  rw [List.mem_singleton.1 ht]
  exact ⟨by decide,by decide,fun f hf=>by
   rw [List.mem_singleton.1 hf]
   exact ⟨⟨by decide,by decide⟩,by decide,⟨[],_,rfl,⟨by decide,by decide⟩,by decide,rfl,by decide,⟨by decide,by decide⟩,by decide,fun s hs=>by cases hs⟩⟩⟩⟩
 exact hP.fit
theorem W5:TyOk KY:=.mk ⟨by decide,by decide⟩ ⟨by decide,by decide⟩ (by decide) (by decide) fun u hu=>by
 rw [List.mem_singleton.1 hu]
 exact .mk ⟨by decide,by decide⟩ ⟨by decide,by decide⟩ (by decide) (by decide) fun u hu=>by cases hu
theorem EH {x:ByteArray} {r:Sc × Int × Int} {K:S->Hp->Prop} (h:v7 (bl x)=r) (hK:K (.tu [.gs (aA r.1),iA .i64 r.2.1,iA .i64 r.2.2]) []):mI [tS x] [] K:=⟨x,rfl,rfl,by rw [h]; exact hK⟩
noncomputable def PP:dH:=[(12,.s mI),(16,.f txFn),(10,.f fmFn)]
theorem UX:sp PP 12=mI:=rfl
theorem TB:kO PP 16=some txFn:=rfl
theorem VU:kO PP 10=some fmFn:=rfl
attribute [local go_sem] UX TB VU
theorem Q1:Meets Tryz.prog 11 qTrue.sp:=by
 refine aI (Γ:=PP) Tryz.func11 aD2 0 (by rw [Tryz.ntmps11]; decide) (aD LL (aL K6 (aL GV (aC _)))) KV ?_
 rintro av H K ⟨⟨h,rfl⟩,hK⟩
 obtain rfl:av=[]:=h
 have hK:K (bS true) []:=hK
 have fin:∀ R:Hp,W.Fin 0 K (bS true) R:=fun R=>.z ((by simpa [go_sem] using hK))
 clear hK
 simp (maxSteps:=9^6) -dsimp only [go_sem,V1,S9]
 refine EH V4 ?_
 simp (maxSteps:=9^6) -dsimp only [go_sem,exA,aA,List.map_cons,List.map_nil]
 refine bL rfl (.done ?_)
 simp (maxSteps:=9^6) -dsimp only [go_sem,B5]
 refine EH aDS ?_
 simp (maxSteps:=9^6) -dsimp only [go_sem,LU,aA,List.map_cons,List.map_nil]
 have g1:((0:Int) != 0)=false:=rfl
 have g2:((2:Int) != 2)=false:=rfl
 have g3:((9:Int) != 9)=false:=rfl
 have g4:((1:Int) != 1)=false:=rfl
 refine dW (up:=[(1,.va (.c1 (.pt 0 0))),(2,iS .i64 0),(5,iS .i64 2),(6,iS .i64 9)]) (Hs:=[.cells [.vl (.int .i64 2),.fz [[.vl (.string (mk [66])),.fz [bI (mk [99])],.fz [dS 0]]],.fz [[.vl (.string (mk [65])),.fz [[.vl (.int .i64 1),.vl (.string (mk [98])),.vl (.int .i64 7),.vl (.int .i64 0),.vl (.string (mk [66])),.fz [],.vl (.bool false)]]]]] 25]) 1 ?_ ?_ ?_
 · simp (maxSteps:=9^6) -dsimp only [go_sem,EN,g1,g2,g3,g4,List.length_cons,List.length_nil,Nat.zero_add,Int.ofNat_one,forall_eq']
   refine ⟨by decide,?_⟩
   refine dW (up:=[(1,.va (.c1 (.pt 0 0)))]) (Hs:=[.cells [.vl (.int .i64 2),.fz [[.vl (.string (mk [66])),.fz [bI (mk [99])],.fz [dS 0]]],.fz [[.vl (.string (mk [65])),.fz [[.vl (.int .i64 1),.vl (.string (mk [98])),.vl (.int .i64 7),.vl (.int .i64 0),.vl (.string (mk [66])),.fz [],.vl (.bool false)]]]]] 25]) 1 ?_ ?_ ?_
   · simp (maxSteps:=9^6) -dsimp only [go_sem,D8]
     refine bL rfl (.opn 1 _ _ _ rfl (.nfr 1 _ _ _ rfl (.shu 1 _ _ _ rfl ?_ (.pub 1 _ _ _ rfl (.done ?_)))))
     · simp [C.nf,C.shut]
     have k1:e8 [.vl (.int .i64 5),.vl (.int .i64 4),.vl (.string (mk [])),.fz [[.vl (.int .i64 4),.vl (.int .i64 16),.vl (.string (mk [])),.fz []]]]:=eP (t:=KY) W5
     have k2:C.ty [.vl (.int .i64 5),.vl (.int .i64 4),.vl (.string (mk [])),.fz [[.vl (.int .i64 4),.vl (.int .i64 16),.vl (.string (mk [])),.fz []]]]=KY:=iC KY
     have k3:jT [.vl (.int .i64 2),.fz [[.vl (.string (mk [66])),.fz [bI (mk [99])],.fz [dS 0]]],.fz [[.vl (.string (mk [65])),.fz [[.vl (.int .i64 1),.vl (.string (mk [98])),.vl (.int .i64 7),.vl (.int .i64 0),.vl (.string (mk [66])),.fz [],.vl (.bool false)]]]]]:=g6 (s:=exA) QN
     have k4:C.sc [.vl (.int .i64 2),.fz [[.vl (.string (mk [66])),.fz [bI (mk [99])],.fz [dS 0]]],.fz [[.vl (.string (mk [65])),.fz [[.vl (.int .i64 1),.vl (.string (mk [98])),.vl (.int .i64 7),.vl (.int .i64 0),.vl (.string (mk [66])),.fz [],.vl (.bool false)]]]]]=exA:=fX exA
     have e7:((7:Int) == 7)=true:=rfl
     simp (maxSteps:=9^6) -dsimp only [go_sem,dA,C.nf,C.pub,EJ,forall_eq',k1,k2,k3,k4,e7,aBO,aCX,Bool.true_and,beq_self_eq_true]
     exact ⟨by decide,by decide,fin _⟩
   · simp -dsimp only [go_sem]<;>simp
   · simp -dsimp only [go_sem]<;>simp
 · simp -dsimp only [go_sem]<;>simp
 · simp -dsimp only [go_sem]<;>simp [aQ,aJ,bD]
   exact ⟨rfl,rfl,rfl,rfl⟩
end Go.Proofs.YtgogpogophflhaaGreatDoor
